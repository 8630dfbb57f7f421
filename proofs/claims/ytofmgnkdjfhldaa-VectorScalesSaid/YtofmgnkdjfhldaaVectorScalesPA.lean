/- VectorScales: a part: summaries of functions that the statement reaches, printed by program, checked by the kernel. -/
import Derived.ProofKit
import Derived.OpenShut
import Derived.KernelRfl
import Derived.SizedLaws
import Derived.Test.YtofmgnkdjfhldaaProg
import Derived.Test.YtofmgnkdjfhldaaSm3
namespace Go.Proofs.Ytofmgnkdjfhldaa
open Go.ChangeShapes Go.WideShapes Go.ChangeAt Go.RowKit
set_option linter.unusedVariables false
set_option linter.unusedSimpArgs false
set_option maxRecDepth 100000

noncomputable def gam0 : Sx.Known := Sx.kc 61 Sx.toBits (Sx.kc 47 Sx.ofBits (Sx.kn))
theorem gam0_ok : Sx.KnownOk Try.prog gam0 := Sx.kc_ok ((Sx.toBits_is Try.prog).callIs Try.func61 (by kernel_rfl) (by kernel_rfl) (by kernel_rfl) (by kernel_rfl)) (Sx.kc_ok ((Sx.ofBits_is Try.prog).callIs Try.func47 (by kernel_rfl) (by kernel_rfl) (by kernel_rfl) (by kernel_rfl)) (Sx.kn_ok))
theorem gam0_tch : Sx.KnownT gam0 := Sx.kc_tch Sx.Tch.toBits (Sx.kc_tch Sx.Tch.ofBits (Sx.kn_tch))
noncomputable def call0 : Sx.Calls' := Sx.runN Try.prog gam0 (Sx.regionC Try.prog) 1000 50
theorem call0_ok : Sx.CallOk Try.prog call0 := Sx.engineC gam0_ok gam0_tch (by kernel_rfl) (by kernel_rfl) 1000 50
theorem call0_tch : Sx.CallT call0 := Sx.runA_tch gam0_tch (fun _ _ _ h => by cases h) (fun call hc n l fr => Sx.regionC_tch hc n l fr) 50
theorem call0_reg (n : Nat) : Sx.RegionOk Try.prog (Sx.regionC Try.prog call0 n) n := Sx.runN_regionC gam0_ok gam0_tch (by kernel_rfl) (by kernel_rfl) 1000 50 n
noncomputable abbrev piececall0 (f : Func) (c : Code) (fr : Sx.Fr) (H : Sx.T Sx.ABk) (K : Nat) (path : List Bool) : Sx.Res (Sx.Ex × Sx.Fr) :=
 Sx.codeA Try.prog call0 (Sx.regionC Try.prog call0 f.ntmps) Sx.noLoops f.ntmps 1000 c fr ⟨H, K, [], path, True⟩

/-- the error of two vectors -/
def vmay (n m : Nat) : Int := bif decide ((65536 : Int) < (n : Int)) then 3 else bif decide ((65536 : Int) < (m : Int)) then 3 else bif decide ((n : Int) = (m : Int)) then 0 else 4
theorem low_c {s : Bool} {p q : Nat} {u : Sx.AV} (hu : u ∈ [Sx.AV.cpx s p q]) : u.low 0 = true := by simp at hu; subst hu; rfl
theorem myW_r0 (n m : Nat) (a b x y : Nat → Nat) (c0 : decide ((65536 : Int) < (↑n : Int)) = true) : Sx.PieceN 2 (Sx.Ex.ret) [(4, .int false .i64 3)] [] (piececall0 Try.f56 ((Sx.bodyOf Try.f56)) (Sx.frameOf [Sx.slcV 0 n, Sx.slcV 1 m] 0 .e) (Sx.hpL [(0, .cells false 1 (n) (.fn fun j => [.cpx true (a j) (b j)])), (1, .cells false 1 (m) (.fn fun j => [.cpx true (x j) (y j)]))]) 2 [true]) := Sx.eqn (q := (True ∧ (decide ((65536 : Int) < (↑n : Int)) = true))) (by kernel_rfl) ⟨trivial, c0⟩
theorem myW_r1 (n m : Nat) (a b x y : Nat → Nat) (c0 : decide ((65536 : Int) < (↑n : Int)) = false) (c1 : decide ((65536 : Int) < (↑m : Int)) = true) : Sx.PieceN 2 (Sx.Ex.ret) [(4, .int false .i64 3)] [] (piececall0 Try.f56 ((Sx.bodyOf Try.f56)) (Sx.frameOf [Sx.slcV 0 n, Sx.slcV 1 m] 0 .e) (Sx.hpL [(0, .cells false 1 (n) (.fn fun j => [.cpx true (a j) (b j)])), (1, .cells false 1 (m) (.fn fun j => [.cpx true (x j) (y j)]))]) 2 [false, true]) := Sx.eqn (q := ((True ∧ (decide ((65536 : Int) < (↑n : Int)) = false)) ∧ (decide ((65536 : Int) < (↑m : Int)) = true))) (by kernel_rfl) ⟨⟨trivial, c0⟩, c1⟩
theorem myW_r2 (n m : Nat) (a b x y : Nat → Nat) (c0 : decide ((65536 : Int) < (↑n : Int)) = false) (c1 : decide ((65536 : Int) < (↑m : Int)) = false) (c2 : (!decide ((↑n : Int) = (↑m : Int))) = false) : Sx.PieceN 2 (Sx.Ex.ret) [(4, .int false .i64 0)] [] (piececall0 Try.f56 ((Sx.bodyOf Try.f56)) (Sx.frameOf [Sx.slcV 0 n, Sx.slcV 1 m] 0 .e) (Sx.hpL [(0, .cells false 1 (n) (.fn fun j => [.cpx true (a j) (b j)])), (1, .cells false 1 (m) (.fn fun j => [.cpx true (x j) (y j)]))]) 2 [false, false, false]) := Sx.eqn (q := (((True ∧ (decide ((65536 : Int) < (↑n : Int)) = false)) ∧ (decide ((65536 : Int) < (↑m : Int)) = false)) ∧ ((!decide ((↑n : Int) = (↑m : Int))) = false))) (by kernel_rfl) ⟨⟨⟨trivial, c0⟩, c1⟩, c2⟩
theorem myW_r3 (n m : Nat) (a b x y : Nat → Nat) (c0 : decide ((65536 : Int) < (↑n : Int)) = false) (c1 : decide ((65536 : Int) < (↑m : Int)) = false) (c2 : (!decide ((↑n : Int) = (↑m : Int))) = true) : Sx.PieceN 2 (Sx.Ex.ret) [(4, .int false .i64 4)] [] (piececall0 Try.f56 ((Sx.bodyOf Try.f56)) (Sx.frameOf [Sx.slcV 0 n, Sx.slcV 1 m] 0 .e) (Sx.hpL [(0, .cells false 1 (n) (.fn fun j => [.cpx true (a j) (b j)])), (1, .cells false 1 (m) (.fn fun j => [.cpx true (x j) (y j)]))]) 2 [false, false, true]) := Sx.eqn (q := (((True ∧ (decide ((65536 : Int) < (↑n : Int)) = false)) ∧ (decide ((65536 : Int) < (↑m : Int)) = false)) ∧ ((!decide ((↑n : Int) = (↑m : Int))) = true))) (by kernel_rfl) ⟨⟨⟨trivial, c0⟩, c1⟩, c2⟩
theorem myW (B : Nat) (hB : B ≤ 2) (n m : Nat) (a b x y : Nat → Nat) : Sx.GoesB Try.prog ((Sx.bodyOf Try.f56)) Try.f56.ntmps B 2 2 (Sx.frameOf [Sx.slcV 0 n, Sx.slcV 1 m] 0 .e) (Sx.hpL [(0, .cells false 1 (n) (.fn fun j => [.cpx true (a j) (b j)])), (1, .cells false 1 (m) (.fn fun j => [.cpx true (x j) (y j)]))]) fun e fr' H' => (cond (decide ((65536 : Int) < (↑n : Int))) (e = .ret ∧ fr' = Sx.frL [(4, .int false .i64 3)] ∧ H' = Sx.hpL []) (cond (decide ((65536 : Int) < (↑m : Int))) (e = .ret ∧ fr' = Sx.frL [(4, .int false .i64 3)] ∧ H' = Sx.hpL []) (cond (decide ((↑n : Int) = (↑m : Int))) (e = .ret ∧ fr' = Sx.frL [(4, .int false .i64 0)] ∧ H' = Sx.hpL []) (e = .ret ∧ fr' = Sx.frL [(4, .int false .i64 4)] ∧ H' = Sx.hpL [])))) := by
 cases t0 : decide ((65536 : Int) < (↑n : Int)) with
 | true =>
  exact (Sx.GoesB.runN call0_ok (call0_reg _) (Sx.LoopsIn.none _ _ _) (myW_r0 n m a b x y t0) hB).mono fun e fr' H' h => by first | (simp only [t0, cond_true, cond_false]; exact h) | (simp only [t0, cond_true, cond_false] at h ⊢; exact h)
 | false =>
  cases t1 : decide ((65536 : Int) < (↑m : Int)) with
  | true =>
   exact (Sx.GoesB.runN call0_ok (call0_reg _) (Sx.LoopsIn.none _ _ _) (myW_r1 n m a b x y t0 t1) hB).mono fun e fr' H' h => by first | (simp only [t0, t1, cond_true, cond_false]; exact h) | (simp only [t0, t1, cond_true, cond_false] at h ⊢; exact h)
  | false =>
   cases t2 : decide ((↑n : Int) = (↑m : Int)) with
   | true =>
    exact (Sx.GoesB.runN call0_ok (call0_reg _) (Sx.LoopsIn.none _ _ _) (myW_r2 n m a b x y t0 t1 (by rw [t2]; rfl)) hB).mono fun e fr' H' h => by first | (simp only [t0, t1, t2, cond_true, cond_false]; exact h) | (simp only [t0, t1, t2, cond_true, cond_false] at h ⊢; exact h)
   | false =>
    exact (Sx.GoesB.runN call0_ok (call0_reg _) (Sx.LoopsIn.none _ _ _) (myW_r3 n m a b x y t0 t1 (by rw [t2]; rfl)) hB).mono fun e fr' H' h => by first | (simp only [t0, t1, t2, cond_true, cond_false]; exact h) | (simp only [t0, t1, t2, cond_true, cond_false] at h ⊢; exact h)
theorem my_goes (n m : Nat) (a b x y : Nat → Nat) :
  Sx.GoesB Try.prog (Sx.bodyOf Try.f56) Try.f56.ntmps 2 2 2 (Sx.frameOf [Sx.slcV 0 n, Sx.slcV 1 m] 0 .e) (Sx.hpL [(0, .cells false 1 (n) (.fn fun j => [.cpx true (a j) (b j)])), (1, .cells false 1 (m) (.fn fun j => [.cpx true (x j) (y j)]))]) fun e fr' H' => (e = .ret ∨ e = .normal) ∧ ∃ u, fr'.get 4 = some u ∧ Sx.AV.ge u (.int true .i64 (vmay n m)) := by
 refine (myW 2 (by omega) n m a b x y).mono fun e fr' H' h => ?_
 unfold vmay
 refine Sx.cond_elim h (fun t1 h => ?_) (fun t1 h => ?_)
 ·obtain ⟨rfl, rfl, rfl⟩ := h
  exact ⟨.inl rfl, _, rfl, by rw [t1]; exact Sx.AV.ge.int _ _ _ _⟩
 refine Sx.cond_elim h (fun t2 h => ?_) (fun t2 h => ?_)
 ·obtain ⟨rfl, rfl, rfl⟩ := h
  exact ⟨.inl rfl, _, rfl, by rw [t1, t2]; exact Sx.AV.ge.int _ _ _ _⟩
 refine Sx.cond_elim h (fun t3 h => ?_) (fun t3 h => ?_)
 ·obtain ⟨rfl, rfl, rfl⟩ := h
  exact ⟨.inl rfl, _, rfl, by rw [t1, t2, t3]; exact Sx.AV.ge.int _ _ _ _⟩
 ·obtain ⟨rfl, rfl, rfl⟩ := h
  exact ⟨.inl rfl, _, rfl, by rw [t1, t2, t3]; exact Sx.AV.ge.int _ _ _ _⟩
noncomputable def myS : List Sx.AV → Sx.M Sx.AV
 | [x, y] => Sx.c2 x y fun n a b m a' b' => Sx.M.ret (.int true .i64 (vmay n m))
 | _ => Sx.M.no
theorem myS_ok : ∀ args v g g', myS args g = .done v g' → Sx.CallIs Try.prog 56 args v g g' := by
 intro args v g g' h
 unfold myS at h
 split at h
 ·exact Sx.c2_plain Try.func56 (by kernel_rfl) (by kernel_rfl) (pl := []) (pr := []) (fun u hu => by simp at hu) (K' := 2) (res := fun n a b m a' b' => .int true .i64 (vmay n m)) (fun n a b m a' b' => ⟨fun N => by simp [Sx.AV.low, Sx.lows], fun S => by simp [Sx.AV.inS, Sx.insS], fun σ => rfl⟩) (fun n a b m a' b' hn hm hw hw' => (my_goes n m a b a' b').mono fun e fr' H' hp => by obtain ⟨e1, u, e2, e3⟩ := hp; exact ⟨e1, _, _, Sx.res1 (t := 4) (by kernel_rfl) e2, trivial, e3, Sx.news0⟩) _ _ _ _ _ h
 ·exact (Sx.no_done h).elim
theorem myS_tch : ∀ args, Sx.Tch (myS args) := by
 intro args
 unfold myS
 split
 ·exact Sx.Tch.c2 _ _ fun _ _ _ _ _ _ => Sx.Tch.ret _
 ·exact Sx.Tch.no
noncomputable def gamV : Sx.Known := Sx.kc 61 Sx.toBits (Sx.kc 47 Sx.ofBits (Sx.kc 56 myS (Sx.kn)))
theorem gamV_ok : Sx.KnownOk Try.prog gamV := Sx.kc_ok ((Sx.toBits_is Try.prog).callIs Try.func61 (by kernel_rfl) (by kernel_rfl) (by kernel_rfl) (by kernel_rfl)) (Sx.kc_ok ((Sx.ofBits_is Try.prog).callIs Try.func47 (by kernel_rfl) (by kernel_rfl) (by kernel_rfl) (by kernel_rfl)) (Sx.kc_ok myS_ok (Sx.kn_ok)))
theorem gamV_tch : Sx.KnownT gamV := Sx.kc_tch Sx.Tch.toBits (Sx.kc_tch Sx.Tch.ofBits (Sx.kc_tch myS_tch (Sx.kn_tch)))
noncomputable def callV : Sx.Calls' := Sx.runN Try.prog gamV (Sx.regionC Try.prog) 1000 50
theorem callV_ok : Sx.CallOk Try.prog callV := Sx.engineC gamV_ok gamV_tch (by kernel_rfl) (by kernel_rfl) 1000 50
theorem callV_reg (n : Nat) : Sx.RegionOk Try.prog (Sx.regionC Try.prog callV n) n := Sx.runN_regionC gamV_ok gamV_tch (by kernel_rfl) (by kernel_rfl) 1000 50 n
noncomputable abbrev piececallV (f : Func) (c : Code) (fr : Sx.Fr) (H : Sx.T Sx.ABk) (K : Nat) (path : List Bool) : Sx.Res (Sx.Ex × Sx.Fr) :=
 Sx.codeA Try.prog callV (Sx.regionC Try.prog callV f.ntmps) Sx.noLoops f.ntmps 1000 c fr ⟨H, K, [], path, True⟩

theorem crow_of {x y : Nat} (h1 : Sx.Fw x) (h2 : Sx.Fw y) : Sx.CRow [.cpx true x y] := ⟨⟨true, rfl⟩, h1, h2⟩
theorem cw_row {n : Nat} {a b : Nat → Nat} (h : Sx.CW n a b) : ∀ j, j < n → Sx.CRow [.cpx true (a j) (b j)] := fun j hj => crow_of (h j hj).1 (h j hj).2
theorem vmay_eq {n m : Nat} (h : vmay n m = 0) : n = m ∧ n ≤ 65536 := by
 unfold vmay at h
 cases t1 : decide ((65536 : Int) < (n : Int)) with
 | true => rw [t1] at h; exact absurd (show (3 : Int) = 0 from h) (by decide)
 | false =>
  cases t2 : decide ((65536 : Int) < (m : Int)) with
  | true => rw [t1, t2] at h; exact absurd (show (3 : Int) = 0 from h) (by decide)
  | false =>
   cases t3 : decide ((n : Int) = (m : Int)) with
   | false => rw [t1, t2, t3] at h; exact absurd (show (4 : Int) = 0 from h) (by decide)
   | true =>
    have := of_decide_eq_true t3
    have := of_decide_eq_false t1
    omega
theorem scA_r0 (n s w : Nat) (a b : Nat → Nat) : Sx.PieceN 1 (Sx.Ex.normal) [(0, .cpx true s w), (1, .slc true false ⟨false, 0, 0, 0⟩ n)] [(0, .cells false 1 n (.fn fun j => [Sx.AV.cpx true (a j) (b j)]))] (piececallV Try.f13 (Sx.nav [0] (Sx.bodyOf Try.f13)) (Sx.frameOf [.cpx true s w, Sx.slcV 0 n] 0 .e) (Sx.hpL [(0, .cells false 1 (n) (.fn fun j => [.cpx true (a j) (b j)]))]) 1 []) := Sx.eqn (q := True) (by kernel_rfl) trivial
theorem scA (B : Nat) (hB : B ≤ 1) (n s w : Nat) (a b : Nat → Nat) : Sx.GoesB Try.prog (Sx.nav [0] (Sx.bodyOf Try.f13)) Try.f13.ntmps B 1 1 (Sx.frameOf [.cpx true s w, Sx.slcV 0 n] 0 .e) (Sx.hpL [(0, .cells false 1 (n) (.fn fun j => [.cpx true (a j) (b j)]))]) fun e fr' H' => (e = .normal ∧ fr' = Sx.frL [(0, .cpx true s w), (1, .slc true false ⟨false, 0, 0, 0⟩ n)] ∧ H' = Sx.hpL [(0, .cells false 1 n (.fn fun j => [Sx.AV.cpx true (a j) (b j)]))]) := by
 exact (Sx.GoesB.runN callV_ok (callV_reg _) (Sx.LoopsIn.none _ _ _) (scA_r0 n s w a b) hB).mono fun e fr' H' h => h
theorem scC_r0 (n s w : Nat) (a b : Nat → Nat) (c0 : (0 : Int) ≤ (↑n : Int)) (c1 : (↑n : Int) ≤ (↑n : Int)) (c2 : (16 : Int) * (↑n : Int) ≤ (140737488355328 : Int)) (c3 : (↑n : Int) ≤ (9223372036854775807 : Int)) : Sx.PieceN 2 (Sx.Ex.normal) [(0, .cpx true s w), (1, .slc true false ⟨false, 0, 0, 0⟩ n), (5, .slc true true ⟨false, 1, 0, 0⟩ n)] [(0, .cells false 1 n (.fn fun j => [Sx.AV.cpx true (a j) (b j)])), (1, .cells true 1 n (.fn fun x => [Sx.AV.cpx false (0 : Nat) (0 : Nat)]))] (piececallV Try.f13 (Sx.nav [1,0] (Sx.bodyOf Try.f13)) (Sx.frL [(0, .cpx true s w), (1, Sx.slcV 0 n)]) (Sx.hpL [(0, .cells false 1 (n) (.fn fun j => [.cpx true (a j) (b j)]))]) 1 []) := Sx.eqn (q := (True ∧ (((0 : Int) ≤ (↑n : Int)) ∧ (((↑n : Int) ≤ (↑n : Int)) ∧ (((16 : Int) * (↑n : Int) ≤ (140737488355328 : Int)) ∧ ((↑n : Int) ≤ (9223372036854775807 : Int))))))) (by kernel_rfl) ⟨trivial, ⟨c0, ⟨c1, ⟨c2, c3⟩⟩⟩⟩
theorem scC (B : Nat) (hB : B ≤ 1) (n s w : Nat) (a b : Nat → Nat) (x0 : ((16 : Int) * (↑n : Int) ≤ (140737488355328 : Int))) (x1 : ((↑n : Int) ≤ (9223372036854775807 : Int))) : Sx.GoesB Try.prog (Sx.nav [1,0] (Sx.bodyOf Try.f13)) Try.f13.ntmps B 1 2 (Sx.frL [(0, .cpx true s w), (1, Sx.slcV 0 n)]) (Sx.hpL [(0, .cells false 1 (n) (.fn fun j => [.cpx true (a j) (b j)]))]) fun e fr' H' => (e = .normal ∧ fr' = Sx.frL [(0, .cpx true s w), (1, .slc true false ⟨false, 0, 0, 0⟩ n), (5, .slc true true ⟨false, 1, 0, 0⟩ n)] ∧ H' = Sx.hpL [(0, .cells false 1 n (.fn fun j => [Sx.AV.cpx true (a j) (b j)])), (1, .cells true 1 n (.fn fun x => [Sx.AV.cpx false (0 : Nat) (0 : Nat)]))]) := by
 exact (Sx.GoesB.runN callV_ok (callV_reg _) (Sx.LoopsIn.none _ _ _) (scC_r0 n s w a b (by first | decide | omega) (by first | decide | omega) (x0) (x1)) hB).mono fun e fr' H' h => h
theorem scD_r0 (n i s w : Nat) (a b : Nat → Nat) (q : Nat → List Sx.AV) : Sx.PieceN 2 (Sx.Ex.normal) [(0, .cpx true s w), (5, .slc true true ⟨false, 1, 0, 0⟩ n), (11, .slc true false ⟨false, 0, 0, 0⟩ n), (12, .int true .i64 (↑n : Int)), (13, .int false .i64 0)] [(0, .cells false 1 n (.fn fun j => [Sx.AV.cpx true (a j) (b j)])), (1, .cells true 1 n (Sx.Cont.fn q))] (piececallV Try.f13 (Sx.nav [1,1,0,0] (Sx.bodyOf Try.f13)) (Sx.frL [(0, .cpx true s w), (1, Sx.slcV 0 n), (5, .slc true true ⟨false, 1, 0, 0⟩ (n))]) (Sx.hpL [(0, .cells false 1 (n) (.fn fun j => [.cpx true (a j) (b j)])), (1, .cells true 1 (n) (.fn q))]) 2 []) := Sx.eqn (q := True) (by kernel_rfl) trivial
theorem scD (B : Nat) (hB : B ≤ 2) (n i s w : Nat) (a b : Nat → Nat) (q : Nat → List Sx.AV) : Sx.GoesB Try.prog (Sx.nav [1,1,0,0] (Sx.bodyOf Try.f13)) Try.f13.ntmps B 2 2 (Sx.frL [(0, .cpx true s w), (1, Sx.slcV 0 n), (5, .slc true true ⟨false, 1, 0, 0⟩ (n))]) (Sx.hpL [(0, .cells false 1 (n) (.fn fun j => [.cpx true (a j) (b j)])), (1, .cells true 1 (n) (.fn q))]) fun e fr' H' => (e = .normal ∧ fr' = Sx.frL [(0, .cpx true s w), (5, .slc true true ⟨false, 1, 0, 0⟩ n), (11, .slc true false ⟨false, 0, 0, 0⟩ n), (12, .int true .i64 (↑n : Int)), (13, .int false .i64 0)] ∧ H' = Sx.hpL [(0, .cells false 1 n (.fn fun j => [Sx.AV.cpx true (a j) (b j)])), (1, .cells true 1 n (Sx.Cont.fn q))]) := by
 exact (Sx.GoesB.runN callV_ok (callV_reg _) (Sx.LoopsIn.none _ _ _) (scD_r0 n i s w a b q) hB).mono fun e fr' H' h => h
theorem scL_r0 (n i s w : Nat) (a b : Nat → Nat) (q : Nat → List Sx.AV) (c0 : decide ((↑i : Int) < (↑n : Int)) = true) (c1 : (0 : Int) ≤ (↑i : Int)) (c2 : (↑i : Int) < (↑n : Int)) (c3 : (0 : Nat) + i < n) (c4 : (0 : Nat) + i < n) (c5 : (1 : Nat) ≤ (1 : Nat)) (c6 : (-9223372036854775808 : Int) ≤ (↑i : Int) + (1 : Int)) (c7 : (↑i : Int) + (1 : Int) ≤ (9223372036854775807 : Int)) : Sx.PieceN 2 (Sx.Ex.normal) [(0, .cpx true s w), (5, .slc true true ⟨false, 1, 0, 0⟩ n), (11, .slc true false ⟨false, 0, 0, 0⟩ n), (12, .int true .i64 (↑n : Int)), (13, .int true .i64 ((↑i : Int) + (1 : Int)))] [(0, .cells false 1 n (.fn fun j => [Sx.AV.cpx true (a j) (b j)])), (1, .cells true 1 n (.fn fun j => bif Nat.beq j ((0 : Nat) + i) then [Sx.AV.cpx true (Sx.fsub (Sx.fmul s (a ((0 : Nat) + i))) (Sx.fmul w (b ((0 : Nat) + i)))) (Sx.fadd (Sx.fmul s (b ((0 : Nat) + i))) (Sx.fmul w (a ((0 : Nat) + i))))] else q j))] (piececallV Try.f13 (Sx.nav [1,1,0,1,0,0] (Sx.bodyOf Try.f13)) (Sx.frL [(0, .cpx true s w), (5, .slc true true ⟨false, 1, 0, 0⟩ (n)), (11, Sx.slcV 0 n), (12, .int true .i64 n), (13, .int true .i64 i)]) (Sx.hpL [(0, .cells false 1 (n) (.fn fun j => [.cpx true (a j) (b j)])), (1, .cells true 1 (n) (.fn q))]) 2 [true]) := Sx.eqn (q := (((((((True ∧ (decide ((↑i : Int) < (↑n : Int)) = true)) ∧ (((0 : Int) ≤ (↑i : Int)) ∧ ((↑i : Int) < (↑n : Int)))) ∧ ((0 : Nat) + i < n)) ∧ (((0 : Int) ≤ (↑i : Int)) ∧ ((↑i : Int) < (↑n : Int)))) ∧ ((0 : Nat) + i < n)) ∧ ((1 : Nat) ≤ (1 : Nat))) ∧ (((-9223372036854775808 : Int) ≤ (↑i : Int) + (1 : Int)) ∧ ((↑i : Int) + (1 : Int) ≤ (9223372036854775807 : Int))))) (by kernel_rfl) ⟨⟨⟨⟨⟨⟨⟨trivial, c0⟩, ⟨c1, c2⟩⟩, c3⟩, ⟨c1, c2⟩⟩, c4⟩, c5⟩, ⟨c6, c7⟩⟩
theorem scL_r1 (n i s w : Nat) (a b : Nat → Nat) (q : Nat → List Sx.AV) (c0 : decide ((↑i : Int) < (↑n : Int)) = false) : Sx.PieceN 2 (Sx.Ex.exit (0 : Nat)) [(0, .cpx true s w), (5, .slc true true ⟨false, 1, 0, 0⟩ n), (11, .slc true false ⟨false, 0, 0, 0⟩ n), (12, .int true .i64 (↑n : Int)), (13, .int true .i64 (↑i : Int))] [(0, .cells false 1 n (.fn fun j => [Sx.AV.cpx true (a j) (b j)])), (1, .cells true 1 n (Sx.Cont.fn q))] (piececallV Try.f13 (Sx.nav [1,1,0,1,0,0] (Sx.bodyOf Try.f13)) (Sx.frL [(0, .cpx true s w), (5, .slc true true ⟨false, 1, 0, 0⟩ (n)), (11, Sx.slcV 0 n), (12, .int true .i64 n), (13, .int true .i64 i)]) (Sx.hpL [(0, .cells false 1 (n) (.fn fun j => [.cpx true (a j) (b j)])), (1, .cells true 1 (n) (.fn q))]) 2 [false]) := Sx.eqn (q := (True ∧ (decide ((↑i : Int) < (↑n : Int)) = false))) (by kernel_rfl) ⟨trivial, c0⟩
theorem scL (B : Nat) (hB : B ≤ 2) (n i s w : Nat) (a b : Nat → Nat) (q : Nat → List Sx.AV) (x0 : ((decide ((↑i : Int) < (↑n : Int))) = true → ((↑i : Int) + (1 : Int) ≤ (9223372036854775807 : Int)))) : Sx.GoesB Try.prog (Sx.nav [1,1,0,1,0,0] (Sx.bodyOf Try.f13)) Try.f13.ntmps B 2 2 (Sx.frL [(0, .cpx true s w), (5, .slc true true ⟨false, 1, 0, 0⟩ (n)), (11, Sx.slcV 0 n), (12, .int true .i64 n), (13, .int true .i64 i)]) (Sx.hpL [(0, .cells false 1 (n) (.fn fun j => [.cpx true (a j) (b j)])), (1, .cells true 1 (n) (.fn q))]) fun e fr' H' => (cond (decide ((↑i : Int) < (↑n : Int))) (e = .normal ∧ fr' = Sx.frL [(0, .cpx true s w), (5, .slc true true ⟨false, 1, 0, 0⟩ n), (11, .slc true false ⟨false, 0, 0, 0⟩ n), (12, .int true .i64 (↑n : Int)), (13, .int true .i64 ((↑i : Int) + (1 : Int)))] ∧ H' = Sx.hpL [(0, .cells false 1 n (.fn fun j => [Sx.AV.cpx true (a j) (b j)])), (1, .cells true 1 n (.fn fun j => bif Nat.beq j ((0 : Nat) + i) then [Sx.AV.cpx true (Sx.fsub (Sx.fmul s (a ((0 : Nat) + i))) (Sx.fmul w (b ((0 : Nat) + i)))) (Sx.fadd (Sx.fmul s (b ((0 : Nat) + i))) (Sx.fmul w (a ((0 : Nat) + i))))] else q j))]) (e = .exit 0 ∧ fr' = Sx.frL [(0, .cpx true s w), (5, .slc true true ⟨false, 1, 0, 0⟩ n), (11, .slc true false ⟨false, 0, 0, 0⟩ n), (12, .int true .i64 (↑n : Int)), (13, .int true .i64 (↑i : Int))] ∧ H' = Sx.hpL [(0, .cells false 1 n (.fn fun j => [Sx.AV.cpx true (a j) (b j)])), (1, .cells true 1 n (Sx.Cont.fn q))])) := by
 cases t0 : decide ((↑i : Int) < (↑n : Int)) with
 | true =>
  exact (Sx.GoesB.runN callV_ok (callV_reg _) (Sx.LoopsIn.none _ _ _) (scL_r0 n i s w a b q t0 (by first | decide | ((try simp only [decide_eq_true_eq, decide_eq_false_iff_not] at t0); (try simp only [List.length_take, List.length_drop]); omega)) (by first | decide | ((try simp only [decide_eq_true_eq, decide_eq_false_iff_not] at t0); (try simp only [List.length_take, List.length_drop]); omega)) (by first | decide | ((try simp only [decide_eq_true_eq, decide_eq_false_iff_not] at t0); (try simp only [List.length_take, List.length_drop]); omega)) (by first | decide | ((try simp only [decide_eq_true_eq, decide_eq_false_iff_not] at t0); (try simp only [List.length_take, List.length_drop]); omega)) (by first | decide | ((try simp only [decide_eq_true_eq, decide_eq_false_iff_not] at t0); (try simp only [List.length_take, List.length_drop]); omega)) (by first | decide | ((try simp only [decide_eq_true_eq, decide_eq_false_iff_not] at t0); (try simp only [List.length_take, List.length_drop]); omega)) (x0 t0)) hB).mono fun e fr' H' h => by first | (simp only [t0, cond_true, cond_false]; exact h) | (simp only [t0, cond_true, cond_false] at h ⊢; exact h)
 | false =>
  exact (Sx.GoesB.runN callV_ok (callV_reg _) (Sx.LoopsIn.none _ _ _) (scL_r1 n i s w a b q t0) hB).mono fun e fr' H' h => by first | (simp only [t0, cond_true, cond_false]; exact h) | (simp only [t0, cond_true, cond_false] at h ⊢; exact h)
theorem scZ_r0 (n i s w : Nat) (a b : Nat → Nat) (q : Nat → List Sx.AV) : Sx.PieceN 2 (Sx.Ex.ret) [(4, .slc true true ⟨false, 1, 0, 0⟩ n)] [(1, .cells true 1 n (Sx.Cont.fn q))] (piececallV Try.f13 (Sx.nav [1,1,1] (Sx.bodyOf Try.f13)) (Sx.frL [(5, .slc true true ⟨false, 1, 0, 0⟩ (n))]) (Sx.hpL [(1, .cells true 1 (n) (.fn q))]) 2 []) := Sx.eqn (q := True) (by kernel_rfl) trivial
theorem scZ (B : Nat) (hB : B ≤ 2) (n i s w : Nat) (a b : Nat → Nat) (q : Nat → List Sx.AV) : Sx.GoesB Try.prog (Sx.nav [1,1,1] (Sx.bodyOf Try.f13)) Try.f13.ntmps B 2 2 (Sx.frL [(5, .slc true true ⟨false, 1, 0, 0⟩ (n))]) (Sx.hpL [(1, .cells true 1 (n) (.fn q))]) fun e fr' H' => (e = .ret ∧ fr' = Sx.frL [(4, .slc true true ⟨false, 1, 0, 0⟩ n)] ∧ H' = Sx.hpL [(1, .cells true 1 n (Sx.Cont.fn q))]) := by
 exact (Sx.GoesB.runN callV_ok (callV_reg _) (Sx.LoopsIn.none _ _ _) (scZ_r0 n i s w a b q) hB).mono fun e fr' H' h => h
theorem sc_is : (Sx.bodyOf Try.f13) = .seq (Sx.nav [0] (Sx.bodyOf Try.f13)) (.seq (Sx.nav [1,0] (Sx.bodyOf Try.f13)) (.seq (.seq (Sx.nav [1,1,0,0] (Sx.bodyOf Try.f13)) (.block 0 (.loop (Sx.nav [1,1,0,1,0,0] (Sx.bodyOf Try.f13))))) (Sx.nav [1,1,1] (Sx.bodyOf Try.f13)))) := by kernel_rfl
theorem sc_goes (n s w : Nat) (a b : Nat → Nat) (hn : n * 16 ≤ 140737488355328) :
  Sx.GoesB Try.prog (Sx.bodyOf Try.f13) Try.f13.ntmps 1 1 2 (Sx.frameOf [.cpx true s w, Sx.slcV 0 n] 0 .e) (Sx.hpL [(0, .cells false 1 (n) (.fn fun j => [.cpx true (a j) (b j)]))]) fun e fr' H' => e = .ret ∧ fr' = Sx.frL [(4, .slc true true ⟨false, 1, 0, 0⟩ (n))] ∧ H' = Sx.hpL [(1, .cells true 1 (n) (.fn fun j => [.cpx true (Sx.fsub (Sx.fmul s (a j)) (Sx.fmul w (b j))) (Sx.fadd (Sx.fmul s (b j)) (Sx.fmul w (a j)))]))] := by
 rw [sc_is]
 refine Sx.GoesB.seq (K1 := 1) (by omega) ((scA 1 (by omega) n s w a b ).mono fun e fr' H' ⟨e1, e2, e3⟩ => ?_)
 subst e1 e2 e3
 refine Sx.GoesB.seq (K1 := 2) (by omega) ((scC 1 (by omega) n s w a b (by omega) (by omega)).mono fun e fr' H' ⟨e1, e2, e3⟩ => ?_)
 subst e1 e2 e3
 refine Sx.GoesB.seq (K1 := 2) (by omega) (Sx.GoesB.seq (K1 := 2) (by omega) ((scD 1 (by omega) n 0 s w a b (fun _ => [Sx.AV.cpx false 0 0])).mono fun e fr' H' ⟨e1, e2, e3⟩ => ?_))
 subst e1 e2 e3
 refine Sx.GoesB.weakL (fl := [(0, .cpx true s w), (5, .slc true true ⟨false, 1, 0, 0⟩ (n)), (11, Sx.slcV 0 n), (12, .int true .i64 (n : Nat)), (13, .int true .i64 ((0 : Nat) : Int))]) (bl := [(0, .cells false 1 (n) (.fn fun j => [.cpx true (a j) (b j)])), (1, .cells true 1 (n) (.fn (fun j => bif decide (j < 0) then (fun j => [.cpx true (Sx.fsub (Sx.fmul s (a j)) (Sx.fmul w (b j))) (Sx.fadd (Sx.fmul s (b j)) (Sx.fmul w (a j)))]) j else [Sx.AV.cpx false 0 0])))]) ⟨(Sx.re rfl), (Sx.re rfl), (Sx.re rfl), (Sx.re rfl), (Sx.ri rfl), trivial⟩ ⟨(Sx.hs rfl), ⟨_, rfl, ⟨rfl, rfl, rfl, fun j hj => (Sx.row_none (fun j => [.cpx true (Sx.fsub (Sx.fmul s (a j)) (Sx.fmul w (b j))) (Sx.fadd (Sx.fmul s (b j)) (Sx.fmul w (a j)))]) _ j).symm⟩⟩, trivial⟩ ?_
 refine (Sx.GoesB.count n (fun i => [(0, .cpx true s w), (5, .slc true true ⟨false, 1, 0, 0⟩ (n)), (11, Sx.slcV 0 n), (12, .int true .i64 (n : Nat)), (13, .int true .i64 ((i : Nat) : Int))]) (fun i => [(0, .cells false 1 (n) (.fn fun j => [.cpx true (a j) (b j)])), (1, .cells true 1 (n) (.fn (fun j => bif decide (j < i) then (fun j => [.cpx true (Sx.fsub (Sx.fmul s (a j)) (Sx.fmul w (b j))) (Sx.fadd (Sx.fmul s (b j)) (Sx.fmul w (a j)))]) j else [Sx.AV.cpx false 0 0])))]) [(5, .slc true true ⟨false, 1, 0, 0⟩ (n))] [(1, .cells true 1 (n) (.fn fun j => [.cpx true (Sx.fsub (Sx.fmul s (a j)) (Sx.fmul w (b j))) (Sx.fadd (Sx.fmul s (b j)) (Sx.fmul w (a j)))]))] (fun _ => True) (fun _ _ => False) trivial (fun i hi _ => ?_)).mono fun e fr' H' h => ?_
 ·have hB := scL 1 (by omega) n i s w a b (fun j => bif decide (j < i) then (fun j => [.cpx true (Sx.fsub (Sx.fmul s (a j)) (Sx.fmul w (b j))) (Sx.fadd (Sx.fmul s (b j)) (Sx.fmul w (a j)))]) j else [Sx.AV.cpx false 0 0]) (fun t => by omega)
  simp only [Nat.zero_add] at hB
  refine hB.post fun e fr' H' h => ?_
  refine Sx.cond_elim h (fun t h => ?_) (fun t h => ?_)
  ·have hlt : i < n := by have := of_decide_eq_true t; omega
   obtain ⟨rfl, rfl, rfl⟩ := h
   exact ⟨[(0, .cpx true s w), (5, .slc true true ⟨false, 1, 0, 0⟩ (n)), (11, Sx.slcV 0 n), (12, .int true .i64 (n : Nat)), (13, .int true .i64 ((i + 1 : Nat) : Int))], [(0, .cells false 1 (n) (.fn fun j => [.cpx true (a j) (b j)])), (1, .cells true 1 (n) (.fn (fun j => bif decide (j < i + 1) then (fun j => [.cpx true (Sx.fsub (Sx.fmul s (a j)) (Sx.fmul w (b j))) (Sx.fadd (Sx.fmul s (b j)) (Sx.fmul w (a j)))]) j else [Sx.AV.cpx false 0 0])))], ⟨(Sx.re rfl), (Sx.re rfl), (Sx.re rfl), (Sx.re rfl), (Sx.ri rfl), trivial⟩, ⟨(Sx.hs rfl), ⟨_, rfl, ⟨rfl, rfl, rfl, fun j hj => by simpa only [Sx.Cont.row] using Sx.row_put (fun j => [.cpx true (Sx.fsub (Sx.fmul s (a j)) (Sx.fmul w (b j))) (Sx.fadd (Sx.fmul s (b j)) (Sx.fmul w (a j)))]) [Sx.AV.cpx false 0 0] _ i j⟩⟩, trivial⟩, .inl ⟨rfl, hlt, trivial, rfl, rfl⟩⟩
  ·have e : i = n := by have := of_decide_eq_false t; omega
   subst e
   obtain ⟨rfl, rfl, rfl⟩ := h
   exact ⟨[(5, .slc true true ⟨false, 1, 0, 0⟩ (i))], [(1, .cells true 1 (i) (.fn fun j => [.cpx true (Sx.fsub (Sx.fmul s (a j)) (Sx.fmul w (b j))) (Sx.fadd (Sx.fmul s (b j)) (Sx.fmul w (a j)))]))], ⟨(Sx.re rfl), trivial⟩, ⟨⟨_, rfl, ⟨rfl, rfl, rfl, fun j hj => Sx.row_all (fun j => [.cpx true (Sx.fsub (Sx.fmul s (a j)) (Sx.fmul w (b j))) (Sx.fadd (Sx.fmul s (b j)) (Sx.fmul w (a j)))]) _ _ j hj⟩⟩, trivial⟩, .inr (.inl ⟨rfl, trivial, rfl, rfl⟩)⟩
 rcases h with ⟨rfl, _, rfl, rfl⟩ | ⟨_, h⟩
 case inr => exact h.elim
 exact scZ 1 (by omega) n 0 s w a b (fun j => [.cpx true (Sx.fsub (Sx.fmul s (a j)) (Sx.fmul w (b j))) (Sx.fadd (Sx.fmul s (b j)) (Sx.fmul w (a j)))])
theorem nuA_r0 (len : Nat) (re im : Nat → Int) : Sx.PieceN 1 (Sx.Ex.normal) [(0, .slc true false ⟨false, 0, 0, 0⟩ len)] [(0, .cells false 2 len (.fn fun j => [Sx.AV.int true .u64 (re j), Sx.AV.int true .u64 (im j)]))] (piececallV Try.f10 (Sx.nav [0] (Sx.bodyOf Try.f10)) (Sx.frameOf [Sx.slcV 0 len] 0 .e) (Sx.hpL [(0, .cells false 2 len (.fn fun j => [.int true .u64 (re j), .int true .u64 (im j)]))]) 1 []) := Sx.eqn (q := True) (by kernel_rfl) trivial
theorem nuA (B : Nat) (hB : B ≤ 1) (len : Nat) (re im : Nat → Int) : Sx.GoesB Try.prog (Sx.nav [0] (Sx.bodyOf Try.f10)) Try.f10.ntmps B 1 1 (Sx.frameOf [Sx.slcV 0 len] 0 .e) (Sx.hpL [(0, .cells false 2 len (.fn fun j => [.int true .u64 (re j), .int true .u64 (im j)]))]) fun e fr' H' => (e = .normal ∧ fr' = Sx.frL [(0, .slc true false ⟨false, 0, 0, 0⟩ len)] ∧ H' = Sx.hpL [(0, .cells false 2 len (.fn fun j => [Sx.AV.int true .u64 (re j), Sx.AV.int true .u64 (im j)]))]) := by
 exact (Sx.GoesB.runN callV_ok (callV_reg _) (Sx.LoopsIn.none _ _ _) (nuA_r0 len re im) hB).mono fun e fr' H' h => h
theorem nuC_r0 (len : Nat) (re im : Nat → Int) : Sx.PieceN 1 (Sx.Ex.normal) [(0, .slc true false ⟨false, 0, 0, 0⟩ len), (3, .nils)] [(0, .cells false 2 len (.fn fun j => [Sx.AV.int true .u64 (re j), Sx.AV.int true .u64 (im j)]))] (piececallV Try.f10 (Sx.nav [1,0] (Sx.bodyOf Try.f10)) (Sx.frL [(0, Sx.slcV 0 len)]) (Sx.hpL [(0, .cells false 2 len (.fn fun j => [.int true .u64 (re j), .int true .u64 (im j)]))]) 1 []) := Sx.eqn (q := True) (by kernel_rfl) trivial
theorem nuC (B : Nat) (hB : B ≤ 1) (len : Nat) (re im : Nat → Int) : Sx.GoesB Try.prog (Sx.nav [1,0] (Sx.bodyOf Try.f10)) Try.f10.ntmps B 1 1 (Sx.frL [(0, Sx.slcV 0 len)]) (Sx.hpL [(0, .cells false 2 len (.fn fun j => [.int true .u64 (re j), .int true .u64 (im j)]))]) fun e fr' H' => (e = .normal ∧ fr' = Sx.frL [(0, .slc true false ⟨false, 0, 0, 0⟩ len), (3, .nils)] ∧ H' = Sx.hpL [(0, .cells false 2 len (.fn fun j => [Sx.AV.int true .u64 (re j), Sx.AV.int true .u64 (im j)]))]) := by
 exact (Sx.GoesB.runN callV_ok (callV_reg _) (Sx.LoopsIn.none _ _ _) (nuC_r0 len re im) hB).mono fun e fr' H' h => h
theorem nuD_r0 (len : Nat) (re im : Nat → Int) : Sx.PieceN 1 (Sx.Ex.normal) [(0, .slc true false ⟨false, 0, 0, 0⟩ len), (3, .nils), (4, .int false .i64 0)] [(0, .cells false 2 len (.fn fun j => [Sx.AV.int true .u64 (re j), Sx.AV.int true .u64 (im j)]))] (piececallV Try.f10 (Sx.nav [1,1,0,0] (Sx.bodyOf Try.f10)) (Sx.frL [(0, Sx.slcV 0 len), (3, .nils)]) (Sx.hpL [(0, .cells false 2 len (.fn fun j => [.int true .u64 (re j), .int true .u64 (im j)]))]) 1 []) := Sx.eqn (q := True) (by kernel_rfl) trivial
theorem nuD (B : Nat) (hB : B ≤ 1) (len : Nat) (re im : Nat → Int) : Sx.GoesB Try.prog (Sx.nav [1,1,0,0] (Sx.bodyOf Try.f10)) Try.f10.ntmps B 1 1 (Sx.frL [(0, Sx.slcV 0 len), (3, .nils)]) (Sx.hpL [(0, .cells false 2 len (.fn fun j => [.int true .u64 (re j), .int true .u64 (im j)]))]) fun e fr' H' => (e = .normal ∧ fr' = Sx.frL [(0, .slc true false ⟨false, 0, 0, 0⟩ len), (3, .nils), (4, .int false .i64 0)] ∧ H' = Sx.hpL [(0, .cells false 2 len (.fn fun j => [Sx.AV.int true .u64 (re j), Sx.AV.int true .u64 (im j)]))]) := by
 exact (Sx.GoesB.runN callV_ok (callV_reg _) (Sx.LoopsIn.none _ _ _) (nuD_r0 len re im) hB).mono fun e fr' H' h => h
theorem nuB_r0 (len i : Nat) (re im : Nat → Int) (c0 : decide ((↑i : Int) < (↑len : Int)) = true) (c1 : (0 : Int) ≤ (↑i : Int)) (c2 : (↑i : Int) < (↑len : Int)) (c3 : (0 : Nat) + i < len) (c4 : (2 : Nat) ≤ (2 : Nat)) (c5 : (0 : Int) ≤ re ((0 : Nat) + i)) (c6 : re ((0 : Nat) + i) < (18446744073709551616 : Int)) (c7 : (0 : Int) ≤ im ((0 : Nat) + i)) (c8 : im ((0 : Nat) + i) < (18446744073709551616 : Int)) (c9 : i ≤ i) (c10 : (i + (1 : Nat)) * (16 : Nat) ≤ (140737488355328 : Nat)) (c11 : i + (1 : Nat) ≤ (9223372036854775807 : Nat)) (c12 : (-9223372036854775808 : Int) ≤ (↑i : Int) + (1 : Int)) (c13 : (↑i : Int) + (1 : Int) ≤ (9223372036854775807 : Int)) : Sx.PieceN 5 (Sx.Ex.normal) [(0, .slc true false ⟨false, 0, 0, 0⟩ len), (3, .slc true true ⟨false, 4, 0, 0⟩ (i + (1 : Nat))), (4, .int true .i64 ((↑i : Int) + (1 : Int)))] [(0, .cells false 2 len (.fn fun j => [Sx.AV.int true .u64 (re j), Sx.AV.int true .u64 (im j)])), (4, .cells true 1 (i + (1 : Nat)) (.fn fun j => bif decide (j < i) then [Sx.AV.cpx true (Sx.cn (Int.toNat (re j))) (Sx.cn (Int.toNat (im j)))] else [Sx.AV.cpx true (Sx.cn (Int.toNat (re ((0 : Nat) + i)))) (Sx.cn (Int.toNat (im ((0 : Nat) + i))))]))] (piececallV Try.f10 (Sx.nav [1,1,0,1,0,0] (Sx.bodyOf Try.f10)) (Sx.frL [(0, Sx.slcV 0 len), (3, .slc true true ⟨false, 1, 0, 0⟩ i), (4, .int true .i64 i)]) (Sx.hpL [(0, .cells false 2 len (.fn fun j => [.int true .u64 (re j), .int true .u64 (im j)])), (1, .cells true 1 i (.fn fun j => [.cpx true (Sx.cn (re j).toNat) (Sx.cn (im j).toNat)]))]) 2 [true]) := Sx.eqn (q := ((((((((True ∧ (decide ((↑i : Int) < (↑len : Int)) = true)) ∧ (((0 : Int) ≤ (↑i : Int)) ∧ ((↑i : Int) < (↑len : Int)))) ∧ ((0 : Nat) + i < len)) ∧ ((2 : Nat) ≤ (2 : Nat))) ∧ (((0 : Int) ≤ re ((0 : Nat) + i)) ∧ (re ((0 : Nat) + i) < (18446744073709551616 : Int)))) ∧ (((0 : Int) ≤ im ((0 : Nat) + i)) ∧ (im ((0 : Nat) + i) < (18446744073709551616 : Int)))) ∧ ((i ≤ i) ∧ (((i + (1 : Nat)) * (16 : Nat) ≤ (140737488355328 : Nat)) ∧ (i + (1 : Nat) ≤ (9223372036854775807 : Nat))))) ∧ (((-9223372036854775808 : Int) ≤ (↑i : Int) + (1 : Int)) ∧ ((↑i : Int) + (1 : Int) ≤ (9223372036854775807 : Int))))) (by kernel_rfl) ⟨⟨⟨⟨⟨⟨⟨⟨trivial, c0⟩, ⟨c1, c2⟩⟩, c3⟩, c4⟩, ⟨c5, c6⟩⟩, ⟨c7, c8⟩⟩, ⟨c9, ⟨c10, c11⟩⟩⟩, ⟨c12, c13⟩⟩
theorem nuB_r1 (len i : Nat) (re im : Nat → Int) (c0 : decide ((↑i : Int) < (↑len : Int)) = false) : Sx.PieceN 5 (Sx.Ex.exit (0 : Nat)) [(0, .slc true false ⟨false, 0, 0, 0⟩ len), (3, .slc true true ⟨false, 1, 0, 0⟩ i), (4, .int true .i64 (↑i : Int))] [(0, .cells false 2 len (.fn fun j => [Sx.AV.int true .u64 (re j), Sx.AV.int true .u64 (im j)])), (1, .cells true 1 i (.fn fun j => [Sx.AV.cpx true (Sx.cn (Int.toNat (re j))) (Sx.cn (Int.toNat (im j)))]))] (piececallV Try.f10 (Sx.nav [1,1,0,1,0,0] (Sx.bodyOf Try.f10)) (Sx.frL [(0, Sx.slcV 0 len), (3, .slc true true ⟨false, 1, 0, 0⟩ i), (4, .int true .i64 i)]) (Sx.hpL [(0, .cells false 2 len (.fn fun j => [.int true .u64 (re j), .int true .u64 (im j)])), (1, .cells true 1 i (.fn fun j => [.cpx true (Sx.cn (re j).toNat) (Sx.cn (im j).toNat)]))]) 2 [false]) := Sx.eqn (q := (True ∧ (decide ((↑i : Int) < (↑len : Int)) = false))) (by kernel_rfl) ⟨trivial, c0⟩
theorem nuB (B : Nat) (hB : B ≤ 2) (len i : Nat) (re im : Nat → Int) (x0 : ((decide ((↑i : Int) < (↑len : Int))) = true → ((0 : Int) ≤ re ((0 : Nat) + i)))) (x1 : ((decide ((↑i : Int) < (↑len : Int))) = true → (re ((0 : Nat) + i) < (18446744073709551616 : Int)))) (x2 : ((decide ((↑i : Int) < (↑len : Int))) = true → ((0 : Int) ≤ im ((0 : Nat) + i)))) (x3 : ((decide ((↑i : Int) < (↑len : Int))) = true → (im ((0 : Nat) + i) < (18446744073709551616 : Int)))) (x4 : ((decide ((↑i : Int) < (↑len : Int))) = true → ((i + (1 : Nat)) * (16 : Nat) ≤ (140737488355328 : Nat)))) (x5 : ((decide ((↑i : Int) < (↑len : Int))) = true → (i + (1 : Nat) ≤ (9223372036854775807 : Nat)))) (x6 : ((decide ((↑i : Int) < (↑len : Int))) = true → ((↑i : Int) + (1 : Int) ≤ (9223372036854775807 : Int)))) : Sx.GoesB Try.prog (Sx.nav [1,1,0,1,0,0] (Sx.bodyOf Try.f10)) Try.f10.ntmps B 2 5 (Sx.frL [(0, Sx.slcV 0 len), (3, .slc true true ⟨false, 1, 0, 0⟩ i), (4, .int true .i64 i)]) (Sx.hpL [(0, .cells false 2 len (.fn fun j => [.int true .u64 (re j), .int true .u64 (im j)])), (1, .cells true 1 i (.fn fun j => [.cpx true (Sx.cn (re j).toNat) (Sx.cn (im j).toNat)]))]) fun e fr' H' => (cond (decide ((↑i : Int) < (↑len : Int))) (e = .normal ∧ fr' = Sx.frL [(0, .slc true false ⟨false, 0, 0, 0⟩ len), (3, .slc true true ⟨false, 4, 0, 0⟩ (i + (1 : Nat))), (4, .int true .i64 ((↑i : Int) + (1 : Int)))] ∧ H' = Sx.hpL [(0, .cells false 2 len (.fn fun j => [Sx.AV.int true .u64 (re j), Sx.AV.int true .u64 (im j)])), (4, .cells true 1 (i + (1 : Nat)) (.fn fun j => bif decide (j < i) then [Sx.AV.cpx true (Sx.cn (Int.toNat (re j))) (Sx.cn (Int.toNat (im j)))] else [Sx.AV.cpx true (Sx.cn (Int.toNat (re ((0 : Nat) + i)))) (Sx.cn (Int.toNat (im ((0 : Nat) + i))))]))]) (e = .exit 0 ∧ fr' = Sx.frL [(0, .slc true false ⟨false, 0, 0, 0⟩ len), (3, .slc true true ⟨false, 1, 0, 0⟩ i), (4, .int true .i64 (↑i : Int))] ∧ H' = Sx.hpL [(0, .cells false 2 len (.fn fun j => [Sx.AV.int true .u64 (re j), Sx.AV.int true .u64 (im j)])), (1, .cells true 1 i (.fn fun j => [Sx.AV.cpx true (Sx.cn (Int.toNat (re j))) (Sx.cn (Int.toNat (im j)))]))])) := by
 cases t0 : decide ((↑i : Int) < (↑len : Int)) with
 | true =>
  exact (Sx.GoesB.runN callV_ok (callV_reg _) (Sx.LoopsIn.none _ _ _) (nuB_r0 len i re im t0 (by first | decide | ((try simp only [decide_eq_true_eq, decide_eq_false_iff_not] at t0); (try simp only [List.length_take, List.length_drop]); omega)) (by first | decide | ((try simp only [decide_eq_true_eq, decide_eq_false_iff_not] at t0); (try simp only [List.length_take, List.length_drop]); omega)) (by first | decide | ((try simp only [decide_eq_true_eq, decide_eq_false_iff_not] at t0); (try simp only [List.length_take, List.length_drop]); omega)) (by first | decide | ((try simp only [decide_eq_true_eq, decide_eq_false_iff_not] at t0); (try simp only [List.length_take, List.length_drop]); omega)) (x0 t0) (x1 t0) (x2 t0) (x3 t0) (by first | decide | ((try simp only [decide_eq_true_eq, decide_eq_false_iff_not] at t0); (try simp only [List.length_take, List.length_drop]); omega)) (x4 t0) (x5 t0) (by first | decide | ((try simp only [decide_eq_true_eq, decide_eq_false_iff_not] at t0); (try simp only [List.length_take, List.length_drop]); omega)) (x6 t0)) hB).mono fun e fr' H' h => by first | (simp only [t0, cond_true, cond_false]; exact h) | (simp only [t0, cond_true, cond_false] at h ⊢; exact h)
 | false =>
  exact (Sx.GoesB.runN callV_ok (callV_reg _) (Sx.LoopsIn.none _ _ _) (nuB_r1 len i re im t0) hB).mono fun e fr' H' h => by first | (simp only [t0, cond_true, cond_false]; exact h) | (simp only [t0, cond_true, cond_false] at h ⊢; exact h)
theorem nuZ_r0 (len : Nat) (q : Nat → List Sx.AV) : Sx.PieceN 2 (Sx.Ex.ret) [(2, .slc true true ⟨false, 1, 0, 0⟩ len)] [(1, .cells true 1 len (Sx.Cont.fn q))] (piececallV Try.f10 (Sx.nav [1,1,1] (Sx.bodyOf Try.f10)) (Sx.frL [(3, .slc true true ⟨false, 1, 0, 0⟩ len)]) (Sx.hpL [(1, .cells true 1 len (.fn q))]) 2 []) := Sx.eqn (q := True) (by kernel_rfl) trivial
theorem nuZ (B : Nat) (hB : B ≤ 2) (len : Nat) (q : Nat → List Sx.AV) : Sx.GoesB Try.prog (Sx.nav [1,1,1] (Sx.bodyOf Try.f10)) Try.f10.ntmps B 2 2 (Sx.frL [(3, .slc true true ⟨false, 1, 0, 0⟩ len)]) (Sx.hpL [(1, .cells true 1 len (.fn q))]) fun e fr' H' => (e = .ret ∧ fr' = Sx.frL [(2, .slc true true ⟨false, 1, 0, 0⟩ len)] ∧ H' = Sx.hpL [(1, .cells true 1 len (Sx.Cont.fn q))]) := by
 exact (Sx.GoesB.runN callV_ok (callV_reg _) (Sx.LoopsIn.none _ _ _) (nuZ_r0 len q) hB).mono fun e fr' H' h => h
def nuI (len : Nat) (re im : Nat → Int) (k : Nat) (fr : Sx.Fr) (H : Sx.T Sx.ABk) : Prop :=
 ∃ i : Nat, k = len - i ∧ i ≤ len ∧ fr = Sx.frL [(0, Sx.slcV 0 len), (3, .slc true true ⟨false, 1, 0, 0⟩ i), (4, .int true .i64 i)] ∧ H = Sx.hpL [(0, .cells false 2 len (.fn fun j => [.int true .u64 (re j), .int true .u64 (im j)])), (1, .cells true 1 i (.fn fun j => [.cpx true (Sx.cn (re j).toNat) (Sx.cn (im j).toNat)]))]
def nuP (len : Nat) (re im : Nat → Int) : Sx.Po := fun e fr H => e = .exit 0 ∧ fr = Sx.frL [(3, .slc true true ⟨false, 1, 0, 0⟩ len)] ∧ H = Sx.hpL [(1, .cells true 1 len (.fn fun j => [.cpx true (Sx.cn (re j).toNat) (Sx.cn (im j).toNat)]))]
theorem nu_body (len : Nat) (re im : Nat → Int) (hr : ∀ j, j < len → 0 ≤ re j ∧ re j < 18446744073709551616 ∧ 0 ≤ im j ∧ im j < 18446744073709551616) (hl : len * 16 ≤ 140737488355328) (k : Nat) (fr : Sx.Fr) (H : Sx.T Sx.ABk) (hI : nuI len re im k fr H) :
  Sx.GoesB Try.prog (Sx.nav [1,1,0,1,0,0] (Sx.bodyOf Try.f10)) Try.f10.ntmps 1 2 2 fr H fun e fr' H' => match e with
   | .normal => ∃ k', k' < k ∧ nuI len re im k' fr' H'
   | e => nuP len re im e fr' H' := by
 obtain ⟨i, rfl, hi, rfl, rfl⟩ := hI
 have hx : decide ((i : Int) < (len : Int)) = true → i < len := fun t => by have := of_decide_eq_true t; omega
 refine (nuB 1 (by omega) len i re im (fun t => by simpa using (hr i (hx t)).1) (fun t => by simpa using (hr i (hx t)).2.1) (fun t => by simpa using (hr i (hx t)).2.2.1) (fun t => by simpa using (hr i (hx t)).2.2.2) (fun t => by have := hx t; omega) (fun t => by have := hx t; omega) (fun t => by have := hx t; omega)).renL fun e fr' H' h => ?_
 refine Sx.cond_elim h (fun t h => ?_) (fun t h => ?_)
 ·have hlt := hx t
  obtain ⟨rfl, rfl, rfl⟩ := h
  refine ⟨fun g => if g = 1 then 4 else g, [(0, Sx.slcV 0 len), (3, .slc true true ⟨false, 1, 0, 0⟩ (i + 1)), (4, .int true .i64 ((i + 1 : Nat) : Int))], [(0, .cells false 2 len (.fn fun j => [.int true .u64 (re j), .int true .u64 (im j)])), (1, .cells true 1 (i + 1) (.fn fun j => [.cpx true (Sx.cn (re j).toNat) (Sx.cn (im j).toNat)]))], fun g hg => if_neg (by omega),
   ⟨⟨_, rfl, Sx.AV.ge.refl _, rfl⟩, ⟨_, rfl, Sx.AV.ge.refl _, rfl⟩, ⟨_, rfl, Sx.AV.ge.int' _ _ _ (by simp), rfl⟩, trivial⟩,
   ⟨⟨_, rfl, Sx.SameC.refl _, Sx.bare_int2 _ _ _, Nat.zero_lt_succ _⟩, ⟨_, rfl, ⟨rfl, rfl, rfl, fun j hj => ?_⟩, Sx.bare_cpx _ _ _ _, Nat.lt_succ_self _⟩, trivial⟩, fun a b ha hb hab => by dsimp only at hab; split at hab <;> split at hab <;> omega, len - (i + 1), by omega, i + 1, rfl, by omega, rfl, rfl⟩
  simp only [Sx.Cont.row]
  by_cases hji : j < i
  ·simp [hji]
  ·have e : j = i := by omega
   subst e
   simp
 ·have e : i = len := by have := of_decide_eq_false t; omega
  subst e
  obtain ⟨rfl, rfl, rfl⟩ := h
  exact ⟨id, [(3, .slc true true ⟨false, 1, 0, 0⟩ i)], [(1, .cells true 1 i (.fn fun j => [.cpx true (Sx.cn (re j).toNat) (Sx.cn (im j).toNat)]))], fun _ _ => rfl, ⟨⟨_, rfl, Sx.AV.ge.refl _, rfl⟩, trivial⟩, ⟨⟨_, rfl, Sx.SameC.refl _, Sx.bare_cpx _ _ _ _, Nat.lt_succ_self _⟩, trivial⟩, fun _ _ _ _ h => h, rfl, rfl, rfl⟩
theorem nu_is : (Sx.bodyOf Try.f10) = .seq (Sx.nav [0] (Sx.bodyOf Try.f10)) (.seq (Sx.nav [1,0] (Sx.bodyOf Try.f10)) (.seq (.seq (Sx.nav [1,1,0,0] (Sx.bodyOf Try.f10)) (.block 0 (.loop (Sx.nav [1,1,0,1,0,0] (Sx.bodyOf Try.f10))))) (Sx.nav [1,1,1] (Sx.bodyOf Try.f10)))) := by kernel_rfl
theorem nu_goes (len : Nat) (re im : Nat → Int) (hr : ∀ j, j < len → 0 ≤ re j ∧ re j < 18446744073709551616 ∧ 0 ≤ im j ∧ im j < 18446744073709551616) (hl : len * 16 ≤ 140737488355328) :
  Sx.GoesB Try.prog (Sx.bodyOf Try.f10) Try.f10.ntmps 1 1 2 (Sx.frameOf [Sx.slcV 0 len] 0 .e) (Sx.hpL [(0, .cells false 2 len (.fn fun j => [.int true .u64 (re j), .int true .u64 (im j)]))]) fun e fr' H' => e = .ret ∧ fr' = Sx.frL [(2, .slc true true ⟨false, 1, 0, 0⟩ len)] ∧ H' = Sx.hpL [(1, .cells true 1 len (.fn fun j => [.cpx true (Sx.cn (re j).toNat) (Sx.cn (im j).toNat)]))] := by
 rw [nu_is]
 refine Sx.GoesB.seq (K1 := 1) (by omega) ((nuA 1 (by omega) len re im).mono fun e fr' H' ⟨e1, e2, e3⟩ => ?_)
 subst e1 e2 e3
 refine Sx.GoesB.seq (K1 := 1) (by omega) ((nuC 1 (by omega) len re im).mono fun e fr' H' ⟨e1, e2, e3⟩ => ?_)
 subst e1 e2 e3
 refine Sx.GoesB.seq (K1 := 2) (by omega) (Sx.GoesB.seq (K1 := 1) (by omega) ((nuD 1 (by omega) len re im).mono fun e fr' H' ⟨e1, e2, e3⟩ => ?_))
 subst e1 e2 e3
 refine Sx.GoesB.phantom 3 1 (fun j => [.cpx true (Sx.cn (re j).toNat) (Sx.cn (im j).toNat)]) rfl (by omega) (by omega) ?_
 refine Sx.GoesB.weakL (fl := [(0, Sx.slcV 0 len), (3, .slc true true ⟨false, 1, 0, 0⟩ 0), (4, .int true .i64 (0 : Nat))]) (bl := [(0, .cells false 2 len (.fn fun j => [.int true .u64 (re j), .int true .u64 (im j)])), (1, .cells true 1 0 (.fn fun j => [.cpx true (Sx.cn (re j).toNat) (Sx.cn (im j).toNat)]))]) ⟨⟨_, rfl, Sx.AV.ge.refl _⟩, ⟨_, rfl, Sx.AV.ge.refl _⟩, ⟨_, rfl, Sx.AV.ge.int _ _ _ _⟩, trivial⟩ ⟨⟨_, rfl, Sx.SameC.refl _⟩, ⟨_, rfl, Sx.SameC.refl _⟩, trivial⟩ ?_
 refine Sx.GoesB.block ((Sx.GoesB.loop (nuI len re im) (Post := nuP len re im) (nu_body len re im hr hl) _ _ _ ⟨0, rfl, by omega, rfl, rfl⟩).mono fun e fr' H' ⟨e1, e2, e3⟩ => ?_)
 subst e1 e2 e3
 simp only [if_true]
 exact nuZ 1 (by omega) len _
def numP (len : Nat) (rows : Nat → List Sx.AV) : Prop := len * 16 ≤ 140737488355328 ∧ ∀ j, j < len → Sx.ZRow (rows j)
noncomputable def numbersS : List Sx.AV → Sx.M Sx.AV
 | [x] => (Sx.rd 2 x numP).andThen fun y => Sx.newS 1 y.1 fun j => [.cpx true (Sx.cn (Sx.zre (y.2 j)).toNat) (Sx.cn (Sx.zim (y.2 j)).toNat)]
 | _ => Sx.M.no
theorem numbersS_ok : ∀ args v g g', numbersS args g = .done v g' → Sx.CallIs Try.prog 10 args v g g' := by
 intro args v g g' h
 unfold numbersS at h
 split at h
 ·rename_i x
  obtain ⟨⟨len, rows⟩, g1, a1, h1⟩ := Sx.done_of h
  obtain ⟨q, kq, hq⟩ := Sx.rd_done a1 (by omega)
  obtain ⟨rfl, e1, e2, e3⟩ := Sx.newS_done h1
  dsimp only at e1 e2 hq
  rw [kq.1, kq.2.1] at e1
  rw [kq.2.1] at e2
  rw [kq.2.1]
  refine Sx.reads (c := (Sx.bodyOf Try.f10)) Try.func10 (by kernel_rfl) (by kernel_rfl) kq [⟨x, 2, len, rows⟩] (fun hp v hv => ?_) (argsC := [Sx.slcV 0 len]) (fun hp N μ cs hcs => ?_) (nms := [1]) (bs := [.cells true 1 len (.fn fun j => [.cpx true (Sx.cn (Sx.zre (rows j)).toNat) (Sx.cn (Sx.zim (rows j)).toNat)])]) (K' := 2) (fun hp => ?_) ?_ ?_ e1 e2 (fun h => by rw [← e3]; exact h)
  ·rcases List.mem_cons.1 hv with rfl | hv
   ·exact (hq hp).1
   ·cases hv
  ·simp only [Sx.Reps] at hcs
   obtain ⟨c, r, rfl, hc, rfl⟩ := hcs
   simp only [Sx.Reps]
   exact ⟨c, [], rfl, Sx.vw_val (l := [⟨x, 2, len, rows⟩]) (i := 0) (hq hp).1 rfl hc, rfl⟩
  ·obtain ⟨_, hl, hz⟩ := hq hp
   refine Sx.GoesB.weakGL (fl := [(0, Sx.slcV 0 len)]) (bl := [(0, .cells false 2 len (.fn fun j => [.int true .u64 (Sx.zre (rows j)), .int true .u64 (Sx.zim (rows j))]))]) ⟨⟨_, rfl, Sx.AV.ge.refl _⟩, trivial⟩ ⟨⟨_, rfl, rfl, rfl, rfl, fun j hj => (hz j hj).ge⟩, trivial⟩ ?_
   refine (nu_goes len (fun j => Sx.zre (rows j)) (fun j => Sx.zim (rows j)) (fun j hj => (hz j hj).2) hl).mono fun e fr' H' ⟨e1, e2, e3⟩ => ?_
   subst e1 e2 e3
   exact ⟨.inl rfl, _, _, Sx.res1 (t := 2) (by kernel_rfl) rfl, trivial, Sx.ge_new _ _ _ _, Sx.news1 rfl (Sx.SameC.refl _) rfl (Sx.bare_cpx _ _ _ _)⟩
  ·simp [Sx.AV.low]
  ·show g.nx ≤ g.nx; exact Nat.le_refl _
 ·exact (Sx.no_done h).elim
theorem numbersS_tch : ∀ args, Sx.Tch (numbersS args) := by
 intro args
 unfold numbersS
 split
 ·exact (Sx.Tch.rd _ _ _).andThen fun _ => Sx.Tch.newS _ _ _
 ·exact Sx.Tch.no
theorem sr_r0 (x y : Nat) (c0 : decide ((↑x : Int) = (↑y : Int)) = true) : Sx.PureP (Sx.AV.bool true) (callV 34 [.raw true x, .raw true y] (Sx.G.on [true])) := Sx.eqq (q := (True ∧ (decide ((↑x : Int) = (↑y : Int)) = true))) (by kernel_rfl) ⟨trivial, c0⟩
theorem sr_r1 (x y : Nat) (c0 : decide ((↑x : Int) = (↑y : Int)) = false) (c1 : (!Sx.feq (Sx.cn x) (Sx.cn x)) = false) : Sx.PureP (Sx.AV.bool false) (callV 34 [.raw true x, .raw true y] (Sx.G.on [false, false])) := Sx.eqq (q := ((True ∧ (decide ((↑x : Int) = (↑y : Int)) = false)) ∧ ((!Sx.feq (Sx.cn x) (Sx.cn x)) = false))) (by kernel_rfl) ⟨⟨trivial, c0⟩, c1⟩
theorem sr_r2 (x y : Nat) (c0 : decide ((↑x : Int) = (↑y : Int)) = false) (c1 : (!Sx.feq (Sx.cn x) (Sx.cn x)) = true) : Sx.PureP (Sx.AV.sbool !Sx.feq (Sx.cn y) (Sx.cn y)) (callV 34 [.raw true x, .raw true y] (Sx.G.on [false, true])) := Sx.eqq (q := ((True ∧ (decide ((↑x : Int) = (↑y : Int)) = false)) ∧ ((!Sx.feq (Sx.cn x) (Sx.cn x)) = true))) (by kernel_rfl) ⟨⟨trivial, c0⟩, c1⟩
noncomputable def sr_0 (x y : Nat) : Bool := (bif decide ((↑x : Int) = (↑y : Int)) then (true) else (bif Sx.feq (Sx.cn x) (Sx.cn x) then (false) else (!Sx.feq (Sx.cn y) (Sx.cn y))))
noncomputable def srS : List Sx.AV → Sx.M Sx.AV
 | [.raw s0 x, .raw s1 y] => Sx.M.ret (Sx.cmpB (Bool.or s0 s1) (sr_0 x y))
 | args => callV 34 args
theorem srS_ok : ∀ args v g g', srS args g = .done v g' → Sx.CallIs Try.prog 34 args v g g' := by
 intro args v g g' h
 unfold srS at h
 split at h
 ·rename_i s0 x s1 y
  obtain ⟨rfl, rfl⟩ := Sx.ret_done h
  refine Sx.scal callV_ok fun μ cargs ha => ?_
  have ha' : Sx.Reps 0 Sx.MM.none [.raw true x, .raw true y] cargs.toList := by simpa only [Sx.Reps, Sx.Rep] using ha
  cases t0 : decide ((↑x : Int) = (↑y : Int)) with
  | true =>
   exact ⟨_, _, _, ha', sr_r0 x y t0, rfl, fun cv hc => by have := hc g.nx μ; have e0 : sr_0 x y = (true) := (Sx.ct t0).trans (rfl); rw [e0]; simpa only [Sx.Rep, Sx.Reps, Sx.Rep_cmpB] using this⟩
  | false =>
   cases t1 : Sx.feq (Sx.cn x) (Sx.cn x) with
   | true =>
    exact ⟨_, _, _, ha', sr_r1 x y t0 (by rw [t1]; rfl), rfl, fun cv hc => by have := hc g.nx μ; have e0 : sr_0 x y = (false) := (Sx.cf t0).trans ((Sx.ct t1).trans (rfl)); rw [e0]; simpa only [Sx.Rep, Sx.Reps, Sx.Rep_cmpB] using this⟩
   | false =>
    exact ⟨_, _, _, ha', sr_r2 x y t0 (by rw [t1]; rfl), rfl, fun cv hc => by have := hc g.nx μ; have e0 : sr_0 x y = (!Sx.feq (Sx.cn y) (Sx.cn y)) := (Sx.cf t0).trans ((Sx.cf t1).trans (rfl)); rw [e0]; simpa only [Sx.Rep, Sx.Reps, Sx.Rep_cmpB] using this⟩
 ·exact callV_ok _ _ _ _ _ h
theorem sr_eq (x y : Nat) (hx : x < 18446744073709551616) (hy : y < 18446744073709551616) : sr_0 x y = decide (Sx.cn x = Sx.cn y) := by
 unfold sr_0
 simp only [Sx.feq_selfc hx, Sx.feq_selfc hy]
 have e : decide ((x : Int) = (y : Int)) = decide (x = y) := decide_eq_decide.2 (by omega)
 simp only [e]
 cases h1 : Sx.isnan x <;> cases h2 : Sx.isnan y
 ·rw [Sx.cn_of_not h1, Sx.cn_of_not h2]; by_cases h : x = y <;> simp [h]
 ·rw [Sx.cn_of_not h1, Sx.cn_of_nan h2]
  have n1 : x ≠ Sx.qn := fun h => by rw [h] at h1; exact absurd h1 (by decide)
  have n2 : x ≠ y := fun h => by rw [h, h2] at h1; cases h1
  simp [n1, n2]
 ·rw [Sx.cn_of_nan h1, Sx.cn_of_not h2]
  have n1 : Sx.qn ≠ y := fun h => by rw [← h] at h2; exact absurd h2 (by decide)
  have n2 : x ≠ y := fun h => by rw [h, h2] at h1; cases h1
  simp [n1, n2]
 ·rw [Sx.cn_of_nan h1, Sx.cn_of_nan h2]; simp
noncomputable def srealV (x y : Sx.AV) : Sx.M Sx.AV :=
 match x, y with
 | .flt s a, .flt s' b => Sx.M.ret (Sx.cmpB (s || s') (decide (a = b)))
 | _, _ => Sx.M.no
noncomputable def srealS : List Sx.AV → Sx.M Sx.AV
 | [x, y] => srealV x.fl y.fl
 | _ => Sx.M.no
theorem srealS_ok : ∀ args v g g', srealS args g = .done v g' → Sx.CallIs Try.prog 34 args v g g' := by
 intro args v g g' h
 unfold srealS at h
 split at h
 ·rename_i x y
  generalize hx : x.fl = xf at h
  generalize hy : y.fl = yf at h
  unfold srealV at h
  split at h
  ·rename_i s a s' b
   obtain ⟨rfl, rfl⟩ := Sx.ret_done h
   refine ⟨id, fun hc μ w cargs hg ha => ?_⟩
   simp only [Sx.Reps] at ha
   obtain ⟨c1, _, e1, r1, c2, _, rfl, r2, rfl⟩ := ha
   have r1 := r1.fl
   have r2 := r2.fl
   rw [hx] at r1
   rw [hy] at r2
   simp only [Sx.Rep] at r1 r2
   obtain ⟨b1, rfl, q1, l1⟩ := r1
   obtain ⟨b2, rfl, q2, l2⟩ := r2
   have hS := srS_ok [.raw true b1, .raw true b2] (Sx.cmpB true (sr_0 b1 b2)) g g rfl
   refine (hS.2 hc μ w cargs hg (by rw [e1]; simp only [Sx.Reps]; exact ⟨_, _, rfl, by simp only [Sx.Rep]; exact ⟨trivial, l1⟩, _, _, rfl, by simp only [Sx.Rep]; exact ⟨trivial, l2⟩, rfl⟩)).mono fun cv w' hA => ?_
   obtain ⟨μ', k1, k2, k3⟩ := hA
   refine ⟨μ', ?_, k2, k3⟩
   rw [sr_eq _ _ l1 l2, q1, q2] at k1
   rw [Sx.Rep_cmpB] at k1 ⊢
   exact k1
  ·exact (Sx.no_done h).elim
 ·exact (Sx.no_done h).elim
theorem srealS_tch : ∀ args, Sx.Tch (srealS args) := by
 intro args
 unfold srealS
 split
 ·unfold srealV
  split
  ·exact Sx.Tch.ret _
  ·exact Sx.Tch.no
 ·exact Sx.Tch.no
noncomputable def scaleS : List Sx.AV → Sx.M Sx.AV
 | [.cpx s0 s w, x] => Sx.c1 x fun n a b => (Sx.M.newB (.cells true 1 ((fun n => n) n) (.fn (fun j => [.cpx true (Sx.fsub (Sx.fmul s (a j)) (Sx.fmul w (b j))) (Sx.fadd (Sx.fmul s (b j)) (Sx.fmul w (a j)))])))).andThen fun N => Sx.M.ret ((fun n N => .slc true true ⟨false, N, 0, 0⟩ n) n N)
 | _ => Sx.M.no
theorem scaleS_ok : ∀ args v g g', scaleS args g = .done v g' → Sx.CallIs Try.prog 13 args v g g' := by
 intro args v g g' h
 unfold scaleS at h
 split at h
 ·rename_i s0 s w x
  exact Sx.c1_new Try.func13 (by kernel_rfl) (by kernel_rfl) (pl := [.cpx s0 s w]) (pr := []) (fun u hu => by simp at hu; (try rcases hu with rfl | rfl) <;> (try subst hu) <;> rfl) (K' := 2) (nm := 1) (len := fun n => n) (val := fun n N => .slc true true ⟨false, N, 0, 0⟩ n) (rows := fun n a b => fun j => [.cpx true (Sx.fsub (Sx.fmul s (a j)) (Sx.fmul w (b j))) (Sx.fadd (Sx.fmul s (b j)) (Sx.fmul w (a j)))]) (fun n => Sx.Named.slc n) (fun n a b j hj u hu => low_c hu) (fun n a b hn hw => ((Sx.GoesB.weakL (fl := [(0, .cpx true s w), (1, Sx.slcV 0 n)]) (bl := [(0, .cells false 1 (n) (.fn fun j => [.cpx true (a j) (b j)]))]) ⟨⟨_, rfl, Sx.AV.ge.cpx' _ _ rfl rfl⟩, (Sx.re rfl), trivial⟩ ⟨(Sx.hs rfl), trivial⟩ (sc_goes n s w a b hn))).mono fun e fr' H' hp => by obtain ⟨rfl, rfl, rfl⟩ := hp; exact ⟨.inl rfl, _, _, Sx.res1 (t := 4) (by kernel_rfl) rfl, trivial, Sx.AV.ge.refl _, Sx.news1 rfl (Sx.SameC.refl _) rfl (fun j hj u hu => low_c hu)⟩) _ _ _ _ h
 ·exact (Sx.no_done h).elim
theorem scaleS_tch : ∀ args, Sx.Tch (scaleS args) := by
 intro args
 unfold scaleS
 split
 ·exact Sx.Tch.c1 _ fun _ _ _ => (Sx.Tch.newB _).andThen fun _ => Sx.Tch.ret _
 ·exact Sx.Tch.no
noncomputable def gamW : Sx.Known := Sx.kc 61 Sx.toBits (Sx.kc 47 Sx.ofBits (Sx.kc 34 srealS (Sx.kn)))
theorem gamW_ok : Sx.KnownOk Try.prog gamW := Sx.kc_ok ((Sx.toBits_is Try.prog).callIs Try.func61 (by kernel_rfl) (by kernel_rfl) (by kernel_rfl) (by kernel_rfl)) (Sx.kc_ok ((Sx.ofBits_is Try.prog).callIs Try.func47 (by kernel_rfl) (by kernel_rfl) (by kernel_rfl) (by kernel_rfl)) (Sx.kc_ok srealS_ok (Sx.kn_ok)))
theorem gamW_tch : Sx.KnownT gamW := Sx.kc_tch Sx.Tch.toBits (Sx.kc_tch Sx.Tch.ofBits (Sx.kc_tch srealS_tch (Sx.kn_tch)))
noncomputable def callW : Sx.Calls' := Sx.runN Try.prog gamW (Sx.regionC Try.prog) 1000 50
theorem callW_ok : Sx.CallOk Try.prog callW := Sx.engineC gamW_ok gamW_tch (by kernel_rfl) (by kernel_rfl) 1000 50
theorem callW_tch : Sx.CallT callW := Sx.runA_tch gamW_tch (fun _ _ _ h => by cases h) (fun call hc n l fr => Sx.regionC_tch hc n l fr) 50
theorem callW_reg (n : Nat) : Sx.RegionOk Try.prog (Sx.regionC Try.prog callW n) n := Sx.runN_regionC gamW_ok gamW_tch (by kernel_rfl) (by kernel_rfl) 1000 50 n
noncomputable abbrev piececallW (f : Func) (c : Code) (fr : Sx.Fr) (H : Sx.T Sx.ABk) (K : Nat) (path : List Bool) : Sx.Res (Sx.Ex × Sx.Fr) :=
 Sx.codeA Try.prog callW (Sx.regionC Try.prog callW f.ntmps) Sx.noLoops f.ntmps 1000 c fr ⟨H, K, [], path, True⟩
theorem rwW_r0 (n m : Nat) (a b x y : Nat → Nat) (c0 : decide ((65536 : Int) < (↑n : Int)) = true) : Sx.PieceN 2 (Sx.Ex.ret) [(4, .int false .i64 3)] [] (piececallW Try.f53 ((Sx.bodyOf Try.f53)) (Sx.frameOf [Sx.slcV 0 n, Sx.slcV 1 m] 0 .e) (Sx.hpL [(0, .cells false 1 (n) (.fn fun j => [.cpx true (a j) (b j)])), (1, .cells false 1 (m) (.fn fun j => [.cpx true (x j) (y j)]))]) 2 [true]) := Sx.eqn (q := (True ∧ (decide ((65536 : Int) < (↑n : Int)) = true))) (by kernel_rfl) ⟨trivial, c0⟩
theorem rwW_r1 (n m : Nat) (a b x y : Nat → Nat) (c0 : decide ((65536 : Int) < (↑n : Int)) = false) (c1 : decide ((65536 : Int) < (↑m : Int)) = true) : Sx.PieceN 2 (Sx.Ex.ret) [(4, .int false .i64 3)] [] (piececallW Try.f53 ((Sx.bodyOf Try.f53)) (Sx.frameOf [Sx.slcV 0 n, Sx.slcV 1 m] 0 .e) (Sx.hpL [(0, .cells false 1 (n) (.fn fun j => [.cpx true (a j) (b j)])), (1, .cells false 1 (m) (.fn fun j => [.cpx true (x j) (y j)]))]) 2 [false, true]) := Sx.eqn (q := ((True ∧ (decide ((65536 : Int) < (↑n : Int)) = false)) ∧ (decide ((65536 : Int) < (↑m : Int)) = true))) (by kernel_rfl) ⟨⟨trivial, c0⟩, c1⟩
theorem rwW_r2 (n m : Nat) (a b x y : Nat → Nat) (c0 : decide ((65536 : Int) < (↑n : Int)) = false) (c1 : decide ((65536 : Int) < (↑m : Int)) = false) (c2 : (!decide ((↑n : Int) = (↑m : Int))) = false) : Sx.PieceN 2 (Sx.Ex.ret) [(4, .int false .i64 0)] [] (piececallW Try.f53 ((Sx.bodyOf Try.f53)) (Sx.frameOf [Sx.slcV 0 n, Sx.slcV 1 m] 0 .e) (Sx.hpL [(0, .cells false 1 (n) (.fn fun j => [.cpx true (a j) (b j)])), (1, .cells false 1 (m) (.fn fun j => [.cpx true (x j) (y j)]))]) 2 [false, false, false]) := Sx.eqn (q := (((True ∧ (decide ((65536 : Int) < (↑n : Int)) = false)) ∧ (decide ((65536 : Int) < (↑m : Int)) = false)) ∧ ((!decide ((↑n : Int) = (↑m : Int))) = false))) (by kernel_rfl) ⟨⟨⟨trivial, c0⟩, c1⟩, c2⟩
theorem rwW_r3 (n m : Nat) (a b x y : Nat → Nat) (c0 : decide ((65536 : Int) < (↑n : Int)) = false) (c1 : decide ((65536 : Int) < (↑m : Int)) = false) (c2 : (!decide ((↑n : Int) = (↑m : Int))) = true) : Sx.PieceN 2 (Sx.Ex.ret) [(4, .int false .i64 4)] [] (piececallW Try.f53 ((Sx.bodyOf Try.f53)) (Sx.frameOf [Sx.slcV 0 n, Sx.slcV 1 m] 0 .e) (Sx.hpL [(0, .cells false 1 (n) (.fn fun j => [.cpx true (a j) (b j)])), (1, .cells false 1 (m) (.fn fun j => [.cpx true (x j) (y j)]))]) 2 [false, false, true]) := Sx.eqn (q := (((True ∧ (decide ((65536 : Int) < (↑n : Int)) = false)) ∧ (decide ((65536 : Int) < (↑m : Int)) = false)) ∧ ((!decide ((↑n : Int) = (↑m : Int))) = true))) (by kernel_rfl) ⟨⟨⟨trivial, c0⟩, c1⟩, c2⟩
theorem rwW (B : Nat) (hB : B ≤ 2) (n m : Nat) (a b x y : Nat → Nat) : Sx.GoesB Try.prog ((Sx.bodyOf Try.f53)) Try.f53.ntmps B 2 2 (Sx.frameOf [Sx.slcV 0 n, Sx.slcV 1 m] 0 .e) (Sx.hpL [(0, .cells false 1 (n) (.fn fun j => [.cpx true (a j) (b j)])), (1, .cells false 1 (m) (.fn fun j => [.cpx true (x j) (y j)]))]) fun e fr' H' => (cond (decide ((65536 : Int) < (↑n : Int))) (e = .ret ∧ fr' = Sx.frL [(4, .int false .i64 3)] ∧ H' = Sx.hpL []) (cond (decide ((65536 : Int) < (↑m : Int))) (e = .ret ∧ fr' = Sx.frL [(4, .int false .i64 3)] ∧ H' = Sx.hpL []) (cond (decide ((↑n : Int) = (↑m : Int))) (e = .ret ∧ fr' = Sx.frL [(4, .int false .i64 0)] ∧ H' = Sx.hpL []) (e = .ret ∧ fr' = Sx.frL [(4, .int false .i64 4)] ∧ H' = Sx.hpL [])))) := by
 cases t0 : decide ((65536 : Int) < (↑n : Int)) with
 | true =>
  exact (Sx.GoesB.runN callW_ok (callW_reg _) (Sx.LoopsIn.none _ _ _) (rwW_r0 n m a b x y t0) hB).mono fun e fr' H' h => by first | (simp only [t0, cond_true, cond_false]; exact h) | (simp only [t0, cond_true, cond_false] at h ⊢; exact h)
 | false =>
  cases t1 : decide ((65536 : Int) < (↑m : Int)) with
  | true =>
   exact (Sx.GoesB.runN callW_ok (callW_reg _) (Sx.LoopsIn.none _ _ _) (rwW_r1 n m a b x y t0 t1) hB).mono fun e fr' H' h => by first | (simp only [t0, t1, cond_true, cond_false]; exact h) | (simp only [t0, t1, cond_true, cond_false] at h ⊢; exact h)
  | false =>
   cases t2 : decide ((↑n : Int) = (↑m : Int)) with
   | true =>
    exact (Sx.GoesB.runN callW_ok (callW_reg _) (Sx.LoopsIn.none _ _ _) (rwW_r2 n m a b x y t0 t1 (by rw [t2]; rfl)) hB).mono fun e fr' H' h => by first | (simp only [t0, t1, t2, cond_true, cond_false]; exact h) | (simp only [t0, t1, t2, cond_true, cond_false] at h ⊢; exact h)
   | false =>
    exact (Sx.GoesB.runN callW_ok (callW_reg _) (Sx.LoopsIn.none _ _ _) (rwW_r3 n m a b x y t0 t1 (by rw [t2]; rfl)) hB).mono fun e fr' H' h => by first | (simp only [t0, t1, t2, cond_true, cond_false]; exact h) | (simp only [t0, t1, t2, cond_true, cond_false] at h ⊢; exact h)
theorem rw_goes (n m : Nat) (a b x y : Nat → Nat) :
  Sx.GoesB Try.prog (Sx.bodyOf Try.f53) Try.f53.ntmps 2 2 2 (Sx.frameOf [Sx.slcV 0 n, Sx.slcV 1 m] 0 .e) (Sx.hpL [(0, .cells false 1 (n) (.fn fun j => [.cpx true (a j) (b j)])), (1, .cells false 1 (m) (.fn fun j => [.cpx true (x j) (y j)]))]) fun e fr' H' => (e = .ret ∨ e = .normal) ∧ ∃ u, fr'.get 4 = some u ∧ Sx.AV.ge u (.int true .i64 (vmay n m)) := by
 refine (rwW 2 (by omega) n m a b x y).mono fun e fr' H' h => ?_
 unfold vmay
 refine Sx.cond_elim h (fun t1 h => ?_) (fun t1 h => ?_)
 ·obtain ⟨rfl, rfl, rfl⟩ := h
  exact ⟨.inl rfl, _, rfl, by rw [t1]; exact Sx.AV.ge.int _ _ _ _⟩
 refine Sx.cond_elim h (fun t2 h => ?_) (fun t2 h => ?_)
 ·obtain ⟨rfl, rfl, rfl⟩ := h
  exact ⟨.inl rfl, _, rfl, by rw [t1, t2]; exact Sx.AV.ge.int _ _ _ _⟩
 refine Sx.cond_elim h (fun t3 h => ?_) (fun t3 h => ?_)
 ·obtain ⟨rfl, rfl, rfl⟩ := h
  exact ⟨.inl rfl, _, rfl, by rw [t1, t2, t3]; exact Sx.AV.ge.int _ _ _ _⟩
 ·obtain ⟨rfl, rfl, rfl⟩ := h
  exact ⟨.inl rfl, _, rfl, by rw [t1, t2, t3]; exact Sx.AV.ge.int _ _ _ _⟩
noncomputable def rwrS : List Sx.AV → Sx.M Sx.AV
 | [x, y] => Sx.c2 x y fun n a b m a' b' => Sx.M.ret (.int true .i64 (vmay n m))
 | _ => Sx.M.no
theorem rwrS_ok : ∀ args v g g', rwrS args g = .done v g' → Sx.CallIs Try.prog 53 args v g g' := by
 intro args v g g' h
 unfold rwrS at h
 split at h
 ·exact Sx.c2_plain Try.func53 (by kernel_rfl) (by kernel_rfl) (pl := []) (pr := []) (fun u hu => by simp at hu) (K' := 2) (res := fun n a b m a' b' => .int true .i64 (vmay n m)) (fun n a b m a' b' => ⟨fun N => by simp [Sx.AV.low, Sx.lows], fun S => by simp [Sx.AV.inS, Sx.insS], fun σ => rfl⟩) (fun n a b m a' b' hn hm hw hw' => (rw_goes n m a b a' b').mono fun e fr' H' hp => by obtain ⟨e1, u, e2, e3⟩ := hp; exact ⟨e1, _, _, Sx.res1 (t := 4) (by kernel_rfl) e2, trivial, e3, Sx.news0⟩) _ _ _ _ _ h
 ·exact (Sx.no_done h).elim
theorem rwrS_tch : ∀ args, Sx.Tch (rwrS args) := by
 intro args
 unfold rwrS
 split
 ·exact Sx.Tch.c2 _ _ fun _ _ _ _ _ _ => Sx.Tch.ret _
 ·exact Sx.Tch.no
noncomputable def gamR : Sx.Known := Sx.kc 61 Sx.toBits (Sx.kc 47 Sx.ofBits (Sx.kc 53 rwrS (Sx.kn)))
theorem gamR_ok : Sx.KnownOk Try.prog gamR := Sx.kc_ok ((Sx.toBits_is Try.prog).callIs Try.func61 (by kernel_rfl) (by kernel_rfl) (by kernel_rfl) (by kernel_rfl)) (Sx.kc_ok ((Sx.ofBits_is Try.prog).callIs Try.func47 (by kernel_rfl) (by kernel_rfl) (by kernel_rfl) (by kernel_rfl)) (Sx.kc_ok rwrS_ok (Sx.kn_ok)))
theorem gamR_tch : Sx.KnownT gamR := Sx.kc_tch Sx.Tch.toBits (Sx.kc_tch Sx.Tch.ofBits (Sx.kc_tch rwrS_tch (Sx.kn_tch)))
noncomputable def callR : Sx.Calls' := Sx.runN Try.prog gamR (Sx.regionC Try.prog) 1000 50
theorem callR_ok : Sx.CallOk Try.prog callR := Sx.engineC gamR_ok gamR_tch (by kernel_rfl) (by kernel_rfl) 1000 50
theorem callR_reg (n : Nat) : Sx.RegionOk Try.prog (Sx.regionC Try.prog callR n) n := Sx.runN_regionC gamR_ok gamR_tch (by kernel_rfl) (by kernel_rfl) 1000 50 n
noncomputable abbrev piececallR (f : Func) (c : Code) (fr : Sx.Fr) (H : Sx.T Sx.ABk) (K : Nat) (path : List Bool) : Sx.Res (Sx.Ex × Sx.Fr) :=
 Sx.codeA Try.prog callR (Sx.regionC Try.prog callR f.ntmps) Sx.noLoops f.ntmps 1000 c fr ⟨H, K, [], path, True⟩

theorem axA_r0 (n m i s w : Nat) (a b x y : Nat → Nat) (q : Nat → List Sx.AV) : Sx.PieceN 3 (Sx.Ex.normal) [(0, .slc true false ⟨false, 0, 0, 0⟩ n), (1, .slc true false ⟨false, 1, 0, 0⟩ m), (2, .fn (Go.Fn.func (50 : Go.FuncId)) [] [Sx.AV.ptr ⟨false, 2, 0, 0⟩])] [(0, .cells false 1 n (.fn fun j => [Sx.AV.cpx true (a j) (b j)])), (1, .cells false 1 m (.fn fun j => [Sx.AV.cpx true (x j) (y j)])), (2, .cells false 1 1 (.fn fun x => [Sx.AV.cpx true s w]))] (piececallV Try.f49 (Sx.nav [0] (Sx.bodyOf Try.f49)) (Sx.frameOf [Sx.slcV 0 n, Sx.slcV 1 m, .fn (.func 50) [] [.ptr ⟨false, 2, 0, 0⟩]] 0 .e) (Sx.hpL [(0, .cells false 1 (n) (.fn fun j => [.cpx true (a j) (b j)])), (1, .cells false 1 (m) (.fn fun j => [.cpx true (x j) (y j)])), (2, .cells false 1 1 (.fn fun _ => [.cpx true s w]))]) 3 []) := Sx.eqn (q := True) (by kernel_rfl) trivial
theorem axA (B : Nat) (hB : B ≤ 3) (n m i s w : Nat) (a b x y : Nat → Nat) (q : Nat → List Sx.AV) : Sx.GoesB Try.prog (Sx.nav [0] (Sx.bodyOf Try.f49)) Try.f49.ntmps B 3 3 (Sx.frameOf [Sx.slcV 0 n, Sx.slcV 1 m, .fn (.func 50) [] [.ptr ⟨false, 2, 0, 0⟩]] 0 .e) (Sx.hpL [(0, .cells false 1 (n) (.fn fun j => [.cpx true (a j) (b j)])), (1, .cells false 1 (m) (.fn fun j => [.cpx true (x j) (y j)])), (2, .cells false 1 1 (.fn fun _ => [.cpx true s w]))]) fun e fr' H' => (e = .normal ∧ fr' = Sx.frL [(0, .slc true false ⟨false, 0, 0, 0⟩ n), (1, .slc true false ⟨false, 1, 0, 0⟩ m), (2, .fn (Go.Fn.func (50 : Go.FuncId)) [] [Sx.AV.ptr ⟨false, 2, 0, 0⟩])] ∧ H' = Sx.hpL [(0, .cells false 1 n (.fn fun j => [Sx.AV.cpx true (a j) (b j)])), (1, .cells false 1 m (.fn fun j => [Sx.AV.cpx true (x j) (y j)])), (2, .cells false 1 1 (.fn fun x => [Sx.AV.cpx true s w]))]) := by
 exact (Sx.GoesB.runN callV_ok (callV_reg _) (Sx.LoopsIn.none _ _ _) (axA_r0 n m i s w a b x y q) hB).mono fun e fr' H' h => h
theorem axC_r0 (n m i s w : Nat) (a b x y : Nat → Nat) (q : Nat → List Sx.AV) (c0 : (0 : Nat) + n ≤ n) (c1 : Nat.le (n * (16 : Nat)) (140737488355328 : Nat)) (c2 : ∀ (j : Nat), j < n → Sx.CRow [Sx.AV.cpx true (a ((0 : Nat) + j)) (b ((0 : Nat) + j))]) (c3 : ∀ (j : Nat), j < n → ∀ (u : Sx.AV), u ∈ [Sx.AV.cpx true (a ((0 : Nat) + j)) (b ((0 : Nat) + j))] → Sx.AV.low (0 : Nat) u = true) (c4 : (0 : Nat) + m ≤ m) (c5 : Nat.le (m * (16 : Nat)) (140737488355328 : Nat)) (c6 : ∀ (j : Nat), j < m → Sx.CRow [Sx.AV.cpx true (x ((0 : Nat) + j)) (y ((0 : Nat) + j))]) (c7 : ∀ (j : Nat), j < m → ∀ (u : Sx.AV), u ∈ [Sx.AV.cpx true (x ((0 : Nat) + j)) (y ((0 : Nat) + j))] → Sx.AV.low (0 : Nat) u = true) (c8 : (!decide (vmay n m = (0 : Int))) = false) : Sx.PieceN 3 (Sx.Ex.normal) [(0, .slc true false ⟨false, 0, 0, 0⟩ n), (1, .slc true false ⟨false, 1, 0, 0⟩ m), (2, .fn (Go.Fn.func (50 : Go.FuncId)) [] [Sx.AV.ptr ⟨false, 2, 0, 0⟩])] [(0, .cells false 1 n (.fn fun j => [Sx.AV.cpx true (a j) (b j)])), (1, .cells false 1 m (.fn fun j => [Sx.AV.cpx true (x j) (y j)])), (2, .cells false 1 1 (.fn fun x => [Sx.AV.cpx true s w]))] (piececallV Try.f49 (Sx.nav [1,0] (Sx.bodyOf Try.f49)) (Sx.frL [(0, Sx.slcV 0 n), (1, Sx.slcV 1 m), (2, .fn (.func 50) [] [.ptr ⟨false, 2, 0, 0⟩])]) (Sx.hpL [(0, .cells false 1 (n) (.fn fun j => [.cpx true (a j) (b j)])), (1, .cells false 1 (m) (.fn fun j => [.cpx true (x j) (y j)])), (2, .cells false 1 1 (.fn fun _ => [.cpx true s w]))]) 3 [false]) := Sx.eqn (q := (((((True ∧ ((0 : Nat) + n ≤ n)) ∧ (((Nat.le (n * (16 : Nat)) (140737488355328 : Nat)) ∧ (∀ (j : Nat), j < n → Sx.CRow [Sx.AV.cpx true (a ((0 : Nat) + j)) (b ((0 : Nat) + j))])) ∧ (∀ (j : Nat), j < n → ∀ (u : Sx.AV), u ∈ [Sx.AV.cpx true (a ((0 : Nat) + j)) (b ((0 : Nat) + j))] → Sx.AV.low (0 : Nat) u = true))) ∧ ((0 : Nat) + m ≤ m)) ∧ (((Nat.le (m * (16 : Nat)) (140737488355328 : Nat)) ∧ (∀ (j : Nat), j < m → Sx.CRow [Sx.AV.cpx true (x ((0 : Nat) + j)) (y ((0 : Nat) + j))])) ∧ (∀ (j : Nat), j < m → ∀ (u : Sx.AV), u ∈ [Sx.AV.cpx true (x ((0 : Nat) + j)) (y ((0 : Nat) + j))] → Sx.AV.low (0 : Nat) u = true))) ∧ ((!decide (vmay n m = (0 : Int))) = false))) (by kernel_rfl) ⟨⟨⟨⟨⟨trivial, c0⟩, ⟨⟨c1, c2⟩, c3⟩⟩, c4⟩, ⟨⟨c5, c6⟩, c7⟩⟩, c8⟩
theorem axC_r1 (n m i s w : Nat) (a b x y : Nat → Nat) (q : Nat → List Sx.AV) (c0 : (0 : Nat) + n ≤ n) (c1 : Nat.le (n * (16 : Nat)) (140737488355328 : Nat)) (c2 : ∀ (j : Nat), j < n → Sx.CRow [Sx.AV.cpx true (a ((0 : Nat) + j)) (b ((0 : Nat) + j))]) (c3 : ∀ (j : Nat), j < n → ∀ (u : Sx.AV), u ∈ [Sx.AV.cpx true (a ((0 : Nat) + j)) (b ((0 : Nat) + j))] → Sx.AV.low (0 : Nat) u = true) (c4 : (0 : Nat) + m ≤ m) (c5 : Nat.le (m * (16 : Nat)) (140737488355328 : Nat)) (c6 : ∀ (j : Nat), j < m → Sx.CRow [Sx.AV.cpx true (x ((0 : Nat) + j)) (y ((0 : Nat) + j))]) (c7 : ∀ (j : Nat), j < m → ∀ (u : Sx.AV), u ∈ [Sx.AV.cpx true (x ((0 : Nat) + j)) (y ((0 : Nat) + j))] → Sx.AV.low (0 : Nat) u = true) (c8 : (!decide (vmay n m = (0 : Int))) = true) : Sx.PieceN 3 (Sx.Ex.ret) [(0, .slc true false ⟨false, 0, 0, 0⟩ n), (1, .slc true false ⟨false, 1, 0, 0⟩ m), (2, .fn (Go.Fn.func (50 : Go.FuncId)) [] [Sx.AV.ptr ⟨false, 2, 0, 0⟩]), (6, .nils), (7, .int true .i64 (vmay n m))] [(0, .cells false 1 n (.fn fun j => [Sx.AV.cpx true (a j) (b j)])), (1, .cells false 1 m (.fn fun j => [Sx.AV.cpx true (x j) (y j)])), (2, .cells false 1 1 (.fn fun x => [Sx.AV.cpx true s w]))] (piececallV Try.f49 (Sx.nav [1,0] (Sx.bodyOf Try.f49)) (Sx.frL [(0, Sx.slcV 0 n), (1, Sx.slcV 1 m), (2, .fn (.func 50) [] [.ptr ⟨false, 2, 0, 0⟩])]) (Sx.hpL [(0, .cells false 1 (n) (.fn fun j => [.cpx true (a j) (b j)])), (1, .cells false 1 (m) (.fn fun j => [.cpx true (x j) (y j)])), (2, .cells false 1 1 (.fn fun _ => [.cpx true s w]))]) 3 [true]) := Sx.eqn (q := (((((True ∧ ((0 : Nat) + n ≤ n)) ∧ (((Nat.le (n * (16 : Nat)) (140737488355328 : Nat)) ∧ (∀ (j : Nat), j < n → Sx.CRow [Sx.AV.cpx true (a ((0 : Nat) + j)) (b ((0 : Nat) + j))])) ∧ (∀ (j : Nat), j < n → ∀ (u : Sx.AV), u ∈ [Sx.AV.cpx true (a ((0 : Nat) + j)) (b ((0 : Nat) + j))] → Sx.AV.low (0 : Nat) u = true))) ∧ ((0 : Nat) + m ≤ m)) ∧ (((Nat.le (m * (16 : Nat)) (140737488355328 : Nat)) ∧ (∀ (j : Nat), j < m → Sx.CRow [Sx.AV.cpx true (x ((0 : Nat) + j)) (y ((0 : Nat) + j))])) ∧ (∀ (j : Nat), j < m → ∀ (u : Sx.AV), u ∈ [Sx.AV.cpx true (x ((0 : Nat) + j)) (y ((0 : Nat) + j))] → Sx.AV.low (0 : Nat) u = true))) ∧ ((!decide (vmay n m = (0 : Int))) = true))) (by kernel_rfl) ⟨⟨⟨⟨⟨trivial, c0⟩, ⟨⟨c1, c2⟩, c3⟩⟩, c4⟩, ⟨⟨c5, c6⟩, c7⟩⟩, c8⟩
theorem axC (B : Nat) (hB : B ≤ 3) (n m i s w : Nat) (a b x y : Nat → Nat) (q : Nat → List Sx.AV) (x0 : (Nat.le (n * (16 : Nat)) (140737488355328 : Nat))) (x1 : (∀ (j : Nat), j < n → Sx.CRow [Sx.AV.cpx true (a ((0 : Nat) + j)) (b ((0 : Nat) + j))])) (x2 : (∀ (j : Nat), j < n → ∀ (u : Sx.AV), u ∈ [Sx.AV.cpx true (a ((0 : Nat) + j)) (b ((0 : Nat) + j))] → Sx.AV.low (0 : Nat) u = true)) (x3 : (Nat.le (m * (16 : Nat)) (140737488355328 : Nat))) (x4 : (∀ (j : Nat), j < m → Sx.CRow [Sx.AV.cpx true (x ((0 : Nat) + j)) (y ((0 : Nat) + j))])) (x5 : (∀ (j : Nat), j < m → ∀ (u : Sx.AV), u ∈ [Sx.AV.cpx true (x ((0 : Nat) + j)) (y ((0 : Nat) + j))] → Sx.AV.low (0 : Nat) u = true)) : Sx.GoesB Try.prog (Sx.nav [1,0] (Sx.bodyOf Try.f49)) Try.f49.ntmps B 3 3 (Sx.frL [(0, Sx.slcV 0 n), (1, Sx.slcV 1 m), (2, .fn (.func 50) [] [.ptr ⟨false, 2, 0, 0⟩])]) (Sx.hpL [(0, .cells false 1 (n) (.fn fun j => [.cpx true (a j) (b j)])), (1, .cells false 1 (m) (.fn fun j => [.cpx true (x j) (y j)])), (2, .cells false 1 1 (.fn fun _ => [.cpx true s w]))]) fun e fr' H' => (cond (decide (vmay n m = (0 : Int))) (e = .normal ∧ fr' = Sx.frL [(0, .slc true false ⟨false, 0, 0, 0⟩ n), (1, .slc true false ⟨false, 1, 0, 0⟩ m), (2, .fn (Go.Fn.func (50 : Go.FuncId)) [] [Sx.AV.ptr ⟨false, 2, 0, 0⟩])] ∧ H' = Sx.hpL [(0, .cells false 1 n (.fn fun j => [Sx.AV.cpx true (a j) (b j)])), (1, .cells false 1 m (.fn fun j => [Sx.AV.cpx true (x j) (y j)])), (2, .cells false 1 1 (.fn fun x => [Sx.AV.cpx true s w]))]) (e = .ret ∧ fr' = Sx.frL [(0, .slc true false ⟨false, 0, 0, 0⟩ n), (1, .slc true false ⟨false, 1, 0, 0⟩ m), (2, .fn (Go.Fn.func (50 : Go.FuncId)) [] [Sx.AV.ptr ⟨false, 2, 0, 0⟩]), (6, .nils), (7, .int true .i64 (vmay n m))] ∧ H' = Sx.hpL [(0, .cells false 1 n (.fn fun j => [Sx.AV.cpx true (a j) (b j)])), (1, .cells false 1 m (.fn fun j => [Sx.AV.cpx true (x j) (y j)])), (2, .cells false 1 1 (.fn fun x => [Sx.AV.cpx true s w]))])) := by
 cases t0 : decide (vmay n m = (0 : Int)) with
 | true =>
  exact (Sx.GoesB.runN callV_ok (callV_reg _) (Sx.LoopsIn.none _ _ _) (axC_r0 n m i s w a b x y q (by first | decide | ((try simp only [decide_eq_true_eq, decide_eq_false_iff_not] at t0); (try simp only [List.length_take, List.length_drop]); omega)) (x0) (x1) (x2) (by first | decide | ((try simp only [decide_eq_true_eq, decide_eq_false_iff_not] at t0); (try simp only [List.length_take, List.length_drop]); omega)) (x3) (x4) (x5) (by rw [t0]; rfl)) hB).mono fun e fr' H' h => by first | (simp only [t0, cond_true, cond_false]; exact h) | (simp only [t0, cond_true, cond_false] at h ⊢; exact h)
 | false =>
  exact (Sx.GoesB.runN callV_ok (callV_reg _) (Sx.LoopsIn.none _ _ _) (axC_r1 n m i s w a b x y q (by first | decide | ((try simp only [decide_eq_true_eq, decide_eq_false_iff_not] at t0); (try simp only [List.length_take, List.length_drop]); omega)) (x0) (x1) (x2) (by first | decide | ((try simp only [decide_eq_true_eq, decide_eq_false_iff_not] at t0); (try simp only [List.length_take, List.length_drop]); omega)) (x3) (x4) (x5) (by rw [t0]; rfl)) hB).mono fun e fr' H' h => by first | (simp only [t0, cond_true, cond_false]; exact h) | (simp only [t0, cond_true, cond_false] at h ⊢; exact h)
theorem axD_r0 (n m i s w : Nat) (a b x y : Nat → Nat) (q : Nat → List Sx.AV) (c0 : (0 : Int) ≤ (↑n : Int)) (c1 : (↑n : Int) ≤ (↑n : Int)) (c2 : (16 : Int) * (↑n : Int) ≤ (140737488355328 : Int)) (c3 : (↑n : Int) ≤ (9223372036854775807 : Int)) : Sx.PieceN 4 (Sx.Ex.normal) [(0, .slc true false ⟨false, 0, 0, 0⟩ n), (1, .slc true false ⟨false, 1, 0, 0⟩ n), (2, .fn (Go.Fn.func (50 : Go.FuncId)) [] [Sx.AV.ptr ⟨false, 2, 0, 0⟩]), (9, .slc true true ⟨false, 3, 0, 0⟩ n)] [(0, .cells false 1 n (.fn fun j => [Sx.AV.cpx true (a j) (b j)])), (1, .cells false 1 n (.fn fun j => [Sx.AV.cpx true (x j) (y j)])), (2, .cells false 1 1 (.fn fun x => [Sx.AV.cpx true s w])), (3, .cells true 1 n (.fn fun x => [Sx.AV.cpx false (0 : Nat) (0 : Nat)]))] (piececallV Try.f49 (Sx.nav [1,1,0] (Sx.bodyOf Try.f49)) (Sx.frL [(0, Sx.slcV 0 n), (1, Sx.slcV 1 n), (2, .fn (.func 50) [] [.ptr ⟨false, 2, 0, 0⟩])]) (Sx.hpL [(0, .cells false 1 (n) (.fn fun j => [.cpx true (a j) (b j)])), (1, .cells false 1 (n) (.fn fun j => [.cpx true (x j) (y j)])), (2, .cells false 1 1 (.fn fun _ => [.cpx true s w]))]) 3 []) := Sx.eqn (q := (True ∧ (((0 : Int) ≤ (↑n : Int)) ∧ (((↑n : Int) ≤ (↑n : Int)) ∧ (((16 : Int) * (↑n : Int) ≤ (140737488355328 : Int)) ∧ ((↑n : Int) ≤ (9223372036854775807 : Int))))))) (by kernel_rfl) ⟨trivial, ⟨c0, ⟨c1, ⟨c2, c3⟩⟩⟩⟩
theorem axD (B : Nat) (hB : B ≤ 3) (n m i s w : Nat) (a b x y : Nat → Nat) (q : Nat → List Sx.AV) (x0 : ((16 : Int) * (↑n : Int) ≤ (140737488355328 : Int))) (x1 : ((↑n : Int) ≤ (9223372036854775807 : Int))) : Sx.GoesB Try.prog (Sx.nav [1,1,0] (Sx.bodyOf Try.f49)) Try.f49.ntmps B 3 4 (Sx.frL [(0, Sx.slcV 0 n), (1, Sx.slcV 1 n), (2, .fn (.func 50) [] [.ptr ⟨false, 2, 0, 0⟩])]) (Sx.hpL [(0, .cells false 1 (n) (.fn fun j => [.cpx true (a j) (b j)])), (1, .cells false 1 (n) (.fn fun j => [.cpx true (x j) (y j)])), (2, .cells false 1 1 (.fn fun _ => [.cpx true s w]))]) fun e fr' H' => (e = .normal ∧ fr' = Sx.frL [(0, .slc true false ⟨false, 0, 0, 0⟩ n), (1, .slc true false ⟨false, 1, 0, 0⟩ n), (2, .fn (Go.Fn.func (50 : Go.FuncId)) [] [Sx.AV.ptr ⟨false, 2, 0, 0⟩]), (9, .slc true true ⟨false, 3, 0, 0⟩ n)] ∧ H' = Sx.hpL [(0, .cells false 1 n (.fn fun j => [Sx.AV.cpx true (a j) (b j)])), (1, .cells false 1 n (.fn fun j => [Sx.AV.cpx true (x j) (y j)])), (2, .cells false 1 1 (.fn fun x => [Sx.AV.cpx true s w])), (3, .cells true 1 n (.fn fun x => [Sx.AV.cpx false (0 : Nat) (0 : Nat)]))]) := by
 exact (Sx.GoesB.runN callV_ok (callV_reg _) (Sx.LoopsIn.none _ _ _) (axD_r0 n m i s w a b x y q (by first | decide | omega) (by first | decide | omega) (x0) (x1)) hB).mono fun e fr' H' h => h
theorem axE_r0 (n m i s w : Nat) (a b x y : Nat → Nat) (q : Nat → List Sx.AV) : Sx.PieceN 4 (Sx.Ex.normal) [(1, .slc true false ⟨false, 1, 0, 0⟩ n), (2, .fn (Go.Fn.func (50 : Go.FuncId)) [] [Sx.AV.ptr ⟨false, 2, 0, 0⟩]), (9, .slc true true ⟨false, 3, 0, 0⟩ n), (21, .slc true false ⟨false, 0, 0, 0⟩ n), (22, .int true .i64 (↑n : Int)), (23, .int false .i64 0)] [(0, .cells false 1 n (.fn fun j => [Sx.AV.cpx true (a j) (b j)])), (1, .cells false 1 n (.fn fun j => [Sx.AV.cpx true (x j) (y j)])), (2, .cells false 1 1 (.fn fun x => [Sx.AV.cpx true s w])), (3, .cells true 1 n (Sx.Cont.fn q))] (piececallV Try.f49 (Sx.nav [1,1,1,0,0] (Sx.bodyOf Try.f49)) (Sx.frL [(0, Sx.slcV 0 n), (1, Sx.slcV 1 n), (2, .fn (.func 50) [] [.ptr ⟨false, 2, 0, 0⟩]), (9, .slc true true ⟨false, 3, 0, 0⟩ (n))]) (Sx.hpL [(0, .cells false 1 (n) (.fn fun j => [.cpx true (a j) (b j)])), (1, .cells false 1 (n) (.fn fun j => [.cpx true (x j) (y j)])), (2, .cells false 1 1 (.fn fun _ => [.cpx true s w])), (3, .cells true 1 (n) (.fn q))]) 4 []) := Sx.eqn (q := True) (by kernel_rfl) trivial
theorem axE (B : Nat) (hB : B ≤ 4) (n m i s w : Nat) (a b x y : Nat → Nat) (q : Nat → List Sx.AV) : Sx.GoesB Try.prog (Sx.nav [1,1,1,0,0] (Sx.bodyOf Try.f49)) Try.f49.ntmps B 4 4 (Sx.frL [(0, Sx.slcV 0 n), (1, Sx.slcV 1 n), (2, .fn (.func 50) [] [.ptr ⟨false, 2, 0, 0⟩]), (9, .slc true true ⟨false, 3, 0, 0⟩ (n))]) (Sx.hpL [(0, .cells false 1 (n) (.fn fun j => [.cpx true (a j) (b j)])), (1, .cells false 1 (n) (.fn fun j => [.cpx true (x j) (y j)])), (2, .cells false 1 1 (.fn fun _ => [.cpx true s w])), (3, .cells true 1 (n) (.fn q))]) fun e fr' H' => (e = .normal ∧ fr' = Sx.frL [(1, .slc true false ⟨false, 1, 0, 0⟩ n), (2, .fn (Go.Fn.func (50 : Go.FuncId)) [] [Sx.AV.ptr ⟨false, 2, 0, 0⟩]), (9, .slc true true ⟨false, 3, 0, 0⟩ n), (21, .slc true false ⟨false, 0, 0, 0⟩ n), (22, .int true .i64 (↑n : Int)), (23, .int false .i64 0)] ∧ H' = Sx.hpL [(0, .cells false 1 n (.fn fun j => [Sx.AV.cpx true (a j) (b j)])), (1, .cells false 1 n (.fn fun j => [Sx.AV.cpx true (x j) (y j)])), (2, .cells false 1 1 (.fn fun x => [Sx.AV.cpx true s w])), (3, .cells true 1 n (Sx.Cont.fn q))]) := by
 exact (Sx.GoesB.runN callV_ok (callV_reg _) (Sx.LoopsIn.none _ _ _) (axE_r0 n m i s w a b x y q) hB).mono fun e fr' H' h => h
theorem axL_r0 (n m i s w : Nat) (a b x y : Nat → Nat) (q : Nat → List Sx.AV) (c0 : decide ((↑i : Int) < (↑n : Int)) = true) (c1 : (0 : Int) ≤ (↑i : Int)) (c2 : (↑i : Int) < (↑n : Int)) (c3 : (0 : Nat) + i < n) (c4 : (0 : Nat) + i < n) (c5 : (0 : Nat) + i < n) (c6 : (1 : Nat) ≤ (1 : Nat)) (c7 : (-9223372036854775808 : Int) ≤ (↑i : Int) + (1 : Int)) (c8 : (↑i : Int) + (1 : Int) ≤ (9223372036854775807 : Int)) : Sx.PieceN 4 (Sx.Ex.normal) [(1, .slc true false ⟨false, 1, 0, 0⟩ n), (2, .fn (Go.Fn.func (50 : Go.FuncId)) [] [Sx.AV.ptr ⟨false, 2, 0, 0⟩]), (9, .slc true true ⟨false, 3, 0, 0⟩ n), (21, .slc true false ⟨false, 0, 0, 0⟩ n), (22, .int true .i64 (↑n : Int)), (23, .int true .i64 ((↑i : Int) + (1 : Int)))] [(0, .cells false 1 n (.fn fun j => [Sx.AV.cpx true (a j) (b j)])), (1, .cells false 1 n (.fn fun j => [Sx.AV.cpx true (x j) (y j)])), (2, .cells false 1 1 (.fn fun x => [Sx.AV.cpx true s w])), (3, .cells true 1 n (.fn fun j => bif Nat.beq j ((0 : Nat) + i) then [Sx.AV.cpx true (Sx.fadd (x ((0 : Nat) + i)) (Sx.fsub (Sx.fmul s (a ((0 : Nat) + i))) (Sx.fmul w (b ((0 : Nat) + i))))) (Sx.fadd (y ((0 : Nat) + i)) (Sx.fadd (Sx.fmul s (b ((0 : Nat) + i))) (Sx.fmul w (a ((0 : Nat) + i)))))] else q j))] (piececallV Try.f49 (Sx.nav [1,1,1,0,1,0,0] (Sx.bodyOf Try.f49)) (Sx.frL [(1, Sx.slcV 1 n), (2, .fn (.func 50) [] [.ptr ⟨false, 2, 0, 0⟩]), (9, .slc true true ⟨false, 3, 0, 0⟩ (n)), (21, Sx.slcV 0 n), (22, .int true .i64 n), (23, .int true .i64 i)]) (Sx.hpL [(0, .cells false 1 (n) (.fn fun j => [.cpx true (a j) (b j)])), (1, .cells false 1 (n) (.fn fun j => [.cpx true (x j) (y j)])), (2, .cells false 1 1 (.fn fun _ => [.cpx true s w])), (3, .cells true 1 (n) (.fn q))]) 4 [true]) := Sx.eqn (q := (((((((((True ∧ (decide ((↑i : Int) < (↑n : Int)) = true)) ∧ (((0 : Int) ≤ (↑i : Int)) ∧ ((↑i : Int) < (↑n : Int)))) ∧ ((0 : Nat) + i < n)) ∧ (((0 : Int) ≤ (↑i : Int)) ∧ ((↑i : Int) < (↑n : Int)))) ∧ ((0 : Nat) + i < n)) ∧ (((0 : Int) ≤ (↑i : Int)) ∧ ((↑i : Int) < (↑n : Int)))) ∧ ((0 : Nat) + i < n)) ∧ ((1 : Nat) ≤ (1 : Nat))) ∧ (((-9223372036854775808 : Int) ≤ (↑i : Int) + (1 : Int)) ∧ ((↑i : Int) + (1 : Int) ≤ (9223372036854775807 : Int))))) (by kernel_rfl) ⟨⟨⟨⟨⟨⟨⟨⟨⟨trivial, c0⟩, ⟨c1, c2⟩⟩, c3⟩, ⟨c1, c2⟩⟩, c4⟩, ⟨c1, c2⟩⟩, c5⟩, c6⟩, ⟨c7, c8⟩⟩
theorem axL_r1 (n m i s w : Nat) (a b x y : Nat → Nat) (q : Nat → List Sx.AV) (c0 : decide ((↑i : Int) < (↑n : Int)) = false) : Sx.PieceN 4 (Sx.Ex.exit (0 : Nat)) [(1, .slc true false ⟨false, 1, 0, 0⟩ n), (2, .fn (Go.Fn.func (50 : Go.FuncId)) [] [Sx.AV.ptr ⟨false, 2, 0, 0⟩]), (9, .slc true true ⟨false, 3, 0, 0⟩ n), (21, .slc true false ⟨false, 0, 0, 0⟩ n), (22, .int true .i64 (↑n : Int)), (23, .int true .i64 (↑i : Int))] [(0, .cells false 1 n (.fn fun j => [Sx.AV.cpx true (a j) (b j)])), (1, .cells false 1 n (.fn fun j => [Sx.AV.cpx true (x j) (y j)])), (2, .cells false 1 1 (.fn fun x => [Sx.AV.cpx true s w])), (3, .cells true 1 n (Sx.Cont.fn q))] (piececallV Try.f49 (Sx.nav [1,1,1,0,1,0,0] (Sx.bodyOf Try.f49)) (Sx.frL [(1, Sx.slcV 1 n), (2, .fn (.func 50) [] [.ptr ⟨false, 2, 0, 0⟩]), (9, .slc true true ⟨false, 3, 0, 0⟩ (n)), (21, Sx.slcV 0 n), (22, .int true .i64 n), (23, .int true .i64 i)]) (Sx.hpL [(0, .cells false 1 (n) (.fn fun j => [.cpx true (a j) (b j)])), (1, .cells false 1 (n) (.fn fun j => [.cpx true (x j) (y j)])), (2, .cells false 1 1 (.fn fun _ => [.cpx true s w])), (3, .cells true 1 (n) (.fn q))]) 4 [false]) := Sx.eqn (q := (True ∧ (decide ((↑i : Int) < (↑n : Int)) = false))) (by kernel_rfl) ⟨trivial, c0⟩
theorem axL (B : Nat) (hB : B ≤ 4) (n m i s w : Nat) (a b x y : Nat → Nat) (q : Nat → List Sx.AV) (x0 : ((decide ((↑i : Int) < (↑n : Int))) = true → ((↑i : Int) + (1 : Int) ≤ (9223372036854775807 : Int)))) : Sx.GoesB Try.prog (Sx.nav [1,1,1,0,1,0,0] (Sx.bodyOf Try.f49)) Try.f49.ntmps B 4 4 (Sx.frL [(1, Sx.slcV 1 n), (2, .fn (.func 50) [] [.ptr ⟨false, 2, 0, 0⟩]), (9, .slc true true ⟨false, 3, 0, 0⟩ (n)), (21, Sx.slcV 0 n), (22, .int true .i64 n), (23, .int true .i64 i)]) (Sx.hpL [(0, .cells false 1 (n) (.fn fun j => [.cpx true (a j) (b j)])), (1, .cells false 1 (n) (.fn fun j => [.cpx true (x j) (y j)])), (2, .cells false 1 1 (.fn fun _ => [.cpx true s w])), (3, .cells true 1 (n) (.fn q))]) fun e fr' H' => (cond (decide ((↑i : Int) < (↑n : Int))) (e = .normal ∧ fr' = Sx.frL [(1, .slc true false ⟨false, 1, 0, 0⟩ n), (2, .fn (Go.Fn.func (50 : Go.FuncId)) [] [Sx.AV.ptr ⟨false, 2, 0, 0⟩]), (9, .slc true true ⟨false, 3, 0, 0⟩ n), (21, .slc true false ⟨false, 0, 0, 0⟩ n), (22, .int true .i64 (↑n : Int)), (23, .int true .i64 ((↑i : Int) + (1 : Int)))] ∧ H' = Sx.hpL [(0, .cells false 1 n (.fn fun j => [Sx.AV.cpx true (a j) (b j)])), (1, .cells false 1 n (.fn fun j => [Sx.AV.cpx true (x j) (y j)])), (2, .cells false 1 1 (.fn fun x => [Sx.AV.cpx true s w])), (3, .cells true 1 n (.fn fun j => bif Nat.beq j ((0 : Nat) + i) then [Sx.AV.cpx true (Sx.fadd (x ((0 : Nat) + i)) (Sx.fsub (Sx.fmul s (a ((0 : Nat) + i))) (Sx.fmul w (b ((0 : Nat) + i))))) (Sx.fadd (y ((0 : Nat) + i)) (Sx.fadd (Sx.fmul s (b ((0 : Nat) + i))) (Sx.fmul w (a ((0 : Nat) + i)))))] else q j))]) (e = .exit 0 ∧ fr' = Sx.frL [(1, .slc true false ⟨false, 1, 0, 0⟩ n), (2, .fn (Go.Fn.func (50 : Go.FuncId)) [] [Sx.AV.ptr ⟨false, 2, 0, 0⟩]), (9, .slc true true ⟨false, 3, 0, 0⟩ n), (21, .slc true false ⟨false, 0, 0, 0⟩ n), (22, .int true .i64 (↑n : Int)), (23, .int true .i64 (↑i : Int))] ∧ H' = Sx.hpL [(0, .cells false 1 n (.fn fun j => [Sx.AV.cpx true (a j) (b j)])), (1, .cells false 1 n (.fn fun j => [Sx.AV.cpx true (x j) (y j)])), (2, .cells false 1 1 (.fn fun x => [Sx.AV.cpx true s w])), (3, .cells true 1 n (Sx.Cont.fn q))])) := by
 cases t0 : decide ((↑i : Int) < (↑n : Int)) with
 | true =>
  exact (Sx.GoesB.runN callV_ok (callV_reg _) (Sx.LoopsIn.none _ _ _) (axL_r0 n m i s w a b x y q t0 (by first | decide | ((try simp only [decide_eq_true_eq, decide_eq_false_iff_not] at t0); (try simp only [List.length_take, List.length_drop]); omega)) (by first | decide | ((try simp only [decide_eq_true_eq, decide_eq_false_iff_not] at t0); (try simp only [List.length_take, List.length_drop]); omega)) (by first | decide | ((try simp only [decide_eq_true_eq, decide_eq_false_iff_not] at t0); (try simp only [List.length_take, List.length_drop]); omega)) (by first | decide | ((try simp only [decide_eq_true_eq, decide_eq_false_iff_not] at t0); (try simp only [List.length_take, List.length_drop]); omega)) (by first | decide | ((try simp only [decide_eq_true_eq, decide_eq_false_iff_not] at t0); (try simp only [List.length_take, List.length_drop]); omega)) (by first | decide | ((try simp only [decide_eq_true_eq, decide_eq_false_iff_not] at t0); (try simp only [List.length_take, List.length_drop]); omega)) (by first | decide | ((try simp only [decide_eq_true_eq, decide_eq_false_iff_not] at t0); (try simp only [List.length_take, List.length_drop]); omega)) (x0 t0)) hB).mono fun e fr' H' h => by first | (simp only [t0, cond_true, cond_false]; exact h) | (simp only [t0, cond_true, cond_false] at h ⊢; exact h)
 | false =>
  exact (Sx.GoesB.runN callV_ok (callV_reg _) (Sx.LoopsIn.none _ _ _) (axL_r1 n m i s w a b x y q t0) hB).mono fun e fr' H' h => by first | (simp only [t0, cond_true, cond_false]; exact h) | (simp only [t0, cond_true, cond_false] at h ⊢; exact h)
theorem axZ_r0 (n m i s w : Nat) (a b x y : Nat → Nat) (q : Nat → List Sx.AV) : Sx.PieceN 4 (Sx.Ex.ret) [(6, .slc true true ⟨false, 3, 0, 0⟩ n), (7, .int false .i64 0)] [(3, .cells true 1 n (Sx.Cont.fn q))] (piececallV Try.f49 (Sx.nav [1,1,1,1] (Sx.bodyOf Try.f49)) (Sx.frL [(9, .slc true true ⟨false, 3, 0, 0⟩ (n))]) (Sx.hpL [(3, .cells true 1 (n) (.fn q))]) 4 []) := Sx.eqn (q := True) (by kernel_rfl) trivial
theorem axZ (B : Nat) (hB : B ≤ 4) (n m i s w : Nat) (a b x y : Nat → Nat) (q : Nat → List Sx.AV) : Sx.GoesB Try.prog (Sx.nav [1,1,1,1] (Sx.bodyOf Try.f49)) Try.f49.ntmps B 4 4 (Sx.frL [(9, .slc true true ⟨false, 3, 0, 0⟩ (n))]) (Sx.hpL [(3, .cells true 1 (n) (.fn q))]) fun e fr' H' => (e = .ret ∧ fr' = Sx.frL [(6, .slc true true ⟨false, 3, 0, 0⟩ n), (7, .int false .i64 0)] ∧ H' = Sx.hpL [(3, .cells true 1 n (Sx.Cont.fn q))]) := by
 exact (Sx.GoesB.runN callV_ok (callV_reg _) (Sx.LoopsIn.none _ _ _) (axZ_r0 n m i s w a b x y q) hB).mono fun e fr' H' h => h
theorem raA_r0 (n m i s w : Nat) (k : Int) (a b x y : Nat → Nat) (q : Nat → List Sx.AV) : Sx.PieceN 2 (Sx.Ex.normal) [(0, .cpx true s w), (1, .slc true false ⟨false, 0, 0, 0⟩ n), (2, .slc true false ⟨false, 1, 0, 0⟩ m)] [(0, .cells false 1 n (.fn fun j => [Sx.AV.cpx true (a j) (b j)])), (1, .cells false 1 m (.fn fun j => [Sx.AV.cpx true (x j) (y j)]))] (piececallR Try.f14 (Sx.nav [0] (Sx.bodyOf Try.f14)) (Sx.frameOf [.cpx true s w, Sx.slcV 0 n, Sx.slcV 1 m] 0 .e) (Sx.hpL [(0, .cells false 1 (n) (.fn fun j => [.cpx true (a j) (b j)])), (1, .cells false 1 (m) (.fn fun j => [.cpx true (x j) (y j)]))]) 2 []) := Sx.eqn (q := True) (by kernel_rfl) trivial
theorem raA (B : Nat) (hB : B ≤ 2) (n m i s w : Nat) (k : Int) (a b x y : Nat → Nat) (q : Nat → List Sx.AV) : Sx.GoesB Try.prog (Sx.nav [0] (Sx.bodyOf Try.f14)) Try.f14.ntmps B 2 2 (Sx.frameOf [.cpx true s w, Sx.slcV 0 n, Sx.slcV 1 m] 0 .e) (Sx.hpL [(0, .cells false 1 (n) (.fn fun j => [.cpx true (a j) (b j)])), (1, .cells false 1 (m) (.fn fun j => [.cpx true (x j) (y j)]))]) fun e fr' H' => (e = .normal ∧ fr' = Sx.frL [(0, .cpx true s w), (1, .slc true false ⟨false, 0, 0, 0⟩ n), (2, .slc true false ⟨false, 1, 0, 0⟩ m)] ∧ H' = Sx.hpL [(0, .cells false 1 n (.fn fun j => [Sx.AV.cpx true (a j) (b j)])), (1, .cells false 1 m (.fn fun j => [Sx.AV.cpx true (x j) (y j)]))]) := by
 exact (Sx.GoesB.runN callR_ok (callR_reg _) (Sx.LoopsIn.none _ _ _) (raA_r0 n m i s w k a b x y q) hB).mono fun e fr' H' h => h
theorem raB_r0 (n m i s w : Nat) (k : Int) (a b x y : Nat → Nat) (q : Nat → List Sx.AV) (c0 : (0 : Nat) + n ≤ n) (c1 : Nat.le (n * (16 : Nat)) (140737488355328 : Nat)) (c2 : ∀ (j : Nat), j < n → Sx.CRow [Sx.AV.cpx true (a ((0 : Nat) + j)) (b ((0 : Nat) + j))]) (c3 : ∀ (j : Nat), j < n → ∀ (u : Sx.AV), u ∈ [Sx.AV.cpx true (a ((0 : Nat) + j)) (b ((0 : Nat) + j))] → Sx.AV.low (0 : Nat) u = true) (c4 : (0 : Nat) + m ≤ m) (c5 : Nat.le (m * (16 : Nat)) (140737488355328 : Nat)) (c6 : ∀ (j : Nat), j < m → Sx.CRow [Sx.AV.cpx true (x ((0 : Nat) + j)) (y ((0 : Nat) + j))]) (c7 : ∀ (j : Nat), j < m → ∀ (u : Sx.AV), u ∈ [Sx.AV.cpx true (x ((0 : Nat) + j)) (y ((0 : Nat) + j))] → Sx.AV.low (0 : Nat) u = true) : Sx.PieceN 2 (Sx.Ex.normal) [(0, .cpx true s w), (1, .slc true false ⟨false, 0, 0, 0⟩ n), (2, .slc true false ⟨false, 1, 0, 0⟩ m), (8, .int true .i64 (vmay n m))] [(0, .cells false 1 n (.fn fun j => [Sx.AV.cpx true (a j) (b j)])), (1, .cells false 1 m (.fn fun j => [Sx.AV.cpx true (x j) (y j)]))] (piececallR Try.f14 (Sx.nav [1,0] (Sx.bodyOf Try.f14)) (Sx.frL [(0, .cpx true s w), (1, Sx.slcV 0 n), (2, Sx.slcV 1 m)]) (Sx.hpL [(0, .cells false 1 (n) (.fn fun j => [.cpx true (a j) (b j)])), (1, .cells false 1 (m) (.fn fun j => [.cpx true (x j) (y j)]))]) 2 []) := Sx.eqn (q := ((((True ∧ ((0 : Nat) + n ≤ n)) ∧ (((Nat.le (n * (16 : Nat)) (140737488355328 : Nat)) ∧ (∀ (j : Nat), j < n → Sx.CRow [Sx.AV.cpx true (a ((0 : Nat) + j)) (b ((0 : Nat) + j))])) ∧ (∀ (j : Nat), j < n → ∀ (u : Sx.AV), u ∈ [Sx.AV.cpx true (a ((0 : Nat) + j)) (b ((0 : Nat) + j))] → Sx.AV.low (0 : Nat) u = true))) ∧ ((0 : Nat) + m ≤ m)) ∧ (((Nat.le (m * (16 : Nat)) (140737488355328 : Nat)) ∧ (∀ (j : Nat), j < m → Sx.CRow [Sx.AV.cpx true (x ((0 : Nat) + j)) (y ((0 : Nat) + j))])) ∧ (∀ (j : Nat), j < m → ∀ (u : Sx.AV), u ∈ [Sx.AV.cpx true (x ((0 : Nat) + j)) (y ((0 : Nat) + j))] → Sx.AV.low (0 : Nat) u = true)))) (by kernel_rfl) ⟨⟨⟨⟨trivial, c0⟩, ⟨⟨c1, c2⟩, c3⟩⟩, c4⟩, ⟨⟨c5, c6⟩, c7⟩⟩
theorem raB (B : Nat) (hB : B ≤ 2) (n m i s w : Nat) (k : Int) (a b x y : Nat → Nat) (q : Nat → List Sx.AV) (x0 : (Nat.le (n * (16 : Nat)) (140737488355328 : Nat))) (x1 : (∀ (j : Nat), j < n → Sx.CRow [Sx.AV.cpx true (a ((0 : Nat) + j)) (b ((0 : Nat) + j))])) (x2 : (∀ (j : Nat), j < n → ∀ (u : Sx.AV), u ∈ [Sx.AV.cpx true (a ((0 : Nat) + j)) (b ((0 : Nat) + j))] → Sx.AV.low (0 : Nat) u = true)) (x3 : (Nat.le (m * (16 : Nat)) (140737488355328 : Nat))) (x4 : (∀ (j : Nat), j < m → Sx.CRow [Sx.AV.cpx true (x ((0 : Nat) + j)) (y ((0 : Nat) + j))])) (x5 : (∀ (j : Nat), j < m → ∀ (u : Sx.AV), u ∈ [Sx.AV.cpx true (x ((0 : Nat) + j)) (y ((0 : Nat) + j))] → Sx.AV.low (0 : Nat) u = true)) : Sx.GoesB Try.prog (Sx.nav [1,0] (Sx.bodyOf Try.f14)) Try.f14.ntmps B 2 2 (Sx.frL [(0, .cpx true s w), (1, Sx.slcV 0 n), (2, Sx.slcV 1 m)]) (Sx.hpL [(0, .cells false 1 (n) (.fn fun j => [.cpx true (a j) (b j)])), (1, .cells false 1 (m) (.fn fun j => [.cpx true (x j) (y j)]))]) fun e fr' H' => (e = .normal ∧ fr' = Sx.frL [(0, .cpx true s w), (1, .slc true false ⟨false, 0, 0, 0⟩ n), (2, .slc true false ⟨false, 1, 0, 0⟩ m), (8, .int true .i64 (vmay n m))] ∧ H' = Sx.hpL [(0, .cells false 1 n (.fn fun j => [Sx.AV.cpx true (a j) (b j)])), (1, .cells false 1 m (.fn fun j => [Sx.AV.cpx true (x j) (y j)]))]) := by
 exact (Sx.GoesB.runN callR_ok (callR_reg _) (Sx.LoopsIn.none _ _ _) (raB_r0 n m i s w k a b x y q (by first | decide | omega) (x0) (x1) (x2) (by first | decide | omega) (x3) (x4) (x5)) hB).mono fun e fr' H' h => h
theorem raC_r0 (n m i s w : Nat) (k : Int) (a b x y : Nat → Nat) (q : Nat → List Sx.AV) : Sx.PieceN 2 (Sx.Ex.normal) [(0, .cpx true s w), (1, .slc true false ⟨false, 0, 0, 0⟩ n), (2, .slc true false ⟨false, 1, 0, 0⟩ m), (8, .int true .i64 k), (9, .nils)] [(0, .cells false 1 n (.fn fun j => [Sx.AV.cpx true (a j) (b j)])), (1, .cells false 1 m (.fn fun j => [Sx.AV.cpx true (x j) (y j)]))] (piececallR Try.f14 (Sx.nav [1,1,0] (Sx.bodyOf Try.f14)) (Sx.frL [(0, .cpx true s w), (1, Sx.slcV 0 n), (2, Sx.slcV 1 m), (8, .int true .i64 k)]) (Sx.hpL [(0, .cells false 1 (n) (.fn fun j => [.cpx true (a j) (b j)])), (1, .cells false 1 (m) (.fn fun j => [.cpx true (x j) (y j)]))]) 2 []) := Sx.eqn (q := True) (by kernel_rfl) trivial
theorem raC (B : Nat) (hB : B ≤ 2) (n m i s w : Nat) (k : Int) (a b x y : Nat → Nat) (q : Nat → List Sx.AV) : Sx.GoesB Try.prog (Sx.nav [1,1,0] (Sx.bodyOf Try.f14)) Try.f14.ntmps B 2 2 (Sx.frL [(0, .cpx true s w), (1, Sx.slcV 0 n), (2, Sx.slcV 1 m), (8, .int true .i64 k)]) (Sx.hpL [(0, .cells false 1 (n) (.fn fun j => [.cpx true (a j) (b j)])), (1, .cells false 1 (m) (.fn fun j => [.cpx true (x j) (y j)]))]) fun e fr' H' => (e = .normal ∧ fr' = Sx.frL [(0, .cpx true s w), (1, .slc true false ⟨false, 0, 0, 0⟩ n), (2, .slc true false ⟨false, 1, 0, 0⟩ m), (8, .int true .i64 k), (9, .nils)] ∧ H' = Sx.hpL [(0, .cells false 1 n (.fn fun j => [Sx.AV.cpx true (a j) (b j)])), (1, .cells false 1 m (.fn fun j => [Sx.AV.cpx true (x j) (y j)]))]) := by
 exact (Sx.GoesB.runN callR_ok (callR_reg _) (Sx.LoopsIn.none _ _ _) (raC_r0 n m i s w k a b x y q) hB).mono fun e fr' H' h => h
theorem raD_r0 (n m i s w : Nat) (k : Int) (a b x y : Nat → Nat) (q : Nat → List Sx.AV) : Sx.PieceN 3 (Sx.Ex.normal) [(0, .cpx true s w), (1, .slc true false ⟨false, 0, 0, 0⟩ n), (2, .slc true false ⟨false, 1, 0, 0⟩ n), (8, .int true .i64 0), (9, .slc true true ⟨false, 2, 0, 0⟩ i), (10, .int false .i64 0)] [(0, .cells false 1 n (.fn fun j => [Sx.AV.cpx true (a j) (b j)])), (1, .cells false 1 n (.fn fun j => [Sx.AV.cpx true (x j) (y j)])), (2, .cells true 1 i (Sx.Cont.fn q))] (piececallR Try.f14 (Sx.nav [1,1,1,0,0] (Sx.bodyOf Try.f14)) (Sx.frL [(0, .cpx true s w), (1, Sx.slcV 0 n), (2, Sx.slcV 1 n), (8, .int true .i64 0), (9, .slc true true ⟨false, 2, 0, 0⟩ (i))]) (Sx.hpL [(0, .cells false 1 (n) (.fn fun j => [.cpx true (a j) (b j)])), (1, .cells false 1 (n) (.fn fun j => [.cpx true (x j) (y j)])), (2, .cells true 1 (i) (.fn q))]) 3 []) := Sx.eqn (q := True) (by kernel_rfl) trivial
theorem raD (B : Nat) (hB : B ≤ 3) (n m i s w : Nat) (k : Int) (a b x y : Nat → Nat) (q : Nat → List Sx.AV) : Sx.GoesB Try.prog (Sx.nav [1,1,1,0,0] (Sx.bodyOf Try.f14)) Try.f14.ntmps B 3 3 (Sx.frL [(0, .cpx true s w), (1, Sx.slcV 0 n), (2, Sx.slcV 1 n), (8, .int true .i64 0), (9, .slc true true ⟨false, 2, 0, 0⟩ (i))]) (Sx.hpL [(0, .cells false 1 (n) (.fn fun j => [.cpx true (a j) (b j)])), (1, .cells false 1 (n) (.fn fun j => [.cpx true (x j) (y j)])), (2, .cells true 1 (i) (.fn q))]) fun e fr' H' => (e = .normal ∧ fr' = Sx.frL [(0, .cpx true s w), (1, .slc true false ⟨false, 0, 0, 0⟩ n), (2, .slc true false ⟨false, 1, 0, 0⟩ n), (8, .int true .i64 0), (9, .slc true true ⟨false, 2, 0, 0⟩ i), (10, .int false .i64 0)] ∧ H' = Sx.hpL [(0, .cells false 1 n (.fn fun j => [Sx.AV.cpx true (a j) (b j)])), (1, .cells false 1 n (.fn fun j => [Sx.AV.cpx true (x j) (y j)])), (2, .cells true 1 i (Sx.Cont.fn q))]) := by
 exact (Sx.GoesB.runN callR_ok (callR_reg _) (Sx.LoopsIn.none _ _ _) (raD_r0 n m i s w k a b x y q) hB).mono fun e fr' H' h => h
theorem raL_r0 (n m i s w : Nat) (k : Int) (a b x y : Nat → Nat) (q : Nat → List Sx.AV) (c0 : true = true) (c1 : decide ((↑i : Int) < (↑n : Int)) = true) (c2 : (0 : Int) ≤ (↑i : Int)) (c3 : (↑i : Int) < (↑n : Int)) (c4 : (0 : Nat) + i < n) (c5 : (0 : Nat) + i < n) (c6 : i ≤ i) (c7 : (i + (1 : Nat)) * (16 : Nat) ≤ (140737488355328 : Nat)) (c8 : i + (1 : Nat) ≤ (9223372036854775807 : Nat)) (c9 : (-9223372036854775808 : Int) ≤ (↑i : Int) + (1 : Int)) (c10 : (↑i : Int) + (1 : Int) ≤ (9223372036854775807 : Int)) : Sx.PieceN 5 (Sx.Ex.normal) [(0, .cpx true s w), (1, .slc true false ⟨false, 0, 0, 0⟩ n), (2, .slc true false ⟨false, 1, 0, 0⟩ n), (8, .int true .i64 0), (9, .slc true true ⟨false, 4, 0, 0⟩ (i + (1 : Nat))), (10, .int true .i64 ((↑i : Int) + (1 : Int)))] [(0, .cells false 1 n (.fn fun j => [Sx.AV.cpx true (a j) (b j)])), (1, .cells false 1 n (.fn fun j => [Sx.AV.cpx true (x j) (y j)])), (4, .cells true 1 (i + (1 : Nat)) (.fn fun j => bif decide (j < i) then q j else [Sx.AV.cpx true (Sx.fadd (x ((0 : Nat) + i)) (Sx.fsub (Sx.fmul s (a ((0 : Nat) + i))) (Sx.fmul w (b ((0 : Nat) + i))))) (Sx.fadd (y ((0 : Nat) + i)) (Sx.fadd (Sx.fmul s (b ((0 : Nat) + i))) (Sx.fmul w (a ((0 : Nat) + i)))))]))] (piececallR Try.f14 (Sx.nav [1,1,1,0,1,0,0] (Sx.bodyOf Try.f14)) (Sx.frL [(0, .cpx true s w), (1, Sx.slcV 0 n), (2, Sx.slcV 1 n), (8, .int true .i64 0), (9, .slc true true ⟨false, 2, 0, 0⟩ (i)), (10, .int true .i64 i)]) (Sx.hpL [(0, .cells false 1 (n) (.fn fun j => [.cpx true (a j) (b j)])), (1, .cells false 1 (n) (.fn fun j => [.cpx true (x j) (y j)])), (2, .cells true 1 (i) (.fn q))]) 3 [true, true]) := Sx.eqn (q := ((((((((True ∧ (true = true)) ∧ (decide ((↑i : Int) < (↑n : Int)) = true)) ∧ (((0 : Int) ≤ (↑i : Int)) ∧ ((↑i : Int) < (↑n : Int)))) ∧ ((0 : Nat) + i < n)) ∧ (((0 : Int) ≤ (↑i : Int)) ∧ ((↑i : Int) < (↑n : Int)))) ∧ ((0 : Nat) + i < n)) ∧ ((i ≤ i) ∧ (((i + (1 : Nat)) * (16 : Nat) ≤ (140737488355328 : Nat)) ∧ (i + (1 : Nat) ≤ (9223372036854775807 : Nat))))) ∧ (((-9223372036854775808 : Int) ≤ (↑i : Int) + (1 : Int)) ∧ ((↑i : Int) + (1 : Int) ≤ (9223372036854775807 : Int))))) (by kernel_rfl) ⟨⟨⟨⟨⟨⟨⟨⟨trivial, c0⟩, c1⟩, ⟨c2, c3⟩⟩, c4⟩, ⟨c2, c3⟩⟩, c5⟩, ⟨c6, ⟨c7, c8⟩⟩⟩, ⟨c9, c10⟩⟩
theorem raL_r1 (n m i s w : Nat) (k : Int) (a b x y : Nat → Nat) (q : Nat → List Sx.AV) (c0 : true = true) (c1 : decide ((↑i : Int) < (↑n : Int)) = false) : Sx.PieceN 5 (Sx.Ex.exit (0 : Nat)) [(0, .cpx true s w), (1, .slc true false ⟨false, 0, 0, 0⟩ n), (2, .slc true false ⟨false, 1, 0, 0⟩ n), (8, .int true .i64 0), (9, .slc true true ⟨false, 2, 0, 0⟩ i), (10, .int true .i64 (↑i : Int))] [(0, .cells false 1 n (.fn fun j => [Sx.AV.cpx true (a j) (b j)])), (1, .cells false 1 n (.fn fun j => [Sx.AV.cpx true (x j) (y j)])), (2, .cells true 1 i (Sx.Cont.fn q))] (piececallR Try.f14 (Sx.nav [1,1,1,0,1,0,0] (Sx.bodyOf Try.f14)) (Sx.frL [(0, .cpx true s w), (1, Sx.slcV 0 n), (2, Sx.slcV 1 n), (8, .int true .i64 0), (9, .slc true true ⟨false, 2, 0, 0⟩ (i)), (10, .int true .i64 i)]) (Sx.hpL [(0, .cells false 1 (n) (.fn fun j => [.cpx true (a j) (b j)])), (1, .cells false 1 (n) (.fn fun j => [.cpx true (x j) (y j)])), (2, .cells true 1 (i) (.fn q))]) 3 [true, false]) := Sx.eqn (q := ((True ∧ (true = true)) ∧ (decide ((↑i : Int) < (↑n : Int)) = false))) (by kernel_rfl) ⟨⟨trivial, c0⟩, c1⟩
theorem raL (B : Nat) (hB : B ≤ 3) (n m i s w : Nat) (k : Int) (a b x y : Nat → Nat) (q : Nat → List Sx.AV) (x0 : ((decide ((↑i : Int) < (↑n : Int))) = true → ((i + (1 : Nat)) * (16 : Nat) ≤ (140737488355328 : Nat)))) (x1 : ((decide ((↑i : Int) < (↑n : Int))) = true → (i + (1 : Nat) ≤ (9223372036854775807 : Nat)))) (x2 : ((decide ((↑i : Int) < (↑n : Int))) = true → ((↑i : Int) + (1 : Int) ≤ (9223372036854775807 : Int)))) : Sx.GoesB Try.prog (Sx.nav [1,1,1,0,1,0,0] (Sx.bodyOf Try.f14)) Try.f14.ntmps B 3 5 (Sx.frL [(0, .cpx true s w), (1, Sx.slcV 0 n), (2, Sx.slcV 1 n), (8, .int true .i64 0), (9, .slc true true ⟨false, 2, 0, 0⟩ (i)), (10, .int true .i64 i)]) (Sx.hpL [(0, .cells false 1 (n) (.fn fun j => [.cpx true (a j) (b j)])), (1, .cells false 1 (n) (.fn fun j => [.cpx true (x j) (y j)])), (2, .cells true 1 (i) (.fn q))]) fun e fr' H' => (cond (decide ((↑i : Int) < (↑n : Int))) (e = .normal ∧ fr' = Sx.frL [(0, .cpx true s w), (1, .slc true false ⟨false, 0, 0, 0⟩ n), (2, .slc true false ⟨false, 1, 0, 0⟩ n), (8, .int true .i64 0), (9, .slc true true ⟨false, 4, 0, 0⟩ (i + (1 : Nat))), (10, .int true .i64 ((↑i : Int) + (1 : Int)))] ∧ H' = Sx.hpL [(0, .cells false 1 n (.fn fun j => [Sx.AV.cpx true (a j) (b j)])), (1, .cells false 1 n (.fn fun j => [Sx.AV.cpx true (x j) (y j)])), (4, .cells true 1 (i + (1 : Nat)) (.fn fun j => bif decide (j < i) then q j else [Sx.AV.cpx true (Sx.fadd (x ((0 : Nat) + i)) (Sx.fsub (Sx.fmul s (a ((0 : Nat) + i))) (Sx.fmul w (b ((0 : Nat) + i))))) (Sx.fadd (y ((0 : Nat) + i)) (Sx.fadd (Sx.fmul s (b ((0 : Nat) + i))) (Sx.fmul w (a ((0 : Nat) + i)))))]))]) (e = .exit 0 ∧ fr' = Sx.frL [(0, .cpx true s w), (1, .slc true false ⟨false, 0, 0, 0⟩ n), (2, .slc true false ⟨false, 1, 0, 0⟩ n), (8, .int true .i64 0), (9, .slc true true ⟨false, 2, 0, 0⟩ i), (10, .int true .i64 (↑i : Int))] ∧ H' = Sx.hpL [(0, .cells false 1 n (.fn fun j => [Sx.AV.cpx true (a j) (b j)])), (1, .cells false 1 n (.fn fun j => [Sx.AV.cpx true (x j) (y j)])), (2, .cells true 1 i (Sx.Cont.fn q))])) := by
 cases t0 : decide ((↑i : Int) < (↑n : Int)) with
 | true =>
  exact (Sx.GoesB.runN callR_ok (callR_reg _) (Sx.LoopsIn.none _ _ _) (raL_r0 n m i s w k a b x y q rfl t0 (by first | decide | ((try simp only [decide_eq_true_eq, decide_eq_false_iff_not] at t0); (try simp only [List.length_take, List.length_drop]); omega)) (by first | decide | ((try simp only [decide_eq_true_eq, decide_eq_false_iff_not] at t0); (try simp only [List.length_take, List.length_drop]); omega)) (by first | decide | ((try simp only [decide_eq_true_eq, decide_eq_false_iff_not] at t0); (try simp only [List.length_take, List.length_drop]); omega)) (by first | decide | ((try simp only [decide_eq_true_eq, decide_eq_false_iff_not] at t0); (try simp only [List.length_take, List.length_drop]); omega)) (by first | decide | ((try simp only [decide_eq_true_eq, decide_eq_false_iff_not] at t0); (try simp only [List.length_take, List.length_drop]); omega)) (x0 t0) (x1 t0) (by first | decide | ((try simp only [decide_eq_true_eq, decide_eq_false_iff_not] at t0); (try simp only [List.length_take, List.length_drop]); omega)) (x2 t0)) hB).mono fun e fr' H' h => by first | (simp only [t0, cond_true, cond_false]; exact h) | (simp only [t0, cond_true, cond_false] at h ⊢; exact h)
 | false =>
  exact (Sx.GoesB.runN callR_ok (callR_reg _) (Sx.LoopsIn.none _ _ _) (raL_r1 n m i s w k a b x y q rfl t0) hB).mono fun e fr' H' h => by first | (simp only [t0, cond_true, cond_false]; exact h) | (simp only [t0, cond_true, cond_false] at h ⊢; exact h)
theorem raZ_r0 (n m i s w : Nat) (k : Int) (a b x y : Nat → Nat) (q : Nat → List Sx.AV) : Sx.PieceN 3 (Sx.Ex.ret) [(6, .slc true true ⟨false, 2, 0, 0⟩ i), (7, .int true .i64 0)] [(2, .cells true 1 i (Sx.Cont.fn q))] (piececallR Try.f14 (Sx.nav [1,1,1,1] (Sx.bodyOf Try.f14)) (Sx.frL [(8, .int true .i64 0), (9, .slc true true ⟨false, 2, 0, 0⟩ (i))]) (Sx.hpL [(2, .cells true 1 (i) (.fn q))]) 3 []) := Sx.eqn (q := True) (by kernel_rfl) trivial
theorem raZ (B : Nat) (hB : B ≤ 3) (n m i s w : Nat) (k : Int) (a b x y : Nat → Nat) (q : Nat → List Sx.AV) : Sx.GoesB Try.prog (Sx.nav [1,1,1,1] (Sx.bodyOf Try.f14)) Try.f14.ntmps B 3 3 (Sx.frL [(8, .int true .i64 0), (9, .slc true true ⟨false, 2, 0, 0⟩ (i))]) (Sx.hpL [(2, .cells true 1 (i) (.fn q))]) fun e fr' H' => (e = .ret ∧ fr' = Sx.frL [(6, .slc true true ⟨false, 2, 0, 0⟩ i), (7, .int true .i64 0)] ∧ H' = Sx.hpL [(2, .cells true 1 i (Sx.Cont.fn q))]) := by
 exact (Sx.GoesB.runN callR_ok (callR_reg _) (Sx.LoopsIn.none _ _ _) (raZ_r0 n m i s w k a b x y q) hB).mono fun e fr' H' h => h
theorem raF_r0 (n m i s w : Nat) (k : Int) (a b x y : Nat → Nat) (q : Nat → List Sx.AV) : Sx.PieceN 2 (Sx.Ex.normal) [(0, .cpx true s w), (1, .slc true false ⟨false, 0, 0, 0⟩ n), (2, .slc true false ⟨false, 1, 0, 0⟩ m), (8, .int true .i64 k), (9, .nils), (10, .int false .i64 0)] [(0, .cells false 1 n (.fn fun j => [Sx.AV.cpx true (a j) (b j)])), (1, .cells false 1 m (.fn fun j => [Sx.AV.cpx true (x j) (y j)]))] (piececallR Try.f14 (Sx.nav [1,1,1,0,0] (Sx.bodyOf Try.f14)) (Sx.frL [(0, .cpx true s w), (1, Sx.slcV 0 n), (2, Sx.slcV 1 m), (8, .int true .i64 k), (9, .nils)]) (Sx.hpL [(0, .cells false 1 (n) (.fn fun j => [.cpx true (a j) (b j)])), (1, .cells false 1 (m) (.fn fun j => [.cpx true (x j) (y j)]))]) 2 []) := Sx.eqn (q := True) (by kernel_rfl) trivial
theorem raF (B : Nat) (hB : B ≤ 2) (n m i s w : Nat) (k : Int) (a b x y : Nat → Nat) (q : Nat → List Sx.AV) : Sx.GoesB Try.prog (Sx.nav [1,1,1,0,0] (Sx.bodyOf Try.f14)) Try.f14.ntmps B 2 2 (Sx.frL [(0, .cpx true s w), (1, Sx.slcV 0 n), (2, Sx.slcV 1 m), (8, .int true .i64 k), (9, .nils)]) (Sx.hpL [(0, .cells false 1 (n) (.fn fun j => [.cpx true (a j) (b j)])), (1, .cells false 1 (m) (.fn fun j => [.cpx true (x j) (y j)]))]) fun e fr' H' => (e = .normal ∧ fr' = Sx.frL [(0, .cpx true s w), (1, .slc true false ⟨false, 0, 0, 0⟩ n), (2, .slc true false ⟨false, 1, 0, 0⟩ m), (8, .int true .i64 k), (9, .nils), (10, .int false .i64 0)] ∧ H' = Sx.hpL [(0, .cells false 1 n (.fn fun j => [Sx.AV.cpx true (a j) (b j)])), (1, .cells false 1 m (.fn fun j => [Sx.AV.cpx true (x j) (y j)]))]) := by
 exact (Sx.GoesB.runN callR_ok (callR_reg _) (Sx.LoopsIn.none _ _ _) (raF_r0 n m i s w k a b x y q) hB).mono fun e fr' H' h => h
theorem raM_r0 (n m i s w : Nat) (k : Int) (a b x y : Nat → Nat) (q : Nat → List Sx.AV) (c0 : decide (k = (0 : Int)) = true) (c1 : decide ((0 : Int) < (↑n : Int)) = true) (c2 : (0 : Int) ≤ (0 : Int)) (c3 : (0 : Int) < (↑m : Int)) (c4 : (0 : Nat) < m) (c5 : (0 : Int) < (↑n : Int)) (c6 : (0 : Nat) < n) (c7 : (-9223372036854775808 : Int) ≤ (1 : Int)) (c8 : (1 : Int) ≤ (9223372036854775807 : Int)) : Sx.PieceN 4 (Sx.Ex.normal) [(8, .int true .i64 k), (9, .slc false true ⟨false, 3, 0, 0⟩ 1)] [] (piececallR Try.f14 (Sx.nav [1,1,1,0,1,0,0] (Sx.bodyOf Try.f14)) (Sx.frL [(0, .cpx true s w), (1, Sx.slcV 0 n), (2, Sx.slcV 1 m), (8, .int true .i64 k), (9, .nils), (10, .int true .i64 0)]) (Sx.hpL [(0, .cells false 1 (n) (.fn fun j => [.cpx true (a j) (b j)])), (1, .cells false 1 (m) (.fn fun j => [.cpx true (x j) (y j)]))]) 2 [true, true]) := Sx.eqn (q := (((((((True ∧ (decide (k = (0 : Int)) = true)) ∧ (decide ((0 : Int) < (↑n : Int)) = true)) ∧ (((0 : Int) ≤ (0 : Int)) ∧ ((0 : Int) < (↑m : Int)))) ∧ ((0 : Nat) < m)) ∧ (((0 : Int) ≤ (0 : Int)) ∧ ((0 : Int) < (↑n : Int)))) ∧ ((0 : Nat) < n)) ∧ (((-9223372036854775808 : Int) ≤ (1 : Int)) ∧ ((1 : Int) ≤ (9223372036854775807 : Int))))) (by kernel_rfl) ⟨⟨⟨⟨⟨⟨⟨trivial, c0⟩, c1⟩, ⟨c2, c3⟩⟩, c4⟩, ⟨c2, c5⟩⟩, c6⟩, ⟨c7, c8⟩⟩
theorem raM_r1 (n m i s w : Nat) (k : Int) (a b x y : Nat → Nat) (q : Nat → List Sx.AV) (c0 : decide (k = (0 : Int)) = true) (c1 : decide ((0 : Int) < (↑n : Int)) = false) : Sx.PieceN 4 (Sx.Ex.exit (0 : Nat)) [(8, .int true .i64 k), (9, .nils)] [] (piececallR Try.f14 (Sx.nav [1,1,1,0,1,0,0] (Sx.bodyOf Try.f14)) (Sx.frL [(0, .cpx true s w), (1, Sx.slcV 0 n), (2, Sx.slcV 1 m), (8, .int true .i64 k), (9, .nils), (10, .int true .i64 0)]) (Sx.hpL [(0, .cells false 1 (n) (.fn fun j => [.cpx true (a j) (b j)])), (1, .cells false 1 (m) (.fn fun j => [.cpx true (x j) (y j)]))]) 2 [true, false]) := Sx.eqn (q := ((True ∧ (decide (k = (0 : Int)) = true)) ∧ (decide ((0 : Int) < (↑n : Int)) = false))) (by kernel_rfl) ⟨⟨trivial, c0⟩, c1⟩
theorem raM_r2 (n m i s w : Nat) (k : Int) (a b x y : Nat → Nat) (q : Nat → List Sx.AV) (c0 : decide (k = (0 : Int)) = false) : Sx.PieceN 4 (Sx.Ex.exit (0 : Nat)) [(8, .int true .i64 k), (9, .nils)] [] (piececallR Try.f14 (Sx.nav [1,1,1,0,1,0,0] (Sx.bodyOf Try.f14)) (Sx.frL [(0, .cpx true s w), (1, Sx.slcV 0 n), (2, Sx.slcV 1 m), (8, .int true .i64 k), (9, .nils), (10, .int true .i64 0)]) (Sx.hpL [(0, .cells false 1 (n) (.fn fun j => [.cpx true (a j) (b j)])), (1, .cells false 1 (m) (.fn fun j => [.cpx true (x j) (y j)]))]) 2 [false]) := Sx.eqn (q := (True ∧ (decide (k = (0 : Int)) = false))) (by kernel_rfl) ⟨trivial, c0⟩
theorem raM (B : Nat) (hB : B ≤ 2) (n m i s w : Nat) (k : Int) (a b x y : Nat → Nat) (q : Nat → List Sx.AV) (x0 : ((decide (k = (0 : Int))) = true → ((decide ((0 : Int) < (↑n : Int))) = true → ((0 : Int) < (↑m : Int))))) (x1 : ((decide (k = (0 : Int))) = true → ((decide ((0 : Int) < (↑n : Int))) = true → ((0 : Nat) < m)))) : Sx.GoesB Try.prog (Sx.nav [1,1,1,0,1,0,0] (Sx.bodyOf Try.f14)) Try.f14.ntmps B 2 4 (Sx.frL [(0, .cpx true s w), (1, Sx.slcV 0 n), (2, Sx.slcV 1 m), (8, .int true .i64 k), (9, .nils), (10, .int true .i64 0)]) (Sx.hpL [(0, .cells false 1 (n) (.fn fun j => [.cpx true (a j) (b j)])), (1, .cells false 1 (m) (.fn fun j => [.cpx true (x j) (y j)]))]) fun e fr' H' => (cond (decide (k = (0 : Int))) (cond (decide ((0 : Int) < (↑n : Int))) (e = .normal ∧ fr' = Sx.frL [(8, .int true .i64 k), (9, .slc false true ⟨false, 3, 0, 0⟩ 1)] ∧ H' = Sx.hpL []) (e = .exit 0 ∧ fr' = Sx.frL [(8, .int true .i64 k), (9, .nils)] ∧ H' = Sx.hpL [])) (e = .exit 0 ∧ fr' = Sx.frL [(8, .int true .i64 k), (9, .nils)] ∧ H' = Sx.hpL [])) := by
 cases t0 : decide (k = (0 : Int)) with
 | true =>
  cases t1 : decide ((0 : Int) < (↑n : Int)) with
  | true =>
   exact (Sx.GoesB.runN callR_ok (callR_reg _) (Sx.LoopsIn.none _ _ _) (raM_r0 n m i s w k a b x y q t0 t1 (by first | decide | ((try simp only [decide_eq_true_eq, decide_eq_false_iff_not] at t0 t1); (try simp only [List.length_take, List.length_drop]); omega)) (x0 t0 t1) (x1 t0 t1) (by first | decide | ((try simp only [decide_eq_true_eq, decide_eq_false_iff_not] at t0 t1); (try simp only [List.length_take, List.length_drop]); omega)) (by first | decide | ((try simp only [decide_eq_true_eq, decide_eq_false_iff_not] at t0 t1); (try simp only [List.length_take, List.length_drop]); omega)) (by first | decide | ((try simp only [decide_eq_true_eq, decide_eq_false_iff_not] at t0 t1); (try simp only [List.length_take, List.length_drop]); omega)) (by first | decide | ((try simp only [decide_eq_true_eq, decide_eq_false_iff_not] at t0 t1); (try simp only [List.length_take, List.length_drop]); omega))) hB).mono fun e fr' H' h => by first | (simp only [t0, t1, cond_true, cond_false]; exact h) | (simp only [t0, t1, cond_true, cond_false] at h ⊢; exact h)
  | false =>
   exact (Sx.GoesB.runN callR_ok (callR_reg _) (Sx.LoopsIn.none _ _ _) (raM_r1 n m i s w k a b x y q t0 t1) hB).mono fun e fr' H' h => by first | (simp only [t0, t1, cond_true, cond_false]; exact h) | (simp only [t0, t1, cond_true, cond_false] at h ⊢; exact h)
 | false =>
  exact (Sx.GoesB.runN callR_ok (callR_reg _) (Sx.LoopsIn.none _ _ _) (raM_r2 n m i s w k a b x y q t0) hB).mono fun e fr' H' h => by first | (simp only [t0, cond_true, cond_false]; exact h) | (simp only [t0, cond_true, cond_false] at h ⊢; exact h)
theorem raY_r0 (n m i s w : Nat) (k : Int) (a b x y : Nat → Nat) (q : Nat → List Sx.AV) : Sx.PieceN 2 (Sx.Ex.ret) [(6, .nils), (7, .int true .i64 k)] [] (piececallR Try.f14 (Sx.nav [1,1,1,1] (Sx.bodyOf Try.f14)) (Sx.frL [(8, .int true .i64 k), (9, .nils)]) (Sx.hpL []) 2 []) := Sx.eqn (q := True) (by kernel_rfl) trivial
theorem raY (B : Nat) (hB : B ≤ 2) (n m i s w : Nat) (k : Int) (a b x y : Nat → Nat) (q : Nat → List Sx.AV) : Sx.GoesB Try.prog (Sx.nav [1,1,1,1] (Sx.bodyOf Try.f14)) Try.f14.ntmps B 2 2 (Sx.frL [(8, .int true .i64 k), (9, .nils)]) (Sx.hpL []) fun e fr' H' => (e = .ret ∧ fr' = Sx.frL [(6, .nils), (7, .int true .i64 k)] ∧ H' = Sx.hpL []) := by
 exact (Sx.GoesB.runN callR_ok (callR_reg _) (Sx.LoopsIn.none _ _ _) (raY_r0 n m i s w k a b x y q) hB).mono fun e fr' H' h => h
theorem rsA_r0 (n i s w : Nat) (a b : Nat → Nat) (q : Nat → List Sx.AV) : Sx.PieceN 1 (Sx.Ex.normal) [(0, .cpx true s w), (1, .slc true false ⟨false, 0, 0, 0⟩ n)] [(0, .cells false 1 n (.fn fun j => [Sx.AV.cpx true (a j) (b j)]))] (piececallR Try.f18 (Sx.nav [0] (Sx.bodyOf Try.f18)) (Sx.frameOf [.cpx true s w, Sx.slcV 0 n] 0 .e) (Sx.hpL [(0, .cells false 1 (n) (.fn fun j => [.cpx true (a j) (b j)]))]) 1 []) := Sx.eqn (q := True) (by kernel_rfl) trivial
theorem rsA (B : Nat) (hB : B ≤ 1) (n i s w : Nat) (a b : Nat → Nat) (q : Nat → List Sx.AV) : Sx.GoesB Try.prog (Sx.nav [0] (Sx.bodyOf Try.f18)) Try.f18.ntmps B 1 1 (Sx.frameOf [.cpx true s w, Sx.slcV 0 n] 0 .e) (Sx.hpL [(0, .cells false 1 (n) (.fn fun j => [.cpx true (a j) (b j)]))]) fun e fr' H' => (e = .normal ∧ fr' = Sx.frL [(0, .cpx true s w), (1, .slc true false ⟨false, 0, 0, 0⟩ n)] ∧ H' = Sx.hpL [(0, .cells false 1 n (.fn fun j => [Sx.AV.cpx true (a j) (b j)]))]) := by
 exact (Sx.GoesB.runN callR_ok (callR_reg _) (Sx.LoopsIn.none _ _ _) (rsA_r0 n i s w a b q) hB).mono fun e fr' H' h => h
theorem rsB_r0 (n i s w : Nat) (a b : Nat → Nat) (q : Nat → List Sx.AV) : Sx.PieceN 1 (Sx.Ex.normal) [(0, .cpx true s w), (1, .slc true false ⟨false, 0, 0, 0⟩ n), (5, .nils)] [(0, .cells false 1 n (.fn fun j => [Sx.AV.cpx true (a j) (b j)]))] (piececallR Try.f18 (Sx.nav [1,0] (Sx.bodyOf Try.f18)) (Sx.frL [(0, .cpx true s w), (1, Sx.slcV 0 n)]) (Sx.hpL [(0, .cells false 1 (n) (.fn fun j => [.cpx true (a j) (b j)]))]) 1 []) := Sx.eqn (q := True) (by kernel_rfl) trivial
theorem rsB (B : Nat) (hB : B ≤ 1) (n i s w : Nat) (a b : Nat → Nat) (q : Nat → List Sx.AV) : Sx.GoesB Try.prog (Sx.nav [1,0] (Sx.bodyOf Try.f18)) Try.f18.ntmps B 1 1 (Sx.frL [(0, .cpx true s w), (1, Sx.slcV 0 n)]) (Sx.hpL [(0, .cells false 1 (n) (.fn fun j => [.cpx true (a j) (b j)]))]) fun e fr' H' => (e = .normal ∧ fr' = Sx.frL [(0, .cpx true s w), (1, .slc true false ⟨false, 0, 0, 0⟩ n), (5, .nils)] ∧ H' = Sx.hpL [(0, .cells false 1 n (.fn fun j => [Sx.AV.cpx true (a j) (b j)]))]) := by
 exact (Sx.GoesB.runN callR_ok (callR_reg _) (Sx.LoopsIn.none _ _ _) (rsB_r0 n i s w a b q) hB).mono fun e fr' H' h => h
theorem rsC_r0 (n i s w : Nat) (a b : Nat → Nat) (q : Nat → List Sx.AV) : Sx.PieceN 2 (Sx.Ex.normal) [(0, .cpx true s w), (1, .slc true false ⟨false, 0, 0, 0⟩ n), (5, .slc true true ⟨false, 1, 0, 0⟩ i), (6, .int false .i64 0)] [(0, .cells false 1 n (.fn fun j => [Sx.AV.cpx true (a j) (b j)])), (1, .cells true 1 i (Sx.Cont.fn q))] (piececallR Try.f18 (Sx.nav [1,1,0,0] (Sx.bodyOf Try.f18)) (Sx.frL [(0, .cpx true s w), (1, Sx.slcV 0 n), (5, .slc true true ⟨false, 1, 0, 0⟩ (i))]) (Sx.hpL [(0, .cells false 1 (n) (.fn fun j => [.cpx true (a j) (b j)])), (1, .cells true 1 (i) (.fn q))]) 2 []) := Sx.eqn (q := True) (by kernel_rfl) trivial
theorem rsC (B : Nat) (hB : B ≤ 2) (n i s w : Nat) (a b : Nat → Nat) (q : Nat → List Sx.AV) : Sx.GoesB Try.prog (Sx.nav [1,1,0,0] (Sx.bodyOf Try.f18)) Try.f18.ntmps B 2 2 (Sx.frL [(0, .cpx true s w), (1, Sx.slcV 0 n), (5, .slc true true ⟨false, 1, 0, 0⟩ (i))]) (Sx.hpL [(0, .cells false 1 (n) (.fn fun j => [.cpx true (a j) (b j)])), (1, .cells true 1 (i) (.fn q))]) fun e fr' H' => (e = .normal ∧ fr' = Sx.frL [(0, .cpx true s w), (1, .slc true false ⟨false, 0, 0, 0⟩ n), (5, .slc true true ⟨false, 1, 0, 0⟩ i), (6, .int false .i64 0)] ∧ H' = Sx.hpL [(0, .cells false 1 n (.fn fun j => [Sx.AV.cpx true (a j) (b j)])), (1, .cells true 1 i (Sx.Cont.fn q))]) := by
 exact (Sx.GoesB.runN callR_ok (callR_reg _) (Sx.LoopsIn.none _ _ _) (rsC_r0 n i s w a b q) hB).mono fun e fr' H' h => h
theorem rsL_r0 (n i s w : Nat) (a b : Nat → Nat) (q : Nat → List Sx.AV) (c0 : decide ((↑i : Int) < (↑n : Int)) = true) (c1 : (0 : Int) ≤ (↑i : Int)) (c2 : (↑i : Int) < (↑n : Int)) (c3 : (0 : Nat) + i < n) (c4 : i ≤ i) (c5 : (i + (1 : Nat)) * (16 : Nat) ≤ (140737488355328 : Nat)) (c6 : i + (1 : Nat) ≤ (9223372036854775807 : Nat)) (c7 : (-9223372036854775808 : Int) ≤ (↑i : Int) + (1 : Int)) (c8 : (↑i : Int) + (1 : Int) ≤ (9223372036854775807 : Int)) : Sx.PieceN 4 (Sx.Ex.normal) [(0, .cpx true s w), (1, .slc true false ⟨false, 0, 0, 0⟩ n), (5, .slc true true ⟨false, 3, 0, 0⟩ (i + (1 : Nat))), (6, .int true .i64 ((↑i : Int) + (1 : Int)))] [(0, .cells false 1 n (.fn fun j => [Sx.AV.cpx true (a j) (b j)])), (3, .cells true 1 (i + (1 : Nat)) (.fn fun j => bif decide (j < i) then q j else [Sx.AV.cpx true (Sx.fsub (Sx.fmul s (a ((0 : Nat) + i))) (Sx.fmul w (b ((0 : Nat) + i)))) (Sx.fadd (Sx.fmul s (b ((0 : Nat) + i))) (Sx.fmul w (a ((0 : Nat) + i))))]))] (piececallR Try.f18 (Sx.nav [1,1,0,1,0,0] (Sx.bodyOf Try.f18)) (Sx.frL [(0, .cpx true s w), (1, Sx.slcV 0 n), (5, .slc true true ⟨false, 1, 0, 0⟩ (i)), (6, .int true .i64 i)]) (Sx.hpL [(0, .cells false 1 (n) (.fn fun j => [.cpx true (a j) (b j)])), (1, .cells true 1 (i) (.fn q))]) 2 [true]) := Sx.eqn (q := (((((True ∧ (decide ((↑i : Int) < (↑n : Int)) = true)) ∧ (((0 : Int) ≤ (↑i : Int)) ∧ ((↑i : Int) < (↑n : Int)))) ∧ ((0 : Nat) + i < n)) ∧ ((i ≤ i) ∧ (((i + (1 : Nat)) * (16 : Nat) ≤ (140737488355328 : Nat)) ∧ (i + (1 : Nat) ≤ (9223372036854775807 : Nat))))) ∧ (((-9223372036854775808 : Int) ≤ (↑i : Int) + (1 : Int)) ∧ ((↑i : Int) + (1 : Int) ≤ (9223372036854775807 : Int))))) (by kernel_rfl) ⟨⟨⟨⟨⟨trivial, c0⟩, ⟨c1, c2⟩⟩, c3⟩, ⟨c4, ⟨c5, c6⟩⟩⟩, ⟨c7, c8⟩⟩
theorem rsL_r1 (n i s w : Nat) (a b : Nat → Nat) (q : Nat → List Sx.AV) (c0 : decide ((↑i : Int) < (↑n : Int)) = false) : Sx.PieceN 4 (Sx.Ex.exit (0 : Nat)) [(0, .cpx true s w), (1, .slc true false ⟨false, 0, 0, 0⟩ n), (5, .slc true true ⟨false, 1, 0, 0⟩ i), (6, .int true .i64 (↑i : Int))] [(0, .cells false 1 n (.fn fun j => [Sx.AV.cpx true (a j) (b j)])), (1, .cells true 1 i (Sx.Cont.fn q))] (piececallR Try.f18 (Sx.nav [1,1,0,1,0,0] (Sx.bodyOf Try.f18)) (Sx.frL [(0, .cpx true s w), (1, Sx.slcV 0 n), (5, .slc true true ⟨false, 1, 0, 0⟩ (i)), (6, .int true .i64 i)]) (Sx.hpL [(0, .cells false 1 (n) (.fn fun j => [.cpx true (a j) (b j)])), (1, .cells true 1 (i) (.fn q))]) 2 [false]) := Sx.eqn (q := (True ∧ (decide ((↑i : Int) < (↑n : Int)) = false))) (by kernel_rfl) ⟨trivial, c0⟩
theorem rsL (B : Nat) (hB : B ≤ 2) (n i s w : Nat) (a b : Nat → Nat) (q : Nat → List Sx.AV) (x0 : ((decide ((↑i : Int) < (↑n : Int))) = true → ((i + (1 : Nat)) * (16 : Nat) ≤ (140737488355328 : Nat)))) (x1 : ((decide ((↑i : Int) < (↑n : Int))) = true → (i + (1 : Nat) ≤ (9223372036854775807 : Nat)))) (x2 : ((decide ((↑i : Int) < (↑n : Int))) = true → ((↑i : Int) + (1 : Int) ≤ (9223372036854775807 : Int)))) : Sx.GoesB Try.prog (Sx.nav [1,1,0,1,0,0] (Sx.bodyOf Try.f18)) Try.f18.ntmps B 2 4 (Sx.frL [(0, .cpx true s w), (1, Sx.slcV 0 n), (5, .slc true true ⟨false, 1, 0, 0⟩ (i)), (6, .int true .i64 i)]) (Sx.hpL [(0, .cells false 1 (n) (.fn fun j => [.cpx true (a j) (b j)])), (1, .cells true 1 (i) (.fn q))]) fun e fr' H' => (cond (decide ((↑i : Int) < (↑n : Int))) (e = .normal ∧ fr' = Sx.frL [(0, .cpx true s w), (1, .slc true false ⟨false, 0, 0, 0⟩ n), (5, .slc true true ⟨false, 3, 0, 0⟩ (i + (1 : Nat))), (6, .int true .i64 ((↑i : Int) + (1 : Int)))] ∧ H' = Sx.hpL [(0, .cells false 1 n (.fn fun j => [Sx.AV.cpx true (a j) (b j)])), (3, .cells true 1 (i + (1 : Nat)) (.fn fun j => bif decide (j < i) then q j else [Sx.AV.cpx true (Sx.fsub (Sx.fmul s (a ((0 : Nat) + i))) (Sx.fmul w (b ((0 : Nat) + i)))) (Sx.fadd (Sx.fmul s (b ((0 : Nat) + i))) (Sx.fmul w (a ((0 : Nat) + i))))]))]) (e = .exit 0 ∧ fr' = Sx.frL [(0, .cpx true s w), (1, .slc true false ⟨false, 0, 0, 0⟩ n), (5, .slc true true ⟨false, 1, 0, 0⟩ i), (6, .int true .i64 (↑i : Int))] ∧ H' = Sx.hpL [(0, .cells false 1 n (.fn fun j => [Sx.AV.cpx true (a j) (b j)])), (1, .cells true 1 i (Sx.Cont.fn q))])) := by
 cases t0 : decide ((↑i : Int) < (↑n : Int)) with
 | true =>
  exact (Sx.GoesB.runN callR_ok (callR_reg _) (Sx.LoopsIn.none _ _ _) (rsL_r0 n i s w a b q t0 (by first | decide | ((try simp only [decide_eq_true_eq, decide_eq_false_iff_not] at t0); (try simp only [List.length_take, List.length_drop]); omega)) (by first | decide | ((try simp only [decide_eq_true_eq, decide_eq_false_iff_not] at t0); (try simp only [List.length_take, List.length_drop]); omega)) (by first | decide | ((try simp only [decide_eq_true_eq, decide_eq_false_iff_not] at t0); (try simp only [List.length_take, List.length_drop]); omega)) (by first | decide | ((try simp only [decide_eq_true_eq, decide_eq_false_iff_not] at t0); (try simp only [List.length_take, List.length_drop]); omega)) (x0 t0) (x1 t0) (by first | decide | ((try simp only [decide_eq_true_eq, decide_eq_false_iff_not] at t0); (try simp only [List.length_take, List.length_drop]); omega)) (x2 t0)) hB).mono fun e fr' H' h => by first | (simp only [t0, cond_true, cond_false]; exact h) | (simp only [t0, cond_true, cond_false] at h ⊢; exact h)
 | false =>
  exact (Sx.GoesB.runN callR_ok (callR_reg _) (Sx.LoopsIn.none _ _ _) (rsL_r1 n i s w a b q t0) hB).mono fun e fr' H' h => by first | (simp only [t0, cond_true, cond_false]; exact h) | (simp only [t0, cond_true, cond_false] at h ⊢; exact h)
theorem rsZ_r0 (n i s w : Nat) (a b : Nat → Nat) (q : Nat → List Sx.AV) : Sx.PieceN 2 (Sx.Ex.ret) [(4, .slc true true ⟨false, 1, 0, 0⟩ i)] [(1, .cells true 1 i (Sx.Cont.fn q))] (piececallR Try.f18 (Sx.nav [1,1,1] (Sx.bodyOf Try.f18)) (Sx.frL [(5, .slc true true ⟨false, 1, 0, 0⟩ (i))]) (Sx.hpL [(1, .cells true 1 (i) (.fn q))]) 2 []) := Sx.eqn (q := True) (by kernel_rfl) trivial
theorem rsZ (B : Nat) (hB : B ≤ 2) (n i s w : Nat) (a b : Nat → Nat) (q : Nat → List Sx.AV) : Sx.GoesB Try.prog (Sx.nav [1,1,1] (Sx.bodyOf Try.f18)) Try.f18.ntmps B 2 2 (Sx.frL [(5, .slc true true ⟨false, 1, 0, 0⟩ (i))]) (Sx.hpL [(1, .cells true 1 (i) (.fn q))]) fun e fr' H' => (e = .ret ∧ fr' = Sx.frL [(4, .slc true true ⟨false, 1, 0, 0⟩ i)] ∧ H' = Sx.hpL [(1, .cells true 1 i (Sx.Cont.fn q))]) := by
 exact (Sx.GoesB.runN callR_ok (callR_reg _) (Sx.LoopsIn.none _ _ _) (rsZ_r0 n i s w a b q) hB).mono fun e fr' H' h => h
theorem ax_is : (Sx.bodyOf Try.f49) = .seq (Sx.nav [0] (Sx.bodyOf Try.f49)) (.seq (Sx.nav [1,0] (Sx.bodyOf Try.f49)) (.seq (Sx.nav [1,1,0] (Sx.bodyOf Try.f49)) (.seq (.seq (Sx.nav [1,1,1,0,0] (Sx.bodyOf Try.f49)) (.block 0 (.loop (Sx.nav [1,1,1,0,1,0,0] (Sx.bodyOf Try.f49))))) (Sx.nav [1,1,1,1] (Sx.bodyOf Try.f49))))) := by kernel_rfl
theorem ax_goes (n m s w : Nat) (a b x y : Nat → Nat) (hn : Sx.lenOk n) (hm : Sx.lenOk m) (hw : Sx.CW n a b) (hw' : Sx.CW m x y) :
  Sx.GoesB Try.prog (Sx.bodyOf Try.f49) Try.f49.ntmps 3 3 4 (Sx.frameOf [Sx.slcV 0 n, Sx.slcV 1 m, .fn (.func 50) [] [.ptr ⟨false, 2, 0, 0⟩]] 0 .e) (Sx.hpL [(0, .cells false 1 (n) (.fn fun j => [.cpx true (a j) (b j)])), (1, .cells false 1 (m) (.fn fun j => [.cpx true (x j) (y j)])), (2, .cells false 1 1 (.fn fun _ => [.cpx true s w]))]) fun e fr' H' => e = .ret ∧ ((vmay n m ≠ 0 ∧ fr'.get 6 = some .nils ∧ fr'.get 7 = some (.int true .i64 (vmay n m))) ∨ (vmay n m = 0 ∧ fr' = Sx.frL [(6, .slc true true ⟨false, 3, 0, 0⟩ n), (7, .int false .i64 0)] ∧ H' = Sx.hpL [(3, .cells true 1 (n) (.fn fun j => [.cpx true (Sx.fadd (x j) (Sx.fsub (Sx.fmul s (a j)) (Sx.fmul w (b j)))) (Sx.fadd (y j) (Sx.fadd (Sx.fmul s (b j)) (Sx.fmul w (a j))))]))])) := by
 rw [ax_is]
 refine Sx.GoesB.seq (K1 := 3) (by omega) ((axA 3 (by omega) n m 0 s w a b x y (fun _ => []) ).mono fun e fr' H' ⟨e1, e2, e3⟩ => ?_)
 subst e1 e2 e3
 refine Sx.GoesB.seq (K1 := 3) (by omega) ((axC 3 (by omega) n m 0 s w a b x y (fun _ => []) (by exact hn) (fun j hj => by simpa only [Nat.zero_add] using cw_row hw j hj) (fun j hj u hu => low_c hu) (by exact hm) (fun j hj => by simpa only [Nat.zero_add] using cw_row hw' j hj) (fun j hj u hu => low_c hu)).mono fun e fr' H' h => ?_)
 refine Sx.cond_elim h (fun t h => ?_) (fun t h => ?_)
 case refine_2 =>
  obtain ⟨rfl, rfl, rfl⟩ := h
  exact ⟨rfl, .inl ⟨of_decide_eq_false t, rfl, rfl⟩⟩
 obtain ⟨rfl, rfl, rfl⟩ := h
 have he := of_decide_eq_true t
 obtain ⟨rfl, h64⟩ := vmay_eq he
 refine Sx.GoesB.seq (K1 := 4) (by omega) ((axD 3 (by omega) n n 0 s w a b x y (fun _ => []) (by omega) (by omega)).mono fun e fr' H' ⟨e1, e2, e3⟩ => ?_)
 subst e1 e2 e3
 refine Sx.GoesB.seq (K1 := 4) (by omega) (Sx.GoesB.seq (K1 := 4) (by omega) ((axE 3 (by omega) n n 0 s w a b x y (fun _ => [Sx.AV.cpx false 0 0])).mono fun e fr' H' ⟨e1, e2, e3⟩ => ?_))
 subst e1 e2 e3
 refine Sx.GoesB.weakL (fl := [(1, Sx.slcV 1 n), (2, .fn (.func 50) [] [.ptr ⟨false, 2, 0, 0⟩]), (9, .slc true true ⟨false, 3, 0, 0⟩ (n)), (21, Sx.slcV 0 n), (22, .int true .i64 (n : Nat)), (23, .int true .i64 ((0 : Nat) : Int))]) (bl := [(0, .cells false 1 (n) (.fn fun j => [.cpx true (a j) (b j)])), (1, .cells false 1 (n) (.fn fun j => [.cpx true (x j) (y j)])), (2, .cells false 1 1 (.fn fun _ => [.cpx true s w])), (3, .cells true 1 (n) (.fn (fun j => bif decide (j < 0) then (fun j => [.cpx true (Sx.fadd (x j) (Sx.fsub (Sx.fmul s (a j)) (Sx.fmul w (b j)))) (Sx.fadd (y j) (Sx.fadd (Sx.fmul s (b j)) (Sx.fmul w (a j))))]) j else [Sx.AV.cpx false 0 0])))]) ⟨(Sx.re rfl), (Sx.re rfl), (Sx.re rfl), (Sx.re rfl), (Sx.re rfl), (Sx.ri rfl), trivial⟩ ⟨(Sx.hs rfl), (Sx.hs rfl), (Sx.hs rfl), ⟨_, rfl, ⟨rfl, rfl, rfl, fun j hj => (Sx.row_none (fun j => [.cpx true (Sx.fadd (x j) (Sx.fsub (Sx.fmul s (a j)) (Sx.fmul w (b j)))) (Sx.fadd (y j) (Sx.fadd (Sx.fmul s (b j)) (Sx.fmul w (a j))))]) [Sx.AV.cpx false 0 0] j).symm⟩⟩, trivial⟩ ?_
 refine (Sx.GoesB.count n (fun i => [(1, Sx.slcV 1 n), (2, .fn (.func 50) [] [.ptr ⟨false, 2, 0, 0⟩]), (9, .slc true true ⟨false, 3, 0, 0⟩ (n)), (21, Sx.slcV 0 n), (22, .int true .i64 (n : Nat)), (23, .int true .i64 ((i : Nat) : Int))]) (fun i => [(0, .cells false 1 (n) (.fn fun j => [.cpx true (a j) (b j)])), (1, .cells false 1 (n) (.fn fun j => [.cpx true (x j) (y j)])), (2, .cells false 1 1 (.fn fun _ => [.cpx true s w])), (3, .cells true 1 (n) (.fn (fun j => bif decide (j < i) then (fun j => [.cpx true (Sx.fadd (x j) (Sx.fsub (Sx.fmul s (a j)) (Sx.fmul w (b j)))) (Sx.fadd (y j) (Sx.fadd (Sx.fmul s (b j)) (Sx.fmul w (a j))))]) j else [Sx.AV.cpx false 0 0])))]) [(9, .slc true true ⟨false, 3, 0, 0⟩ (n))] [(3, .cells true 1 (n) (.fn fun j => [.cpx true (Sx.fadd (x j) (Sx.fsub (Sx.fmul s (a j)) (Sx.fmul w (b j)))) (Sx.fadd (y j) (Sx.fadd (Sx.fmul s (b j)) (Sx.fmul w (a j))))]))] (fun _ => True) (fun _ _ => False) trivial (fun i hi _ => ?_)).mono fun e fr' H' h => ?_
 ·have hB := axL 3 (by omega) n n i s w a b x y (fun j => bif decide (j < i) then (fun j => [.cpx true (Sx.fadd (x j) (Sx.fsub (Sx.fmul s (a j)) (Sx.fmul w (b j)))) (Sx.fadd (y j) (Sx.fadd (Sx.fmul s (b j)) (Sx.fmul w (a j))))]) j else [Sx.AV.cpx false 0 0]) (fun t => by omega)
  simp only [Nat.zero_add] at hB
  refine hB.post fun e fr' H' h => ?_
  refine Sx.cond_elim h (fun t h => ?_) (fun t h => ?_)
  ·have hlt : i < n := by have := of_decide_eq_true t; omega
   obtain ⟨rfl, rfl, rfl⟩ := h
   exact ⟨[(1, Sx.slcV 1 n), (2, .fn (.func 50) [] [.ptr ⟨false, 2, 0, 0⟩]), (9, .slc true true ⟨false, 3, 0, 0⟩ (n)), (21, Sx.slcV 0 n), (22, .int true .i64 (n : Nat)), (23, .int true .i64 ((i + 1 : Nat) : Int))], [(0, .cells false 1 (n) (.fn fun j => [.cpx true (a j) (b j)])), (1, .cells false 1 (n) (.fn fun j => [.cpx true (x j) (y j)])), (2, .cells false 1 1 (.fn fun _ => [.cpx true s w])), (3, .cells true 1 (n) (.fn (fun j => bif decide (j < i + 1) then (fun j => [.cpx true (Sx.fadd (x j) (Sx.fsub (Sx.fmul s (a j)) (Sx.fmul w (b j)))) (Sx.fadd (y j) (Sx.fadd (Sx.fmul s (b j)) (Sx.fmul w (a j))))]) j else [Sx.AV.cpx false 0 0])))], ⟨(Sx.re rfl), (Sx.re rfl), (Sx.re rfl), (Sx.re rfl), (Sx.re rfl), (Sx.ri rfl), trivial⟩, ⟨(Sx.hs rfl), (Sx.hs rfl), (Sx.hs rfl), ⟨_, rfl, ⟨rfl, rfl, rfl, fun j hj => by simpa only [Sx.Cont.row] using Sx.row_put (fun j => [.cpx true (Sx.fadd (x j) (Sx.fsub (Sx.fmul s (a j)) (Sx.fmul w (b j)))) (Sx.fadd (y j) (Sx.fadd (Sx.fmul s (b j)) (Sx.fmul w (a j))))]) [Sx.AV.cpx false 0 0] _ i j⟩⟩, trivial⟩, .inl ⟨rfl, hlt, trivial, rfl, rfl⟩⟩
  ·have e : i = n := by have := of_decide_eq_false t; omega
   subst e
   obtain ⟨rfl, rfl, rfl⟩ := h
   exact ⟨[(9, .slc true true ⟨false, 3, 0, 0⟩ (i))], [(3, .cells true 1 (i) (.fn fun j => [.cpx true (Sx.fadd (x j) (Sx.fsub (Sx.fmul s (a j)) (Sx.fmul w (b j)))) (Sx.fadd (y j) (Sx.fadd (Sx.fmul s (b j)) (Sx.fmul w (a j))))]))], ⟨(Sx.re rfl), trivial⟩, ⟨⟨_, rfl, ⟨rfl, rfl, rfl, fun j hj => Sx.row_all (fun j => [.cpx true (Sx.fadd (x j) (Sx.fsub (Sx.fmul s (a j)) (Sx.fmul w (b j)))) (Sx.fadd (y j) (Sx.fadd (Sx.fmul s (b j)) (Sx.fmul w (a j))))]) [Sx.AV.cpx false 0 0] _ j hj⟩⟩, trivial⟩, .inr (.inl ⟨rfl, trivial, rfl, rfl⟩)⟩
 rcases h with ⟨rfl, _, rfl, rfl⟩ | ⟨_, h⟩
 case inr => exact h.elim
 refine (axZ 3 (by omega) n n 0 s w a b x y (fun j => [.cpx true (Sx.fadd (x j) (Sx.fsub (Sx.fmul s (a j)) (Sx.fmul w (b j)))) (Sx.fadd (y j) (Sx.fadd (Sx.fmul s (b j)) (Sx.fmul w (a j))))])).mono fun e fr' H' ⟨e1, e2, e3⟩ => ?_
 subst e1 e2 e3
 exact ⟨rfl, .inr ⟨he, rfl, rfl⟩⟩
theorem ra_is : (Sx.bodyOf Try.f14) = .seq (Sx.nav [0] (Sx.bodyOf Try.f14)) (.seq (Sx.nav [1,0] (Sx.bodyOf Try.f14)) (.seq (Sx.nav [1,1,0] (Sx.bodyOf Try.f14)) (.seq (.seq (Sx.nav [1,1,1,0,0] (Sx.bodyOf Try.f14)) (.block 0 (.loop (Sx.nav [1,1,1,0,1,0,0] (Sx.bodyOf Try.f14))))) (Sx.nav [1,1,1,1] (Sx.bodyOf Try.f14))))) := by kernel_rfl
theorem sg4_inj (i j : Nat) (hi : i < 3) (hj : j < 3) (h : (if i = 2 then 4 else i) = if j = 2 then 4 else j) : i = j := by
 split at h <;> split at h <;> omega
theorem sg3_inj (i j : Nat) (hi : i < 2) (hj : j < 2) (h : (if i = 1 then 3 else i) = if j = 1 then 3 else j) : i = j := by
 split at h <;> split at h <;> omega
theorem ra_goes (n m s w : Nat) (a b x y : Nat → Nat) (hn : Sx.lenOk n) (hm : Sx.lenOk m) (hw : Sx.CW n a b) (hw' : Sx.CW m x y) :
  Sx.GoesB Try.prog (Sx.bodyOf Try.f14) Try.f14.ntmps 2 2 3 (Sx.frameOf [.cpx true s w, Sx.slcV 0 n, Sx.slcV 1 m] 0 .e) (Sx.hpL [(0, .cells false 1 (n) (.fn fun j => [.cpx true (a j) (b j)])), (1, .cells false 1 (m) (.fn fun j => [.cpx true (x j) (y j)]))]) fun e fr' H' => e = .ret ∧ ((vmay n m ≠ 0 ∧ fr'.get 6 = some .nils ∧ fr'.get 7 = some (.int true .i64 (vmay n m))) ∨ (vmay n m = 0 ∧ fr' = Sx.frL [(6, .slc true true ⟨false, 2, 0, 0⟩ n), (7, .int true .i64 0)] ∧ H' = Sx.hpL [(2, .cells true 1 (n) (.fn fun j => [.cpx true (Sx.fadd (x j) (Sx.fsub (Sx.fmul s (a j)) (Sx.fmul w (b j)))) (Sx.fadd (y j) (Sx.fadd (Sx.fmul s (b j)) (Sx.fmul w (a j))))]))])) := by
 rw [ra_is]
 refine Sx.GoesB.seq (K1 := 2) (by omega) ((raA 2 (by omega) n m 0 s w 0 a b x y (fun _ => []) ).mono fun e fr' H' ⟨e1, e2, e3⟩ => ?_)
 subst e1 e2 e3
 refine Sx.GoesB.seq (K1 := 2) (by omega) ((raB 2 (by omega) n m 0 s w 0 a b x y (fun _ => []) (by exact hn) (fun j hj => by simpa only [Nat.zero_add] using cw_row hw j hj) (fun j hj u hu => low_c hu) (by exact hm) (fun j hj => by simpa only [Nat.zero_add] using cw_row hw' j hj) (fun j hj u hu => low_c hu)).mono fun e fr' H' ⟨e1, e2, e3⟩ => ?_)
 subst e1 e2 e3
 refine Sx.GoesB.seq (K1 := 2) (by omega) ((raC 2 (by omega) n m 0 s w (vmay n m) a b x y (fun _ => []) ).mono fun e fr' H' ⟨e1, e2, e3⟩ => ?_)
 subst e1 e2 e3
 by_cases he : vmay n m = 0
 case neg =>
  refine Sx.GoesB.seq (K1 := 2) (by omega) (Sx.GoesB.seq (K1 := 2) (by omega) ((raF 2 (by omega) n m 0 s w (vmay n m) a b x y (fun _ => [])).mono fun e fr' H' ⟨e1, e2, e3⟩ => ?_))
  subst e1 e2 e3
  refine Sx.GoesB.weakL (fl := [(0, .cpx true s w), (1, Sx.slcV 0 n), (2, Sx.slcV 1 m), (8, .int true .i64 (vmay n m)), (9, .nils), (10, .int true .i64 0)]) (bl := [(0, .cells false 1 (n) (.fn fun j => [.cpx true (a j) (b j)])), (1, .cells false 1 (m) (.fn fun j => [.cpx true (x j) (y j)]))]) ⟨(Sx.re rfl), (Sx.re rfl), (Sx.re rfl), (Sx.re rfl), (Sx.re rfl), (Sx.ri rfl), trivial⟩ ⟨(Sx.hs rfl), (Sx.hs rfl), trivial⟩ ?_
  refine Sx.GoesB.block ((Sx.GoesB.loop (fun k fr H => fr = Sx.frL [(0, .cpx true s w), (1, Sx.slcV 0 n), (2, Sx.slcV 1 m), (8, .int true .i64 (vmay n m)), (9, .nils), (10, .int true .i64 0)] ∧ H = Sx.hpL [(0, .cells false 1 (n) (.fn fun j => [.cpx true (a j) (b j)])), (1, .cells false 1 (m) (.fn fun j => [.cpx true (x j) (y j)]))]) (Post := fun e fr H => e = .exit 0 ∧ fr = Sx.frL [(8, .int true .i64 (vmay n m)), (9, .nils)] ∧ H = Sx.hpL []) ?_ 0 _ _ ⟨rfl, rfl⟩).mono fun e fr' H' ⟨e1, e2, e3⟩ => ?_)
  ·rintro k fr H ⟨rfl, rfl⟩
   refine ((raM 2 (by omega) n m 0 s w (vmay n m) a b x y (fun _ => []) (fun t => absurd (of_decide_eq_true t) he) (fun t => absurd (of_decide_eq_true t) he)).renL fun e fr' H' h => ?_)
   rw [decide_eq_false he, cond_false] at h
   obtain ⟨rfl, rfl, rfl⟩ := h
   exact ⟨id, [(8, .int true .i64 (vmay n m)), (9, .nils)], [], fun g hg => rfl, ⟨⟨_, rfl, Sx.AV.ge.refl _, rfl⟩, ⟨_, rfl, Sx.AV.ge.refl _, rfl⟩, trivial⟩, trivial, fun i j _ _ h => h, rfl, rfl, rfl⟩
  subst e1 e2 e3
  simp only [if_true]
  refine ((raY 2 (by omega) n m 0 s w (vmay n m) a b x y (fun _ => [])).up (by omega)).mono fun e fr' H' ⟨e1, e2, e3⟩ => ?_
  subst e1 e2 e3
  exact ⟨rfl, .inl ⟨he, rfl, rfl⟩⟩
 obtain ⟨rfl, h64⟩ := vmay_eq he
 rw [he]
 refine Sx.GoesB.phantom 9 1 (fun j => [.cpx true (Sx.fadd (x j) (Sx.fsub (Sx.fmul s (a j)) (Sx.fmul w (b j)))) (Sx.fadd (y j) (Sx.fadd (Sx.fmul s (b j)) (Sx.fmul w (a j))))]) rfl (by omega) (by omega) ?_
 refine Sx.GoesB.weakL (fl := [(0, .cpx true s w), (1, Sx.slcV 0 n), (2, Sx.slcV 1 n), (8, .int true .i64 0), (9, .slc true true ⟨false, 2, 0, 0⟩ (0))]) (bl := [(0, .cells false 1 (n) (.fn fun j => [.cpx true (a j) (b j)])), (1, .cells false 1 (n) (.fn fun j => [.cpx true (x j) (y j)])), (2, .cells true 1 (0) (.fn fun j => [.cpx true (Sx.fadd (x j) (Sx.fsub (Sx.fmul s (a j)) (Sx.fmul w (b j)))) (Sx.fadd (y j) (Sx.fadd (Sx.fmul s (b j)) (Sx.fmul w (a j))))]))]) ⟨(Sx.re rfl), (Sx.re rfl), (Sx.re rfl), (Sx.re rfl), (Sx.re rfl), trivial⟩ ⟨(Sx.hs rfl), (Sx.hs rfl), (Sx.hs rfl), trivial⟩ ?_
 refine Sx.GoesB.seq (K1 := 3) (by omega) (Sx.GoesB.seq (K1 := 3) (by omega) ((raD 2 (by omega) n n 0 s w 0 a b x y (fun j => [.cpx true (Sx.fadd (x j) (Sx.fsub (Sx.fmul s (a j)) (Sx.fmul w (b j)))) (Sx.fadd (y j) (Sx.fadd (Sx.fmul s (b j)) (Sx.fmul w (a j))))])).mono fun e fr' H' ⟨e1, e2, e3⟩ => ?_))
 subst e1 e2 e3
 refine Sx.GoesB.weakL (fl := [(0, .cpx true s w), (1, Sx.slcV 0 n), (2, Sx.slcV 1 n), (8, .int true .i64 0), (9, .slc true true ⟨false, 2, 0, 0⟩ (0)), (10, .int true .i64 ((0 : Nat) : Int))]) (bl := [(0, .cells false 1 (n) (.fn fun j => [.cpx true (a j) (b j)])), (1, .cells false 1 (n) (.fn fun j => [.cpx true (x j) (y j)])), (2, .cells true 1 (0) (.fn fun j => [.cpx true (Sx.fadd (x j) (Sx.fsub (Sx.fmul s (a j)) (Sx.fmul w (b j)))) (Sx.fadd (y j) (Sx.fadd (Sx.fmul s (b j)) (Sx.fmul w (a j))))]))]) ⟨(Sx.re rfl), (Sx.re rfl), (Sx.re rfl), (Sx.re rfl), (Sx.re rfl), (Sx.ri rfl), trivial⟩ ⟨(Sx.hs rfl), (Sx.hs rfl), (Sx.hs rfl), trivial⟩ ?_
 refine (Sx.GoesB.count n (fun i => [(0, .cpx true s w), (1, Sx.slcV 0 n), (2, Sx.slcV 1 n), (8, .int true .i64 0), (9, .slc true true ⟨false, 2, 0, 0⟩ (i)), (10, .int true .i64 ((i : Nat) : Int))]) (fun i => [(0, .cells false 1 (n) (.fn fun j => [.cpx true (a j) (b j)])), (1, .cells false 1 (n) (.fn fun j => [.cpx true (x j) (y j)])), (2, .cells true 1 (i) (.fn fun j => [.cpx true (Sx.fadd (x j) (Sx.fsub (Sx.fmul s (a j)) (Sx.fmul w (b j)))) (Sx.fadd (y j) (Sx.fadd (Sx.fmul s (b j)) (Sx.fmul w (a j))))]))]) [(8, .int true .i64 0), (9, .slc true true ⟨false, 2, 0, 0⟩ (n))] [(2, .cells true 1 (n) (.fn fun j => [.cpx true (Sx.fadd (x j) (Sx.fsub (Sx.fmul s (a j)) (Sx.fmul w (b j)))) (Sx.fadd (y j) (Sx.fadd (Sx.fmul s (b j)) (Sx.fmul w (a j))))]))] (fun _ => True) (fun _ _ => False) trivial (fun i hi _ => ?_)).mono fun e fr' H' h => ?_
 ·refine (raL 2 (by omega) n n i s w 0 a b x y (fun j => [.cpx true (Sx.fadd (x j) (Sx.fsub (Sx.fmul s (a j)) (Sx.fmul w (b j)))) (Sx.fadd (y j) (Sx.fadd (Sx.fmul s (b j)) (Sx.fmul w (a j))))]) (fun t => by omega) (fun t => by omega) (fun t => by omega)).renL fun e fr' H' h => ?_
  refine Sx.cond_elim h (fun t h => ?_) (fun t h => ?_)
  ·have hlt : i < n := by have := of_decide_eq_true t; omega
   obtain ⟨rfl, rfl, rfl⟩ := h
   exact ⟨fun g => if g = 2 then 4 else g, [(0, .cpx true s w), (1, Sx.slcV 0 n), (2, Sx.slcV 1 n), (8, .int true .i64 0), (9, .slc true true ⟨false, 2, 0, 0⟩ (i + 1)), (10, .int true .i64 ((i + 1 : Nat) : Int))], [(0, .cells false 1 (n) (.fn fun j => [.cpx true (a j) (b j)])), (1, .cells false 1 (n) (.fn fun j => [.cpx true (x j) (y j)])), (2, .cells true 1 (i + 1) (.fn fun j => [.cpx true (Sx.fadd (x j) (Sx.fsub (Sx.fmul s (a j)) (Sx.fmul w (b j)))) (Sx.fadd (y j) (Sx.fadd (Sx.fmul s (b j)) (Sx.fmul w (a j))))]))], fun g hg => if_neg (by omega), ⟨⟨_, rfl, Sx.AV.ge.refl _, rfl⟩, ⟨_, rfl, Sx.AV.ge.refl _, rfl⟩, ⟨_, rfl, Sx.AV.ge.refl _, rfl⟩, ⟨_, rfl, Sx.AV.ge.refl _, rfl⟩, ⟨_, rfl, Sx.AV.ge.refl _, rfl⟩, ⟨_, rfl, Sx.AV.ge.int _ _ _ _, rfl⟩, trivial⟩, ⟨⟨_, rfl, Sx.SameC.refl _, fun j hj u hu => low_c hu, by omega⟩, ⟨_, rfl, Sx.SameC.refl _, fun j hj u hu => low_c hu, by omega⟩, ⟨_, rfl, ⟨rfl, rfl, rfl, fun j hj => by rw [Nat.zero_add]; exact Sx.row_app (fun j => [.cpx true (Sx.fadd (x j) (Sx.fsub (Sx.fmul s (a j)) (Sx.fmul w (b j)))) (Sx.fadd (y j) (Sx.fadd (Sx.fmul s (b j)) (Sx.fmul w (a j))))]) _ i j hj⟩, fun j hj u hu => low_c hu, by omega⟩, trivial⟩, sg4_inj, .inl ⟨rfl, hlt, trivial, rfl, rfl⟩⟩
  ·obtain rfl : i = n := by have := of_decide_eq_false t; omega
   obtain ⟨rfl, rfl, rfl⟩ := h
   exact ⟨id, [(8, .int true .i64 0), (9, .slc true true ⟨false, 2, 0, 0⟩ (i))], [(2, .cells true 1 (i) (.fn fun j => [.cpx true (Sx.fadd (x j) (Sx.fsub (Sx.fmul s (a j)) (Sx.fmul w (b j)))) (Sx.fadd (y j) (Sx.fadd (Sx.fmul s (b j)) (Sx.fmul w (a j))))]))], fun g hg => rfl, ⟨⟨_, rfl, Sx.AV.ge.refl _, rfl⟩, ⟨_, rfl, Sx.AV.ge.refl _, rfl⟩, trivial⟩, ⟨⟨_, rfl, Sx.SameC.refl _, fun j hj u hu => low_c hu, by omega⟩, trivial⟩, fun i j _ _ h => h, .inr (.inl ⟨rfl, trivial, rfl, rfl⟩)⟩
 rcases h with ⟨rfl, _, rfl, rfl⟩ | ⟨_, h⟩
 case inr => exact h.elim
 refine (raZ 2 (by omega) n n n s w 0 a b x y (fun j => [.cpx true (Sx.fadd (x j) (Sx.fsub (Sx.fmul s (a j)) (Sx.fmul w (b j)))) (Sx.fadd (y j) (Sx.fadd (Sx.fmul s (b j)) (Sx.fmul w (a j))))])).mono fun e fr' H' ⟨e1, e2, e3⟩ => ?_
 subst e1 e2 e3
 exact ⟨rfl, .inr ⟨rfl, rfl, rfl⟩⟩
theorem rs_is : (Sx.bodyOf Try.f18) = .seq (Sx.nav [0] (Sx.bodyOf Try.f18)) (.seq (Sx.nav [1,0] (Sx.bodyOf Try.f18)) (.seq (.seq (Sx.nav [1,1,0,0] (Sx.bodyOf Try.f18)) (.block 0 (.loop (Sx.nav [1,1,0,1,0,0] (Sx.bodyOf Try.f18))))) (Sx.nav [1,1,1] (Sx.bodyOf Try.f18)))) := by kernel_rfl
theorem rs_goes (n s w : Nat) (a b : Nat → Nat) (hn : n * 16 ≤ 140737488355328) :
  Sx.GoesB Try.prog (Sx.bodyOf Try.f18) Try.f18.ntmps 1 1 2 (Sx.frameOf [.cpx true s w, Sx.slcV 0 n] 0 .e) (Sx.hpL [(0, .cells false 1 (n) (.fn fun j => [.cpx true (a j) (b j)]))]) fun e fr' H' => e = .ret ∧ fr' = Sx.frL [(4, .slc true true ⟨false, 1, 0, 0⟩ n)] ∧ H' = Sx.hpL [(1, .cells true 1 (n) (.fn fun j => [.cpx true (Sx.fsub (Sx.fmul s (a j)) (Sx.fmul w (b j))) (Sx.fadd (Sx.fmul s (b j)) (Sx.fmul w (a j)))]))] := by
 rw [rs_is]
 refine Sx.GoesB.seq (K1 := 1) (by omega) ((rsA 1 (by omega) n 0 s w a b (fun _ => []) ).mono fun e fr' H' ⟨e1, e2, e3⟩ => ?_)
 subst e1 e2 e3
 refine Sx.GoesB.seq (K1 := 1) (by omega) ((rsB 1 (by omega) n 0 s w a b (fun _ => []) ).mono fun e fr' H' ⟨e1, e2, e3⟩ => ?_)
 subst e1 e2 e3
 refine Sx.GoesB.phantom 5 1 (fun j => [.cpx true (Sx.fsub (Sx.fmul s (a j)) (Sx.fmul w (b j))) (Sx.fadd (Sx.fmul s (b j)) (Sx.fmul w (a j)))]) rfl (by omega) (by omega) ?_
 refine Sx.GoesB.weakL (fl := [(0, .cpx true s w), (1, Sx.slcV 0 n), (5, .slc true true ⟨false, 1, 0, 0⟩ (0))]) (bl := [(0, .cells false 1 (n) (.fn fun j => [.cpx true (a j) (b j)])), (1, .cells true 1 (0) (.fn fun j => [.cpx true (Sx.fsub (Sx.fmul s (a j)) (Sx.fmul w (b j))) (Sx.fadd (Sx.fmul s (b j)) (Sx.fmul w (a j)))]))]) ⟨(Sx.re rfl), (Sx.re rfl), (Sx.re rfl), trivial⟩ ⟨(Sx.hs rfl), (Sx.hs rfl), trivial⟩ ?_
 refine Sx.GoesB.seq (K1 := 2) (by omega) (Sx.GoesB.seq (K1 := 2) (by omega) ((rsC 1 (by omega) n 0 s w a b (fun j => [.cpx true (Sx.fsub (Sx.fmul s (a j)) (Sx.fmul w (b j))) (Sx.fadd (Sx.fmul s (b j)) (Sx.fmul w (a j)))])).mono fun e fr' H' ⟨e1, e2, e3⟩ => ?_))
 subst e1 e2 e3
 refine Sx.GoesB.weakL (fl := [(0, .cpx true s w), (1, Sx.slcV 0 n), (5, .slc true true ⟨false, 1, 0, 0⟩ (0)), (6, .int true .i64 ((0 : Nat) : Int))]) (bl := [(0, .cells false 1 (n) (.fn fun j => [.cpx true (a j) (b j)])), (1, .cells true 1 (0) (.fn fun j => [.cpx true (Sx.fsub (Sx.fmul s (a j)) (Sx.fmul w (b j))) (Sx.fadd (Sx.fmul s (b j)) (Sx.fmul w (a j)))]))]) ⟨(Sx.re rfl), (Sx.re rfl), (Sx.re rfl), (Sx.ri rfl), trivial⟩ ⟨(Sx.hs rfl), (Sx.hs rfl), trivial⟩ ?_
 refine (Sx.GoesB.count n (fun i => [(0, .cpx true s w), (1, Sx.slcV 0 n), (5, .slc true true ⟨false, 1, 0, 0⟩ (i)), (6, .int true .i64 ((i : Nat) : Int))]) (fun i => [(0, .cells false 1 (n) (.fn fun j => [.cpx true (a j) (b j)])), (1, .cells true 1 (i) (.fn fun j => [.cpx true (Sx.fsub (Sx.fmul s (a j)) (Sx.fmul w (b j))) (Sx.fadd (Sx.fmul s (b j)) (Sx.fmul w (a j)))]))]) [(5, .slc true true ⟨false, 1, 0, 0⟩ (n))] [(1, .cells true 1 (n) (.fn fun j => [.cpx true (Sx.fsub (Sx.fmul s (a j)) (Sx.fmul w (b j))) (Sx.fadd (Sx.fmul s (b j)) (Sx.fmul w (a j)))]))] (fun _ => True) (fun _ _ => False) trivial (fun i hi _ => ?_)).mono fun e fr' H' h => ?_
 ·refine (rsL 1 (by omega) n i s w a b (fun j => [.cpx true (Sx.fsub (Sx.fmul s (a j)) (Sx.fmul w (b j))) (Sx.fadd (Sx.fmul s (b j)) (Sx.fmul w (a j)))]) (fun t => by have := of_decide_eq_true t; omega) (fun t => by have := of_decide_eq_true t; omega) (fun t => by have := of_decide_eq_true t; omega)).renL fun e fr' H' h => ?_
  refine Sx.cond_elim h (fun t h => ?_) (fun t h => ?_)
  ·have hlt : i < n := by have := of_decide_eq_true t; omega
   obtain ⟨rfl, rfl, rfl⟩ := h
   exact ⟨fun g => if g = 1 then 3 else g, [(0, .cpx true s w), (1, Sx.slcV 0 n), (5, .slc true true ⟨false, 1, 0, 0⟩ (i + 1)), (6, .int true .i64 ((i + 1 : Nat) : Int))], [(0, .cells false 1 (n) (.fn fun j => [.cpx true (a j) (b j)])), (1, .cells true 1 (i + 1) (.fn fun j => [.cpx true (Sx.fsub (Sx.fmul s (a j)) (Sx.fmul w (b j))) (Sx.fadd (Sx.fmul s (b j)) (Sx.fmul w (a j)))]))], fun g hg => if_neg (by omega), ⟨⟨_, rfl, Sx.AV.ge.refl _, rfl⟩, ⟨_, rfl, Sx.AV.ge.refl _, rfl⟩, ⟨_, rfl, Sx.AV.ge.refl _, rfl⟩, ⟨_, rfl, Sx.AV.ge.int _ _ _ _, rfl⟩, trivial⟩, ⟨⟨_, rfl, Sx.SameC.refl _, fun j hj u hu => low_c hu, by omega⟩, ⟨_, rfl, ⟨rfl, rfl, rfl, fun j hj => by rw [Nat.zero_add]; exact Sx.row_app (fun j => [.cpx true (Sx.fsub (Sx.fmul s (a j)) (Sx.fmul w (b j))) (Sx.fadd (Sx.fmul s (b j)) (Sx.fmul w (a j)))]) _ i j hj⟩, fun j hj u hu => low_c hu, by omega⟩, trivial⟩, sg3_inj, .inl ⟨rfl, hlt, trivial, rfl, rfl⟩⟩
  ·obtain rfl : i = n := by have := of_decide_eq_false t; omega
   obtain ⟨rfl, rfl, rfl⟩ := h
   exact ⟨id, [(5, .slc true true ⟨false, 1, 0, 0⟩ (i))], [(1, .cells true 1 (i) (.fn fun j => [.cpx true (Sx.fsub (Sx.fmul s (a j)) (Sx.fmul w (b j))) (Sx.fadd (Sx.fmul s (b j)) (Sx.fmul w (a j)))]))], fun g hg => rfl, ⟨⟨_, rfl, Sx.AV.ge.refl _, rfl⟩, trivial⟩, ⟨⟨_, rfl, Sx.SameC.refl _, fun j hj u hu => low_c hu, by omega⟩, trivial⟩, fun i j _ _ h => h, .inr (.inl ⟨rfl, trivial, rfl, rfl⟩)⟩
 rcases h with ⟨rfl, _, rfl, rfl⟩ | ⟨_, h⟩
 case inr => exact h.elim
 refine (rsZ 1 (by omega) n n s w a b (fun j => [.cpx true (Sx.fsub (Sx.fmul s (a j)) (Sx.fmul w (b j))) (Sx.fadd (Sx.fmul s (b j)) (Sx.fmul w (a j)))])).mono fun e fr' H' ⟨e1, e2, e3⟩ => ?_
 subst e1 e2 e3
 exact ⟨rfl, rfl, rfl⟩

noncomputable def raxS : List Sx.AV → Sx.M Sx.AV
 | [.cpx q s w, x, y] => Sx.c2 x y fun n a b m a' b' => (Sx.M.dec (decide ((fun n m => vmay n m) n m = 0))).andThen fun d => bif d then (Sx.M.newB (.cells true 1 ((fun n m => n) n m) (.fn (fun j => [.cpx true (Sx.fadd (a' j) (Sx.fsub (Sx.fmul s (a j)) (Sx.fmul w (b j)))) (Sx.fadd (b' j) (Sx.fadd (Sx.fmul s (b j)) (Sx.fmul w (a j))))])))).andThen fun N => Sx.M.ret ((fun n m N => .tup [.slc true true ⟨false, N, 0, 0⟩ n, .int true .i64 0]) n m N) else Sx.M.ret (.tup [.nils, .int true .i64 (vmay n m)])
 | _ => Sx.M.no
theorem raxS_ok : ∀ args v g g', raxS args g = .done v g' → Sx.CallIs Try.prog 14 args v g g' := by
 intro args v g g' h
 unfold raxS at h
 split at h
 ·rename_i q s w x y
  exact Sx.c2_err Try.func14 (by kernel_rfl) (by kernel_rfl) (pl := [.cpx q s w]) (pr := []) (fun u hu => by simp at hu; (try rcases hu with rfl | rfl) <;> (try subst hu) <;> rfl) (K' := 3) (nm := 2) (len := fun n m => n) (val := fun n m N => .tup [.slc true true ⟨false, N, 0, 0⟩ n, .int true .i64 0]) (rows := fun n a b m a' b' => fun j => [.cpx true (Sx.fadd (a' j) (Sx.fsub (Sx.fmul s (a j)) (Sx.fmul w (b j)))) (Sx.fadd (b' j) (Sx.fadd (Sx.fmul s (b j)) (Sx.fmul w (a j))))]) (fun n m => Sx.Named.tup n 0) (fun n a b m a' b' j hj u hu => low_c hu) (E := fun n m => vmay n m) (res := fun n a b m a' b' => .tup [.nils, .int true .i64 (vmay n m)]) (fun n a b m a' b' => ⟨fun N => by simp [Sx.AV.low, Sx.lows], fun S => by simp [Sx.AV.inS, Sx.insS], fun σ => rfl⟩) (fun n a b m a' b' he hn hm hw hw' => ((Sx.GoesB.weakL (fl := [(0, .cpx true s w), (1, Sx.slcV 0 n), (2, Sx.slcV 1 m)]) (bl := [(0, .cells false 1 (n) (.fn fun j => [.cpx true (a j) (b j)])), (1, .cells false 1 m (.fn fun j => [.cpx true (a' j) (b' j)]))]) ⟨⟨_, rfl, Sx.AV.ge.cpx' _ _ rfl rfl⟩, (Sx.re rfl), (Sx.re rfl), trivial⟩ ⟨(Sx.hs rfl), (Sx.hs rfl), trivial⟩ (ra_goes n m s w a b a' b' hn hm hw hw')).mono fun e fr' H' hp => by
   obtain ⟨rfl, ⟨_, e2, e3⟩ | ⟨e1, _⟩⟩ := hp
   ·exact ⟨.inl rfl, _, _, Sx.res2 (t := 6) (t' := 7) (by kernel_rfl) e2 e3, trivial, Sx.AV.ge.refl _, Sx.news0⟩
   ·exact (he e1).elim)) (fun n a b m a' b' he hn hm hw hw' => ((Sx.GoesB.weakL (fl := [(0, .cpx true s w), (1, Sx.slcV 0 n), (2, Sx.slcV 1 m)]) (bl := [(0, .cells false 1 (n) (.fn fun j => [.cpx true (a j) (b j)])), (1, .cells false 1 m (.fn fun j => [.cpx true (a' j) (b' j)]))]) ⟨⟨_, rfl, Sx.AV.ge.cpx' _ _ rfl rfl⟩, (Sx.re rfl), (Sx.re rfl), trivial⟩ ⟨(Sx.hs rfl), (Sx.hs rfl), trivial⟩ (ra_goes n m s w a b a' b' hn hm hw hw'))).mono fun e fr' H' hp => by
   obtain ⟨rfl, ⟨e1, _⟩ | ⟨_, rfl, rfl⟩⟩ := hp
   ·exact (e1 he).elim
   ·exact ⟨.inl rfl, _, _, Sx.res2 (t := 6) (t' := 7) (by kernel_rfl) rfl rfl, trivial, Sx.AV.ge.tup2 (Sx.AV.ge.refl _) (Sx.AV.ge.int _ _ _ _), Sx.news1 rfl (Sx.SameC.refl _) rfl (fun j hj u hu => low_c hu)⟩) _ _ _ _ _ h
 ·exact (Sx.no_done h).elim
theorem raxS_tch : ∀ args, Sx.Tch (raxS args) := by
 intro args
 unfold raxS
 split
 ·exact Sx.Tch.c2 _ _ fun _ _ _ _ _ _ => (Sx.Tch.dec _).andThen fun d => Sx.Tch.cond ((Sx.Tch.newB _).andThen fun _ => Sx.Tch.ret _) (Sx.Tch.ret _)
 ·exact Sx.Tch.no
noncomputable def rscS : List Sx.AV → Sx.M Sx.AV
 | [.cpx q s w, x] => Sx.c1 x fun n a b => (Sx.M.newB (.cells true 1 ((fun n => n) n) (.fn (fun j => [.cpx true (Sx.fsub (Sx.fmul s (a j)) (Sx.fmul w (b j))) (Sx.fadd (Sx.fmul s (b j)) (Sx.fmul w (a j)))])))).andThen fun N => Sx.M.ret ((fun n N => .slc true true ⟨false, N, 0, 0⟩ n) n N)
 | _ => Sx.M.no
theorem rscS_ok : ∀ args v g g', rscS args g = .done v g' → Sx.CallIs Try.prog 18 args v g g' := by
 intro args v g g' h
 unfold rscS at h
 split at h
 ·rename_i q s w x
  exact Sx.c1_new Try.func18 (by kernel_rfl) (by kernel_rfl) (pl := [.cpx q s w]) (pr := []) (fun u hu => by simp at hu; (try rcases hu with rfl | rfl) <;> (try subst hu) <;> rfl) (K' := 2) (nm := 1) (len := fun n => n) (val := fun n N => .slc true true ⟨false, N, 0, 0⟩ n) (rows := fun n a b => fun j => [.cpx true (Sx.fsub (Sx.fmul s (a j)) (Sx.fmul w (b j))) (Sx.fadd (Sx.fmul s (b j)) (Sx.fmul w (a j)))]) (fun n => Sx.Named.slc n) (fun n a b j hj u hu => low_c hu) (fun n a b hn hw => ((Sx.GoesB.weakL (fl := [(0, .cpx true s w), (1, Sx.slcV 0 n)]) (bl := [(0, .cells false 1 (n) (.fn fun j => [.cpx true (a j) (b j)]))]) ⟨⟨_, rfl, Sx.AV.ge.cpx' _ _ rfl rfl⟩, (Sx.re rfl), trivial⟩ ⟨(Sx.hs rfl), trivial⟩ (rs_goes n s w a b hn))).mono fun e fr' H' hp => by obtain ⟨rfl, rfl, rfl⟩ := hp; exact ⟨.inl rfl, _, _, Sx.res1 (t := 4) (by kernel_rfl) rfl, trivial, Sx.AV.ge.refl _, Sx.news1 rfl (Sx.SameC.refl _) rfl (fun j hj u hu => low_c hu)⟩) _ _ _ _ h
 ·exact (Sx.no_done h).elim
theorem rscS_tch : ∀ args, Sx.Tch (rscS args) := by
 intro args
 unfold rscS
 split
 ·exact Sx.Tch.c1 _ fun _ _ _ => (Sx.Tch.newB _).andThen fun _ => Sx.Tch.ret _
 ·exact Sx.Tch.no
def oneC (n : Nat) (rows : Nat → List Sx.AV) : Prop := ∃ q, rows 0 = [.cpx q (Sx.cre (rows 0)) (Sx.cim (rows 0))]
noncomputable def bothAxS : List Sx.AV → Sx.M Sx.AV
 | [x, y, .fn (.func 50) [] [.ptr a]] => (Sx.rd 1 x Sx.cL).andThen fun X => (Sx.rd 1 y Sx.cL).andThen fun Y => (Sx.rd 1 (.slc true false a 1) oneC).andThen fun Z => (Sx.M.dec (decide (vmay X.1 Y.1 = 0))).andThen fun d => bif d then (Sx.M.newB (.cells true 1 X.1 (.fn (fun j => [.cpx true (Sx.fadd (Sx.cre (Y.2 j)) (Sx.fsub (Sx.fmul (Sx.cre (Z.2 0)) (Sx.cre (X.2 j))) (Sx.fmul (Sx.cim (Z.2 0)) (Sx.cim (X.2 j))))) (Sx.fadd (Sx.cim (Y.2 j)) (Sx.fadd (Sx.fmul (Sx.cre (Z.2 0)) (Sx.cim (X.2 j))) (Sx.fmul (Sx.cim (Z.2 0)) (Sx.cre (X.2 j)))))])))).andThen fun N => Sx.M.ret (.tup [.slc true true ⟨false, N, 0, 0⟩ X.1, .int true .i64 0]) else Sx.M.ret (.tup [.nils, .int true .i64 (vmay X.1 Y.1)])
 | _ => Sx.M.no
theorem bothAxS_tch : ∀ args, Sx.Tch (bothAxS args) := by
 intro args
 unfold bothAxS
 split
 ·exact (Sx.Tch.rd _ _ _).andThen fun _ => (Sx.Tch.rd _ _ _).andThen fun _ => (Sx.Tch.rd _ _ _).andThen fun _ => (Sx.Tch.dec _).andThen fun d => Sx.Tch.cond ((Sx.Tch.newB _).andThen fun _ => Sx.Tch.ret _) (Sx.Tch.ret _)
 ·exact Sx.Tch.no
theorem srcOf_len {esz : Nat} {s own : Bool} {a : Sx.AA} {n : Nat} {y : Bool × Nat × (Nat → List Sx.AV)} {g g' : Sx.G} (h : Sx.srcOf esz (.slc s own a n) g = .done y g') : y.2.1 = n := by
 unfold Sx.srcOf at h
 obtain ⟨b, g1, a1, h1⟩ := Sx.done_of h
 obtain ⟨_, g2, a2, h2⟩ := Sx.done_of h1
 obtain ⟨rfl, rfl⟩ := Sx.ret_done h2
 rfl
theorem rd_len {esz : Nat} {s own : Bool} {a : Sx.AA} {n : Nat} {p : Nat → (Nat → List Sx.AV) → Prop} {y : Nat × (Nat → List Sx.AV)} {g g' : Sx.G} (h : Sx.rd esz (.slc s own a n) p g = .done y g') : y.1 = n := by
 unfold Sx.rd at h
 obtain ⟨z, g1, a1, h1⟩ := Sx.done_of h
 obtain ⟨_, g2, a2, h2⟩ := Sx.done_of h1
 obtain ⟨rfl, rfl⟩ := Sx.ret_done h2
 exact srcOf_len a1
theorem bothAxS_ok : ∀ args v g g', bothAxS args g = .done v g' → Sx.CallIs Try.prog 49 args v g g' := by
 intro args v g g' hd
 unfold bothAxS at hd
 split at hd
 ·rename_i x y a
  obtain ⟨⟨n, r⟩, g1, a1, hd⟩ := Sx.done_of hd
  obtain ⟨q1, k1, f1⟩ := Sx.rd_done a1 (by omega)
  obtain ⟨⟨m, s⟩, g2, a2, hd⟩ := Sx.done_of hd
  obtain ⟨q2, k2, f2⟩ := Sx.rd_done a2 (by omega)
  obtain ⟨⟨k, t⟩, g3, a3, hd⟩ := Sx.done_of hd
  obtain ⟨q3, k3, f3⟩ := Sx.rd_done a3 (by omega)
  obtain rfl : k = 1 := rd_len a3
  have k12 := k1.trans k2
  have k123 := k12.trans k3
  have ok2 : (q1 ∧ q2) ∧ q3 → Sx.Vw.Ok ⟨y, 1, m, s⟩ g := fun hp => (f2 hp.1.2).1.same k1
  have ok3 : (q1 ∧ q2) ∧ q3 → Sx.Vw.Ok ⟨.slc true false a 1, 1, 1, t⟩ g := fun hp => (f3 hp.2).1.same k12
  have hvw : (q1 ∧ q2) ∧ q3 → ∀ v ∈ [(⟨x, 1, n, r⟩ : Sx.Vw), ⟨y, 1, m, s⟩, ⟨.slc true false a 1, 1, 1, t⟩], v.Ok g := fun hp v hv => by
   simp only [List.mem_cons, List.not_mem_nil, or_false] at hv
   rcases hv with rfl | rfl | rfl
   ·exact (f1 hp.1.1).1
   ·exact ok2 hp
   ·exact ok3 hp
  have hrep : (q1 ∧ q2) ∧ q3 → ∀ N μ (cs : List Value), Sx.Reps N μ [x, y, .fn (.func 50) [] [.ptr a]] cs → Sx.Reps 3 (Sx.vwMM μ [(⟨x, 1, n, r⟩ : Sx.Vw), ⟨y, 1, m, s⟩, ⟨.slc true false a 1, 1, 1, t⟩]) [Sx.slcV 0 n, Sx.slcV 1 m, .fn (.func 50) [] [.ptr ⟨false, 2, 0, 0⟩]] cs := fun hp N μ cs hcs => by
   simp only [Sx.Reps] at hcs ⊢
   obtain ⟨cv, r', rfl, h4, cv2, r2, rfl, h5, cv3, r3, rfl, h6, rfl⟩ := hcs
   refine ⟨cv, _, rfl, Sx.vw_val (l := [(⟨x, 1, n, r⟩ : Sx.Vw), ⟨y, 1, m, s⟩, ⟨.slc true false a 1, 1, 1, t⟩]) (i := 0) (f1 hp.1.1).1 rfl h4, cv2, _, rfl, Sx.vw_val (l := [(⟨x, 1, n, r⟩ : Sx.Vw), ⟨y, 1, m, s⟩, ⟨.slc true false a 1, 1, 1, t⟩]) (i := 1) (ok2 hp) rfl h5, cv3, _, rfl, ?_, rfl⟩
   simp only [Sx.Rep, Sx.Reps] at h6 ⊢
   obtain ⟨fs, cs, e1, e2, cp, rp, e3, ⟨e4, e5⟩, e6⟩ := h6
   refine ⟨fs, cs, e1, e2, cp, rp, e3, ⟨by omega, ?_⟩, e6⟩
   rw [e5]
   simp [Sx.MM.addr, Sx.vwMM, Sx.locBlk, Sx.locBase]
  obtain ⟨d, g4, a4, h4⟩ := Sx.done_of hd
  have k4 := k123.trans (Sx.dec_done a4)
  have wk : ∀ {Post : Sx.Po} (hp : (q1 ∧ q2) ∧ q3), Sx.GoesB Try.prog (Sx.bodyOf Try.f49) Try.f49.ntmps 3 3 4 (Sx.frameOf [Sx.slcV 0 n, Sx.slcV 1 m, .fn (.func 50) [] [.ptr ⟨false, 2, 0, 0⟩]] 0 .e) (Sx.hpL [(0, .cells false 1 n (.fn fun j => [.cpx true (Sx.cre (r j)) (Sx.cim (r j))])), (1, .cells false 1 m (.fn fun j => [.cpx true (Sx.cre (s j)) (Sx.cim (s j))])), (2, .cells false 1 1 (.fn fun _ => [.cpx true (Sx.cre (t 0)) (Sx.cim (t 0))]))]) Post → Sx.GoesB Try.prog (Sx.bodyOf Try.f49) Try.f49.ntmps 3 3 4 (Sx.frameOf [Sx.slcV 0 n, Sx.slcV 1 m, .fn (.func 50) [] [.ptr ⟨false, 2, 0, 0⟩]] 0 .e) (Sx.hpL (Sx.vwL [(⟨x, 1, n, r⟩ : Sx.Vw), ⟨y, 1, m, s⟩, ⟨.slc true false a 1, 1, 1, t⟩] 0)) Post := fun hp h => by
   obtain ⟨_, hm, hz⟩ := f1 hp.1.1
   obtain ⟨_, hm', hz'⟩ := f2 hp.1.2
   obtain ⟨_, q9, hz''⟩ := f3 hp.2
   dsimp only at hm hz hm' hz' hz''
   refine Sx.GoesB.weakG (fun t u hu => ⟨u, hu, Sx.AV.ge.refl _⟩) (fun i b hb => ?_) h
   have hb' := Sx.hpL_get hb
   simp only [List.mem_cons, List.not_mem_nil, or_false] at hb'
   rcases hb' with hb' | hb' | hb'
   ·cases hb'; exact ⟨_, rfl, rfl, rfl, rfl, fun j hj => (hz j hj).ge⟩
   ·cases hb'; exact ⟨_, rfl, rfl, rfl, rfl, fun j hj => (hz' j hj).ge⟩
   ·cases hb'; exact ⟨_, rfl, rfl, rfl, rfl, fun j hj => by (have e : j = 0 := Nat.lt_one_iff.1 hj); subst e; show Sx.RowGe (t 0) _; rw [hz'']; exact ⟨Sx.AV.ge.cpx' _ _ rfl rfl, rfl, trivial⟩⟩
  cases d with
  | true =>
   rw [cond_true] at h4
   obtain ⟨N, g5, a5, h5⟩ := Sx.done_of h4
   obtain ⟨rfl, rfl⟩ := Sx.ret_done h5
   cases a5
   rw [k4.2.1]
   refine Sx.reads (c := Sx.bodyOf Try.f49) Try.func49 (by kernel_rfl) (by kernel_rfl) k4 [(⟨x, 1, n, r⟩ : Sx.Vw), ⟨y, 1, m, s⟩, ⟨.slc true false a 1, 1, 1, t⟩] (fun hp => hvw hp.1) (argsC := [Sx.slcV 0 n, Sx.slcV 1 m, .fn (.func 50) [] [.ptr ⟨false, 2, 0, 0⟩]]) (fun hp => hrep hp.1) (nms := [3]) (bs := [.cells true 1 n (.fn (fun j => [.cpx true (Sx.fadd (Sx.cre (s j)) (Sx.fsub (Sx.fmul (Sx.cre (t 0)) (Sx.cre (r j))) (Sx.fmul (Sx.cim (t 0)) (Sx.cim (r j))))) (Sx.fadd (Sx.cim (s j)) (Sx.fadd (Sx.fmul (Sx.cre (t 0)) (Sx.cim (r j))) (Sx.fmul (Sx.cim (t 0)) (Sx.cre (r j)))))]))]) (K' := 4) (fun hp => ?_) ((Sx.Named.tup n 0).low _) ((Sx.Named.tup n 0).ins _) (by rw [k4.1]; rfl) rfl id
   obtain ⟨_, hm, hz⟩ := f1 hp.1.1.1
   obtain ⟨_, hm', hz'⟩ := f2 hp.1.1.2
   dsimp only at hm hz hm' hz'
   refine wk hp.1 ((ax_goes n m (Sx.cre (t 0)) (Sx.cim (t 0)) _ _ _ _ hm hm' (fun j hj => (hz j hj).2) (fun j hj => (hz' j hj).2)).mono fun e fr' H' h => ?_)
   have he := of_decide_eq_true hp.2
   obtain ⟨rfl, ⟨e1, _⟩ | ⟨_, rfl, rfl⟩⟩ := h
   ·exact (e1 he).elim
   ·exact ⟨.inl rfl, _, _, Sx.res2 (t := 6) (t' := 7) (by kernel_rfl) rfl rfl, trivial, by
     rw [(Sx.Named.tup n 0).ren]
     have e4 : Sx.AV.ge (Sx.packA [.slc true true ⟨false, 3, 0, 0⟩ n, .int false .i64 0]) (.tup [.slc true true ⟨false, 3, 0, 0⟩ n, .int true .i64 0]) := Sx.AV.ge.tup2 (Sx.AV.ge.refl _) (Sx.AV.ge.int _ _ _ _)
     simpa using e4, Sx.news1 rfl (Sx.SameC.refl _) rfl (fun j hj u hu => low_c hu)⟩
  | false =>
   rw [cond_false] at h4
   obtain ⟨rfl, rfl⟩ := Sx.ret_done h4
   refine Sx.reads (c := Sx.bodyOf Try.f49) Try.func49 (by kernel_rfl) (by kernel_rfl) k4 [(⟨x, 1, n, r⟩ : Sx.Vw), ⟨y, 1, m, s⟩, ⟨.slc true false a 1, 1, 1, t⟩] (fun hp => hvw hp.1) (argsC := [Sx.slcV 0 n, Sx.slcV 1 m, .fn (.func 50) [] [.ptr ⟨false, 2, 0, 0⟩]]) (fun hp => hrep hp.1) (nms := []) (bs := []) (K' := 4) (fun hp => ?_) (by simp [Sx.AV.low, Sx.lows]) (by simp [Sx.AV.inS, Sx.insS]) (by rw [k4.1]; rfl) (by rw [k4.2.1]; rfl) id
   obtain ⟨_, hm, hz⟩ := f1 hp.1.1.1
   obtain ⟨_, hm', hz'⟩ := f2 hp.1.1.2
   dsimp only at hm hz hm' hz'
   refine wk hp.1 ((ax_goes n m (Sx.cre (t 0)) (Sx.cim (t 0)) _ _ _ _ hm hm' (fun j hj => (hz j hj).2) (fun j hj => (hz' j hj).2)).mono fun e fr' H' h => ?_)
   have he := of_decide_eq_false hp.2
   obtain ⟨rfl, ⟨_, e2, e3⟩ | ⟨e1, _⟩⟩ := h
   ·exact ⟨.inl rfl, _, _, Sx.res2 (t := 6) (t' := 7) (by kernel_rfl) e2 e3, trivial, Sx.AV.ge.refl _, Sx.news0⟩
   ·exact (he e1).elim
 ·exact (Sx.no_done hd).elim
theorem leN_r0 (len : Nat) (q : Nat → List Sx.AV) (c0 : (0 : Nat) + len ≤ len) (c1 : len * (16 : Nat) ≤ (140737488355328 : Nat)) (c2 : len ≤ (9223372036854775807 : Nat)) (c3 : len ≤ len) (c4 : (len + (1 : Nat)) * (16 : Nat) ≤ (140737488355328 : Nat)) (c5 : len + (1 : Nat) ≤ (9223372036854775807 : Nat)) (c6 : len + (1 : Nat) ≤ len + (1 : Nat)) (c7 : (len + (1 : Nat) + (1 : Nat)) * (16 : Nat) ≤ (140737488355328 : Nat)) (c8 : len + (1 : Nat) + (1 : Nat) ≤ (9223372036854775807 : Nat)) (c9 : len + (1 : Nat) + (1 : Nat) ≤ len + (1 : Nat) + (1 : Nat)) (c10 : (len + (1 : Nat) + (1 : Nat) + (1 : Nat)) * (16 : Nat) ≤ (140737488355328 : Nat)) (c11 : len + (1 : Nat) + (1 : Nat) + (1 : Nat) ≤ (9223372036854775807 : Nat)) (c12 : len + (1 : Nat) + (1 : Nat) + (1 : Nat) ≤ len + (1 : Nat) + (1 : Nat) + (1 : Nat)) (c13 : (len + (1 : Nat) + (1 : Nat) + (1 : Nat) + (1 : Nat)) * (16 : Nat) ≤ (140737488355328 : Nat)) (c14 : len + (1 : Nat) + (1 : Nat) + (1 : Nat) + (1 : Nat) ≤ (9223372036854775807 : Nat)) (c15 : len + (1 : Nat) + (1 : Nat) + (1 : Nat) + (1 : Nat) ≤ len + (1 : Nat) + (1 : Nat) + (1 : Nat) + (1 : Nat)) (c16 : (len + (1 : Nat) + (1 : Nat) + (1 : Nat) + (1 : Nat) + (1 : Nat)) * (16 : Nat) ≤ (140737488355328 : Nat)) (c17 : len + (1 : Nat) + (1 : Nat) + (1 : Nat) + (1 : Nat) + (1 : Nat) ≤ (9223372036854775807 : Nat)) (c18 : len + (1 : Nat) + (1 : Nat) + (1 : Nat) + (1 : Nat) + (1 : Nat) ≤ len + (1 : Nat) + (1 : Nat) + (1 : Nat) + (1 : Nat) + (1 : Nat)) (c19 : (len + (1 : Nat) + (1 : Nat) + (1 : Nat) + (1 : Nat) + (1 : Nat) + (1 : Nat)) * (16 : Nat) ≤ (140737488355328 : Nat)) (c20 : len + (1 : Nat) + (1 : Nat) + (1 : Nat) + (1 : Nat) + (1 : Nat) + (1 : Nat) ≤ (9223372036854775807 : Nat)) : Sx.PieceN 14 (Sx.Ex.ret) [(2, .slc true true ⟨false, 13, 0, 0⟩ (len + (1 : Nat) + (1 : Nat) + (1 : Nat) + (1 : Nat) + (1 : Nat) + (1 : Nat)))] [(13, .cells true 1 (len + (1 : Nat) + (1 : Nat) + (1 : Nat) + (1 : Nat) + (1 : Nat) + (1 : Nat)) (.fn fun j => bif decide (j < len + (1 : Nat) + (1 : Nat) + (1 : Nat) + (1 : Nat) + (1 : Nat)) then bif decide (j < len + (1 : Nat) + (1 : Nat) + (1 : Nat) + (1 : Nat)) then bif decide (j < len + (1 : Nat) + (1 : Nat) + (1 : Nat)) then bif decide (j < len + (1 : Nat) + (1 : Nat)) then bif decide (j < len + (1 : Nat)) then bif decide (j < len) then q ((0 : Nat) + j) else [Sx.AV.cpx false (13887798879287508992 : Nat) (4619567317775286272 : Nat)] else [Sx.AV.cpx false (13887799978799136768 : Nat) (4619567317775286272 : Nat)] else [Sx.AV.cpx false (13887801078310764544 : Nat) (4619567317775286272 : Nat)] else [Sx.AV.cpx false (13887802177822392320 : Nat) (4619567317775286272 : Nat)] else [Sx.AV.cpx false (13887803277334020096 : Nat) (4619567317775286272 : Nat)] else [Sx.AV.cpx false (13887804376845647872 : Nat) (4619567317775286272 : Nat)]))] (piececallW Try.f11 (Sx.bodyOf Try.f11) (Sx.frameOf [Sx.slcV 0 len] 0 .e) (Sx.hpL [(0, .cells false 1 len (.fn q))]) 1 []) := Sx.eqn (q := ((((((((True ∧ ((0 : Nat) + len ≤ len)) ∧ ((len * (16 : Nat) ≤ (140737488355328 : Nat)) ∧ (len ≤ (9223372036854775807 : Nat)))) ∧ ((len ≤ len) ∧ (((len + (1 : Nat)) * (16 : Nat) ≤ (140737488355328 : Nat)) ∧ (len + (1 : Nat) ≤ (9223372036854775807 : Nat))))) ∧ ((len + (1 : Nat) ≤ len + (1 : Nat)) ∧ (((len + (1 : Nat) + (1 : Nat)) * (16 : Nat) ≤ (140737488355328 : Nat)) ∧ (len + (1 : Nat) + (1 : Nat) ≤ (9223372036854775807 : Nat))))) ∧ ((len + (1 : Nat) + (1 : Nat) ≤ len + (1 : Nat) + (1 : Nat)) ∧ (((len + (1 : Nat) + (1 : Nat) + (1 : Nat)) * (16 : Nat) ≤ (140737488355328 : Nat)) ∧ (len + (1 : Nat) + (1 : Nat) + (1 : Nat) ≤ (9223372036854775807 : Nat))))) ∧ ((len + (1 : Nat) + (1 : Nat) + (1 : Nat) ≤ len + (1 : Nat) + (1 : Nat) + (1 : Nat)) ∧ (((len + (1 : Nat) + (1 : Nat) + (1 : Nat) + (1 : Nat)) * (16 : Nat) ≤ (140737488355328 : Nat)) ∧ (len + (1 : Nat) + (1 : Nat) + (1 : Nat) + (1 : Nat) ≤ (9223372036854775807 : Nat))))) ∧ ((len + (1 : Nat) + (1 : Nat) + (1 : Nat) + (1 : Nat) ≤ len + (1 : Nat) + (1 : Nat) + (1 : Nat) + (1 : Nat)) ∧ (((len + (1 : Nat) + (1 : Nat) + (1 : Nat) + (1 : Nat) + (1 : Nat)) * (16 : Nat) ≤ (140737488355328 : Nat)) ∧ (len + (1 : Nat) + (1 : Nat) + (1 : Nat) + (1 : Nat) + (1 : Nat) ≤ (9223372036854775807 : Nat))))) ∧ ((len + (1 : Nat) + (1 : Nat) + (1 : Nat) + (1 : Nat) + (1 : Nat) ≤ len + (1 : Nat) + (1 : Nat) + (1 : Nat) + (1 : Nat) + (1 : Nat)) ∧ (((len + (1 : Nat) + (1 : Nat) + (1 : Nat) + (1 : Nat) + (1 : Nat) + (1 : Nat)) * (16 : Nat) ≤ (140737488355328 : Nat)) ∧ (len + (1 : Nat) + (1 : Nat) + (1 : Nat) + (1 : Nat) + (1 : Nat) + (1 : Nat) ≤ (9223372036854775807 : Nat)))))) (by kernel_rfl) ⟨⟨⟨⟨⟨⟨⟨⟨trivial, c0⟩, ⟨c1, c2⟩⟩, ⟨c3, ⟨c4, c5⟩⟩⟩, ⟨c6, ⟨c7, c8⟩⟩⟩, ⟨c9, ⟨c10, c11⟩⟩⟩, ⟨c12, ⟨c13, c14⟩⟩⟩, ⟨c15, ⟨c16, c17⟩⟩⟩, ⟨c18, ⟨c19, c20⟩⟩⟩
theorem leN (B : Nat) (hB : B ≤ 1) (len : Nat) (q : Nat → List Sx.AV) (x0 : (len * (16 : Nat) ≤ (140737488355328 : Nat))) (x1 : (len ≤ (9223372036854775807 : Nat))) (x2 : ((len + (1 : Nat)) * (16 : Nat) ≤ (140737488355328 : Nat))) (x3 : (len + (1 : Nat) ≤ (9223372036854775807 : Nat))) (x4 : ((len + (1 : Nat) + (1 : Nat)) * (16 : Nat) ≤ (140737488355328 : Nat))) (x5 : (len + (1 : Nat) + (1 : Nat) ≤ (9223372036854775807 : Nat))) (x6 : ((len + (1 : Nat) + (1 : Nat) + (1 : Nat)) * (16 : Nat) ≤ (140737488355328 : Nat))) (x7 : (len + (1 : Nat) + (1 : Nat) + (1 : Nat) ≤ (9223372036854775807 : Nat))) (x8 : ((len + (1 : Nat) + (1 : Nat) + (1 : Nat) + (1 : Nat)) * (16 : Nat) ≤ (140737488355328 : Nat))) (x9 : (len + (1 : Nat) + (1 : Nat) + (1 : Nat) + (1 : Nat) ≤ (9223372036854775807 : Nat))) (x10 : ((len + (1 : Nat) + (1 : Nat) + (1 : Nat) + (1 : Nat) + (1 : Nat)) * (16 : Nat) ≤ (140737488355328 : Nat))) (x11 : (len + (1 : Nat) + (1 : Nat) + (1 : Nat) + (1 : Nat) + (1 : Nat) ≤ (9223372036854775807 : Nat))) (x12 : ((len + (1 : Nat) + (1 : Nat) + (1 : Nat) + (1 : Nat) + (1 : Nat) + (1 : Nat)) * (16 : Nat) ≤ (140737488355328 : Nat))) (x13 : (len + (1 : Nat) + (1 : Nat) + (1 : Nat) + (1 : Nat) + (1 : Nat) + (1 : Nat) ≤ (9223372036854775807 : Nat))) : Sx.GoesB Try.prog (Sx.bodyOf Try.f11) Try.f11.ntmps B 1 14 (Sx.frameOf [Sx.slcV 0 len] 0 .e) (Sx.hpL [(0, .cells false 1 len (.fn q))]) fun e fr' H' => (e = .ret ∧ fr' = Sx.frL [(2, .slc true true ⟨false, 13, 0, 0⟩ (len + (1 : Nat) + (1 : Nat) + (1 : Nat) + (1 : Nat) + (1 : Nat) + (1 : Nat)))] ∧ H' = Sx.hpL [(13, .cells true 1 (len + (1 : Nat) + (1 : Nat) + (1 : Nat) + (1 : Nat) + (1 : Nat) + (1 : Nat)) (.fn fun j => bif decide (j < len + (1 : Nat) + (1 : Nat) + (1 : Nat) + (1 : Nat) + (1 : Nat)) then bif decide (j < len + (1 : Nat) + (1 : Nat) + (1 : Nat) + (1 : Nat)) then bif decide (j < len + (1 : Nat) + (1 : Nat) + (1 : Nat)) then bif decide (j < len + (1 : Nat) + (1 : Nat)) then bif decide (j < len + (1 : Nat)) then bif decide (j < len) then q ((0 : Nat) + j) else [Sx.AV.cpx false (13887798879287508992 : Nat) (4619567317775286272 : Nat)] else [Sx.AV.cpx false (13887799978799136768 : Nat) (4619567317775286272 : Nat)] else [Sx.AV.cpx false (13887801078310764544 : Nat) (4619567317775286272 : Nat)] else [Sx.AV.cpx false (13887802177822392320 : Nat) (4619567317775286272 : Nat)] else [Sx.AV.cpx false (13887803277334020096 : Nat) (4619567317775286272 : Nat)] else [Sx.AV.cpx false (13887804376845647872 : Nat) (4619567317775286272 : Nat)]))]) := by
 exact (Sx.GoesB.runN callW_ok (callW_reg _) (Sx.LoopsIn.none _ _ _) (leN_r0 len q (by first | decide | omega) (x0) (x1) (by first | decide | omega) (x2) (x3) (by first | decide | omega) (x4) (x5) (by first | decide | omega) (x6) (x7) (by first | decide | omega) (x8) (x9) (by first | decide | omega) (x10) (x11) (by first | decide | omega) (x12) (x13)) hB).mono fun e fr' H' h => h
noncomputable def leR (len : Nat) (q : Nat → List Sx.AV) (j : Nat) : List Sx.AV := bif decide (j < len + (1 : Nat) + (1 : Nat) + (1 : Nat) + (1 : Nat) + (1 : Nat)) then bif decide (j < len + (1 : Nat) + (1 : Nat) + (1 : Nat) + (1 : Nat)) then bif decide (j < len + (1 : Nat) + (1 : Nat) + (1 : Nat)) then bif decide (j < len + (1 : Nat) + (1 : Nat)) then bif decide (j < len + (1 : Nat)) then bif decide (j < len) then q ((0 : Nat) + j) else [Sx.AV.cpx false (13887798879287508992 : Nat) (4619567317775286272 : Nat)] else [Sx.AV.cpx false (13887799978799136768 : Nat) (4619567317775286272 : Nat)] else [Sx.AV.cpx false (13887801078310764544 : Nat) (4619567317775286272 : Nat)] else [Sx.AV.cpx false (13887802177822392320 : Nat) (4619567317775286272 : Nat)] else [Sx.AV.cpx false (13887803277334020096 : Nat) (4619567317775286272 : Nat)] else [Sx.AV.cpx false (13887804376845647872 : Nat) (4619567317775286272 : Nat)]
theorem leR_all {p : List Sx.AV → Prop} (len : Nat) (q : Nat → List Sx.AV) (hq : ∀ j, j < len → p (q j)) (hm : ∀ a, a ∈ [13887804376845647872, 13887803277334020096, 13887802177822392320, 13887801078310764544, 13887799978799136768, 13887798879287508992] → p [.cpx false a 4619567317775286272]) (j : Nat) : p (leR len q j) := by
 unfold leR
 rw [Nat.zero_add]
 cases h5 : decide (j < len + 1 + 1 + 1 + 1 + 1) with
 | false => exact hm _ (by simp)
 | true =>
  rw [cond_true]
  cases h4 : decide (j < len + 1 + 1 + 1 + 1) with
  | false => exact hm _ (by simp)
  | true =>
   rw [cond_true]
   cases h3 : decide (j < len + 1 + 1 + 1) with
   | false => exact hm _ (by simp)
   | true =>
    rw [cond_true]
    cases h2 : decide (j < len + 1 + 1) with
    | false => exact hm _ (by simp)
    | true =>
     rw [cond_true]
     cases h1 : decide (j < len + 1) with
     | false => exact hm _ (by simp)
     | true =>
      rw [cond_true]
      cases h0 : decide (j < len) with
      | false => exact hm _ (by simp)
      | true =>
       rw [cond_true]
       exact hq j (of_decide_eq_true h0)
theorem leR_lt (len : Nat) (q : Nat → List Sx.AV) (j : Nat) (h : j < len) : leR len q j = q j := by
 unfold leR
 rw [Nat.zero_add]
 simp only [show decide (j < len + 1 + 1 + 1 + 1 + 1) = true from decide_eq_true (by omega), show decide (j < len + 1 + 1 + 1 + 1) = true from decide_eq_true (by omega), show decide (j < len + 1 + 1 + 1) = true from decide_eq_true (by omega), show decide (j < len + 1 + 1) = true from decide_eq_true (by omega), show decide (j < len + 1) = true from decide_eq_true (by omega), decide_eq_true h, cond_true]
theorem leR_bare (len : Nat) (q : Nat → List Sx.AV) (hq : ∀ j, j < len → ∀ u, u ∈ q j → u.low 0 = true) (j : Nat) : ∀ u, u ∈ leR len q j → u.low 0 = true :=
 leR_all (p := fun r => ∀ u, u ∈ r → u.low 0 = true) len q hq (fun a _ u hu => by simp at hu; subst hu; rfl) j
theorem leR_crow (len : Nat) (q : Nat → List Sx.AV) (hq : Sx.CRows len q) (n : Nat) : Sx.CRows n (leR len q) := fun j _ =>
 leR_all (p := Sx.CRow) len q hq (fun a ha => ⟨⟨false, rfl⟩, by
  simp at ha
  rcases ha with rfl | rfl | rfl | rfl | rfl | rfl <;> exact ⟨by decide, by kernel_rfl⟩, ⟨by show (4619567317775286272 : Nat) < 18446744073709551616; decide, by kernel_rfl⟩⟩) j
theorem le_a (len n : Nat) (hl : (len + 6) * 16 ≤ 140737488355328) (h : n ≤ len + 6) : n * 16 ≤ 140737488355328 := Nat.le_trans (Nat.mul_le_mul_right 16 h) hl
theorem le_b (len n : Nat) (hl : (len + 6) * 16 ≤ 140737488355328) (h : n ≤ len + 6) : n ≤ 9223372036854775807 := by
 have := le_a len n hl h
 omega
theorem le_goes (len : Nat) (q : Nat → List Sx.AV) (hl : (len + 6) * 16 ≤ 140737488355328) : Sx.GoesB Try.prog (Sx.bodyOf Try.f11) Try.f11.ntmps 1 1 14 (Sx.frameOf [Sx.slcV 0 len] 0 .e) (Sx.hpL [(0, .cells false 1 len (.fn q))]) fun e fr' H' => (e = .ret ∧ fr' = Sx.frL [(2, .slc true true ⟨false, 13, 0, 0⟩ (len + (1 : Nat) + (1 : Nat) + (1 : Nat) + (1 : Nat) + (1 : Nat) + (1 : Nat)))] ∧ H' = Sx.hpL [(13, .cells true 1 (len + (1 : Nat) + (1 : Nat) + (1 : Nat) + (1 : Nat) + (1 : Nat) + (1 : Nat)) (.fn fun j => bif decide (j < len + (1 : Nat) + (1 : Nat) + (1 : Nat) + (1 : Nat) + (1 : Nat)) then bif decide (j < len + (1 : Nat) + (1 : Nat) + (1 : Nat) + (1 : Nat)) then bif decide (j < len + (1 : Nat) + (1 : Nat) + (1 : Nat)) then bif decide (j < len + (1 : Nat) + (1 : Nat)) then bif decide (j < len + (1 : Nat)) then bif decide (j < len) then q ((0 : Nat) + j) else [Sx.AV.cpx false (13887798879287508992 : Nat) (4619567317775286272 : Nat)] else [Sx.AV.cpx false (13887799978799136768 : Nat) (4619567317775286272 : Nat)] else [Sx.AV.cpx false (13887801078310764544 : Nat) (4619567317775286272 : Nat)] else [Sx.AV.cpx false (13887802177822392320 : Nat) (4619567317775286272 : Nat)] else [Sx.AV.cpx false (13887803277334020096 : Nat) (4619567317775286272 : Nat)] else [Sx.AV.cpx false (13887804376845647872 : Nat) (4619567317775286272 : Nat)]))]) := leN 1 (Nat.le_refl 1) len q (le_a len _ hl (Nat.add_le_add_left (Nat.le_of_ble_eq_true rfl : 0 ≤ 6) len)) (le_b len _ hl (Nat.add_le_add_left (Nat.le_of_ble_eq_true rfl : 0 ≤ 6) len)) (le_a len _ hl (Nat.add_le_add_left (Nat.le_of_ble_eq_true rfl : 1 ≤ 6) len)) (le_b len _ hl (Nat.add_le_add_left (Nat.le_of_ble_eq_true rfl : 1 ≤ 6) len)) (le_a len _ hl (Nat.add_le_add_left (Nat.le_of_ble_eq_true rfl : 2 ≤ 6) len)) (le_b len _ hl (Nat.add_le_add_left (Nat.le_of_ble_eq_true rfl : 2 ≤ 6) len)) (le_a len _ hl (Nat.add_le_add_left (Nat.le_of_ble_eq_true rfl : 3 ≤ 6) len)) (le_b len _ hl (Nat.add_le_add_left (Nat.le_of_ble_eq_true rfl : 3 ≤ 6) len)) (le_a len _ hl (Nat.add_le_add_left (Nat.le_of_ble_eq_true rfl : 4 ≤ 6) len)) (le_b len _ hl (Nat.add_le_add_left (Nat.le_of_ble_eq_true rfl : 4 ≤ 6) len)) (le_a len _ hl (Nat.add_le_add_left (Nat.le_of_ble_eq_true rfl : 5 ≤ 6) len)) (le_b len _ hl (Nat.add_le_add_left (Nat.le_of_ble_eq_true rfl : 5 ≤ 6) len)) (le_a len _ hl (Nat.add_le_add_left (Nat.le_of_ble_eq_true rfl : 6 ≤ 6) len)) (le_b len _ hl (Nat.add_le_add_left (Nat.le_of_ble_eq_true rfl : 6 ≤ 6) len))
noncomputable def lentS : List Sx.AV → Sx.M Sx.AV
 | [x] => (Sx.rd 1 x fun len _ => (len + 6) * 16 ≤ 140737488355328).andThen fun y => Sx.newS 1 (y.1 + 1 + 1 + 1 + 1 + 1 + 1) (leR y.1 y.2)
 | _ => Sx.M.no
theorem lentS_ok : ∀ args v g g', lentS args g = .done v g' → Sx.CallIs Try.prog 11 args v g g' := by
 intro args v g g' h
 unfold lentS at h
 split at h
 ·rename_i x
  obtain ⟨⟨len, rows⟩, g1, a1, h1⟩ := Sx.done_of h
  obtain ⟨q, kq, hq⟩ := Sx.rd_done a1 (by omega)
  obtain ⟨rfl, e1, e2, e3⟩ := Sx.newS_done h1
  dsimp only at e1 e2 hq
  rw [kq.1, kq.2.1] at e1
  rw [kq.2.1] at e2
  rw [kq.2.1]
  refine Sx.reads (c := (Sx.bodyOf Try.f11)) Try.func11 (by kernel_rfl) (by kernel_rfl) kq [⟨x, 1, len, rows⟩] (fun hp v hv => ?_) (argsC := [Sx.slcV 0 len]) (fun hp N μ cs hcs => ?_) (nms := [13]) (bs := [.cells true 1 (len + 1 + 1 + 1 + 1 + 1 + 1) (.fn (leR len rows))]) (K' := 14) (fun hp => ?_) ?_ ?_ e1 e2 (fun h => by rw [← e3]; exact h)
  ·rcases List.mem_cons.1 hv with rfl | hv
   ·exact (hq hp).1
   ·cases hv
  ·simp only [Sx.Reps] at hcs
   obtain ⟨c, r, rfl, hc, rfl⟩ := hcs
   simp only [Sx.Reps]
   exact ⟨c, [], rfl, Sx.vw_val (l := [⟨x, 1, len, rows⟩]) (i := 0) (hq hp).1 rfl hc, rfl⟩
  ·obtain ⟨hv, hl⟩ := hq hp
   refine (le_goes len rows hl).mono fun e fr' H' ⟨e1, e2, e3⟩ => ?_
   subst e1 e2 e3
   exact ⟨.inl rfl, _, _, Sx.res1 (t := 2) (by kernel_rfl) rfl, trivial, Sx.ge_new _ _ _ _, Sx.news1 (Sx.hpL_one _ _) (Sx.SameC.refl _) rfl (fun j _ u hu => leR_bare len rows hv.bare j u hu)⟩
  ·simp [Sx.AV.low]
  ·show g.nx ≤ g.nx; exact Nat.le_refl _
 ·exact (Sx.no_done h).elim
theorem lentS_tch : ∀ args, Sx.Tch (lentS args) := by
 intro args
 unfold lentS
 split
 ·exact (Sx.Tch.rd _ _ _).andThen fun _ => Sx.Tch.newS _ _ _
 ·exact Sx.Tch.no
theorem saA_r0 (la lb : Nat) (ra ia rb ib : Nat → Nat) : Sx.PieceN 2 (Sx.Ex.normal) [(0, .slc true false ⟨false, 0, 0, 0⟩ la), (1, .slc true false ⟨false, 1, 0, 0⟩ lb)] [(0, .cells false 1 la (.fn fun j => [Sx.AV.cpx true (ra j) (ia j)])), (1, .cells false 1 lb (.fn fun j => [Sx.AV.cpx true (rb j) (ib j)]))] (piececallW Try.f17 (Sx.nav [0] (Sx.bodyOf Try.f17)) (Sx.frameOf [Sx.slcV 0 la, Sx.slcV 1 lb] 0 .e) (Sx.hpL [(0, .cells false 1 la (.fn fun j => [.cpx true (ra j) (ia j)])), (1, .cells false 1 lb (.fn fun j => [.cpx true (rb j) (ib j)]))]) 2 []) := Sx.eqn (q := True) (by kernel_rfl) trivial
theorem saA (B : Nat) (hB : B ≤ 2) (la lb : Nat) (ra ia rb ib : Nat → Nat) : Sx.GoesB Try.prog (Sx.nav [0] (Sx.bodyOf Try.f17)) Try.f17.ntmps B 2 2 (Sx.frameOf [Sx.slcV 0 la, Sx.slcV 1 lb] 0 .e) (Sx.hpL [(0, .cells false 1 la (.fn fun j => [.cpx true (ra j) (ia j)])), (1, .cells false 1 lb (.fn fun j => [.cpx true (rb j) (ib j)]))]) fun e fr' H' => (e = .normal ∧ fr' = Sx.frL [(0, .slc true false ⟨false, 0, 0, 0⟩ la), (1, .slc true false ⟨false, 1, 0, 0⟩ lb)] ∧ H' = Sx.hpL [(0, .cells false 1 la (.fn fun j => [Sx.AV.cpx true (ra j) (ia j)])), (1, .cells false 1 lb (.fn fun j => [Sx.AV.cpx true (rb j) (ib j)]))]) := by
 exact (Sx.GoesB.runN callW_ok (callW_reg _) (Sx.LoopsIn.none _ _ _) (saA_r0 la lb ra ia rb ib) hB).mono fun e fr' H' h => h
theorem saC_r0 (la lb : Nat) (ra ia rb ib : Nat → Nat) (c0 : (!decide ((↑la : Int) = (↑lb : Int))) = false) : Sx.PieceN 2 (Sx.Ex.normal) [(0, .slc true false ⟨false, 0, 0, 0⟩ la), (1, .slc true false ⟨false, 1, 0, 0⟩ lb)] [(0, .cells false 1 la (.fn fun j => [Sx.AV.cpx true (ra j) (ia j)])), (1, .cells false 1 lb (.fn fun j => [Sx.AV.cpx true (rb j) (ib j)]))] (piececallW Try.f17 (Sx.nav [1,0] (Sx.bodyOf Try.f17)) (Sx.frL [(0, Sx.slcV 0 la), (1, Sx.slcV 1 lb)]) (Sx.hpL [(0, .cells false 1 la (.fn fun j => [.cpx true (ra j) (ia j)])), (1, .cells false 1 lb (.fn fun j => [.cpx true (rb j) (ib j)]))]) 2 [false]) := Sx.eqn (q := (True ∧ ((!decide ((↑la : Int) = (↑lb : Int))) = false))) (by kernel_rfl) ⟨trivial, c0⟩
theorem saC_r1 (la lb : Nat) (ra ia rb ib : Nat → Nat) (c0 : (!decide ((↑la : Int) = (↑lb : Int))) = true) : Sx.PieceN 2 (Sx.Ex.ret) [(0, .slc true false ⟨false, 0, 0, 0⟩ la), (1, .slc true false ⟨false, 1, 0, 0⟩ lb), (4, .bool false)] [(0, .cells false 1 la (.fn fun j => [Sx.AV.cpx true (ra j) (ia j)])), (1, .cells false 1 lb (.fn fun j => [Sx.AV.cpx true (rb j) (ib j)]))] (piececallW Try.f17 (Sx.nav [1,0] (Sx.bodyOf Try.f17)) (Sx.frL [(0, Sx.slcV 0 la), (1, Sx.slcV 1 lb)]) (Sx.hpL [(0, .cells false 1 la (.fn fun j => [.cpx true (ra j) (ia j)])), (1, .cells false 1 lb (.fn fun j => [.cpx true (rb j) (ib j)]))]) 2 [true]) := Sx.eqn (q := (True ∧ ((!decide ((↑la : Int) = (↑lb : Int))) = true))) (by kernel_rfl) ⟨trivial, c0⟩
theorem saC (B : Nat) (hB : B ≤ 2) (la lb : Nat) (ra ia rb ib : Nat → Nat) : Sx.GoesB Try.prog (Sx.nav [1,0] (Sx.bodyOf Try.f17)) Try.f17.ntmps B 2 2 (Sx.frL [(0, Sx.slcV 0 la), (1, Sx.slcV 1 lb)]) (Sx.hpL [(0, .cells false 1 la (.fn fun j => [.cpx true (ra j) (ia j)])), (1, .cells false 1 lb (.fn fun j => [.cpx true (rb j) (ib j)]))]) fun e fr' H' => (cond (decide ((↑la : Int) = (↑lb : Int))) (e = .normal ∧ fr' = Sx.frL [(0, .slc true false ⟨false, 0, 0, 0⟩ la), (1, .slc true false ⟨false, 1, 0, 0⟩ lb)] ∧ H' = Sx.hpL [(0, .cells false 1 la (.fn fun j => [Sx.AV.cpx true (ra j) (ia j)])), (1, .cells false 1 lb (.fn fun j => [Sx.AV.cpx true (rb j) (ib j)]))]) (e = .ret ∧ fr' = Sx.frL [(0, .slc true false ⟨false, 0, 0, 0⟩ la), (1, .slc true false ⟨false, 1, 0, 0⟩ lb), (4, .bool false)] ∧ H' = Sx.hpL [(0, .cells false 1 la (.fn fun j => [Sx.AV.cpx true (ra j) (ia j)])), (1, .cells false 1 lb (.fn fun j => [Sx.AV.cpx true (rb j) (ib j)]))])) := by
 cases t0 : decide ((↑la : Int) = (↑lb : Int)) with
 | true =>
  exact (Sx.GoesB.runN callW_ok (callW_reg _) (Sx.LoopsIn.none _ _ _) (saC_r0 la lb ra ia rb ib (by rw [t0]; rfl)) hB).mono fun e fr' H' h => by first | (simp only [t0, cond_true, cond_false]; exact h) | (simp only [t0, cond_true, cond_false] at h ⊢; exact h)
 | false =>
  exact (Sx.GoesB.runN callW_ok (callW_reg _) (Sx.LoopsIn.none _ _ _) (saC_r1 la lb ra ia rb ib (by rw [t0]; rfl)) hB).mono fun e fr' H' h => by first | (simp only [t0, cond_true, cond_false]; exact h) | (simp only [t0, cond_true, cond_false] at h ⊢; exact h)
theorem saD_r0 (la lb : Nat) (ra ia rb ib : Nat → Nat) : Sx.PieceN 2 (Sx.Ex.normal) [(0, .slc true false ⟨false, 0, 0, 0⟩ la), (1, .slc true false ⟨false, 1, 0, 0⟩ lb), (5, .int false .i64 0)] [(0, .cells false 1 la (.fn fun j => [Sx.AV.cpx true (ra j) (ia j)])), (1, .cells false 1 lb (.fn fun j => [Sx.AV.cpx true (rb j) (ib j)]))] (piececallW Try.f17 (Sx.nav [1,1,0,0] (Sx.bodyOf Try.f17)) (Sx.frL [(0, Sx.slcV 0 la), (1, Sx.slcV 1 lb)]) (Sx.hpL [(0, .cells false 1 la (.fn fun j => [.cpx true (ra j) (ia j)])), (1, .cells false 1 lb (.fn fun j => [.cpx true (rb j) (ib j)]))]) 2 []) := Sx.eqn (q := True) (by kernel_rfl) trivial
theorem saD (B : Nat) (hB : B ≤ 2) (la lb : Nat) (ra ia rb ib : Nat → Nat) : Sx.GoesB Try.prog (Sx.nav [1,1,0,0] (Sx.bodyOf Try.f17)) Try.f17.ntmps B 2 2 (Sx.frL [(0, Sx.slcV 0 la), (1, Sx.slcV 1 lb)]) (Sx.hpL [(0, .cells false 1 la (.fn fun j => [.cpx true (ra j) (ia j)])), (1, .cells false 1 lb (.fn fun j => [.cpx true (rb j) (ib j)]))]) fun e fr' H' => (e = .normal ∧ fr' = Sx.frL [(0, .slc true false ⟨false, 0, 0, 0⟩ la), (1, .slc true false ⟨false, 1, 0, 0⟩ lb), (5, .int false .i64 0)] ∧ H' = Sx.hpL [(0, .cells false 1 la (.fn fun j => [Sx.AV.cpx true (ra j) (ia j)])), (1, .cells false 1 lb (.fn fun j => [Sx.AV.cpx true (rb j) (ib j)]))]) := by
 exact (Sx.GoesB.runN callW_ok (callW_reg _) (Sx.LoopsIn.none _ _ _) (saD_r0 la lb ra ia rb ib) hB).mono fun e fr' H' h => h
theorem saB_r0 (la lb i : Nat) (ra ia rb ib : Nat → Nat) (c0 : decide ((↑i : Int) < (↑la : Int)) = true) (c1 : (0 : Int) ≤ (↑i : Int)) (c2 : (↑i : Int) < (↑la : Int)) (c3 : (0 : Nat) + i < la) (c4 : (↑i : Int) < (↑lb : Int)) (c5 : (0 : Nat) + i < lb) (c6 : decide (ra ((0 : Nat) + i) = rb ((0 : Nat) + i)) = true) (c7 : (!decide (ia ((0 : Nat) + i) = ib ((0 : Nat) + i))) = false) (c8 : (-9223372036854775808 : Int) ≤ (↑i : Int) + (1 : Int)) (c9 : (↑i : Int) + (1 : Int) ≤ (9223372036854775807 : Int)) : Sx.PieceN 2 (Sx.Ex.normal) [(0, .slc true false ⟨false, 0, 0, 0⟩ la), (1, .slc true false ⟨false, 1, 0, 0⟩ lb), (5, .int true .i64 ((↑i : Int) + (1 : Int)))] [(0, .cells false 1 la (.fn fun j => [Sx.AV.cpx true (ra j) (ia j)])), (1, .cells false 1 lb (.fn fun j => [Sx.AV.cpx true (rb j) (ib j)]))] (piececallW Try.f17 (Sx.nav [1,1,0,1,0,0] (Sx.bodyOf Try.f17)) (Sx.frL [(0, Sx.slcV 0 la), (1, Sx.slcV 1 lb), (5, .int true .i64 i)]) (Sx.hpL [(0, .cells false 1 la (.fn fun j => [.cpx true (ra j) (ia j)])), (1, .cells false 1 lb (.fn fun j => [.cpx true (rb j) (ib j)]))]) 2 [true, true, false]) := Sx.eqn (q := ((((((((True ∧ (decide ((↑i : Int) < (↑la : Int)) = true)) ∧ (((0 : Int) ≤ (↑i : Int)) ∧ ((↑i : Int) < (↑la : Int)))) ∧ ((0 : Nat) + i < la)) ∧ (((0 : Int) ≤ (↑i : Int)) ∧ ((↑i : Int) < (↑lb : Int)))) ∧ ((0 : Nat) + i < lb)) ∧ (decide (ra ((0 : Nat) + i) = rb ((0 : Nat) + i)) = true)) ∧ ((!decide (ia ((0 : Nat) + i) = ib ((0 : Nat) + i))) = false)) ∧ (((-9223372036854775808 : Int) ≤ (↑i : Int) + (1 : Int)) ∧ ((↑i : Int) + (1 : Int) ≤ (9223372036854775807 : Int))))) (by kernel_rfl) ⟨⟨⟨⟨⟨⟨⟨⟨trivial, c0⟩, ⟨c1, c2⟩⟩, c3⟩, ⟨c1, c4⟩⟩, c5⟩, c6⟩, c7⟩, ⟨c8, c9⟩⟩
theorem saB_r1 (la lb i : Nat) (ra ia rb ib : Nat → Nat) (c0 : decide ((↑i : Int) < (↑la : Int)) = true) (c1 : (0 : Int) ≤ (↑i : Int)) (c2 : (↑i : Int) < (↑la : Int)) (c3 : (0 : Nat) + i < la) (c4 : (↑i : Int) < (↑lb : Int)) (c5 : (0 : Nat) + i < lb) (c6 : decide (ra ((0 : Nat) + i) = rb ((0 : Nat) + i)) = true) (c7 : (!decide (ia ((0 : Nat) + i) = ib ((0 : Nat) + i))) = true) : Sx.PieceN 2 (Sx.Ex.ret) [(0, .slc true false ⟨false, 0, 0, 0⟩ la), (1, .slc true false ⟨false, 1, 0, 0⟩ lb), (4, .bool false), (5, .int true .i64 (↑i : Int))] [(0, .cells false 1 la (.fn fun j => [Sx.AV.cpx true (ra j) (ia j)])), (1, .cells false 1 lb (.fn fun j => [Sx.AV.cpx true (rb j) (ib j)]))] (piececallW Try.f17 (Sx.nav [1,1,0,1,0,0] (Sx.bodyOf Try.f17)) (Sx.frL [(0, Sx.slcV 0 la), (1, Sx.slcV 1 lb), (5, .int true .i64 i)]) (Sx.hpL [(0, .cells false 1 la (.fn fun j => [.cpx true (ra j) (ia j)])), (1, .cells false 1 lb (.fn fun j => [.cpx true (rb j) (ib j)]))]) 2 [true, true, true]) := Sx.eqn (q := (((((((True ∧ (decide ((↑i : Int) < (↑la : Int)) = true)) ∧ (((0 : Int) ≤ (↑i : Int)) ∧ ((↑i : Int) < (↑la : Int)))) ∧ ((0 : Nat) + i < la)) ∧ (((0 : Int) ≤ (↑i : Int)) ∧ ((↑i : Int) < (↑lb : Int)))) ∧ ((0 : Nat) + i < lb)) ∧ (decide (ra ((0 : Nat) + i) = rb ((0 : Nat) + i)) = true)) ∧ ((!decide (ia ((0 : Nat) + i) = ib ((0 : Nat) + i))) = true))) (by kernel_rfl) ⟨⟨⟨⟨⟨⟨⟨trivial, c0⟩, ⟨c1, c2⟩⟩, c3⟩, ⟨c1, c4⟩⟩, c5⟩, c6⟩, c7⟩
theorem saB_r2 (la lb i : Nat) (ra ia rb ib : Nat → Nat) (c0 : decide ((↑i : Int) < (↑la : Int)) = true) (c1 : (0 : Int) ≤ (↑i : Int)) (c2 : (↑i : Int) < (↑la : Int)) (c3 : (0 : Nat) + i < la) (c4 : (↑i : Int) < (↑lb : Int)) (c5 : (0 : Nat) + i < lb) (c6 : decide (ra ((0 : Nat) + i) = rb ((0 : Nat) + i)) = false) : Sx.PieceN 2 (Sx.Ex.ret) [(0, .slc true false ⟨false, 0, 0, 0⟩ la), (1, .slc true false ⟨false, 1, 0, 0⟩ lb), (4, .bool false), (5, .int true .i64 (↑i : Int))] [(0, .cells false 1 la (.fn fun j => [Sx.AV.cpx true (ra j) (ia j)])), (1, .cells false 1 lb (.fn fun j => [Sx.AV.cpx true (rb j) (ib j)]))] (piececallW Try.f17 (Sx.nav [1,1,0,1,0,0] (Sx.bodyOf Try.f17)) (Sx.frL [(0, Sx.slcV 0 la), (1, Sx.slcV 1 lb), (5, .int true .i64 i)]) (Sx.hpL [(0, .cells false 1 la (.fn fun j => [.cpx true (ra j) (ia j)])), (1, .cells false 1 lb (.fn fun j => [.cpx true (rb j) (ib j)]))]) 2 [true, false]) := Sx.eqn (q := ((((((True ∧ (decide ((↑i : Int) < (↑la : Int)) = true)) ∧ (((0 : Int) ≤ (↑i : Int)) ∧ ((↑i : Int) < (↑la : Int)))) ∧ ((0 : Nat) + i < la)) ∧ (((0 : Int) ≤ (↑i : Int)) ∧ ((↑i : Int) < (↑lb : Int)))) ∧ ((0 : Nat) + i < lb)) ∧ (decide (ra ((0 : Nat) + i) = rb ((0 : Nat) + i)) = false))) (by kernel_rfl) ⟨⟨⟨⟨⟨⟨trivial, c0⟩, ⟨c1, c2⟩⟩, c3⟩, ⟨c1, c4⟩⟩, c5⟩, c6⟩
theorem saB_r3 (la lb i : Nat) (ra ia rb ib : Nat → Nat) (c0 : decide ((↑i : Int) < (↑la : Int)) = false) : Sx.PieceN 2 (Sx.Ex.exit (0 : Nat)) [(0, .slc true false ⟨false, 0, 0, 0⟩ la), (1, .slc true false ⟨false, 1, 0, 0⟩ lb), (5, .int true .i64 (↑i : Int))] [(0, .cells false 1 la (.fn fun j => [Sx.AV.cpx true (ra j) (ia j)])), (1, .cells false 1 lb (.fn fun j => [Sx.AV.cpx true (rb j) (ib j)]))] (piececallW Try.f17 (Sx.nav [1,1,0,1,0,0] (Sx.bodyOf Try.f17)) (Sx.frL [(0, Sx.slcV 0 la), (1, Sx.slcV 1 lb), (5, .int true .i64 i)]) (Sx.hpL [(0, .cells false 1 la (.fn fun j => [.cpx true (ra j) (ia j)])), (1, .cells false 1 lb (.fn fun j => [.cpx true (rb j) (ib j)]))]) 2 [false]) := Sx.eqn (q := (True ∧ (decide ((↑i : Int) < (↑la : Int)) = false))) (by kernel_rfl) ⟨trivial, c0⟩
theorem saB (B : Nat) (hB : B ≤ 2) (la lb i : Nat) (ra ia rb ib : Nat → Nat) (x0 : ((decide ((↑i : Int) < (↑la : Int))) = true → ((↑i : Int) < (↑lb : Int)))) (x1 : ((decide ((↑i : Int) < (↑la : Int))) = true → ((0 : Nat) + i < lb))) (x2 : ((decide ((↑i : Int) < (↑la : Int))) = true → ((decide (ra ((0 : Nat) + i) = rb ((0 : Nat) + i))) = true → ((decide (ia ((0 : Nat) + i) = ib ((0 : Nat) + i))) = true → ((↑i : Int) + (1 : Int) ≤ (9223372036854775807 : Int)))))) : Sx.GoesB Try.prog (Sx.nav [1,1,0,1,0,0] (Sx.bodyOf Try.f17)) Try.f17.ntmps B 2 2 (Sx.frL [(0, Sx.slcV 0 la), (1, Sx.slcV 1 lb), (5, .int true .i64 i)]) (Sx.hpL [(0, .cells false 1 la (.fn fun j => [.cpx true (ra j) (ia j)])), (1, .cells false 1 lb (.fn fun j => [.cpx true (rb j) (ib j)]))]) fun e fr' H' => (cond (decide ((↑i : Int) < (↑la : Int))) (cond (decide (ra ((0 : Nat) + i) = rb ((0 : Nat) + i))) (cond (decide (ia ((0 : Nat) + i) = ib ((0 : Nat) + i))) (e = .normal ∧ fr' = Sx.frL [(0, .slc true false ⟨false, 0, 0, 0⟩ la), (1, .slc true false ⟨false, 1, 0, 0⟩ lb), (5, .int true .i64 ((↑i : Int) + (1 : Int)))] ∧ H' = Sx.hpL [(0, .cells false 1 la (.fn fun j => [Sx.AV.cpx true (ra j) (ia j)])), (1, .cells false 1 lb (.fn fun j => [Sx.AV.cpx true (rb j) (ib j)]))]) (e = .ret ∧ fr' = Sx.frL [(0, .slc true false ⟨false, 0, 0, 0⟩ la), (1, .slc true false ⟨false, 1, 0, 0⟩ lb), (4, .bool false), (5, .int true .i64 (↑i : Int))] ∧ H' = Sx.hpL [(0, .cells false 1 la (.fn fun j => [Sx.AV.cpx true (ra j) (ia j)])), (1, .cells false 1 lb (.fn fun j => [Sx.AV.cpx true (rb j) (ib j)]))])) (e = .ret ∧ fr' = Sx.frL [(0, .slc true false ⟨false, 0, 0, 0⟩ la), (1, .slc true false ⟨false, 1, 0, 0⟩ lb), (4, .bool false), (5, .int true .i64 (↑i : Int))] ∧ H' = Sx.hpL [(0, .cells false 1 la (.fn fun j => [Sx.AV.cpx true (ra j) (ia j)])), (1, .cells false 1 lb (.fn fun j => [Sx.AV.cpx true (rb j) (ib j)]))])) (e = .exit 0 ∧ fr' = Sx.frL [(0, .slc true false ⟨false, 0, 0, 0⟩ la), (1, .slc true false ⟨false, 1, 0, 0⟩ lb), (5, .int true .i64 (↑i : Int))] ∧ H' = Sx.hpL [(0, .cells false 1 la (.fn fun j => [Sx.AV.cpx true (ra j) (ia j)])), (1, .cells false 1 lb (.fn fun j => [Sx.AV.cpx true (rb j) (ib j)]))])) := by
 cases t0 : decide ((↑i : Int) < (↑la : Int)) with
 | true =>
  cases t1 : decide (ra ((0 : Nat) + i) = rb ((0 : Nat) + i)) with
  | true =>
   cases t2 : decide (ia ((0 : Nat) + i) = ib ((0 : Nat) + i)) with
   | true =>
    exact (Sx.GoesB.runN callW_ok (callW_reg _) (Sx.LoopsIn.none _ _ _) (saB_r0 la lb i ra ia rb ib t0 (by first | decide | ((try simp only [decide_eq_true_eq, decide_eq_false_iff_not] at t0 t1 t2); (try simp only [List.length_take, List.length_drop]); omega)) (by first | decide | ((try simp only [decide_eq_true_eq, decide_eq_false_iff_not] at t0 t1 t2); (try simp only [List.length_take, List.length_drop]); omega)) (by first | decide | ((try simp only [decide_eq_true_eq, decide_eq_false_iff_not] at t0 t1 t2); (try simp only [List.length_take, List.length_drop]); omega)) (x0 t0) (x1 t0) t1 (by rw [t2]; rfl) (by first | decide | ((try simp only [decide_eq_true_eq, decide_eq_false_iff_not] at t0 t1 t2); (try simp only [List.length_take, List.length_drop]); omega)) (x2 t0 t1 t2)) hB).mono fun e fr' H' h => by first | (simp only [t0, t1, t2, cond_true, cond_false]; exact h) | (simp only [t0, t1, t2, cond_true, cond_false] at h ⊢; exact h)
   | false =>
    exact (Sx.GoesB.runN callW_ok (callW_reg _) (Sx.LoopsIn.none _ _ _) (saB_r1 la lb i ra ia rb ib t0 (by first | decide | ((try simp only [decide_eq_true_eq, decide_eq_false_iff_not] at t0 t1 t2); (try simp only [List.length_take, List.length_drop]); omega)) (by first | decide | ((try simp only [decide_eq_true_eq, decide_eq_false_iff_not] at t0 t1 t2); (try simp only [List.length_take, List.length_drop]); omega)) (by first | decide | ((try simp only [decide_eq_true_eq, decide_eq_false_iff_not] at t0 t1 t2); (try simp only [List.length_take, List.length_drop]); omega)) (x0 t0) (x1 t0) t1 (by rw [t2]; rfl)) hB).mono fun e fr' H' h => by first | (simp only [t0, t1, t2, cond_true, cond_false]; exact h) | (simp only [t0, t1, t2, cond_true, cond_false] at h ⊢; exact h)
  | false =>
   exact (Sx.GoesB.runN callW_ok (callW_reg _) (Sx.LoopsIn.none _ _ _) (saB_r2 la lb i ra ia rb ib t0 (by first | decide | ((try simp only [decide_eq_true_eq, decide_eq_false_iff_not] at t0 t1); (try simp only [List.length_take, List.length_drop]); omega)) (by first | decide | ((try simp only [decide_eq_true_eq, decide_eq_false_iff_not] at t0 t1); (try simp only [List.length_take, List.length_drop]); omega)) (by first | decide | ((try simp only [decide_eq_true_eq, decide_eq_false_iff_not] at t0 t1); (try simp only [List.length_take, List.length_drop]); omega)) (x0 t0) (x1 t0) t1) hB).mono fun e fr' H' h => by first | (simp only [t0, t1, cond_true, cond_false]; exact h) | (simp only [t0, t1, cond_true, cond_false] at h ⊢; exact h)
 | false =>
  exact (Sx.GoesB.runN callW_ok (callW_reg _) (Sx.LoopsIn.none _ _ _) (saB_r3 la lb i ra ia rb ib t0) hB).mono fun e fr' H' h => by first | (simp only [t0, cond_true, cond_false]; exact h) | (simp only [t0, cond_true, cond_false] at h ⊢; exact h)
theorem saZ_r0  : Sx.PieceN 2 (Sx.Ex.ret) [(4, .bool true)] [] (piececallW Try.f17 (Sx.nav [1,1,1] (Sx.bodyOf Try.f17)) (Sx.frL []) (Sx.hpL []) 2 []) := Sx.eqn (q := True) (by kernel_rfl) trivial
theorem saZ (B : Nat) (hB : B ≤ 2)  : Sx.GoesB Try.prog (Sx.nav [1,1,1] (Sx.bodyOf Try.f17)) Try.f17.ntmps B 2 2 (Sx.frL []) (Sx.hpL []) fun e fr' H' => (e = .ret ∧ fr' = Sx.frL [(4, .bool true)] ∧ H' = Sx.hpL []) := by
 exact (Sx.GoesB.runN callW_ok (callW_reg _) (Sx.LoopsIn.none _ _ _) (saZ_r0 ) hB).mono fun e fr' H' h => h
def saI (la lb : Nat) (ra ia rb ib : Nat → Nat) (k : Nat) (fr : Sx.Fr) (H : Sx.T Sx.ABk) : Prop :=
 ∃ i : Nat, k = la - i ∧ i ≤ la ∧ (∀ j, j < i → ra j = rb j ∧ ia j = ib j) ∧ fr = Sx.frL [(0, Sx.slcV 0 la), (1, Sx.slcV 1 lb), (5, .int true .i64 i)] ∧ H = Sx.hpL [(0, .cells false 1 la (.fn fun j => [.cpx true (ra j) (ia j)])), (1, .cells false 1 lb (.fn fun j => [.cpx true (rb j) (ib j)]))]
def saP (la lb : Nat) (ra ia rb ib : Nat → Nat) : Sx.Po := fun e fr H => (e = .exit 0 ∧ ∀ j, j < la → ra j = rb j ∧ ia j = ib j) ∨ (e = .ret ∧ ¬ (∀ j, j < la → ra j = rb j ∧ ia j = ib j) ∧ fr.get 4 = some (.bool false))
theorem sa_body (la lb : Nat) (ra ia rb ib : Nat → Nat) (hl : la = lb) (hm : la ≤ 9223372036854775807) (k : Nat) (fr : Sx.Fr) (H : Sx.T Sx.ABk) (hI : saI la lb ra ia rb ib k fr H) :
  Sx.GoesB Try.prog (Sx.nav [1,1,0,1,0,0] (Sx.bodyOf Try.f17)) Try.f17.ntmps 2 2 2 fr H fun e fr' H' => match e with
   | .normal => ∃ k', k' < k ∧ saI la lb ra ia rb ib k' fr' H'
   | e => saP la lb ra ia rb ib e fr' H' := by
 obtain ⟨i, rfl, hi, hs, rfl, rfl⟩ := hI
 have hx : decide ((i : Int) < (la : Int)) = true → i < la := fun t => by have := of_decide_eq_true t; omega
 have hB := saB 2 (by omega) la lb i ra ia rb ib (fun t => by have := hx t; omega) (fun t => by have := hx t; simp; omega) (fun t _ _ => by have := hx t; omega)
 simp only [Nat.zero_add, Int.toNat_natCast] at hB
 refine hB.mono fun e fr' H' h => ?_
 refine Sx.cond_elim h (fun t h => ?_) (fun t h => ?_)
 ·have hlt := hx t
  refine Sx.cond_elim h (fun t1 h => ?_) (fun t1 h => ?_)
  ·refine Sx.cond_elim h (fun t2 h => ?_) (fun t2 h => ?_)
   ·obtain ⟨rfl, rfl, rfl⟩ := h
    refine ⟨la - (i + 1), by omega, i + 1, rfl, by omega, fun j hj => ?_, rfl, rfl⟩
    by_cases hji : j < i
    ·exact hs j hji
    ·have e : j = i := by omega
     subst e
     exact ⟨of_decide_eq_true t1, of_decide_eq_true t2⟩
   ·obtain ⟨rfl, rfl, rfl⟩ := h
    exact .inr ⟨rfl, fun hh => absurd (hh i hlt).2 (of_decide_eq_false t2), rfl⟩
  ·obtain ⟨rfl, rfl, rfl⟩ := h
   exact .inr ⟨rfl, fun hh => absurd (hh i hlt).1 (of_decide_eq_false t1), rfl⟩
 ·obtain ⟨rfl, rfl, rfl⟩ := h
  exact .inl ⟨rfl, fun j hj => hs j (by have := of_decide_eq_false t; omega)⟩
theorem sa_is : (Sx.bodyOf Try.f17) = .seq (Sx.nav [0] (Sx.bodyOf Try.f17)) (.seq (Sx.nav [1,0] (Sx.bodyOf Try.f17)) (.seq (.seq (Sx.nav [1,1,0,0] (Sx.bodyOf Try.f17)) (.block 0 (.loop (Sx.nav [1,1,0,1,0,0] (Sx.bodyOf Try.f17))))) (Sx.nav [1,1,1] (Sx.bodyOf Try.f17)))) := by kernel_rfl
theorem sa_goes (la lb : Nat) (ra ia rb ib : Nat → Nat) (hm : la ≤ 9223372036854775807) :
  Sx.GoesB Try.prog (Sx.bodyOf Try.f17) Try.f17.ntmps 2 2 2 (Sx.frameOf [Sx.slcV 0 la, Sx.slcV 1 lb] 0 .e) (Sx.hpL [(0, .cells false 1 la (.fn fun j => [.cpx true (ra j) (ia j)])), (1, .cells false 1 lb (.fn fun j => [.cpx true (rb j) (ib j)]))]) fun e fr' H' => (e = .ret ∨ e = .normal) ∧ fr'.get 4 = some (.bool (Sx.cd (la = lb ∧ ∀ j, j < la → ra j = rb j ∧ ia j = ib j))) := by
 rw [sa_is]
 refine Sx.GoesB.seq (K1 := 2) (by omega) ((saA 2 (by omega) la lb ra ia rb ib).mono fun e fr' H' ⟨e1, e2, e3⟩ => ?_)
 subst e1 e2 e3
 refine Sx.GoesB.seq (K1 := 2) (by omega) ((saC 2 (by omega) la lb ra ia rb ib).mono fun e fr' H' h => ?_)
 refine Sx.cond_elim h (fun t h => ?_) (fun t h => ?_)
 case refine_2 =>
  obtain ⟨rfl, rfl, rfl⟩ := h
  exact ⟨.inl rfl, by rw [Sx.cd_false (fun hh => by have h1 := hh.1; subst h1; simp at t)]; rfl⟩
 obtain ⟨rfl, rfl, rfl⟩ := h
 have hl : la = lb := by have := of_decide_eq_true t; omega
 refine Sx.GoesB.seq (K1 := 2) (by omega) (Sx.GoesB.seq (K1 := 2) (by omega) (Sx.GoesB.weakL (fl := [(0, Sx.slcV 0 la), (1, Sx.slcV 1 lb)]) (bl := [(0, .cells false 1 la (.fn fun j => [.cpx true (ra j) (ia j)])), (1, .cells false 1 lb (.fn fun j => [.cpx true (rb j) (ib j)]))]) ⟨⟨_, rfl, Sx.AV.ge.refl _⟩, ⟨_, rfl, Sx.AV.ge.refl _⟩, trivial⟩ ⟨⟨_, rfl, Sx.SameC.refl _⟩, ⟨_, rfl, Sx.SameC.refl _⟩, trivial⟩ ((saD 2 (by omega) la lb ra ia rb ib).mono fun e fr' H' ⟨e1, e2, e3⟩ => ?_)))
 subst e1 e2 e3
 refine Sx.GoesB.weakL (fl := [(0, Sx.slcV 0 la), (1, Sx.slcV 1 lb), (5, .int true .i64 (0 : Nat))]) (bl := [(0, .cells false 1 la (.fn fun j => [.cpx true (ra j) (ia j)])), (1, .cells false 1 lb (.fn fun j => [.cpx true (rb j) (ib j)]))]) ⟨⟨_, rfl, Sx.AV.ge.refl _⟩, ⟨_, rfl, Sx.AV.ge.refl _⟩, ⟨_, rfl, Sx.AV.ge.int _ _ _ _⟩, trivial⟩ ⟨⟨_, rfl, Sx.SameC.refl _⟩, ⟨_, rfl, Sx.SameC.refl _⟩, trivial⟩ ?_
 refine Sx.GoesB.block ((Sx.GoesB.loop (saI la lb ra ia rb ib) (Post := saP la lb ra ia rb ib) (sa_body la lb ra ia rb ib hl hm) _ _ _ ⟨0, rfl, by omega, fun j hj => by omega, rfl, rfl⟩).mono fun e fr' H' hp => ?_)
 rcases hp with ⟨rfl, h1⟩ | ⟨rfl, h1, h2⟩
 ·simp only [if_true]
  refine Sx.GoesB.weakL (fl := []) (bl := []) trivial trivial ((saZ 2 (by omega)).mono fun e fr' H' ⟨e1, e2, e3⟩ => ?_)
  subst e1 e2 e3
  exact ⟨.inl rfl, by rw [Sx.cd_true ⟨hl, h1⟩]; rfl⟩
 ·exact ⟨.inl rfl, by rw [Sx.cd_false (fun hh => h1 hh.2)]; exact h2⟩
noncomputable def sameNS : List Sx.AV → Sx.M Sx.AV
 | [x, y] => (Sx.rd 1 x fun len rows => len ≤ 9223372036854775807 ∧ Sx.CRows len rows).andThen fun a => (Sx.rd 1 y fun len rows => Sx.CRows len rows).andThen fun b => Sx.M.ret (.sbool (Sx.cd (Sx.CSame a.1 b.1 a.2 b.2)))
 | _ => Sx.M.no
theorem sameNS_ok : ∀ args v g g', sameNS args g = .done v g' → Sx.CallIs Try.prog 17 args v g g' := by
 intro args v g g' h
 unfold sameNS at h
 split at h
 ·rename_i x y
  obtain ⟨⟨la, ra⟩, g1, a1, h1⟩ := Sx.done_of h
  obtain ⟨⟨lb, rb⟩, g2, a2, h2⟩ := Sx.done_of h1
  obtain ⟨rfl, rfl⟩ := Sx.ret_done h2
  obtain ⟨q1, k1, f1⟩ := Sx.rd_done a1 (by omega)
  obtain ⟨q2, k2, f2⟩ := Sx.rd_done a2 (by omega)
  have k := k1.trans k2
  have ok2 : q1 ∧ q2 → Sx.Vw.Ok ⟨y, 1, lb, rb⟩ g := fun hp => (f2 hp.2).1.same k1
  refine Sx.reads (c := (Sx.bodyOf Try.f17)) Try.func17 (by kernel_rfl) (by kernel_rfl) k [⟨x, 1, la, ra⟩, ⟨y, 1, lb, rb⟩] (fun hp v hv => ?_) (argsC := [Sx.slcV 0 la, Sx.slcV 1 lb]) (fun hp N μ cs hcs => ?_) (nms := []) (bs := []) (K' := 2) (fun hp => ?_) rfl trivial (by rw [k.1]; rfl) (by rw [k.2.1]; rfl) id
  ·rcases List.mem_cons.1 hv with rfl | hv
   ·exact (f1 hp.1).1
   ·rcases List.mem_cons.1 hv with rfl | hv
    ·exact ok2 hp
    ·cases hv
  ·simp only [Sx.Reps] at hcs
   obtain ⟨c, r, rfl, hc, c', r', rfl, hc', rfl⟩ := hcs
   simp only [Sx.Reps]
   exact ⟨c, _, rfl, Sx.vw_val (l := [⟨x, 1, la, ra⟩, ⟨y, 1, lb, rb⟩]) (i := 0) (f1 hp.1).1 rfl hc, c', _, rfl, Sx.vw_val (l := [⟨x, 1, la, ra⟩, ⟨y, 1, lb, rb⟩]) (i := 1) (ok2 hp) rfl hc', rfl⟩
  ·obtain ⟨_, hm, hz⟩ := f1 hp.1
   obtain ⟨_, hz'⟩ := f2 hp.2
   dsimp only at hm hz hz'
   refine Sx.GoesB.weakGL (fl := [(0, Sx.slcV 0 la), (1, Sx.slcV 1 lb)]) (bl := [(0, .cells false 1 la (.fn fun j => [.cpx true (Sx.cre (ra j)) (Sx.cim (ra j))])), (1, .cells false 1 lb (.fn fun j => [.cpx true (Sx.cre (rb j)) (Sx.cim (rb j))]))]) ⟨⟨_, rfl, Sx.AV.ge.refl _⟩, ⟨_, rfl, Sx.AV.ge.refl _⟩, trivial⟩ ⟨⟨_, rfl, rfl, rfl, rfl, fun j hj => (hz j hj).ge⟩, ⟨_, rfl, rfl, rfl, rfl, fun j hj => (hz' j hj).ge⟩, trivial⟩ ?_
   refine (sa_goes la lb (fun j => Sx.cre (ra j)) (fun j => Sx.cim (ra j)) (fun j => Sx.cre (rb j)) (fun j => Sx.cim (rb j)) hm).mono fun e fr' H' ⟨e1, e2⟩ => ?_
   exact ⟨e1, _, _, Sx.res1 (t := 4) (by kernel_rfl) e2, trivial, Sx.AV.ge.bool _, Sx.news0⟩
 ·exact (Sx.no_done h).elim
theorem sameNS_tch : ∀ args, Sx.Tch (sameNS args) := by
 intro args
 unfold sameNS
 split
 ·exact (Sx.Tch.rd _ _ _).andThen fun _ => (Sx.Tch.rd _ _ _).andThen fun _ => Sx.Tch.ret _
 ·exact Sx.Tch.no

noncomputable def gamB : Sx.Known := Sx.kc 61 Sx.toBits (Sx.kc 47 Sx.ofBits (Sx.kc 49 bothAxS (Sx.kn)))
theorem gamB_ok : Sx.KnownOk Try.prog gamB := Sx.kc_ok ((Sx.toBits_is Try.prog).callIs Try.func61 (by kernel_rfl) (by kernel_rfl) (by kernel_rfl) (by kernel_rfl)) (Sx.kc_ok ((Sx.ofBits_is Try.prog).callIs Try.func47 (by kernel_rfl) (by kernel_rfl) (by kernel_rfl) (by kernel_rfl)) (Sx.kc_ok bothAxS_ok (Sx.kn_ok)))
theorem gamB_tch : Sx.KnownT gamB := Sx.kc_tch Sx.Tch.toBits (Sx.kc_tch Sx.Tch.ofBits (Sx.kc_tch bothAxS_tch (Sx.kn_tch)))
noncomputable def callB : Sx.Calls' := Sx.runN Try.prog gamB (Sx.regionC Try.prog) 1000 50
theorem callB_ok : Sx.CallOk Try.prog callB := Sx.engineC gamB_ok gamB_tch (by kernel_rfl) (by kernel_rfl) 1000 50
theorem callB_reg (n : Nat) : Sx.RegionOk Try.prog (Sx.regionC Try.prog callB n) n := Sx.runN_regionC gamB_ok gamB_tch (by kernel_rfl) (by kernel_rfl) 1000 50 n
noncomputable abbrev piececallB (f : Func) (c : Code) (fr : Sx.Fr) (H : Sx.T Sx.ABk) (K : Nat) (path : List Bool) : Sx.Res (Sx.Ex × Sx.Fr) :=
 Sx.codeA Try.prog callB (Sx.regionC Try.prog callB f.ntmps) Sx.noLoops f.ntmps 1000 c fr ⟨H, K, [], path, True⟩

end Go.Proofs.Ytofmgnkdjfhldaa
