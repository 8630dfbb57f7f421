/- SourceRights: returns true for every input; no conditions. By the engine's runs, checked by the kernel. -/
import Derived.Test.YtdagokpedjfepaaRows
import Derived.ProofKit
import Derived.OpenShut
import Derived.KernelRfl
import Derived.SizedLaws
import Derived.Carry
import Derived.ChangeMaps5
import Derived.Test.YtdagokpedjfepaaSourceRightsPD
namespace Go.Proofs.Ytdagokpedjfepaa
open Go.ChangeShapes Go.WideShapes Go.ChangeAt Go.RowKit Go.Sx
set_option linter.unusedVariables false
set_option linter.unusedSimpArgs false
set_option maxRecDepth 100000

theorem own : ownKnob Try.prog.godebug = none := by kernel_rfl
theorem laidOut : laidOutB Try.prog = true := by kernel_rfl
theorem ahX (B : Nat) (hB : B ≤ 18) (u : Nat) (s : Tx) : aj Try.prog (ZCG) Try.f5.ntmps B 18 19 (aQ [(1, .str true s), (5, .bG), (7, .bG), (9, sL 15 u), (10, ZA 14), (11, sL 17 u), (12, ZA 16)]) (hpL []) (pP .normal [(1, .str true s), (5, .bG), (7, .bG), (9, sL 15 u), (10, ZA 14), (11, sL 17 u), (12, ZA 16), (13, .aX), (14, ZA 18)] (ZD5 18 1)) := xW [] trivial hB
theorem ahY (B : Nat) (hB : B ≤ 20) (u : Nat) (s : Tx) : aj Try.prog (ZCA) Try.f5.ntmps B 20 21 (aQ [(1, .str true s), (5, .bG), (7, .bG), (9, sL 15 u), (10, ZA 14), (11, sL 17 u), (12, ZA 16), (13, sL 19 u), (14, ZA 18)]) (hpL []) (pP .normal [(1, .str true s), (7, .bG), (9, sL 15 u), (10, ZA 14), (11, sL 17 u), (12, ZA 16), (13, sL 19 u), (14, ZA 18), (15, .aX), (16, ZA 20)] (ZD5 20 1)) := xW [] trivial hB
theorem ahZ (B : Nat) (hB : B ≤ 22) (u d : Nat) (s : Tx) : aj Try.prog (ZB7) Try.f5.ntmps B 22 23 (aQ [(1, .str true s), (7, .bG), (9, sL 15 u), (10, ZA 14), (11, sL 17 u), (12, ZA 16), (13, sL 19 u), (14, ZA 18), (15, sL 21 d), (16, ZA 20)]) (hpL []) (pP .normal [(9, sL 15 u), (10, ZA 14), (11, sL 17 u), (12, ZA 16), (13, sL 19 u), (14, ZA 18), (15, sL 21 d), (16, ZA 20), (17, .aX), (18, ZA 22)] (ZD5 22 1)) := xW [] trivial hB
noncomputable abbrev ZDb (v0 v1 : Nat) := ([(9, sL 15 v0), (10, ZA 14), (11, sL 17 v0), (12, ZA 16), (13, sL 19 v0), (14, ZA 18), (15, sL 21 v1), (16, ZA 20), (17, sL 23 v1), (18, ZA 22)] : tF)
theorem srK (B : Nat) (hB : B ≤ 24) (u d : Nat) (f h : tP) (ea aa eb ab : Int) (x0 : ((decide (ea = ea) && (decide (aa = aa) && true)) = true → ((decide (eb = eb) && (decide (ab = ab) && true)) = true → (u ≤ 9223372036854775807)))) (x1 : ((decide (ea = ea) && (decide (aa = aa) && true)) = true → ((decide (eb = eb) && (decide (ab = ab) && true)) = true → (∀ (j : Nat), j < u → zB (dU f (0 + j)))))) (x2 : ((decide (ea = ea) && (decide (aa = aa) && true)) = true → ((decide (eb = eb) && (decide (ab = ab) && true)) = true → (∀ (j : Nat), j < u → ∀ (u : AV), u ∈ dU f (0 + j) → AV.low 0 u = true)))) (x3 : ((decide (ea = ea) && (decide (aa = aa) && true)) = true → ((decide (eb = eb) && (decide (ab = ab) && true)) = true → (∀ (j : Nat), j < u → zB (dU f (0 + j)))))) (x4 : ((decide (ea = ea) && (decide (aa = aa) && true)) = true → ((decide (eb = eb) && (decide (ab = ab) && true)) = true → (∀ (j : Nat), j < u → ∀ (u : AV), u ∈ dU f (0 + j) → AV.low 0 u = true)))) (x5 : ((decide (ea = ea) && (decide (aa = aa) && true)) = true → ((decide (eb = eb) && (decide (ab = ab) && true)) = true → (cd (CSame u u (rowsOf ⟨false, 15, 0, 0⟩ 1 1 (.fn (dU f))) (rowsOf ⟨false, 19, 0, 0⟩ 1 1 (.fn (dU f)))) = true)))) (x6 : ((decide (ea = ea) && (decide (aa = aa) && true)) = true → ((decide (eb = eb) && (decide (ab = ab) && true)) = true → (u ≤ 9223372036854775807)))) (x7 : ((decide (ea = ea) && (decide (aa = aa) && true)) = true → ((decide (eb = eb) && (decide (ab = ab) && true)) = true → (∀ (j : Nat), j < u → zB (dU f (0 + j)))))) (x8 : ((decide (ea = ea) && (decide (aa = aa) && true)) = true → ((decide (eb = eb) && (decide (ab = ab) && true)) = true → (∀ (j : Nat), j < u → ∀ (u : AV), u ∈ dU f (0 + j) → AV.low 0 u = true)))) (x9 : ((decide (ea = ea) && (decide (aa = aa) && true)) = true → ((decide (eb = eb) && (decide (ab = ab) && true)) = true → (cd (CSame u u (rowsOf ⟨false, 17, 0, 0⟩ 1 1 (.fn (dU f))) (rowsOf ⟨false, 19, 0, 0⟩ 1 1 (.fn (dU f)))) = true)))) (x10 : ((decide (ea = ea) && (decide (aa = aa) && true)) = true → ((decide (eb = eb) && (decide (ab = ab) && true)) = true → (d ≤ 9223372036854775807)))) (x11 : ((decide (ea = ea) && (decide (aa = aa) && true)) = true → ((decide (eb = eb) && (decide (ab = ab) && true)) = true → (∀ (j : Nat), j < d → zB (dU h (0 + j)))))) (x12 : ((decide (ea = ea) && (decide (aa = aa) && true)) = true → ((decide (eb = eb) && (decide (ab = ab) && true)) = true → (∀ (j : Nat), j < d → ∀ (u : AV), u ∈ dU h (0 + j) → AV.low 0 u = true)))) (x13 : ((decide (ea = ea) && (decide (aa = aa) && true)) = true → ((decide (eb = eb) && (decide (ab = ab) && true)) = true → (∀ (j : Nat), j < d → zB (dU h (0 + j)))))) (x14 : ((decide (ea = ea) && (decide (aa = aa) && true)) = true → ((decide (eb = eb) && (decide (ab = ab) && true)) = true → (∀ (j : Nat), j < d → ∀ (u : AV), u ∈ dU h (0 + j) → AV.low 0 u = true)))) (x15 : ((decide (ea = ea) && (decide (aa = aa) && true)) = true → ((decide (eb = eb) && (decide (ab = ab) && true)) = true → (cd (CSame d d (rowsOf ⟨false, 21, 0, 0⟩ 1 1 (.fn (dU h))) (rowsOf ⟨false, 23, 0, 0⟩ 1 1 (.fn (dU h)))) = true)))) : aj Try.prog ((aT [1,1,1,1,1,1,1,1,1,1,0] (ak Try.f5))) Try.f5.ntmps B 24 24 (aQ (ZDb u d)) (hpL [(14, Zf ea aa), (15, Zj u f), (16, Zf ea aa), (17, Zj u f), (18, Zf ea aa), (19, Zj u f), (20, Zf eb ab), (21, Zj d h), (22, Zf eb ab), (23, Zj d h)]) fun e fr' H' => (cond (decide (ea = ea) && (decide (aa = aa) && true)) (cond (decide (eb = eb) && (decide (ab = ab) && true)) (pP .normal [(9, sL 15 u), (11, sL 17 u), (15, sL 21 d)] [(15, ZY u f), (17, ZY u f), (21, ZY d h)] e fr' H') (pP .ret [(4, .bool false), (9, sL 15 u), (11, sL 17 u), (15, sL 21 d)] [(15, ZY u f), (17, ZY u f), (21, ZY d h)] e fr' H')) (pP .ret [(4, .bool false), (9, sL 15 u), (11, sL 17 u), (15, sL 21 d)] [(15, ZY u f), (17, ZY u f), (21, ZY d h)] e fr' H')) := cI (fun t0 => cI (fun t1 => xW [fF, fF, fF] (I18 (nt t0) (nt t0) (nt t1) (show 0 + u ≤ u by omega) (ai (ai (x0 t0 t1) (x1 t0 t1)) (x2 t0 t1)) (show 0 + u ≤ u by omega) (ai (x3 t0 t1) (x4 t0 t1)) (x5 t0 t1) (show 0 + u ≤ u by omega) (ai (ai (x6 t0 t1) (x7 t0 t1)) (x8 t0 t1)) (show 0 + u ≤ u by omega) (ai (x3 t0 t1) (x4 t0 t1)) (x9 t0 t1) (show 0 + d ≤ d by omega) (ai (ai (x10 t0 t1) (x11 t0 t1)) (x12 t0 t1)) (show 0 + d ≤ d by omega) (ai (x13 t0 t1) (x14 t0 t1)) (x15 t0 t1)) hB) (fun t1 => xW [fF, fF, tT] (I3 (nt t0) (nt t0) (nf t1)) hB)) (fun t0 => xW [tT] (I1 (nf t0)) hB)
theorem srL (B : Nat) (hB : B ≤ 24) (u d : Nat) (f h : tP) (x0 : (u = u)) (x1 : (u * 16 + 192 ≤ 140737488355328)) (x2 : (∀ (j : Nat), j < u → zB (dU f j))) (x3 : (d = d)) (x4 : (d * 16 + 192 ≤ 140737488355328)) (x5 : (∀ (j : Nat), j < d → zB (dU h j))) : aj Try.prog ((aT [1,1,1,1,1,1,1,1,1,1,1] (ak Try.f5))) Try.f5.ntmps B 24 26 (aQ [(9, sL 15 u), (11, sL 17 u), (15, sL 21 d)]) (hpL [(15, Zj u f), (17, Zj u f), (21, Zj d h)]) (pP .ret [(4, .bool true)] []) := xW [] (I3 (ai x0 (ai x1 x2)) (ai x0 (ai x1 x2)) (ai x3 (ai x4 x5))) hB
def swp (a b x : Nat) : Nat := if x = a then b else if x = b then a else x
theorem zF {K a b : Nat} : ∀ i j, i < K → j < K → swp a b i = swp a b j → i = j := by
 intro i j _ _ e
 unfold swp at e
 split at e <;> split at e <;> first | omega | (split at e <;> first | omega | (split at e <;> omega))
theorem zG {B a b : Nat} (h : B ≤ a) (h2 : B ≤ b) : ∀ g, g < B → swp a b g = g := by
 intro g hg
 unfold swp
 rw [if_neg (by omega), if_neg (by omega)]
theorem Ux : Fw 0 := ⟨by decide, by kernel_rfl⟩
def VB (f : tP) : Prop := ∀ j, Fw (f j).1 ∧ Fw (f j).2
theorem VD {f : tP} {m : Nat} {y : Nat × Nat} (h : VB f) (hy : Fw y.1 ∧ Fw y.2) : VB (sN f m y) := fun j => by
 by_cases c : j = m
 ·subst c; rw [wC]; exact hy
 ·rw [Jo f y c]; exact h j
theorem CJ {op : Nat × Nat → Nat × Nat → Nat × Nat} (ho : ∀ x y, Fw (op x y).1 ∧ Fw (op x y).2) {x : Tx} {l : List Tx} {f : tP} {s : Nat × Nat} (h : VB f) : VB (dK op x (aB 0 l) f s).1 := by
 rw [jR]
 cases jq x l with
 | true => exact VD h (ho _ _)
 | false => exact h
theorem QB (x y : Nat × Nat) : Fw (gI x y).1 ∧ Fw (gI x y).2 := ⟨Fw.jG _ _, Fw.jG _ _⟩
theorem QC (x y : Nat × Nat) : Fw (fU x y).1 ∧ Fw (fU x y).2 := ⟨Fw.jo _ _, Fw.jo _ _⟩
theorem af4 (z : El) : Fw (fE z).1 ∧ Fw (fE z).2 := by
 unfold fE Jp Jq
 constructor
 ·dsimp only
  cases decide (gJ z.k z.n z.a z.b z.c z.d z.v z.ph = 0)
  ·exact Ux
  ·cases decide (z.k = 4)
   ·cases decide (z.k = 5)
    ·exact Ux
    ·exact Fw.qH _ _
   ·exact Fw.qH _ _
 ·dsimp only
  cases decide (gJ z.k z.n z.a z.b z.c z.d z.v z.ph = 0)
  ·exact Ux
  ·cases decide (z.k = 4)
   ·cases decide (z.k = 5)
    ·exact Ux
    ·exact Fw.qH _ _
   ·exact Fw.qH _ _
theorem YP {nodes brs : List Tx} {z : El} {f : tP} (h : VB f) : VB (lX nodes brs z f).1 := by
 unfold lX
 cases decide (gW z = 0)
 ·exact h
 ·cases decide (z.k = 5)
  ·exact CJ QB (CJ QC h)
  ·exact VD h (af4 z)
theorem abT (E : tE) (n : Nat) : ∀ i, VB (RF E n i)
 | 0 => fun j => ⟨Ux, Ux⟩
 | i + 1 => YP (abT E n i)
theorem af5 (s : Tx) (E : tE) (n : Nat) : VB (LX s E n) := by
 rw [OM]
 unfold dvI dvE
 exact CJ QC (CJ QB fun j => ⟨Ux, Ux⟩)
theorem xX {f : tP} (h : VB f) (j : Nat) : zB (dU f j) := YQ (h j).1 (h j).2
theorem VE (G : tE) : (bW fun j => bI (G j)) = G := rfl
theorem uZ (a : Nat) (G : tE) : jl (rowsOf ⟨false, a, 0, 0⟩ 8 8 (.fn fun j => zR (G j))) = G := funext fun j => by
 show unZ (zR (G (0 + j))) = G j
 rw [Nat.zero_add]
 rfl
theorem vg (a : Nat) (G : tE) : bW (rowsOf ⟨false, a, 0, 0⟩ 8 8 (.fn fun j => bI (G j))) = G := funext fun j => by
 show unE (bI (G (0 + j))) = G j
 rw [Nat.zero_add]
 rfl
theorem YR {n : Nat} {E : tE} (h : (ofR bU E n).1 = 0) : n ≤ 256 ∧ GdQ n E := by
 have h256 : n ≤ 256 := by
  by_cases c : 256 < n
  ·unfold ofR at h
   rw [decide_eq_true c, cond_true] at h
   exact absurd h (by decide)
  ·omega
 refine ⟨h256, ?_⟩
 have key : ∀ m, m ≤ n → ∀ j, j < m → eU bU E j = 0 := by
  intro m
  induction m with
  | zero => intro _ j hj; exact absurd hj (Nat.not_lt_zero j)
  | succ m ih =>
   intro hm j hj
   by_cases c : j < m
   ·exact ih (by omega) j c
   ·obtain rfl : j = m := by omega
    by_cases b : eU bU E j = 0
    ·exact b
    ·have := VF n j E h256 (by omega) b (ih (by omega))
     rw [this] at h
     exact absurd h b
 exact key n (Nat.le_refl n)


theorem Uy {K g : Nat} {o : Bool} {M : tM} {l : tH} (h : g < K) (hl : jy K l) : jy K ((g, .aW o M) :: l) := ⟨⟨h, trivial⟩, hl⟩
theorem lcT {K g n : Nat} {o : Bool} {f : tX} {l : tH} (h : g < K) (hl : jy K l) : jy K ((g, .cells o 1 n (.fn (dh f))) :: l) := ⟨⟨h, fun j hj v hv => by rw [List.mem_singleton.1 hv]; rfl⟩, hl⟩
theorem lcR {K g c n : Nat} {o : Bool} {l : tH} (h : g < K) (h1 : c < K) (hl : jy K l) : jy K ((g, .cells o 2 1 (.fn fun _ => [ZCp c n, .bool true])) :: l) := ⟨⟨h, fun j hj v hv => by
 rcases List.mem_cons.1 hv with rfl | hv
 ·exact Nat.ble_eq_true_of_le h1
 ·rw [List.mem_singleton.1 hv]; rfl⟩, hl⟩
theorem lcN {K g n q r : Nat} {o : Bool} {l : tH} (h : g < K) (h1 : 7 < K) (hl : jy K l) : jy K ((g, .cells o 7 1 (.fn fun _ => zH 2 3 4 5 6 7 n q r)) :: l) := ⟨⟨h, fun j hj v hv => by
 have hv : v ∈ zH 2 3 4 5 6 7 n q r := hv
 simp only [zH, List.mem_cons, List.not_mem_nil, or_false] at hv
 rcases hv with rfl | rfl | rfl | rfl | rfl | rfl | rfl
 ·rfl
 ·exact Nat.ble_eq_true_of_le (show Nat.succ 5 ≤ K by omega)
 ·exact Nat.ble_eq_true_of_le (show Nat.succ 2 ≤ K by omega)
 ·exact Nat.ble_eq_true_of_le (show Nat.succ 6 ≤ K by omega)
 ·exact Nat.ble_eq_true_of_le (show Nat.succ 3 ≤ K by omega)
 ·exact Nat.ble_eq_true_of_le (show Nat.succ 7 ≤ K by omega)
 ·exact Nat.ble_eq_true_of_le (show Nat.succ 4 ≤ K by omega)⟩, hl⟩
noncomputable abbrev ZL (v0 : Nat) (v1 : tE) := (.cells true 7 1 (.fn fun _ => zH 2 3 4 5 6 7 v0 (ND v1 v0).length (BR v1 v0).length) : aF)
noncomputable abbrev Zt (v0 : Nat) (v1 : tE) (v2 : Nat) := (.cells true 1 v0 (.fn (dU (RF v1 v2 v2))) : aF)
noncomputable abbrev ZBh (v0 : tE) (v1 : Nat) := iT ((qX (RB v0 v1) 0 v1 : Nat) : Int)
noncomputable abbrev ZDT (v0 : tE) (v1 : Nat) (w0) := ([(2, ZU v0 v1), (3, ZV v0 v1), (4, ZW v0 v1), (5, ZI v1 v0), (6, ZJ v0 v1), (7, ZK v0 v1), (8, ZL v1 v0), (w0, .cells true 2 1 (.fn fun _ => [ZC 6, ZBh v0 v1]))] : tH)
noncomputable abbrev ZDY (v0 : tE) (v1 : Nat) := ([(2, ZU v0 v1), (3, ZV v0 v1), (4, ZW v0 v1), (5, ZI v1 v0), (6, ZJ v0 v1), (7, ZK v0 v1), (8, ZL v1 v0)] : tH)
noncomputable abbrev ZDZ (v0 : tE) (v1 : Nat) := (.cells true 2 1 (.fn fun _ => [ZC 6, ZBh v0 v1]) : aF)
noncomputable abbrev ZDh (v0 : tE) (v1 : Nat) (w0 w1) := ([(2, ZU v0 v1), (3, ZV v0 v1), (4, ZW v0 v1), (5, ZI v1 v0), (6, ZJ v0 v1), (7, ZK v0 v1), (8, ZL v1 v0), (w0, Zy v0 v1), (w1, ZB)] : tH)
noncomputable abbrev ZDv (v0 : tE) (v1 : Nat) (v2 v3 : Int) (v4 : Nat) := ([(2, ZU v0 v1), (3, ZV v0 v1), (4, ZW v0 v1), (5, ZI v1 v0), (6, ZJ v0 v1), (7, ZK v0 v1), (8, ZL v1 v0), (11, ZI v1 v0), (12, ZR v1 11), (14, Zf v2 v3), (15, Zt v4 v0 v1)] : tH)
noncomputable abbrev ZFG (v0 : tE) (v1 : Nat) := ([(2, ZU v0 v1), (3, ZV v0 v1), (4, ZW v0 v1), (5, ZI v1 v0), (6, ZJ v0 v1), (7, ZK v0 v1), (8, ZL v1 v0), (14, ZB), (15, Zy v0 v1), (11, ZI v1 v0), (12, ZR v1 11)] : tH)
theorem st7 (n lx : Nat) (G : tE) (s : Tx) (ex ax : Int) (hn : n ≤ 256) (hv : ∀ j, j < n → (G j).v < 18446744073709551616) (hg : GdQ n G) {y : Code} {K' : Nat} {Post : Po} (hK : 16 ≤ K') (h1 : qX (RB G n) 0 n = n → lx = aS G n ∧ ex = 0 ∧ ax = 0) (h2 : ¬ (qX (RB G n) 0 n = n) → lx = 0 ∧ ex = 6 ∧ ax = ((qX (RB G n) 0 n : Nat) : Int)) (hy : aj Try.prog y Try.f5.ntmps 1 16 K' (aQ (ZDz s lx)) (hpL (ZDv G n ex ax lx)) Post) :
  aj Try.prog (.seq ZCN y) Try.f5.ntmps 1 14 K' (aQ (ZEm s)) (hpL [(2, ZU G n), (3, ZV G n), (4, ZW G n), (5, ZI n G), (6, ZJ G n), (7, ZK G n), (8, ZL n G), (11, ZI n G), (12, ZR n 11)]) Post := by
 have hE := srF 14 (by omega) n (ND G n).length (BR G n).length G (aB 0 (NM G n)) (aB 0 (ND G n)) (aB 0 (BR G n)) (aH (ND G n)) (aH (BR G n)) s ⟨hn, rfl, rfl, rfl, rfl, rfl, rfl, rfl, rfl, fun j _ => ay _ rfl, fun j _ => ay _ rfl, fun j _ => ay _ rfl⟩
 by_cases ht : qX (RB G n) 0 n = n
 ·obtain ⟨e1, e2, e3⟩ := h1 ht
  have h3 : aj Try.prog ZCN Try.f5.ntmps 14 14 16 (aQ (ZEm s)) (hpL (ZDY G n)) (Nm (ZEg s G n 14 15) (ZDh G n 14 15)) := hE.post fun e fr' H' h => by
   rw [decide_eq_true ht, cond_true] at h
   obtain ⟨rfl, rfl, rfl⟩ := h
   exact ⟨(ZEg s G n 14 15), (ZDh G n 14 15), (dJ rfl), ⟨hs rfl, hs rfl, hs rfl, hs rfl, hs rfl, hs rfl, hs rfl, hs rfl, jI rfl rfl, trivial⟩, rfl, rfl, rfl⟩
  refine aj.aV (K1 := 16) (F1 := (ZEg s G n 15 14)) (H1 := (ZFG G n)) ((aj.lower (aj.dB (bl := (ZDY G n)) (iL := (ZDh G n 14 15)) (xl := (ZFH n G)) h3 (by omega) (sO (by omega) (lcR (by omega) (by omega) trivial)) rfl rfl ⟨.inl rfl, .inl rfl, .inl rfl, .inl rfl, .inl rfl, .inl rfl, .inl rfl, .inl rfl, .inl rfl, trivial⟩) (by omega)).renG fun e fr' H' ⟨q1, q2, q3⟩ => by
   subst q1 q2 q3
   exact ⟨swp 14 15, (ZEg s G n 15 14), (ZFG G n), zG (by omega) (by omega), (vk rfl), ⟨lG rfl rfl (by omega), lG rfl rfl (by omega), lG rfl rfl (by omega), fD rfl rfl (fun j _ => rfl) (fun j _ => rfl) (by omega), fD rfl rfl (fun j _ => rfl) (fun j _ => rfl) (by omega), fD rfl rfl (fun j _ => rfl) (fun j _ => rfl) (by omega), jk rfl rfl rfl (by omega), jk rfl rfl rfl (by omega), fD rfl rfl (fun j _ => rfl) (fun j _ => rfl) (by omega), fD rfl rfl (fun j _ => rfl) (fun j _ => rfl) (by omega), jk rfl rfl rfl (by omega), trivial⟩, zF, rfl, rfl, rfl⟩) hK ?_
  exact aj.jh (fl := (ZDz s lx)) (bl := (ZDv G n ex ax lx)) ⟨re rfl, re rfl, re rfl, ⟨_, rfl, AV.ge.slc _ _ _ e1.symm⟩, re rfl, trivial⟩ ⟨⟨_, rfl, rfl⟩, ⟨_, rfl, rfl⟩, ⟨_, rfl, rfl⟩, ⟨_, rfl, rfl, rfl, rfl, fun j _ => ay _ rfl⟩, ⟨_, rfl, rfl, rfl, rfl, fun j _ => ay _ rfl⟩, ⟨_, rfl, rfl, rfl, rfl, fun j _ => ay _ rfl⟩, ⟨_, rfl, rfl, rfl, rfl, fun j _ => ay _ rfl⟩, ⟨_, rfl, rfl, rfl, rfl, fun j _ => ay _ rfl⟩, ⟨_, rfl, rfl, rfl, rfl, fun j _ => ay _ rfl⟩, ⟨_, rfl, rfl, rfl, rfl, fun j _ => ⟨AV.ge.int' _ _ _ e2.symm, rfl, AV.ge.int' _ _ _ e3.symm, rfl, trivial⟩⟩, ⟨_, rfl, rfl, rfl, e1.symm, fun j _ => ay _ rfl⟩, trivial⟩ hy
 ·obtain ⟨e1, e2, e3⟩ := h2 ht
  have h3 : aj Try.prog ZCN Try.f5.ntmps 14 14 16 (aQ (ZEm s)) (hpL (ZDY G n)) (Nm [(1, .str true s), (5, ZA 8), (7, ZA 12), (9, .aX), (10, ZA 14)] (ZDT G n 14)) := hE.post fun e fr' H' h => by
   rw [decide_eq_false ht, cond_false] at h
   obtain ⟨rfl, rfl, rfl⟩ := h
   exact ⟨[(1, .str true s), (5, ZA 8), (7, ZA 12), (9, .aX), (10, ZA 14)], (ZDT G n 14), (dJ rfl), ⟨hs rfl, hs rfl, hs rfl, hs rfl, hs rfl, hs rfl, hs rfl, jI rfl rfl, trivial⟩, rfl, rfl, rfl⟩
  refine aj.aV (K1 := 15) (F1 := [(1, .str true s), (5, ZA 8), (7, ZA 12), (9, .aX), (10, ZA 14)]) (H1 := [(2, ZU G n), (3, ZV G n), (4, ZW G n), (5, ZI n G), (6, ZJ G n), (7, ZK G n), (8, ZL n G), (14, ZDZ G n), (11, ZI n G), (12, ZR n 11)]) ((aj.lower (aj.dB (bl := (ZDY G n)) (iL := (ZDT G n 14)) (xl := (ZFH n G)) h3 (by omega) (sO (by omega) (lcR (by omega) (by omega) trivial)) rfl rfl ⟨.inl rfl, .inl rfl, .inl rfl, .inl rfl, .inl rfl, .inl rfl, .inl rfl, .inl rfl, trivial⟩) (by omega)).renG fun e fr' H' ⟨q1, q2, q3⟩ => by
   subst q1 q2 q3
   exact ⟨id, [(1, .str true s), (5, ZA 8), (7, ZA 12), (9, .aX), (10, ZA 14)], [(2, ZU G n), (3, ZV G n), (4, ZW G n), (5, ZI n G), (6, ZJ G n), (7, ZK G n), (8, ZL n G), (14, ZDZ G n), (11, ZI n G), (12, ZR n 11)], fun g hg => rfl, (vk rfl), ⟨lG rfl rfl (by omega), lG rfl rfl (by omega), lG rfl rfl (by omega), fD rfl rfl (fun j _ => rfl) (fun j _ => rfl) (by omega), fD rfl rfl (fun j _ => rfl) (fun j _ => rfl) (by omega), fD rfl rfl (fun j _ => rfl) (fun j _ => rfl) (by omega), jk rfl rfl rfl (by omega), jk rfl rfl rfl (by omega), fD rfl rfl (fun j _ => rfl) (fun j _ => rfl) (by omega), jk rfl rfl rfl (by omega), trivial⟩, fun i j _ _ h => h, rfl, rfl, rfl⟩) (by omega) ?_
  refine aj.phantom 9 1 (dU (RF G n n)) rfl (by omega) (by omega) ?_
  exact aj.jh (fl := (ZDz s lx)) (bl := (ZDv G n ex ax lx)) ⟨re rfl, re rfl, re rfl, ⟨_, rfl, AV.ge.slc _ _ _ e1.symm⟩, re rfl, trivial⟩ ⟨⟨_, rfl, rfl⟩, ⟨_, rfl, rfl⟩, ⟨_, rfl, rfl⟩, ⟨_, rfl, rfl, rfl, rfl, fun j _ => ay _ rfl⟩, ⟨_, rfl, rfl, rfl, rfl, fun j _ => ay _ rfl⟩, ⟨_, rfl, rfl, rfl, rfl, fun j _ => ay _ rfl⟩, ⟨_, rfl, rfl, rfl, rfl, fun j _ => ay _ rfl⟩, ⟨_, rfl, rfl, rfl, rfl, fun j _ => ay _ rfl⟩, ⟨_, rfl, rfl, rfl, rfl, fun j _ => ay _ rfl⟩, ⟨_, rfl, rfl, rfl, rfl, fun j _ => ⟨AV.ge.int' _ _ _ e2.symm, rfl, AV.ge.int' _ _ _ e3.symm, rfl, trivial⟩⟩, ⟨_, rfl, rfl, rfl, e1.symm, fun j _ => ay _ rfl⟩, trivial⟩ hy
noncomputable abbrev ZD8 (v0 : tE) (v1 : Nat) (v2 v3 : Int) (v4 : Nat) := ([(2, ZU v0 v1), (3, ZV v0 v1), (4, ZW v0 v1), (5, ZI v1 v0), (6, ZJ v0 v1), (7, ZK v0 v1), (8, ZL v1 v0), (11, ZI v1 v0), (12, ZR v1 11), (14, Zf v2 v3), (15, Zt v4 v0 v1), (16, Zf v2 v3), (17, Zt v4 v0 v1)] : tH)
noncomputable abbrev ZFJ (v0 : tE) (v1 : Nat) (v2 v3 : Int) (v4 : Nat) := ([(2, ZU v0 v1), (3, ZV v0 v1), (4, ZW v0 v1), (5, ZI v1 v0), (6, ZJ v0 v1), (7, ZK v0 v1), (8, ZL v1 v0), (16, ZB), (17, Zy v0 v1), (11, ZI v1 v0), (12, ZR v1 11), (14, Zf v2 v3), (15, Zt v4 v0 v1)] : tH)
theorem st8 (n lx : Nat) (G : tE) (s : Tx) (ex ax : Int) (hn : n ≤ 256) (hv : ∀ j, j < n → (G j).v < 18446744073709551616) (hg : GdQ n G) {y : Code} {K' : Nat} {Post : Po} (hK : 18 ≤ K') (h1 : qX (RB G n) 0 n = n → lx = aS G n ∧ ex = 0 ∧ ax = 0) (h2 : ¬ (qX (RB G n) 0 n = n) → lx = 0 ∧ ex = 6 ∧ ax = ((qX (RB G n) 0 n : Nat) : Int)) (hy : aj Try.prog y Try.f5.ntmps 1 18 K' (aQ (ZDc s lx)) (hpL (ZD8 G n ex ax lx)) Post) :
  aj Try.prog (.seq ZCI y) Try.f5.ntmps 1 16 K' (aQ (ZDz s lx)) (hpL (ZDv G n ex ax lx)) Post := by
 have hE := srG 16 (by omega) n (ND G n).length (BR G n).length lx G (aB 0 (NM G n)) (aB 0 (ND G n)) (aB 0 (BR G n)) (aH (ND G n)) (aH (BR G n)) s ⟨hn, rfl, rfl, rfl, rfl, rfl, rfl, rfl, rfl, fun j _ => ay _ rfl, fun j _ => ay _ rfl, fun j _ => ay _ rfl⟩
 by_cases ht : qX (RB G n) 0 n = n
 ·obtain ⟨e1, e2, e3⟩ := h1 ht
  have h3 : aj Try.prog ZCI Try.f5.ntmps 16 16 18 (aQ (ZDz s lx)) (hpL (ZDY G n)) (Nm (ZEE s lx G n 16 17) (ZDh G n 16 17)) := hE.post fun e fr' H' h => by
   rw [decide_eq_true ht, cond_true] at h
   obtain ⟨rfl, rfl, rfl⟩ := h
   exact ⟨(ZEE s lx G n 16 17), (ZDh G n 16 17), (dJ rfl), ⟨hs rfl, hs rfl, hs rfl, hs rfl, hs rfl, hs rfl, hs rfl, hs rfl, jI rfl rfl, trivial⟩, rfl, rfl, rfl⟩
  refine aj.aV (K1 := 18) (F1 := (ZEE s lx G n 17 16)) (H1 := (ZFJ G n ex ax lx)) ((aj.lower (aj.dB (bl := (ZDY G n)) (iL := (ZDh G n 16 17)) (xl := [(11, ZI n G), (12, ZR n 11), (14, Zf ex ax), (15, Zt lx G n)]) h3 (by omega) (sO (by omega) (lcR (by omega) (by omega) (nU (by omega) (rD (by omega) trivial)))) rfl rfl ⟨.inl rfl, .inl rfl, .inl rfl, .inl rfl, .inl rfl, .inl rfl, .inl rfl, .inl rfl, .inl rfl, trivial⟩) (by omega)).renG fun e fr' H' ⟨q1, q2, q3⟩ => by
   subst q1 q2 q3
   exact ⟨swp 16 17, (ZEE s lx G n 17 16), (ZFJ G n ex ax lx), zG (by omega) (by omega), (vk rfl), ⟨lG rfl rfl (by omega), lG rfl rfl (by omega), lG rfl rfl (by omega), fD rfl rfl (fun j _ => rfl) (fun j _ => rfl) (by omega), fD rfl rfl (fun j _ => rfl) (fun j _ => rfl) (by omega), fD rfl rfl (fun j _ => rfl) (fun j _ => rfl) (by omega), jk rfl rfl rfl (by omega), jk rfl rfl rfl (by omega), fD rfl rfl (fun j _ => rfl) (fun j _ => rfl) (by omega), fD rfl rfl (fun j _ => rfl) (fun j _ => rfl) (by omega), jk rfl rfl rfl (by omega), jk rfl rfl rfl (by omega), fD rfl rfl (fun j _ => rfl) (fun j _ => rfl) (by omega), trivial⟩, zF, rfl, rfl, rfl⟩) hK ?_
  exact aj.jh (fl := (ZDc s lx)) (bl := (ZD8 G n ex ax lx)) ⟨re rfl, re rfl, re rfl, re rfl, re rfl, ⟨_, rfl, AV.ge.slc _ _ _ e1.symm⟩, re rfl, trivial⟩ ⟨⟨_, rfl, rfl⟩, ⟨_, rfl, rfl⟩, ⟨_, rfl, rfl⟩, ⟨_, rfl, rfl, rfl, rfl, fun j _ => ay _ rfl⟩, ⟨_, rfl, rfl, rfl, rfl, fun j _ => ay _ rfl⟩, ⟨_, rfl, rfl, rfl, rfl, fun j _ => ay _ rfl⟩, ⟨_, rfl, rfl, rfl, rfl, fun j _ => ay _ rfl⟩, ⟨_, rfl, rfl, rfl, rfl, fun j _ => ay _ rfl⟩, ⟨_, rfl, rfl, rfl, rfl, fun j _ => ay _ rfl⟩, ⟨_, rfl, rfl, rfl, rfl, fun j _ => ay _ rfl⟩, ⟨_, rfl, rfl, rfl, rfl, fun j _ => ay _ rfl⟩, ⟨_, rfl, rfl, rfl, rfl, fun j _ => ⟨AV.ge.int' _ _ _ e2.symm, rfl, AV.ge.int' _ _ _ e3.symm, rfl, trivial⟩⟩, ⟨_, rfl, rfl, rfl, e1.symm, fun j _ => ay _ rfl⟩, trivial⟩ hy
 ·obtain ⟨e1, e2, e3⟩ := h2 ht
  have h3 : aj Try.prog ZCI Try.f5.ntmps 16 16 18 (aQ (ZDz s lx)) (hpL (ZDY G n)) (Nm [(1, .str true s), (5, ZA 8), (7, ZA 12), (9, sL 15 lx), (10, ZA 14), (11, .aX), (12, ZA 16)] (ZDT G n 16)) := hE.post fun e fr' H' h => by
   rw [decide_eq_false ht, cond_false] at h
   obtain ⟨rfl, rfl, rfl⟩ := h
   exact ⟨[(1, .str true s), (5, ZA 8), (7, ZA 12), (9, sL 15 lx), (10, ZA 14), (11, .aX), (12, ZA 16)], (ZDT G n 16), (dJ rfl), ⟨hs rfl, hs rfl, hs rfl, hs rfl, hs rfl, hs rfl, hs rfl, jI rfl rfl, trivial⟩, rfl, rfl, rfl⟩
  refine aj.aV (K1 := 17) (F1 := [(1, .str true s), (5, ZA 8), (7, ZA 12), (9, sL 15 lx), (10, ZA 14), (11, .aX), (12, ZA 16)]) (H1 := [(2, ZU G n), (3, ZV G n), (4, ZW G n), (5, ZI n G), (6, ZJ G n), (7, ZK G n), (8, ZL n G), (16, ZDZ G n), (11, ZI n G), (12, ZR n 11), (14, Zf ex ax), (15, Zt lx G n)]) ((aj.lower (aj.dB (bl := (ZDY G n)) (iL := (ZDT G n 16)) (xl := [(11, ZI n G), (12, ZR n 11), (14, Zf ex ax), (15, Zt lx G n)]) h3 (by omega) (sO (by omega) (lcR (by omega) (by omega) (nU (by omega) (rD (by omega) trivial)))) rfl rfl ⟨.inl rfl, .inl rfl, .inl rfl, .inl rfl, .inl rfl, .inl rfl, .inl rfl, .inl rfl, trivial⟩) (by omega)).renG fun e fr' H' ⟨q1, q2, q3⟩ => by
   subst q1 q2 q3
   exact ⟨id, [(1, .str true s), (5, ZA 8), (7, ZA 12), (9, sL 15 lx), (10, ZA 14), (11, .aX), (12, ZA 16)], [(2, ZU G n), (3, ZV G n), (4, ZW G n), (5, ZI n G), (6, ZJ G n), (7, ZK G n), (8, ZL n G), (16, ZDZ G n), (11, ZI n G), (12, ZR n 11), (14, Zf ex ax), (15, Zt lx G n)], fun g hg => rfl, (vk rfl), ⟨lG rfl rfl (by omega), lG rfl rfl (by omega), lG rfl rfl (by omega), fD rfl rfl (fun j _ => rfl) (fun j _ => rfl) (by omega), fD rfl rfl (fun j _ => rfl) (fun j _ => rfl) (by omega), fD rfl rfl (fun j _ => rfl) (fun j _ => rfl) (by omega), jk rfl rfl rfl (by omega), jk rfl rfl rfl (by omega), fD rfl rfl (fun j _ => rfl) (fun j _ => rfl) (by omega), jk rfl rfl rfl (by omega), jk rfl rfl rfl (by omega), fD rfl rfl (fun j _ => rfl) (fun j _ => rfl) (by omega), trivial⟩, fun i j _ _ h => h, rfl, rfl, rfl⟩) (by omega) ?_
  refine aj.phantom 11 1 (dU (RF G n n)) rfl (by omega) (by omega) ?_
  exact aj.jh (fl := (ZDc s lx)) (bl := (ZD8 G n ex ax lx)) ⟨re rfl, re rfl, re rfl, re rfl, re rfl, ⟨_, rfl, AV.ge.slc _ _ _ e1.symm⟩, re rfl, trivial⟩ ⟨⟨_, rfl, rfl⟩, ⟨_, rfl, rfl⟩, ⟨_, rfl, rfl⟩, ⟨_, rfl, rfl, rfl, rfl, fun j _ => ay _ rfl⟩, ⟨_, rfl, rfl, rfl, rfl, fun j _ => ay _ rfl⟩, ⟨_, rfl, rfl, rfl, rfl, fun j _ => ay _ rfl⟩, ⟨_, rfl, rfl, rfl, rfl, fun j _ => ay _ rfl⟩, ⟨_, rfl, rfl, rfl, rfl, fun j _ => ay _ rfl⟩, ⟨_, rfl, rfl, rfl, rfl, fun j _ => ay _ rfl⟩, ⟨_, rfl, rfl, rfl, rfl, fun j _ => ay _ rfl⟩, ⟨_, rfl, rfl, rfl, rfl, fun j _ => ay _ rfl⟩, ⟨_, rfl, rfl, rfl, rfl, fun j _ => ⟨AV.ge.int' _ _ _ e2.symm, rfl, AV.ge.int' _ _ _ e3.symm, rfl, trivial⟩⟩, ⟨_, rfl, rfl, rfl, e1.symm, fun j _ => ay _ rfl⟩, trivial⟩ hy
noncomputable abbrev ZDx (v0 : tE) (v1 : Nat) (v2 v3 : Int) (v4 : Nat) := ([(2, ZU v0 v1), (3, ZV v0 v1), (4, ZW v0 v1), (5, ZI v1 v0), (6, ZJ v0 v1), (7, ZK v0 v1), (8, ZL v1 v0), (11, ZI v1 v0), (12, ZR v1 11), (14, Zf v2 v3), (15, Zt v4 v0 v1), (16, Zf v2 v3), (17, Zt v4 v0 v1), (18, Zf v2 v3), (19, Zt v4 v0 v1)] : tH)
noncomputable abbrev ZEt (v0 : Nat) (v1 : tE) (v2 v3 : Int) (v4 : Nat) := ([(11, ZI v0 v1), (12, ZR v0 11), (18, ZB), (19, Zy v1 v0), (2, ZU v1 v0), (3, ZV v1 v0), (4, ZW v1 v0), (5, ZI v0 v1), (6, ZJ v1 v0), (7, ZK v1 v0), (8, ZL v0 v1), (14, Zf v2 v3), (15, Zt v4 v1 v0), (16, Zf v2 v3), (17, Zt v4 v1 v0)] : tH)
noncomputable abbrev ZFN (v0 : Nat) (v1 : tE) (v2 v3 : Int) (v4 : Nat) := ([(11, ZI v0 v1), (12, ZR v0 11), (18, ZDZ v1 v0), (2, ZU v1 v0), (3, ZV v1 v0), (4, ZW v1 v0), (5, ZI v0 v1), (6, ZJ v1 v0), (7, ZK v1 v0), (8, ZL v0 v1), (14, Zf v2 v3), (15, Zt v4 v1 v0), (16, Zf v2 v3), (17, Zt v4 v1 v0)] : tH)
theorem st9 (n lx : Nat) (G : tE) (s : Tx) (ex ax : Int) (hn : n ≤ 256) (hv : ∀ j, j < n → (G j).v < 18446744073709551616) (hg : GdQ n G) {y : Code} {K' : Nat} {Post : Po} (hK : 20 ≤ K') (h1 : qX (RB G n) 0 n = n → lx = aS G n ∧ ex = 0 ∧ ax = 0) (h2 : ¬ (qX (RB G n) 0 n = n) → lx = 0 ∧ ex = 6 ∧ ax = ((qX (RB G n) 0 n : Nat) : Int)) (hy : aj Try.prog y Try.f5.ntmps 1 20 K' (aQ (ZD0 s lx)) (hpL (ZDx G n ex ax lx)) Post) :
  aj Try.prog (.seq ZCG y) Try.f5.ntmps 1 18 K' (aQ (ZDc s lx)) (hpL [(11, ZI n G), (12, ZR n 11), (2, ZU G n), (3, ZV G n), (4, ZW G n), (5, ZI n G), (6, ZJ G n), (7, ZK G n), (8, ZL n G), (14, Zf ex ax), (15, Zt lx G n), (16, Zf ex ax), (17, Zt lx G n)]) Post := by
 have hE := srH 18 (by omega) n lx G s ⟨hn, rfl, fun j _ => ay _ rfl, hv⟩ hg
 by_cases ht : qX (RB G n) 0 n = n
 ·obtain ⟨e1, e2, e3⟩ := h1 ht
  have h3 : aj Try.prog ZCG Try.f5.ntmps 18 18 20 (aQ (ZDc s lx)) (hpL (ZFH n G)) (Nm (ZDt s lx G n 18 19) [(11, ZI n G), (12, ZR n 11), (18, Zy G n), (19, ZB)]) := hE.post fun e fr' H' h => by
   rw [decide_eq_true ht, cond_true] at h
   obtain ⟨rfl, rfl, rfl⟩ := h
   exact ⟨(ZDt s lx G n 18 19), [(11, ZI n G), (12, ZR n 11), (18, Zy G n), (19, ZB)], (dJ rfl), ⟨hs rfl, hs rfl, hs rfl, jI rfl rfl, trivial⟩, rfl, rfl, rfl⟩
  refine aj.aV (K1 := 20) (F1 := (ZDt s lx G n 19 18)) (H1 := (ZEt n G ex ax lx)) ((aj.lower (aj.dB (bl := (ZFH n G)) (iL := [(11, ZI n G), (12, ZR n 11), (18, Zy G n), (19, ZB)]) (xl := [(2, ZU G n), (3, ZV G n), (4, ZW G n), (5, ZI n G), (6, ZJ G n), (7, ZK G n), (8, ZL n G), (14, Zf ex ax), (15, Zt lx G n), (16, Zf ex ax), (17, Zt lx G n)]) h3 (by omega) (Uy (by omega) (Uy (by omega) (Uy (by omega) (sO (by omega) (lcT (by omega) (lcT (by omega) (lcN (by omega) (by omega) (nU (by omega) (rD (by omega) (nU (by omega) (rD (by omega) trivial))))))))))) rfl rfl ⟨.inl rfl, .inl rfl, .inl rfl, .inl rfl, trivial⟩) (by omega)).renG fun e fr' H' ⟨q1, q2, q3⟩ => by
   subst q1 q2 q3
   exact ⟨swp 18 19, (ZDt s lx G n 19 18), (ZEt n G ex ax lx), zG (by omega) (by omega), (vk rfl), ⟨fD rfl rfl (fun j _ => rfl) (fun j _ => rfl) (by omega), jk rfl rfl rfl (by omega), jk rfl rfl rfl (by omega), fD rfl rfl (fun j _ => rfl) (fun j _ => rfl) (by omega), lG rfl rfl (by omega), lG rfl rfl (by omega), lG rfl rfl (by omega), fD rfl rfl (fun j _ => rfl) (fun j _ => rfl) (by omega), fD rfl rfl (fun j _ => rfl) (fun j _ => rfl) (by omega), fD rfl rfl (fun j _ => rfl) (fun j _ => rfl) (by omega), jk rfl rfl rfl (by omega), jk rfl rfl rfl (by omega), fD rfl rfl (fun j _ => rfl) (fun j _ => rfl) (by omega), jk rfl rfl rfl (by omega), fD rfl rfl (fun j _ => rfl) (fun j _ => rfl) (by omega), trivial⟩, zF, rfl, rfl, rfl⟩) hK ?_
  exact aj.jh (fl := (ZD0 s lx)) (bl := (ZDx G n ex ax lx)) ⟨re rfl, re rfl, re rfl, re rfl, re rfl, re rfl, re rfl, ⟨_, rfl, AV.ge.slc _ _ _ e1.symm⟩, re rfl, trivial⟩ ⟨⟨_, rfl, rfl⟩, ⟨_, rfl, rfl⟩, ⟨_, rfl, rfl⟩, ⟨_, rfl, rfl, rfl, rfl, fun j _ => ay _ rfl⟩, ⟨_, rfl, rfl, rfl, rfl, fun j _ => ay _ rfl⟩, ⟨_, rfl, rfl, rfl, rfl, fun j _ => ay _ rfl⟩, ⟨_, rfl, rfl, rfl, rfl, fun j _ => ay _ rfl⟩, ⟨_, rfl, rfl, rfl, rfl, fun j _ => ay _ rfl⟩, ⟨_, rfl, rfl, rfl, rfl, fun j _ => ay _ rfl⟩, ⟨_, rfl, rfl, rfl, rfl, fun j _ => ay _ rfl⟩, ⟨_, rfl, rfl, rfl, rfl, fun j _ => ay _ rfl⟩, ⟨_, rfl, rfl, rfl, rfl, fun j _ => ay _ rfl⟩, ⟨_, rfl, rfl, rfl, rfl, fun j _ => ay _ rfl⟩, ⟨_, rfl, rfl, rfl, rfl, fun j _ => ⟨AV.ge.int' _ _ _ e2.symm, rfl, AV.ge.int' _ _ _ e3.symm, rfl, trivial⟩⟩, ⟨_, rfl, rfl, rfl, e1.symm, fun j _ => ay _ rfl⟩, trivial⟩ hy
 ·obtain ⟨e1, e2, e3⟩ := h2 ht
  have h3 : aj Try.prog ZCG Try.f5.ntmps 18 18 20 (aQ (ZDc s lx)) (hpL (ZFH n G)) (Nm [(1, .str true s), (5, ZA 8), (7, ZA 12), (9, sL 15 lx), (10, ZA 14), (11, sL 17 lx), (12, ZA 16), (13, .aX), (14, ZA 18)] [(11, ZI n G), (12, ZR n 11), (18, ZDZ G n)]) := hE.post fun e fr' H' h => by
   rw [decide_eq_false ht, cond_false] at h
   obtain ⟨rfl, rfl, rfl⟩ := h
   exact ⟨[(1, .str true s), (5, ZA 8), (7, ZA 12), (9, sL 15 lx), (10, ZA 14), (11, sL 17 lx), (12, ZA 16), (13, .aX), (14, ZA 18)], [(11, ZI n G), (12, ZR n 11), (18, ZDZ G n)], (dJ rfl), ⟨hs rfl, hs rfl, jI rfl rfl, trivial⟩, rfl, rfl, rfl⟩
  refine aj.aV (K1 := 19) (F1 := [(1, .str true s), (5, ZA 8), (7, ZA 12), (9, sL 15 lx), (10, ZA 14), (11, sL 17 lx), (12, ZA 16), (13, .aX), (14, ZA 18)]) (H1 := (ZFN n G ex ax lx)) ((aj.lower (aj.dB (bl := (ZFH n G)) (iL := [(11, ZI n G), (12, ZR n 11), (18, ZDZ G n)]) (xl := [(2, ZU G n), (3, ZV G n), (4, ZW G n), (5, ZI n G), (6, ZJ G n), (7, ZK G n), (8, ZL n G), (14, Zf ex ax), (15, Zt lx G n), (16, Zf ex ax), (17, Zt lx G n)]) h3 (by omega) (Uy (by omega) (Uy (by omega) (Uy (by omega) (sO (by omega) (lcT (by omega) (lcT (by omega) (lcN (by omega) (by omega) (nU (by omega) (rD (by omega) (nU (by omega) (rD (by omega) trivial))))))))))) rfl rfl ⟨.inl rfl, .inl rfl, .inl rfl, trivial⟩) (by omega)).renG fun e fr' H' ⟨q1, q2, q3⟩ => by
   subst q1 q2 q3
   exact ⟨id, [(1, .str true s), (5, ZA 8), (7, ZA 12), (9, sL 15 lx), (10, ZA 14), (11, sL 17 lx), (12, ZA 16), (13, .aX), (14, ZA 18)], (ZFN n G ex ax lx), fun g hg => rfl, (vk rfl), ⟨fD rfl rfl (fun j _ => rfl) (fun j _ => rfl) (by omega), jk rfl rfl rfl (by omega), jk rfl rfl rfl (by omega), lG rfl rfl (by omega), lG rfl rfl (by omega), lG rfl rfl (by omega), fD rfl rfl (fun j _ => rfl) (fun j _ => rfl) (by omega), fD rfl rfl (fun j _ => rfl) (fun j _ => rfl) (by omega), fD rfl rfl (fun j _ => rfl) (fun j _ => rfl) (by omega), jk rfl rfl rfl (by omega), jk rfl rfl rfl (by omega), fD rfl rfl (fun j _ => rfl) (fun j _ => rfl) (by omega), jk rfl rfl rfl (by omega), fD rfl rfl (fun j _ => rfl) (fun j _ => rfl) (by omega), trivial⟩, fun i j _ _ h => h, rfl, rfl, rfl⟩) (by omega) ?_
  refine aj.phantom 13 1 (dU (RF G n n)) rfl (by omega) (by omega) ?_
  exact aj.jh (fl := (ZD0 s lx)) (bl := (ZDx G n ex ax lx)) ⟨re rfl, re rfl, re rfl, re rfl, re rfl, re rfl, re rfl, ⟨_, rfl, AV.ge.slc _ _ _ e1.symm⟩, re rfl, trivial⟩ ⟨⟨_, rfl, rfl⟩, ⟨_, rfl, rfl⟩, ⟨_, rfl, rfl⟩, ⟨_, rfl, rfl, rfl, rfl, fun j _ => ay _ rfl⟩, ⟨_, rfl, rfl, rfl, rfl, fun j _ => ay _ rfl⟩, ⟨_, rfl, rfl, rfl, rfl, fun j _ => ay _ rfl⟩, ⟨_, rfl, rfl, rfl, rfl, fun j _ => ay _ rfl⟩, ⟨_, rfl, rfl, rfl, rfl, fun j _ => ay _ rfl⟩, ⟨_, rfl, rfl, rfl, rfl, fun j _ => ay _ rfl⟩, ⟨_, rfl, rfl, rfl, rfl, fun j _ => ay _ rfl⟩, ⟨_, rfl, rfl, rfl, rfl, fun j _ => ay _ rfl⟩, ⟨_, rfl, rfl, rfl, rfl, fun j _ => ay _ rfl⟩, ⟨_, rfl, rfl, rfl, rfl, fun j _ => ay _ rfl⟩, ⟨_, rfl, rfl, rfl, rfl, fun j _ => ⟨AV.ge.int' _ _ _ e2.symm, rfl, AV.ge.int' _ _ _ e3.symm, rfl, trivial⟩⟩, ⟨_, rfl, rfl, rfl, e1.symm, fun j _ => ay _ rfl⟩, trivial⟩ hy
noncomputable abbrev ZX (v0) (v1 v2 : Int) := (.cells v0 2 1 (.fn fun _ => [iT v1, iT v2]) : aF)
noncomputable abbrev Zm (v0) (v1 : Nat) (v2 : tE) (v3 : Nat) := (.cells v0 1 v1 (.fn (dU (RF v2 v3 v3))) : aF)
noncomputable abbrev Zs (v0) (v1 : tE) (v2 : Nat) := ([(2, .aW v0 (aB 0 (NM v1 v2))), (3, .aW v0 (aB 0 (ND v1 v2))), (4, .aW v0 (aB 0 (BR v1 v2))), (5, .cells v0 8 (v2) (.fn fun j => bI (v1 j))), (6, .cells v0 1 ((ND v1 v2).length) (.fn (dh (aH (ND v1 v2))))), (7, .cells v0 1 ((BR v1 v2).length) (.fn (dh (aH (BR v1 v2))))), (8, .cells v0 7 1 (.fn fun _ => zH 2 3 4 5 6 7 v2 (ND v1 v2).length (BR v1 v2).length))] : tH)
noncomputable abbrev QD (v0) (v1 : Nat) := (.cells v0 2 1 (.fn fun _ => [sL 11 v1, .bool v0]) : aF)
noncomputable abbrev OO (v0) (v1 : Nat) (v2 : tE) := (.cells v0 8 (v1) (.fn fun j => bI (v2 j)) : aF)
noncomputable abbrev NI (v0) (v1 : Nat) (v2 : Tx) (v3 : tE) (v4 : Nat) := (.cells v0 1 v1 (.fn (dU (LX v2 v3 v4))) : aF)
noncomputable abbrev YS (v0) (v1 : tE) (v2 : Nat) (v3 : Tx) := (.cells v0 1 (aS v1 v2) (.fn (dU (LX v3 v1 v2))) : aF)
noncomputable abbrev ZDV (v0) (v1 : Tx) (v2 v3 : Nat) := ([(1, .str v0 v1), (7, ZA 12), (9, sL 15 v2), (10, ZA 14), (11, sL 17 v2), (12, ZA 16), (13, sL 19 v2), (14, ZA 18), (15, sL 21 v3), (16, ZA 20)] : tF)
noncomputable abbrev ZD4 (v0) (v1 : Tx) (v2 : Nat) (v3 : tE) (v4 : Nat) (w0 w1) := ([(1, .str v0 v1), (7, ZA 12), (9, sL 15 v2), (10, ZA 14), (11, sL 17 v2), (12, ZA 16), (13, sL 19 v2), (14, ZA 18), (15, Z6 v3 v4 w0), (16, ZA w1)] : tF)
noncomputable abbrev ZEV (v0) (v1 : Tx) (v2 : Nat) := ([(1, .str v0 v1), (5, ZA 8), (7, ZA 12), (9, sL 15 v2), (10, ZA 14), (11, sL 17 v2), (12, ZA 16), (13, sL 19 v2), (14, ZA 18)] : tF)
noncomputable abbrev ZFO (v0) (v1 : tE) (v2 : Nat) (v3 : Tx) (v4 v5 : Int) (v6 : Nat) := ([(20, BL v0), (21, YS v0 v1 v2 v3), (11, OO v0 v2 v1), (12, QD v0 v2), (14, ZX v0 v4 v5), (15, Zm v0 v6 v1 v2), (16, ZX v0 v4 v5), (17, Zm v0 v6 v1 v2), (18, ZX v0 v4 v5), (19, Zm v0 v6 v1 v2)] : tH)
theorem ah3 (n lx ld : Nat) (G : tE) (s : Tx) (ex ax ed ad : Int) (hn : n ≤ 256) (hv : ∀ j, j < n → (G j).v < 18446744073709551616) (hg : GdQ n G) {y : Code} {K' : Nat} {Post : Po} (hK : 22 ≤ K') (h1 : He s G n = true → ld = aS G n ∧ ed = 0 ∧ ad = 0) (h2 : ¬ (He s G n = true) → ld = 0 ∧ ed = 10 ∧ ad = (-1)) (hy : aj Try.prog y Try.f5.ntmps 1 22 K' (aQ (ZDV true s lx ld)) (hpL [(11, OO true n G), (12, QD true n), (14, ZX true ex ax), (15, Zm true lx G n), (16, ZX true ex ax), (17, Zm true lx G n), (18, ZX true ex ax), (19, Zm true lx G n), (20, ZX true ed ad), (21, NI true ld s G n)]) Post) :
  aj Try.prog (.seq ZCA y) Try.f5.ntmps 1 20 K' (aQ (ZEV true s lx)) (hpL [(2, ZBu true G n), (3, ZBv true G n), (4, ZBw true G n), (5, OO true n G), (6, .cells true 1 ((ND G n).length) (.fn (dh (aH (ND G n))))), (7, .cells true 1 ((BR G n).length) (.fn (dh (aH (BR G n))))), (8, .cells true 7 1 (.fn fun _ => zH 2 3 4 5 6 7 n (ND G n).length (BR G n).length)), (11, OO true n G), (12, QD true n), (14, ZX true ex ax), (15, Zm true lx G n), (16, ZX true ex ax), (17, Zm true lx G n), (18, ZX true ex ax), (19, Zm true lx G n)]) Post := by
 have hE := srI 20 (by omega) n (ND G n).length (BR G n).length lx G (aB 0 (NM G n)) (aB 0 (ND G n)) (aB 0 (BR G n)) (aH (ND G n)) (aH (BR G n)) s ⟨hn, rfl, rfl, rfl, rfl, rfl, rfl, rfl, rfl, fun j _ => ay _ rfl, fun j _ => ay _ rfl, fun j _ => ay _ rfl⟩
 by_cases ht : He s G n = true
 ·obtain ⟨e1, e2, e3⟩ := h1 ht
  have h3 : aj Try.prog ZCA Try.f5.ntmps 20 20 22 (aQ (ZEV true s lx)) (hpL (Zs true G n)) (Nm (ZD4 true s lx G n 20 21) [(20, YS true G n s), (21, BL true)]) := hE.post fun e fr' H' h => by
   rw [ht, cond_true] at h
   obtain ⟨rfl, rfl, rfl⟩ := h
   exact ⟨(ZD4 true s lx G n 20 21), [(20, YS true G n s), (21, BL true)], (dJ rfl), ⟨hs rfl, jI rfl rfl, trivial⟩, rfl, rfl, rfl⟩
  refine aj.aV (K1 := 22) (F1 := (ZD4 true s lx G n 21 20)) (H1 := (ZFO true G n s ex ax lx)) ((aj.lower (aj.dB (bl := (Zs true G n)) (iL := [(20, YS true G n s), (21, BL true)]) (xl := [(11, OO true n G), (12, QD true n), (14, ZX true ex ax), (15, Zm true lx G n), (16, ZX true ex ax), (17, Zm true lx G n), (18, ZX true ex ax), (19, Zm true lx G n)]) h3 (by omega) (sO (by omega) (lcR (by omega) (by omega) (nU (by omega) (rD (by omega) (nU (by omega) (rD (by omega) (nU (by omega) (rD (by omega) trivial)))))))) rfl rfl ⟨.inl rfl, .inl rfl, trivial⟩) (by omega)).renG fun e fr' H' ⟨q1, q2, q3⟩ => by
   subst q1 q2 q3
   exact ⟨swp 20 21, (ZD4 true s lx G n 21 20), (ZFO true G n s ex ax lx), zG (by omega) (by omega), (vk rfl), ⟨jk rfl rfl rfl (by omega), fD rfl rfl (fun j _ => rfl) (fun j _ => rfl) (by omega), fD rfl rfl (fun j _ => rfl) (fun j _ => rfl) (by omega), jk rfl rfl rfl (by omega), jk rfl rfl rfl (by omega), fD rfl rfl (fun j _ => rfl) (fun j _ => rfl) (by omega), jk rfl rfl rfl (by omega), fD rfl rfl (fun j _ => rfl) (fun j _ => rfl) (by omega), jk rfl rfl rfl (by omega), fD rfl rfl (fun j _ => rfl) (fun j _ => rfl) (by omega), trivial⟩, zF, rfl, rfl, rfl⟩) hK ?_
  exact aj.jh (fl := (ZDV true s lx ld)) (bl := [(11, OO true n G), (12, QD true n), (14, ZX true ex ax), (15, Zm true lx G n), (16, ZX true ex ax), (17, Zm true lx G n), (18, ZX true ex ax), (19, Zm true lx G n), (20, ZX true ed ad), (21, NI true ld s G n)]) ⟨re rfl, re rfl, re rfl, re rfl, re rfl, re rfl, re rfl, re rfl, ⟨_, rfl, AV.ge.slc _ _ _ e1.symm⟩, re rfl, trivial⟩ ⟨⟨_, rfl, rfl, rfl, rfl, fun j _ => ay _ rfl⟩, ⟨_, rfl, rfl, rfl, rfl, fun j _ => ay _ rfl⟩, ⟨_, rfl, rfl, rfl, rfl, fun j _ => ay _ rfl⟩, ⟨_, rfl, rfl, rfl, rfl, fun j _ => ay _ rfl⟩, ⟨_, rfl, rfl, rfl, rfl, fun j _ => ay _ rfl⟩, ⟨_, rfl, rfl, rfl, rfl, fun j _ => ay _ rfl⟩, ⟨_, rfl, rfl, rfl, rfl, fun j _ => ay _ rfl⟩, ⟨_, rfl, rfl, rfl, rfl, fun j _ => ay _ rfl⟩, ⟨_, rfl, rfl, rfl, rfl, fun j _ => ⟨AV.ge.int' _ _ _ e2.symm, rfl, AV.ge.int' _ _ _ e3.symm, rfl, trivial⟩⟩, ⟨_, rfl, rfl, rfl, e1.symm, fun j _ => ay _ rfl⟩, trivial⟩ hy
 ·obtain ⟨e1, e2, e3⟩ := h2 ht
  have hf : He s G n = false := by cases q : He s G n with | true => exact absurd q ht | false => rfl
  have h3 : aj Try.prog ZCA Try.f5.ntmps 20 20 22 (aQ (ZEV true s lx)) (hpL (Zs true G n)) (Nm [(1, .str true s), (7, ZA 12), (9, sL 15 lx), (10, ZA 14), (11, sL 17 lx), (12, ZA 16), (13, sL 19 lx), (14, ZA 18), (15, .aX), (16, ZA 20)] [(20, SX true)]) := hE.post fun e fr' H' h => by
   rw [hf, cond_false] at h
   obtain ⟨rfl, rfl, rfl⟩ := h
   exact ⟨[(1, .str true s), (7, ZA 12), (9, sL 15 lx), (10, ZA 14), (11, sL 17 lx), (12, ZA 16), (13, sL 19 lx), (14, ZA 18), (15, .aX), (16, ZA 20)], [(20, SX true)], (dJ rfl), ⟨jI rfl rfl, trivial⟩, rfl, rfl, rfl⟩
  refine aj.aV (K1 := 21) (F1 := [(1, .str true s), (7, ZA 12), (9, sL 15 lx), (10, ZA 14), (11, sL 17 lx), (12, ZA 16), (13, sL 19 lx), (14, ZA 18), (15, .aX), (16, ZA 20)]) (H1 := [(20, SX true), (11, OO true n G), (12, QD true n), (14, ZX true ex ax), (15, Zm true lx G n), (16, ZX true ex ax), (17, Zm true lx G n), (18, ZX true ex ax), (19, Zm true lx G n)]) ((aj.lower (aj.dB (bl := (Zs true G n)) (iL := [(20, SX true)]) (xl := [(11, OO true n G), (12, QD true n), (14, ZX true ex ax), (15, Zm true lx G n), (16, ZX true ex ax), (17, Zm true lx G n), (18, ZX true ex ax), (19, Zm true lx G n)]) h3 (by omega) (sO (by omega) (lcR (by omega) (by omega) (nU (by omega) (rD (by omega) (nU (by omega) (rD (by omega) (nU (by omega) (rD (by omega) trivial)))))))) rfl rfl ⟨.inl rfl, trivial⟩) (by omega)).renG fun e fr' H' ⟨q1, q2, q3⟩ => by
   subst q1 q2 q3
   exact ⟨id, [(1, .str true s), (7, ZA 12), (9, sL 15 lx), (10, ZA 14), (11, sL 17 lx), (12, ZA 16), (13, sL 19 lx), (14, ZA 18), (15, .aX), (16, ZA 20)], [(20, SX true), (11, OO true n G), (12, QD true n), (14, ZX true ex ax), (15, Zm true lx G n), (16, ZX true ex ax), (17, Zm true lx G n), (18, ZX true ex ax), (19, Zm true lx G n)], fun g hg => rfl, (vk rfl), ⟨jk rfl rfl rfl (by omega), fD rfl rfl (fun j _ => rfl) (fun j _ => rfl) (by omega), jk rfl rfl rfl (by omega), jk rfl rfl rfl (by omega), fD rfl rfl (fun j _ => rfl) (fun j _ => rfl) (by omega), jk rfl rfl rfl (by omega), fD rfl rfl (fun j _ => rfl) (fun j _ => rfl) (by omega), jk rfl rfl rfl (by omega), fD rfl rfl (fun j _ => rfl) (fun j _ => rfl) (by omega), trivial⟩, fun i j _ _ h => h, rfl, rfl, rfl⟩) (by omega) ?_
  refine aj.phantom 15 1 (dU (LX s G n)) rfl (by omega) (by omega) ?_
  exact aj.jh (fl := (ZDV true s lx ld)) (bl := [(11, OO true n G), (12, QD true n), (14, ZX true ex ax), (15, Zm true lx G n), (16, ZX true ex ax), (17, Zm true lx G n), (18, ZX true ex ax), (19, Zm true lx G n), (20, ZX true ed ad), (21, NI true ld s G n)]) ⟨re rfl, re rfl, re rfl, re rfl, re rfl, re rfl, re rfl, re rfl, ⟨_, rfl, AV.ge.slc _ _ _ e1.symm⟩, re rfl, trivial⟩ ⟨⟨_, rfl, rfl, rfl, rfl, fun j _ => ay _ rfl⟩, ⟨_, rfl, rfl, rfl, rfl, fun j _ => ay _ rfl⟩, ⟨_, rfl, rfl, rfl, rfl, fun j _ => ay _ rfl⟩, ⟨_, rfl, rfl, rfl, rfl, fun j _ => ay _ rfl⟩, ⟨_, rfl, rfl, rfl, rfl, fun j _ => ay _ rfl⟩, ⟨_, rfl, rfl, rfl, rfl, fun j _ => ay _ rfl⟩, ⟨_, rfl, rfl, rfl, rfl, fun j _ => ay _ rfl⟩, ⟨_, rfl, rfl, rfl, rfl, fun j _ => ay _ rfl⟩, ⟨_, rfl, rfl, rfl, rfl, fun j _ => ⟨AV.ge.int' _ _ _ e2.symm, rfl, AV.ge.int' _ _ _ e3.symm, rfl, trivial⟩⟩, ⟨_, rfl, rfl, rfl, e1.symm, fun j _ => ay _ rfl⟩, trivial⟩ hy
theorem ah4 (n lx ld : Nat) (G : tE) (s : Tx) (ex ax ed ad : Int) (hn : n ≤ 256) (hv : ∀ j, j < n → (G j).v < 18446744073709551616) (hg : GdQ n G) {y : Code} {K' : Nat} {Post : Po} (hK : 24 ≤ K') (h1 : He s G n = true → ld = aS G n ∧ ed = 0 ∧ ad = 0) (h2 : ¬ (He s G n = true) → ld = 0 ∧ ed = 10 ∧ ad = (-1)) (hy : aj Try.prog y Try.f5.ntmps 1 24 K' (aQ (ZDb lx ld)) (hpL [(14, ZX true ex ax), (15, Zm true lx G n), (16, ZX true ex ax), (17, Zm true lx G n), (18, ZX true ex ax), (19, Zm true lx G n), (20, ZX true ed ad), (21, NI true ld s G n), (22, ZX true ed ad), (23, NI true ld s G n)]) Post) :
  aj Try.prog (.seq ZB7 y) Try.f5.ntmps 1 22 K' (aQ (ZDV true s lx ld)) (hpL [(11, OO true n G), (12, QD true n), (14, ZX true ex ax), (15, Zm true lx G n), (16, ZX true ex ax), (17, Zm true lx G n), (18, ZX true ex ax), (19, Zm true lx G n), (20, ZX true ed ad), (21, NI true ld s G n)]) Post := by
 have hE := srJ 22 (by omega) n lx ld G s ⟨hn, rfl, fun j _ => ay _ rfl, hv⟩
 by_cases ht : He s G n = true
 ·obtain ⟨e1, e2, e3⟩ := h1 ht
  have h3 : aj Try.prog ZB7 Try.f5.ntmps 22 22 24 (aQ (ZDV true s lx ld)) (hpL [(11, OO true n G), (12, QD true n)]) (Nm (ZDk lx ld G n 22 23) [(22, YS true G n s), (23, BL true)]) := hE.post fun e fr' H' h => by
   rw [ht, cond_true] at h
   obtain ⟨rfl, rfl, rfl⟩ := h
   exact ⟨(ZDk lx ld G n 22 23), [(22, YS true G n s), (23, BL true)], (dJ rfl), ⟨hs rfl, jI rfl rfl, trivial⟩, rfl, rfl, rfl⟩
  refine aj.aV (K1 := 24) (F1 := (ZDk lx ld G n 23 22)) (H1 := [(22, BL true), (23, YS true G n s), (14, ZX true ex ax), (15, Zm true lx G n), (16, ZX true ex ax), (17, Zm true lx G n), (18, ZX true ex ax), (19, Zm true lx G n), (20, ZX true ed ad), (21, NI true ld s G n)]) ((aj.lower (aj.dB (bl := [(11, OO true n G), (12, QD true n)]) (iL := [(22, YS true G n s), (23, BL true)]) (xl := [(14, ZX true ex ax), (15, Zm true lx G n), (16, ZX true ex ax), (17, Zm true lx G n), (18, ZX true ex ax), (19, Zm true lx G n), (20, ZX true ed ad), (21, NI true ld s G n)]) h3 (by omega) (nU (by omega) (rD (by omega) (nU (by omega) (rD (by omega) (nU (by omega) (rD (by omega) (nU (by omega) (rD (by omega) trivial)))))))) rfl rfl ⟨.inl rfl, .inl rfl, trivial⟩) (by omega)).renG fun e fr' H' ⟨q1, q2, q3⟩ => by
   subst q1 q2 q3
   exact ⟨swp 22 23, (ZDk lx ld G n 23 22), [(22, BL true), (23, YS true G n s), (14, ZX true ex ax), (15, Zm true lx G n), (16, ZX true ex ax), (17, Zm true lx G n), (18, ZX true ex ax), (19, Zm true lx G n), (20, ZX true ed ad), (21, NI true ld s G n)], zG (by omega) (by omega), (vk rfl), ⟨jk rfl rfl rfl (by omega), fD rfl rfl (fun j _ => rfl) (fun j _ => rfl) (by omega), jk rfl rfl rfl (by omega), fD rfl rfl (fun j _ => rfl) (fun j _ => rfl) (by omega), jk rfl rfl rfl (by omega), fD rfl rfl (fun j _ => rfl) (fun j _ => rfl) (by omega), jk rfl rfl rfl (by omega), fD rfl rfl (fun j _ => rfl) (fun j _ => rfl) (by omega), jk rfl rfl rfl (by omega), fD rfl rfl (fun j _ => rfl) (fun j _ => rfl) (by omega), trivial⟩, zF, rfl, rfl, rfl⟩) hK ?_
  exact aj.jh (fl := (ZDb lx ld)) (bl := [(14, ZX true ex ax), (15, Zm true lx G n), (16, ZX true ex ax), (17, Zm true lx G n), (18, ZX true ex ax), (19, Zm true lx G n), (20, ZX true ed ad), (21, NI true ld s G n), (22, ZX true ed ad), (23, NI true ld s G n)]) ⟨re rfl, re rfl, re rfl, re rfl, re rfl, re rfl, re rfl, re rfl, ⟨_, rfl, AV.ge.slc _ _ _ e1.symm⟩, re rfl, trivial⟩ ⟨⟨_, rfl, rfl, rfl, rfl, fun j _ => ay _ rfl⟩, ⟨_, rfl, rfl, rfl, rfl, fun j _ => ay _ rfl⟩, ⟨_, rfl, rfl, rfl, rfl, fun j _ => ay _ rfl⟩, ⟨_, rfl, rfl, rfl, rfl, fun j _ => ay _ rfl⟩, ⟨_, rfl, rfl, rfl, rfl, fun j _ => ay _ rfl⟩, ⟨_, rfl, rfl, rfl, rfl, fun j _ => ay _ rfl⟩, ⟨_, rfl, rfl, rfl, rfl, fun j _ => ay _ rfl⟩, ⟨_, rfl, rfl, rfl, rfl, fun j _ => ay _ rfl⟩, ⟨_, rfl, rfl, rfl, rfl, fun j _ => ⟨AV.ge.int' _ _ _ e2.symm, rfl, AV.ge.int' _ _ _ e3.symm, rfl, trivial⟩⟩, ⟨_, rfl, rfl, rfl, e1.symm, fun j _ => ay _ rfl⟩, trivial⟩ hy
 ·obtain ⟨e1, e2, e3⟩ := h2 ht
  have hf : He s G n = false := by cases q : He s G n with | true => exact absurd q ht | false => rfl
  have h3 : aj Try.prog ZB7 Try.f5.ntmps 22 22 24 (aQ (ZDV true s lx ld)) (hpL [(11, OO true n G), (12, QD true n)]) (Nm [(9, sL 15 lx), (10, ZA 14), (11, sL 17 lx), (12, ZA 16), (13, sL 19 lx), (14, ZA 18), (15, sL 21 ld), (16, ZA 20), (17, .aX), (18, ZA 22)] [(22, SX true)]) := hE.post fun e fr' H' h => by
   rw [hf, cond_false] at h
   obtain ⟨rfl, rfl, rfl⟩ := h
   exact ⟨[(9, sL 15 lx), (10, ZA 14), (11, sL 17 lx), (12, ZA 16), (13, sL 19 lx), (14, ZA 18), (15, sL 21 ld), (16, ZA 20), (17, .aX), (18, ZA 22)], [(22, SX true)], (dJ rfl), ⟨jI rfl rfl, trivial⟩, rfl, rfl, rfl⟩
  refine aj.aV (K1 := 23) (F1 := [(9, sL 15 lx), (10, ZA 14), (11, sL 17 lx), (12, ZA 16), (13, sL 19 lx), (14, ZA 18), (15, sL 21 ld), (16, ZA 20), (17, .aX), (18, ZA 22)]) (H1 := [(22, SX true), (14, ZX true ex ax), (15, Zm true lx G n), (16, ZX true ex ax), (17, Zm true lx G n), (18, ZX true ex ax), (19, Zm true lx G n), (20, ZX true ed ad), (21, NI true ld s G n)]) ((aj.lower (aj.dB (bl := [(11, OO true n G), (12, QD true n)]) (iL := [(22, SX true)]) (xl := [(14, ZX true ex ax), (15, Zm true lx G n), (16, ZX true ex ax), (17, Zm true lx G n), (18, ZX true ex ax), (19, Zm true lx G n), (20, ZX true ed ad), (21, NI true ld s G n)]) h3 (by omega) (nU (by omega) (rD (by omega) (nU (by omega) (rD (by omega) (nU (by omega) (rD (by omega) (nU (by omega) (rD (by omega) trivial)))))))) rfl rfl ⟨.inl rfl, trivial⟩) (by omega)).renG fun e fr' H' ⟨q1, q2, q3⟩ => by
   subst q1 q2 q3
   exact ⟨id, [(9, sL 15 lx), (10, ZA 14), (11, sL 17 lx), (12, ZA 16), (13, sL 19 lx), (14, ZA 18), (15, sL 21 ld), (16, ZA 20), (17, .aX), (18, ZA 22)], [(22, SX true), (14, ZX true ex ax), (15, Zm true lx G n), (16, ZX true ex ax), (17, Zm true lx G n), (18, ZX true ex ax), (19, Zm true lx G n), (20, ZX true ed ad), (21, NI true ld s G n)], fun g hg => rfl, (vk rfl), ⟨jk rfl rfl rfl (by omega), jk rfl rfl rfl (by omega), fD rfl rfl (fun j _ => rfl) (fun j _ => rfl) (by omega), jk rfl rfl rfl (by omega), fD rfl rfl (fun j _ => rfl) (fun j _ => rfl) (by omega), jk rfl rfl rfl (by omega), fD rfl rfl (fun j _ => rfl) (fun j _ => rfl) (by omega), jk rfl rfl rfl (by omega), fD rfl rfl (fun j _ => rfl) (fun j _ => rfl) (by omega), trivial⟩, fun i j _ _ h => h, rfl, rfl, rfl⟩) (by omega) ?_
  refine aj.phantom 17 1 (dU (LX s G n)) rfl (by omega) (by omega) ?_
  exact aj.jh (fl := (ZDb lx ld)) (bl := [(14, ZX true ex ax), (15, Zm true lx G n), (16, ZX true ex ax), (17, Zm true lx G n), (18, ZX true ex ax), (19, Zm true lx G n), (20, ZX true ed ad), (21, NI true ld s G n), (22, ZX true ed ad), (23, NI true ld s G n)]) ⟨re rfl, re rfl, re rfl, re rfl, re rfl, re rfl, re rfl, re rfl, ⟨_, rfl, AV.ge.slc _ _ _ e1.symm⟩, re rfl, trivial⟩ ⟨⟨_, rfl, rfl, rfl, rfl, fun j _ => ay _ rfl⟩, ⟨_, rfl, rfl, rfl, rfl, fun j _ => ay _ rfl⟩, ⟨_, rfl, rfl, rfl, rfl, fun j _ => ay _ rfl⟩, ⟨_, rfl, rfl, rfl, rfl, fun j _ => ay _ rfl⟩, ⟨_, rfl, rfl, rfl, rfl, fun j _ => ay _ rfl⟩, ⟨_, rfl, rfl, rfl, rfl, fun j _ => ay _ rfl⟩, ⟨_, rfl, rfl, rfl, rfl, fun j _ => ay _ rfl⟩, ⟨_, rfl, rfl, rfl, rfl, fun j _ => ay _ rfl⟩, ⟨_, rfl, rfl, rfl, rfl, fun j _ => ⟨AV.ge.int' _ _ _ e2.symm, rfl, AV.ge.int' _ _ _ e3.symm, rfl, trivial⟩⟩, ⟨_, rfl, rfl, rfl, e1.symm, fun j _ => ay _ rfl⟩, trivial⟩ hy
noncomputable abbrev ZT := (.cells true 2 1 (.fn fun _ => [iT 1, iT (-1)]) : aF)
noncomputable abbrev ZZ := (.cells true 1 0 (.fn (dU (fun _ => (0, 0)))) : aF)
noncomputable abbrev ZEz (v0 : Tx) := aQ [(1, .str true v0), (5, .bG), (7, .bG), (9, sL 15 0), (10, ZA 14)]
theorem sf7 (s : Tx) {y : Code} {K' : Nat} {Post : Po} (hK : 16 ≤ K') (hy : aj Try.prog y Try.f5.ntmps 1 16 K' (ZEz s) (hpL [(14, ZT), (15, ZZ)]) Post) :
  aj Try.prog (.seq ZCN y) Try.f5.ntmps 1 14 K' (aQ [(1, .str true s), (5, .bG), (7, .bG)]) (hpL []) Post := by
 have h3 : aj Try.prog ZCN Try.f5.ntmps 14 14 15 (aQ [(1, .str true s), (5, .bG), (7, .bG)]) (hpL []) (Nm [(1, .str true s), (5, .bG), (7, .bG), (9, .aX), (10, ZA 14)] (Jr 14 1)) := (ah6 14 (by omega) s).post fun e fr' H' h => by
  obtain ⟨rfl, rfl, rfl⟩ := h
  exact ⟨[(1, .str true s), (5, .bG), (7, .bG), (9, .aX), (10, ZA 14)], (Jr 14 1), (dJ rfl), ⟨jI rfl rfl, trivial⟩, rfl, rfl, rfl⟩
 refine aj.aV (K1 := 15) (aj.lower (aj.dB (bl := []) (iL := (Jr 14 1)) (xl := []) h3 (by omega) trivial rfl rfl ⟨.inl rfl, trivial⟩) (by omega)) (by omega) ?_
 refine aj.phantom 9 1 (dU (fun _ => (0, 0))) rfl (by omega) (by omega) ?_
 exact aj.jh (fl := [(1, .str true s), (5, .bG), (7, .bG), (9, sL 15 0), (10, ZA 14)]) (bl := [(14, ZT), (15, ZZ)]) (dJ rfl) ⟨⟨_, rfl, rfl, rfl, rfl, fun j _ => ⟨AV.ge.int _ _ _ _, rfl, AV.ge.int _ _ _ _, rfl, trivial⟩⟩, ⟨_, rfl, rfl, rfl, rfl, fun j _ => ay _ rfl⟩, trivial⟩ hy
noncomputable abbrev ZEX (v0 : Tx) := aQ [(1, .str true v0), (5, .bG), (7, .bG), (9, sL 15 0), (10, ZA 14), (11, sL 17 0), (12, ZA 16)]
noncomputable abbrev ZFK := ([(14, ZT), (15, ZZ), (16, ZT), (17, ZZ)] : tH)
theorem sf8 (s : Tx) {y : Code} {K' : Nat} {Post : Po} (hK : 18 ≤ K') (hy : aj Try.prog y Try.f5.ntmps 1 18 K' (ZEX s) (hpL ZFK) Post) :
  aj Try.prog (.seq ZCI y) Try.f5.ntmps 1 16 K' (ZEz s) (hpL [(14, ZT), (15, ZZ)]) Post := by
 have h3 : aj Try.prog ZCI Try.f5.ntmps 16 16 17 (ZEz s) (hpL []) (Nm [(1, .str true s), (5, .bG), (7, .bG), (9, sL 15 0), (10, ZA 14), (11, .aX), (12, ZA 16)] (Jr 16 1)) := (ah8 16 (by omega) 0 s).post fun e fr' H' h => by
  obtain ⟨rfl, rfl, rfl⟩ := h
  exact ⟨[(1, .str true s), (5, .bG), (7, .bG), (9, sL 15 0), (10, ZA 14), (11, .aX), (12, ZA 16)], (Jr 16 1), (dJ rfl), ⟨jI rfl rfl, trivial⟩, rfl, rfl, rfl⟩
 refine aj.aV (K1 := 17) (aj.lower (aj.dB (bl := []) (iL := (Jr 16 1)) (xl := [(14, ZT), (15, ZZ)]) h3 (by omega) (nU (by omega) (rD (by omega) trivial)) rfl rfl ⟨.inl rfl, trivial⟩) (by omega)) (by omega) ?_
 refine aj.phantom 11 1 (dU (fun _ => (0, 0))) rfl (by omega) (by omega) ?_
 exact aj.jh (fl := [(1, .str true s), (5, .bG), (7, .bG), (9, sL 15 0), (10, ZA 14), (11, sL 17 0), (12, ZA 16)]) (bl := ZFK) (dJ rfl) ⟨⟨_, rfl, rfl, rfl, rfl, fun j _ => ay _ rfl⟩, ⟨_, rfl, rfl, rfl, rfl, fun j _ => ay _ rfl⟩, ⟨_, rfl, rfl, rfl, rfl, fun j _ => ⟨AV.ge.int _ _ _ _, rfl, AV.ge.int _ _ _ _, rfl, trivial⟩⟩, ⟨_, rfl, rfl, rfl, rfl, fun j _ => ay _ rfl⟩, trivial⟩ hy
noncomputable abbrev ZEI (v0 : Tx) := aQ [(1, .str true v0), (5, .bG), (7, .bG), (9, sL 15 0), (10, ZA 14), (11, sL 17 0), (12, ZA 16), (13, sL 19 0), (14, ZA 18)]
noncomputable abbrev ZEe := ([(14, ZT), (15, ZZ), (16, ZT), (17, ZZ), (18, ZT), (19, ZZ)] : tH)
theorem sf9 (s : Tx) {y : Code} {K' : Nat} {Post : Po} (hK : 20 ≤ K') (hy : aj Try.prog y Try.f5.ntmps 1 20 K' (ZEI s) (hpL ZEe) Post) :
  aj Try.prog (.seq ZCG y) Try.f5.ntmps 1 18 K' (ZEX s) (hpL ZFK) Post := by
 have h3 : aj Try.prog ZCG Try.f5.ntmps 18 18 19 (ZEX s) (hpL []) (Nm [(1, .str true s), (5, .bG), (7, .bG), (9, sL 15 0), (10, ZA 14), (11, sL 17 0), (12, ZA 16), (13, .aX), (14, ZA 18)] (Jr 18 1)) := (ahX 18 (by omega) 0 s).post fun e fr' H' h => by
  obtain ⟨rfl, rfl, rfl⟩ := h
  exact ⟨[(1, .str true s), (5, .bG), (7, .bG), (9, sL 15 0), (10, ZA 14), (11, sL 17 0), (12, ZA 16), (13, .aX), (14, ZA 18)], (Jr 18 1), (dJ rfl), ⟨jI rfl rfl, trivial⟩, rfl, rfl, rfl⟩
 refine aj.aV (K1 := 19) (aj.lower (aj.dB (bl := []) (iL := (Jr 18 1)) (xl := ZFK) h3 (by omega) (nU (by omega) (rD (by omega) (nU (by omega) (rD (by omega) trivial)))) rfl rfl ⟨.inl rfl, trivial⟩) (by omega)) (by omega) ?_
 refine aj.phantom 13 1 (dU (fun _ => (0, 0))) rfl (by omega) (by omega) ?_
 exact aj.jh (fl := [(1, .str true s), (5, .bG), (7, .bG), (9, sL 15 0), (10, ZA 14), (11, sL 17 0), (12, ZA 16), (13, sL 19 0), (14, ZA 18)]) (bl := ZEe) (dJ rfl) ⟨⟨_, rfl, rfl, rfl, rfl, fun j _ => ay _ rfl⟩, ⟨_, rfl, rfl, rfl, rfl, fun j _ => ay _ rfl⟩, ⟨_, rfl, rfl, rfl, rfl, fun j _ => ay _ rfl⟩, ⟨_, rfl, rfl, rfl, rfl, fun j _ => ay _ rfl⟩, ⟨_, rfl, rfl, rfl, rfl, fun j _ => ⟨AV.ge.int _ _ _ _, rfl, AV.ge.int _ _ _ _, rfl, trivial⟩⟩, ⟨_, rfl, rfl, rfl, rfl, fun j _ => ay _ rfl⟩, trivial⟩ hy
noncomputable abbrev ZEB (v0 : Tx) := aQ [(1, .str true v0), (7, .bG), (9, sL 15 0), (10, ZA 14), (11, sL 17 0), (12, ZA 16), (13, sL 19 0), (14, ZA 18), (15, sL 21 0), (16, ZA 20)]
noncomputable abbrev ZEK := ([(14, ZT), (15, ZZ), (16, ZT), (17, ZZ), (18, ZT), (19, ZZ), (20, ZT), (21, ZZ)] : tH)
theorem aib (s : Tx) {y : Code} {K' : Nat} {Post : Po} (hK : 22 ≤ K') (hy : aj Try.prog y Try.f5.ntmps 1 22 K' (ZEB s) (hpL ZEK) Post) :
  aj Try.prog (.seq ZCA y) Try.f5.ntmps 1 20 K' (ZEI s) (hpL ZEe) Post := by
 have h3 : aj Try.prog ZCA Try.f5.ntmps 20 20 21 (ZEI s) (hpL []) (Nm [(1, .str true s), (7, .bG), (9, sL 15 0), (10, ZA 14), (11, sL 17 0), (12, ZA 16), (13, sL 19 0), (14, ZA 18), (15, .aX), (16, ZA 20)] (Jr 20 1)) := (ahY 20 (by omega) 0 s).post fun e fr' H' h => by
  obtain ⟨rfl, rfl, rfl⟩ := h
  exact ⟨[(1, .str true s), (7, .bG), (9, sL 15 0), (10, ZA 14), (11, sL 17 0), (12, ZA 16), (13, sL 19 0), (14, ZA 18), (15, .aX), (16, ZA 20)], (Jr 20 1), (dJ rfl), ⟨jI rfl rfl, trivial⟩, rfl, rfl, rfl⟩
 refine aj.aV (K1 := 21) (aj.lower (aj.dB (bl := []) (iL := (Jr 20 1)) (xl := ZEe) h3 (by omega) (nU (by omega) (rD (by omega) (nU (by omega) (rD (by omega) (nU (by omega) (rD (by omega) trivial)))))) rfl rfl ⟨.inl rfl, trivial⟩) (by omega)) (by omega) ?_
 refine aj.phantom 15 1 (dU (fun _ => (0, 0))) rfl (by omega) (by omega) ?_
 exact aj.jh (fl := [(1, .str true s), (7, .bG), (9, sL 15 0), (10, ZA 14), (11, sL 17 0), (12, ZA 16), (13, sL 19 0), (14, ZA 18), (15, sL 21 0), (16, ZA 20)]) (bl := ZEK) (dJ rfl) ⟨⟨_, rfl, rfl, rfl, rfl, fun j _ => ay _ rfl⟩, ⟨_, rfl, rfl, rfl, rfl, fun j _ => ay _ rfl⟩, ⟨_, rfl, rfl, rfl, rfl, fun j _ => ay _ rfl⟩, ⟨_, rfl, rfl, rfl, rfl, fun j _ => ay _ rfl⟩, ⟨_, rfl, rfl, rfl, rfl, fun j _ => ay _ rfl⟩, ⟨_, rfl, rfl, rfl, rfl, fun j _ => ay _ rfl⟩, ⟨_, rfl, rfl, rfl, rfl, fun j _ => ⟨AV.ge.int _ _ _ _, rfl, AV.ge.int _ _ _ _, rfl, trivial⟩⟩, ⟨_, rfl, rfl, rfl, rfl, fun j _ => ay _ rfl⟩, trivial⟩ hy
noncomputable abbrev ZED := ([(9, sL 15 0), (10, ZA 14), (11, sL 17 0), (12, ZA 16), (13, sL 19 0), (14, ZA 18), (15, sL 21 0), (16, ZA 20), (17, sL 23 0), (18, ZA 22)] : tF)
noncomputable abbrev ZEW := ([(14, ZT), (15, ZZ), (16, ZT), (17, ZZ), (18, ZT), (19, ZZ), (20, ZT), (21, ZZ), (22, ZT), (23, ZZ)] : tH)
theorem aif (s : Tx) {y : Code} {K' : Nat} {Post : Po} (hK : 24 ≤ K') (hy : aj Try.prog y Try.f5.ntmps 1 24 K' (aQ ZED) (hpL ZEW) Post) :
  aj Try.prog (.seq ZB7 y) Try.f5.ntmps 1 22 K' (ZEB s) (hpL ZEK) Post := by
 have h3 : aj Try.prog ZB7 Try.f5.ntmps 22 22 23 (ZEB s) (hpL []) (Nm [(9, sL 15 0), (10, ZA 14), (11, sL 17 0), (12, ZA 16), (13, sL 19 0), (14, ZA 18), (15, sL 21 0), (16, ZA 20), (17, .aX), (18, ZA 22)] (Jr 22 1)) := (ahZ 22 (by omega) 0 0 s).post fun e fr' H' h => by
  obtain ⟨rfl, rfl, rfl⟩ := h
  exact ⟨[(9, sL 15 0), (10, ZA 14), (11, sL 17 0), (12, ZA 16), (13, sL 19 0), (14, ZA 18), (15, sL 21 0), (16, ZA 20), (17, .aX), (18, ZA 22)], (Jr 22 1), (dJ rfl), ⟨jI rfl rfl, trivial⟩, rfl, rfl, rfl⟩
 refine aj.aV (K1 := 23) (aj.lower (aj.dB (bl := []) (iL := (Jr 22 1)) (xl := ZEK) h3 (by omega) (nU (by omega) (rD (by omega) (nU (by omega) (rD (by omega) (nU (by omega) (rD (by omega) (nU (by omega) (rD (by omega) trivial)))))))) rfl rfl ⟨.inl rfl, trivial⟩) (by omega)) (by omega) ?_
 refine aj.phantom 17 1 (dU (fun _ => (0, 0))) rfl (by omega) (by omega) ?_
 exact aj.jh (fl := ZED) (bl := ZEW) (dJ rfl) ⟨⟨_, rfl, rfl, rfl, rfl, fun j _ => ay _ rfl⟩, ⟨_, rfl, rfl, rfl, rfl, fun j _ => ay _ rfl⟩, ⟨_, rfl, rfl, rfl, rfl, fun j _ => ay _ rfl⟩, ⟨_, rfl, rfl, rfl, rfl, fun j _ => ay _ rfl⟩, ⟨_, rfl, rfl, rfl, rfl, fun j _ => ay _ rfl⟩, ⟨_, rfl, rfl, rfl, rfl, fun j _ => ay _ rfl⟩, ⟨_, rfl, rfl, rfl, rfl, fun j _ => ay _ rfl⟩, ⟨_, rfl, rfl, rfl, rfl, fun j _ => ay _ rfl⟩, ⟨_, rfl, rfl, rfl, rfl, fun j _ => ⟨AV.ge.int _ _ _ _, rfl, AV.ge.int _ _ _ _, rfl, trivial⟩⟩, ⟨_, rfl, rfl, rfl, rfl, fun j _ => ay _ rfl⟩, trivial⟩ hy


theorem QE (u d : Nat) (f h : tP) (ea aa eb ab : Int) (hu : u ≤ 4096) (hd : d ≤ 4096) (hf : VB f) (hh : VB h) : aj Try.prog (aT [1,1,1,1,1,1,1,1,1,1] (ak Try.f5)) Try.f5.ntmps 1 24 26 (aQ (ZDb u d)) (hpL [(14, Zf ea aa), (15, Zj u f), (16, Zf ea aa), (17, Zj u f), (18, Zf ea aa), (19, Zj u f), (20, Zf eb ab), (21, Zj d h), (22, Zf eb ab), (23, Zj d h)]) (fun e fr' H' => (e = .ret ∨ e = .normal) ∧ ∃ u, fr'.get 4 = some u ∧ AV.ge u (.bool true)) := by
 rw [show (aT [1,1,1,1,1,1,1,1,1,1] (ak Try.f5)) = .seq (aT [1,1,1,1,1,1,1,1,1,1,0] (ak Try.f5)) (aT [1,1,1,1,1,1,1,1,1,1,1] (ak Try.f5)) by kernel_rfl]
 refine aj.aV (K1 := 24) (F1 := [(9, sL 15 u), (11, sL 17 u), (15, sL 21 d)]) (H1 := [(15, Zj u f), (17, Zj u f), (21, Zj d h)]) (aj.toN ((srK 1 (by omega) u d f h ea aa eb ab (fun _ _ => by omega) (fun _ _ => fun j hj => xX hf _) (fun _ _ => fun j hj u hu => by rw [List.mem_singleton.1 hu]; rfl) (fun _ _ => fun j hj => xX hf _) (fun _ _ => fun j hj u hu => by rw [List.mem_singleton.1 hu]; rfl) (fun _ _ => CB ⟨rfl, fun j hj => ⟨rfl, rfl⟩⟩) (fun _ _ => by omega) (fun _ _ => fun j hj => xX hf _) (fun _ _ => fun j hj u hu => by rw [List.mem_singleton.1 hu]; rfl) (fun _ _ => CB ⟨rfl, fun j hj => ⟨rfl, rfl⟩⟩) (fun _ _ => by omega) (fun _ _ => fun j hj => xX hh _) (fun _ _ => fun j hj u hu => by rw [List.mem_singleton.1 hu]; rfl) (fun _ _ => fun j hj => xX hh _) (fun _ _ => fun j hj u hu => by rw [List.mem_singleton.1 hu]; rfl) (fun _ _ => CB ⟨rfl, fun j hj => ⟨rfl, rfl⟩⟩)).mono fun e fr' H' h => by
  rw [(show (decide (ea = ea) && (decide (aa = aa) && true)) = true by simp), cond_true, (show (decide (eb = eb) && (decide (ab = ab) && true)) = true by simp), cond_true] at h
  exact h) (dJ rfl) (fG rfl)) (by omega) ?_
 refine (srL 1 (by omega) u d f h (rfl) (by omega) (fun j hj => xX hf _) (rfl) (by omega) (fun j hj => xX hh _)).mono fun e fr' H' h => ?_
 obtain ⟨rfl, rfl, rfl⟩ := h
 exact ⟨.inl rfl, _, rfl, AV.ge.refl _⟩
noncomputable abbrev ZBt (v0 : tE) (v1 : Nat) := (.cells true 2 1 (.fn fun _ => [iT (uF v0 v1).1, iT (uF v0 v1).2]) : aF)
noncomputable abbrev ZCZ (v0 v1) := (.cells true 2 1 (.fn fun _ => [iT v0, iT v1]) : aF)
theorem VG (n : Nat) (G : tE) (s : Tx) (hn : n * 104 ≤ 140737488351232) (hv : ∀ j, j < n → (G j).v < 18446744073709551616) : aj Try.prog (ak Try.f5) Try.f5.ntmps 1 1 26 (bJ [ZG n, .str true s] 0 .e) (hpL [(0, Z1 n G)]) (fun e fr' H' => (e = .ret ∨ e = .normal) ∧ ∃ u, fr'.get 4 = some u ∧ AV.ge u (.bool true)) := by
 rw [show (ak Try.f5) = .seq (aT [0] (ak Try.f5)) (.seq (aT [1,0] (ak Try.f5)) (.seq (aT [1,1,0] (ak Try.f5)) (.seq (aT [1,1,1,0] (ak Try.f5)) (.seq (aT [1,1,1,1,0] (ak Try.f5)) (.seq (aT [1,1,1,1,1,0] (ak Try.f5)) (.seq (aT [1,1,1,1,1,1,0] (ak Try.f5)) (.seq (aT [1,1,1,1,1,1,1,0] (ak Try.f5)) (.seq (aT [1,1,1,1,1,1,1,1,0] (ak Try.f5)) (.seq (aT [1,1,1,1,1,1,1,1,1,0] (ak Try.f5)) ((aT [1,1,1,1,1,1,1,1,1,1] (ak Try.f5)))))))))))) by kernel_rfl]
 refine aj.aV (K1 := 1) (F1 := [(0, ZG n), (1, .str true s)]) (H1 := [(0, Z1 n G)]) (aj.toN (srA 1 (by omega) n G s) (dJ rfl) ⟨hs rfl, trivial⟩) (by omega) ?_
 have hB := srB 1 (by omega) n G s
 by_cases h300 : 300 < n
 ·refine aj.seq (K1 := 1) (by omega) (hB.mono fun e fr' H' h => ?_)
  rw [decide_eq_true (by omega), cond_true] at h
  obtain ⟨rfl, rfl, rfl⟩ := h
  exact ⟨.inl rfl, _, rfl, AV.ge.refl _⟩
 refine aj.aV (K1 := 1) (F1 := [(0, ZG n), (1, .str true s)]) (H1 := [(0, Z1 n G)]) (aj.toN (hB.mono fun e fr' H' h => by rw [decide_eq_false (by omega), cond_false] at h; exact h) (dJ rfl) ⟨hs rfl, trivial⟩) (by omega) ?_
 have hC := srC 1 (by omega) n 0 G s (by omega) (fun j hj => ⟨ay (zR (G (0 + j))) rfl, by rw [Nat.zero_add]; exact hv j hj⟩) (fun j hj u hu => List.all_eq_true.1 (show (zR (G (0 + j))).all (fun v => v.low 0) = true from rfl) u hu) ⟨⟨fun j hj => ay _ rfl⟩, fun j hj u hu => List.all_eq_true.1 (jY 0 _) u hu⟩
 have hD := srD 10 (by omega) n 0 G s (by omega) (fun j hj => ⟨ay (zR (G (0 + j))) rfl, by rw [Nat.zero_add]; exact hv j hj⟩) (fun j hj u hu => List.all_eq_true.1 (show (zR (G (0 + j))).all (fun v => v.low 0) = true from rfl) u hu) (fun _ => ⟨⟨⟨fun j hj => ay _ rfl⟩, fun j hj u hu => List.all_eq_true.1 (jY 0 _) u hu⟩, by omega, fun j hj => by rw [uZ, vg]; exact hv j hj⟩) (fun _ => ⟨⟨⟨fun j hj => ay _ rfl⟩, fun j hj u hu => List.all_eq_true.1 (jY 0 _) u hu⟩, by omega, fun j hj => by rw [uZ, vg]; exact hv j hj⟩)
 have hDf := aii 10 (by omega) n 0 G s (by omega) (fun j hj => ⟨ay (zR (G (0 + j))) rfl, by rw [Nat.zero_add]; exact hv j hj⟩) (fun j hj u hu => List.all_eq_true.1 (show (zR (G (0 + j))).all (fun v => v.low 0) = true from rfl) u hu) (fun _ => ⟨⟨⟨fun j hj => ay _ rfl⟩, fun j hj u hu => List.all_eq_true.1 (jY 0 _) u hu⟩, by omega, fun j hj => by rw [uZ, vg]; exact hv j hj⟩) (fun _ => ⟨⟨⟨fun j hj => ay _ rfl⟩, fun j hj u hu => List.all_eq_true.1 (jY 0 _) u hu⟩, by omega, fun j hj => by rw [uZ, vg]; exact hv j hj⟩)
 simp only [uZ, vg, VE, Nat.zero_add] at hC hD hDf
 by_cases t : (uF G n).1 = 0
 ·have hgd := YR (n := n) (E := G) (by rw [← Js]; exact t)
  obtain ⟨hn2, hg⟩ := hgd
  refine aj.aV (K1 := 10) (F1 := (ZFM n s)) (H1 := [(0, Z1 n G), (2, ZU G n), (3, ZV G n), (4, ZW G n), (5, ZI n G), (6, ZJ G n), (7, ZK G n), (8, ZL n G), (9, ZB)]) (aj.toN (hC.mono fun e fr' H' h => by rw [decide_eq_true t, cond_true] at h; exact h) (dJ rfl) ⟨hs rfl, hs rfl, hs rfl, hs rfl, hs rfl, hs rfl, hs rfl, hs rfl, jI rfl rfl, trivial⟩) (by omega) ?_
  have hD2 : aj Try.prog (aT [1,1,1,0] (ak Try.f5)) Try.f5.ntmps 10 10 14 (aQ (ZFM n s)) (hpL [(0, Z1 n G)]) (Nm (ZEC s) [(11, ZI n G), (12, ZR n 11), (13, ZB)]) := hD.post fun e fr' H' h => by
   rw [decide_eq_true t, cond_true] at h
   obtain ⟨rfl, rfl, rfl⟩ := h
   exact ⟨(ZEC s), [(11, ZI n G), (12, ZR n 11), (13, ZB)], (dJ rfl), ⟨hs rfl, hs rfl, jI rfl rfl, trivial⟩, rfl, rfl, rfl⟩
  refine aj.aV (K1 := 14) (F1 := (ZEC s)) (H1 := [(9, ZB), (13, ZB), (2, ZU G n), (3, ZV G n), (4, ZW G n), (5, ZI n G), (6, ZJ G n), (7, ZK G n), (8, ZL n G), (11, ZI n G), (12, ZR n 11)]) (aj.toN (aj.lower (aj.dB (bl := [(0, Z1 n G)]) (iL := [(11, ZI n G), (12, ZR n 11), (13, ZB)]) (xl := [(2, ZU G n), (3, ZV G n), (4, ZW G n), (5, ZI n G), (6, ZJ G n), (7, ZK G n), (8, ZL n G), (9, ZB)]) hD2 (by omega) (Uy (by omega) (Uy (by omega) (Uy (by omega) (sO (by omega) (lcT (by omega) (lcT (by omega) (lcN (by omega) (by omega) (nU (by omega) trivial)))))))) rfl rfl ⟨.inl rfl, .inl rfl, .inl rfl, trivial⟩) (by omega)) (dJ rfl) (fG rfl)) (by omega) ?_
  have hE : aj Try.prog (aT [1,1,1,1,0] (ak Try.f5)) Try.f5.ntmps 14 14 14 (aQ (ZEC s)) (hpL [(9, ZB), (13, ZB)]) (Nm (ZEm s) []) := srE 14 (by omega) s
  refine aj.aV (K1 := 14) (aj.lower (aj.dB (bl := [(9, ZB), (13, ZB)]) (iL := []) (xl := [(2, ZU G n), (3, ZV G n), (4, ZW G n), (5, ZI n G), (6, ZJ G n), (7, ZK G n), (8, ZL n G), (11, ZI n G), (12, ZR n 11)]) hE (by omega) (Uy (by omega) (Uy (by omega) (Uy (by omega) (sO (by omega) (lcT (by omega) (lcT (by omega) (lcN (by omega) (by omega) (sO (by omega) (lcR (by omega) (by omega) trivial))))))))) rfl rfl trivial) (by omega)) (by omega) ?_
  have eu : aS G n ≤ 4096 := by have := xk G n hn2; have := mV G n; unfold aS; omega
  obtain ⟨lx, ex, ax, x1, x2, x3⟩ : ∃ (lx : Nat) (ex ax : Int), (qX (RB G n) 0 n = n → lx = aS G n ∧ ex = 0 ∧ ax = 0) ∧ (¬ qX (RB G n) 0 n = n → lx = 0 ∧ ex = 6 ∧ ax = ((qX (RB G n) 0 n : Nat) : Int)) ∧ lx ≤ 4096 := by
   by_cases c : qX (RB G n) 0 n = n
   ·exact ⟨_, _, _, fun _ => ⟨rfl, rfl, rfl⟩, fun k => absurd c k, eu⟩
   ·exact ⟨_, _, _, fun k => absurd k c, fun _ => ⟨rfl, rfl, rfl⟩, by omega⟩
  obtain ⟨ld, ed, ad, d1, d2, d3⟩ : ∃ (ld : Nat) (ed ad : Int), (He s G n = true → ld = aS G n ∧ ed = 0 ∧ ad = 0) ∧ (¬ He s G n = true → ld = 0 ∧ ed = 10 ∧ ad = -1) ∧ ld ≤ 4096 := by
   by_cases c : He s G n = true
   ·exact ⟨_, _, _, fun _ => ⟨rfl, rfl, rfl⟩, fun k => absurd c k, eu⟩
   ·exact ⟨_, _, _, fun k => absurd k c, fun _ => ⟨rfl, rfl, rfl⟩, by omega⟩
  refine st7 n lx G s ex ax hn2 hv hg (by omega) x1 x2 ?_
  refine st8 n lx G s ex ax hn2 hv hg (by omega) x1 x2 ?_
  refine aj.dW (fl := [(1, .str true s), (5, ZA 8), (7, ZA 12), (9, sL 15 lx), (10, ZA 14), (11, sL 17 lx), (12, ZA 16)]) (bl := [(11, ZI n G), (12, ZR n 11), (2, ZU G n), (3, ZV G n), (4, ZW G n), (5, ZI n G), (6, ZJ G n), (7, ZK G n), (8, ZL n G), (14, ZCZ ex ax), (15, .cells true 1 lx (.fn (dU (RF G n n)))), (16, ZCZ ex ax), (17, .cells true 1 lx (.fn (dU (RF G n n))))]) (dJ rfl) (fG rfl) ?_
  refine st9 n lx G s ex ax hn2 hv hg (by omega) x1 x2 ?_
  refine ah3 n lx ld G s ex ax ed ad hn2 hv hg (by omega) d1 d2 ?_
  refine ah4 n lx ld G s ex ax ed ad hn2 hv hg (by omega) d1 d2 ?_
  exact aj.dW (fl := [(9, sL 15 lx), (10, ZA 14), (11, sL 17 lx), (12, ZA 16), (13, sL 19 lx), (14, ZA 18), (15, sL 21 ld), (16, ZA 20), (17, sL 23 ld), (18, ZA 22)]) (bl := [(14, ZCZ ex ax), (15, .cells true 1 lx (.fn (dU (RF G n n)))), (16, ZCZ ex ax), (17, .cells true 1 lx (.fn (dU (RF G n n)))), (18, ZCZ ex ax), (19, .cells true 1 lx (.fn (dU (RF G n n)))), (20, ZCZ ed ad), (21, .cells true 1 ld (.fn (dU (LX s G n)))), (22, ZCZ ed ad), (23, .cells true 1 ld (.fn (dU (LX s G n))))]) (dJ rfl) (fG rfl) (QE lx ld (RF G n n) (LX s G n) ex ax ed ad x3 d3 (abT G n n) (af5 s G n))
 ·refine aj.aV (K1 := 10) (F1 := [(0, ZG n), (1, .str true s), (5, .bG), (6, ZA 2)]) (H1 := [(0, Z1 n G), (2, ZBt G n)]) (aj.toN (hC.mono fun e fr' H' h => by rw [decide_eq_false t, cond_false] at h; exact h) (dJ rfl) ⟨hs rfl, jI rfl rfl, trivial⟩) (by omega) ?_
  have hD2 : aj Try.prog (aT [1,1,1,0] (ak Try.f5)) Try.f5.ntmps 10 10 14 (aQ [(0, ZG n), (1, .str true s), (5, .bG), (6, ZA 2)]) (hpL [(0, Z1 n G)]) (Nm [(1, .str true s), (5, .bG), (6, ZA 2), (7, .bG), (8, ZA 11)] [(11, ZBt G n)]) := hDf.post fun e fr' H' h => by
   rw [decide_eq_false t, cond_false] at h
   obtain ⟨rfl, rfl, rfl⟩ := h
   exact ⟨[(1, .str true s), (5, .bG), (6, ZA 2), (7, .bG), (8, ZA 11)], [(11, ZBt G n)], (dJ rfl), ⟨jI rfl rfl, trivial⟩, rfl, rfl, rfl⟩
  refine aj.aV (K1 := 14) (F1 := [(1, .str true s), (5, .bG), (6, ZA 2), (7, .bG), (8, ZA 11)]) (H1 := [(2, ZBt G n), (11, ZBt G n)]) (aj.toN (aj.lower (aj.dB (bl := [(0, Z1 n G)]) (iL := [(11, ZBt G n)]) (xl := [(2, ZBt G n)]) hD2 (by omega) (nU (by omega) trivial) rfl rfl ⟨.inl rfl, trivial⟩) (by omega)) (dJ rfl) (fG rfl)) (by omega) ?_
  have hE := aij 1 (by omega) s (uF G n).1 (uF G n).2
  refine aj.aV (K1 := 14) (F1 := [(1, .str true s), (5, .bG), (7, .bG)]) (H1 := []) (aj.toN (hE.mono fun e fr' H' h => by rw [(show (decide ((uF G n).1 = (uF G n).1) && (decide ((uF G n).2 = (uF G n).2) && true)) = true by simp), cond_true] at h; exact h) (dJ rfl) trivial) (by omega) ?_
  refine sf7 s (by omega) ?_
  refine sf8 s (by omega) ?_
  refine sf9 s (by omega) ?_
  refine aib s (by omega) ?_
  refine aif s (by omega) ?_
  exact aj.dW (fl := ZED) (bl := ZEW) (dJ rfl) (fG rfl) (QE 0 0 (fun _ => (0, 0)) (fun _ => (0, 0)) 1 (-1) 1 (-1) (by omega) (by omega) (fun j => ⟨Ux, Ux⟩) (fun j => ⟨Ux, Ux⟩))


theorem agb {N : Nat} {μ : MM} {hp : Array Obj} {g sz m : Nat} {c : Cont} {rows : Nat → List AV} (h : dw N μ hp g (.cells false sz m c)) (k : ∀ j, j < m → gy (c.row j) (rows j)) : dw N μ hp g (.cells false sz m (.fn rows)) := by
 refine ⟨h.1, h.2.1, fun hr => ?_⟩
 obtain ⟨cur, ty, fz, p1, p2, p3, p4⟩ := h.2.2 hr
 exact ⟨cur, ty, fz, p1, p2, p3, fun i hi => jv.ge (p4 i hi) (k i hi)⟩
theorem VH {H : Type} {enc : TypeId × Value → H} {base : Nat} {d0 d1 : DataW H} {p0 : List MemPlace} {wd : World} (v0 : Value) (hv0 : Value.okWide Try.prog wd .any base 36 v0) (h0 : DataW.Trod enc Try.prog wd 0 (fun _ => true) true 36 v0 d0 p0) (z0 : (DataW.weightsEach Try.prog [36, 9] [d0, d1]).all (· ≤ reachBytes) = true) (s1 : ByteArray) (z1 : s1.size ≤ reachBytes) (w' : World) (hw : w' = wd) :
  Calls Try.prog 5 #[v0, .string s1] wd fun e w' => e = .returned (.bool true) ∧ Below wd.heap.size wd w' := by
 obtain ⟨a0, len0, cap0, rfl⟩ := okWide_slice Try.underlying36 hv0
 obtain ⟨fuel0, hx0⟩ := h0
 obtain ⟨n0, blk0, bs0, c0, hval0, hbk0, hok0, hlen0⟩ := Vf (n := 3) (uX := [.int .u8, .str, .str, .str, .str, .str, .int .u64, .int .i64]) (v := .slice a0 len0 cap0) Try.underlying36 (by kernel_rfl) (by kernel_rfl) (by decide) hx0
 have hn0 : n0 * 104 ≤ 140737488351232 := by
  rcases hlen0 with ⟨rfl, _⟩ | ⟨es, sps, e1, e2⟩
  ·omega
  ·dsimp only at e1
   have h := sized_slice z0 (j := 0) (t := 36) (e := 24) (elems := es) (spare := sps) rfl (by rw [← e1]; rfl) Try.underlying36
   rw [show Try.prog.bytesOf 24 = 104 by kernel_rfl, e2] at h
   have hR : reachBytes = 140737488351232 := rfl
   rw [hR] at h
   exact Nat.le_trans (Nat.mul_le_mul_right 104 (Nat.le_add_right n0 sps.length)) h
 have bd : ∀ {x : Value}, (Sh.int .u64).ok x → 0 ≤ Sx.intOf x ∧ Sx.intOf x < 18446744073709551616 := fun {x} h => by
  obtain ⟨n, rfl, hw⟩ := h
  have := bounds_u64 hw
  simp only [Sx.intOf]; omega
 have hg := ac1 (l := [⟨8, n0, blk0, bs0, fun j => zR ((fun j => (⟨Sx.intOf (c0 j 0), Sx.strOf (c0 j 1), Sx.strOf (c0 j 2), Sx.strOf (c0 j 3), Sx.strOf (c0 j 4), Sx.strOf (c0 j 5), (Sx.intOf (c0 j 6)).toNat, Sx.intOf (c0 j 7)⟩ : El)) j)⟩]) (hp := wd.heap) fun i v hi μ N e1 e2 e3 => by
  match i, hi with
  | 0, hi =>
   cases hi
   refine agb (hbk0 μ 0 N e1 e2 e3) fun j hj => ?_
   have e : (((Sx.intOf (c0 j 6)).toNat : Nat) : Int) = Sx.intOf (c0 j 6) := Int.toNat_of_nonneg (bd (hok0 j hj 6 _ rfl)).1
   show gy [.int true .u8 (Sx.intOf (c0 j 0)), .str true (Sx.strOf (c0 j 1)), .str true (Sx.strOf (c0 j 2)), .str true (Sx.strOf (c0 j 3)), .str true (Sx.strOf (c0 j 4)), .str true (Sx.strOf (c0 j 5)), .int true .u64 (Sx.intOf (c0 j 6)), iT (Sx.intOf (c0 j 7))] [.int true .u8 (Sx.intOf (c0 j 0)), .str true (Sx.strOf (c0 j 1)), .str true (Sx.strOf (c0 j 2)), .str true (Sx.strOf (c0 j 3)), .str true (Sx.strOf (c0 j 4)), .str true (Sx.strOf (c0 j 5)), .int true .u64 (((Sx.intOf (c0 j 6)).toNat : Nat) : Int), iT (Sx.intOf (c0 j 7))]
   rw [e]
   exact ay _ rfl
  | i + 1, hi => simp at hi
 exact goes_true Try.func5 rfl (by kernel_rfl) (t := 4) (by kernel_rfl) (VG n0 (fun j => (⟨Sx.intOf (c0 j 0), Sx.strOf (c0 j 1), Sx.strOf (c0 j 2), Sx.strOf (c0 j 3), Sx.strOf (c0 j 4), Sx.strOf (c0 j 5), (Sx.intOf (c0 j 6)).toNat, Sx.intOf (c0 j 7)⟩ : El)) s1.data.toList (by omega) (fun j hj => by have := bd (hok0 j hj 6 _ rfl); show (Sx.intOf (c0 j 6)).toNat < 18446744073709551616; omega)) hg (fun B => ac2 (l := [⟨8, n0, blk0, bs0, fun j => zR ((fun j => (⟨Sx.intOf (c0 j 0), Sx.strOf (c0 j 1), Sx.strOf (c0 j 2), Sx.strOf (c0 j 3), Sx.strOf (c0 j 4), Sx.strOf (c0 j 5), (Sx.intOf (c0 j 6)).toNat, Sx.intOf (c0 j 7)⟩ : El)) j)⟩])) (by simp only [aI]; exact ⟨_, _, rfl, hval0 _ 0 _ (by decide) rfl rfl rfl, _, _, rfl, by simp only [Rep], rfl⟩)






set_option maxRecDepth 100000 in
theorem law_lifted (os : Os) (started : os.Started) (H : Type) (enc : TypeId × Value → H) :
  ReturnsInHanded {} Try.checked os 5 .any (Rows.sourceRightsSpec.pre6 enc Try.prog Try.f5 Rows.sourceRightsRow.domain false) (Rows.sourceRightsSpec.post enc Try.prog Try.f5 false true false false) := by
 refine returnsInHanded_of_change_sized (C := Try.checked) own started (by kernel_rfl) Try.func5
  (ChangeSpec.witness6 (enc := enc) (C := Try.checked) false ⟨#[], #[.slice none 0 0, .string ⟨#[]⟩], []⟩ 8 (by kernel_rfl) (by kernel_rfl) (by kernel_rfl) (by kernel_rfl)) ?_
 intro W base args ds gs before hval0 hW hcnd hsz0 _
 have hval : ∀ (j : Nat) t v, Try.f5.params[j]? = some t → args[j]? = some v → Value.okWide Try.prog W .any base t v := hval0
 have hsz1 : (DataW.weightsEach Try.prog (Try.f5.params.toList ++ Rows.sourceRightsSpec.plain.varTypes Try.prog) (ds ++ gs)).all (· ≤ reachBytes) = true := hsz0
 have hsz : (DataW.weightsEach Try.prog [36, 9] (ds ++ gs)).all (· ≤ reachBytes) = true := by
  have e : Try.f5.params.toList ++ Rows.sourceRightsSpec.plain.varTypes Try.prog = [36, 9] := by rw [Try.params5]; kernel_rfl
  rw [← e]; exact hsz1
 have hW' := hW
 obtain ⟨p, q, hA0, hV, rfl, hfz, hnd⟩ := hW
 have hA : DataW.TrodAll enc Try.prog W 0 (fun _ => true) true Try.f5.params.toList args.toList ds p := hA0
 rw [Try.params5] at hA hval
 obtain ⟨v0, vs0, d0, ds0, p0, q0, hargs, rfl, rfl, h0, r0⟩ := trodAll_cons hA
 obtain ⟨v1, vs1, d1, ds1, p1, q1, rfl, rfl, rfl, h1, r1⟩ := trodAll_cons r0
 obtain ⟨rfl, rfl, rfl⟩ := trodAll_nil r1
 obtain rfl : args = #[v0, v1] := by cases args; simp_all
 obtain ⟨rfl, rfl⟩ := trodVars_none hV
 rw [List.append_nil] at hsz
 have hk0 := h0
 have hlt0 : ∀ x ∈ p0, x.block < W.heap.size := DataW.TrodAll.lt (trodAll_mk1 h0)
 have hk1 := h1
 have hlt1 : ∀ x ∈ p1, x.block < W.heap.size := DataW.TrodAll.lt (trodAll_mk1 h1)
 obtain ⟨s1, e1, ed1, ep1, w1⟩ := Go.ChangeMaps.open_string Try.underlying9 (hval 1 9 v1 rfl rfl) h1
 have z1 : s1.size ≤ reachBytes := by
  have := sized_string hsz (j := 1) (t := 9) (bytes := s1.data.toList) rfl (by rw [← ed1]; rfl)
  simpa using this
 subst e1
 clear hA0 hval0 hsz0 hsz1
 refine (VH v0 (hval 0 36 v0 rfl rfl) h0 hsz s1 z1 W rfl).mono fun e W' ⟨he, bel⟩ => ?_
 subst he
 exact ⟨_, rfl, _, _, _, [], _, [], hW', trodAll_mk1 (shut_bool Try.underlying4 _), (trodAll_cons_mk (Below.trod laidOut (by kernel_rfl) (of_decide_eq_true (by kernel_rfl)) hk0 bel hlt0) (trodAll_cons_mk (Below.trod laidOut (by kernel_rfl) (of_decide_eq_true (by kernel_rfl)) hk1 bel hlt1) trodAll_mk0)), rfl, bel.frame _, fun h => by cases h⟩
theorem VI : Rows.sourceRightsRow.holds Try.pinned (OpenSpec.ofChange Rows.sourceRightsSpec) :=
 OpenClaim.holds_of_wide 5 Try.f5 rfl rfl rfl rfl rfl rfl rfl ⟨rfl, rfl, rfl, rfl, rfl⟩ rfl rfl rfl rfl rfl (by kernel_rfl) Try.func5 (by kernel_rfl)
  (of_decide_eq_true (by kernel_rfl)) (by unfold Func.isWrapper; first | (rw [if_pos (by decide +kernel)]; kernel_rfl) | (rw [if_neg (by decide +kernel)]; exact ⟨rfl, rfl⟩))
  (fun os started H enc _ => law_lifted os started H enc)
/-- THE STATEMENT -/
theorem sourceRights_proved : Rows.SourceRightsSaid := VI
#print axioms sourceRights_proved
end Go.Proofs.Ytdagokpedjfepaa
