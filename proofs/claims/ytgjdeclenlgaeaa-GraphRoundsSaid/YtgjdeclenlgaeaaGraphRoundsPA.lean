/- GraphRounds: a part: summaries of functions that the statement reaches, printed by program, checked by the kernel. -/
import Derived.ProofKit
import Derived.OpenShut
import Derived.KernelRfl
import Derived.SizedLaws
import Derived.Test.YtgjdeclenlgaeaaProg
import Derived.Test.YtgjdeclenlgaeaaSm3
namespace Go.Proofs.Ytgjdeclenlgaeaa
open Go.ChangeShapes Go.WideShapes Go.ChangeAt Go.RowKit Go.Sx
set_option linter.unusedVariables false
set_option linter.unusedSimpArgs false
set_option maxRecDepth 100000

abbrev tP := Nat → Nat × Nat
abbrev tF := List (Nat × AV)
abbrev tH := List (Nat × ABk)
theorem eGg {fr : Fr} : ∀ {F : tF}, F.map (fun p => fr.get p.1) = F.map (fun p => some p.2) → Ge fr F
 | [], _ => trivial
 | p :: l, h => by
  simp only [List.map_cons, List.cons.injEq] at h
  exact ⟨re h.1, eGg h.2⟩
theorem eHh {H : T ABk} : ∀ {F : tH}, F.map (fun p => H.get p.1) = F.map (fun p => some p.2) → GeH H F
 | [], _ => trivial
 | p :: l, h => by
  simp only [List.map_cons, List.cons.injEq] at h
  exact ⟨hs h.1, eHh h.2⟩
theorem eRr {K : Nat} {σ : Nat → Nat} {fr : Fr} : ∀ {F : tF}, F.map (fun p => (fr.get p.1, p.2.low K)) = F.map (fun p => (some (p.2.ren σ), true)) → RenF K σ fr F
 | [], _ => trivial
 | p :: l, h => by
  simp only [List.map_cons, List.cons.injEq, Prod.mk.injEq] at h
  exact ⟨⟨_, h.1.1, AV.ge.refl _, h.1.2⟩, eRr h.2⟩
abbrev pP (x : Ex) (F : tF) (Hl : tH) : Po := fun e fr' H' => e = x ∧ fr' = frL F ∧ H' = hpL Hl
theorem eN {K' : Nat} {e : Ex} {fl : tF} {bl : tH} {r : Res (Ex × Fr)} {q : Prop} (hq : q) (h : pieceN K' e fl bl r = (e = e ∧ selfW fl ∧ selfH bl ∧ true = true ∧ q) := by kernel_rfl) : PieceN K' e fl bl r := eqn h hq
theorem cI {P : Program} {c : Code} {n B K K' : Nat} {fr : Fr} {H : T ABk} {p : Bool} {X Y : Po} (h1 : p = true → GoesB P c n B K K' fr H X) (h2 : p = false → GoesB P c n B K K' fr H Y) : GoesB P c n B K K' fr H fun e fr' H' => cond p (X e fr' H') (Y e fr' H') := by
 cases p
 ·exact h2 rfl
 ·exact h1 rfl
theorem cD {P : Program} {c : Code} {n B K K' : Nat} {fr : Fr} {H : T ABk} {p : Prop} {i : Decidable p} {X Y : Po} (h1 : p → decide p = true → GoesB P c n B K K' fr H X) (h2 : ¬p → decide p = false → GoesB P c n B K K' fr H Y) : GoesB P c n B K K' fr H fun e fr' H' => cond (decide p) (X e fr' H') (Y e fr' H') :=
 cI (fun t => h1 (of_decide_eq_true t) t) (fun t => h2 (of_decide_eq_false t) t)
abbrev sL (g n : Nat) : AV := .slc true true ⟨false, g, 0, 0⟩ n
abbrev sF (g n : Nat) : AV := .slc false false ⟨false, g, 0, 0⟩ n
abbrev iT (x : Int) : AV := .int true .i64 x
abbrev cK (o : Bool) (n : Nat) (p q : Nat → Nat) : ABk := .cells o 1 n (.fn fun j => [.cpx true (p j) (q j)])
theorem dT {p : Prop} {i : Decidable p} : (decide p = true) = p := decide_eq_true_eq
theorem dF {p : Prop} {i : Decidable p} : decide p = false ↔ ¬p := decide_eq_false_iff_not
theorem nt {a : Bool} (h : a = true) : (!a) = false := by rw [h]; rfl
theorem nf {a : Bool} (h : a = false) : (!a) = true := by rw [h]; rfl
abbrev tT : Bool := true
abbrev fF : Bool := false
def er0 : AV → AV
 | .bool b => .sbool b
 | .int _ k n => .int true k n
 | .flt _ x => .flt true x
 | .raw _ x => .raw true x
 | .cpx _ x y => .cpx true x y
 | .str _ l => .str true l
 | v => v
def er1 : AV → AV
 | .agg l => .agg (l.map er0)
 | v => er0 v
def er2 : AV → AV
 | .tup l => .tup (l.map er1)
 | v => er1 v
theorem er0_rep {N : Nat} {μ : MM} {v : AV} {c : Value} (h : Rep N μ v c) : Rep N μ (er0 v) c := by
 cases v <;> first | exact h | (simp only [er0, Rep] at h ⊢; exact h)
theorem erL_rep {N : Nat} {μ : MM} {f : AV → AV} (hf : ∀ {v c}, Rep N μ v c → Rep N μ (f v) c) : ∀ {l : List AV} {cs : List Value}, Reps N μ l cs → Reps N μ (l.map f) cs
 | [], cs, h => by simpa only [List.map_nil, Reps] using h
 | v :: l, cs, h => by
  simp only [Reps] at h
  obtain ⟨c, r, rfl, h1, h2⟩ := h
  simp only [List.map_cons, Reps]
  exact ⟨c, r, rfl, hf h1, erL_rep hf h2⟩
theorem er1_rep {N : Nat} {μ : MM} {v : AV} {c : Value} (h : Rep N μ v c) : Rep N μ (er1 v) c := by
 cases v with
 | agg l =>
  simp only [er1, Rep] at h ⊢
  obtain ⟨cs, rfl, h1⟩ := h
  exact ⟨cs, rfl, erL_rep er0_rep h1⟩
 | _ => exact er0_rep h
theorem er2_rep {N : Nat} {μ : MM} {v : AV} {c : Value} (h : Rep N μ v c) : Rep N μ (er2 v) c := by
 cases v with
 | tup l =>
  simp only [er2, Rep] at h ⊢
  obtain ⟨cs, rfl, h1⟩ := h
  exact ⟨cs, rfl, erL_rep er1_rep h1⟩
 | _ => exact er1_rep h
def pureE (R : AV) : Res AV → Prop
 | .done v g => er2 v = R ∧ v.low 0 = true ∧ g.cs
 | _ => False
structure PureE (R : AV) (r : Res AV) : Prop where
 of : pureE R r
theorem lE {R : AV} {r : Res AV} {q : Prop} (e : pureE R r = (R = R ∧ true = true ∧ q)) (h : q) : PureE R r := ⟨by rw [e]; exact ⟨rfl, rfl, h⟩⟩
theorem lF {R : AV} {r : Res AV} {q : Prop} (h : q) (e : pureE R r = (R = R ∧ true = true ∧ q) := by kernel_rfl) : PureE R r := lE e h
theorem scE0 {call : Calls'} {f : FuncId} {args a' : List AV} {v R : AV} {g : G} (T : ∃ p, PureE R (call f a' (G.on p))) (ha : ∀ N μ l, Reps N μ args l → Reps 0 MM.none a' l) (hr : ∀ N μ c, Rep N μ R c → Rep N μ v c) : ∀ μ (cargs : Array Value), Reps g.nx μ args cargs.toList → ∃ args' path lv, Reps 0 MM.none args' cargs.toList ∧ PureP lv (call f args' (G.on path)) ∧ lv.low 0 = true ∧ ∀ c, (∀ N μ, Rep N μ lv c) → Rep g.nx μ v c := by
 intro μ cargs h
 obtain ⟨p, hp⟩ := T
 have k := hp.of
 unfold pureE at k
 split at k
 ·rename_i v' g' e
  obtain ⟨k1, k2, k3⟩ := k
  exact ⟨a', p, v', ha _ _ _ h, ⟨by rw [e]; exact ⟨rfl, k3⟩⟩, k2, fun c hc => hr _ _ _ (by rw [← k1]; exact er2_rep (hc g.nx μ))⟩
 ·exact k.elim
theorem scE {call : Calls'} (hc : CallOk Try.prog call) {f : FuncId} {args a' : List AV} {v R : AV} {g : G} (T : ∃ p, PureE R (call f a' (G.on p))) (ha : ∀ N μ l, Reps N μ args l → Reps 0 MM.none a' l) (hr : ∀ N μ c, Rep N μ R c → Rep N μ v c) : CallIs Try.prog f args v g g :=
 scal hc (scE0 T ha hr)
theorem scKE {call : Calls'} (hc : CallOk Try.prog call) {f : FuncId} {args a' : List AV} {v R : AV} {g g' : G} {p : Prop} (k : Keep g g' p) (T : p → ∃ p, PureE R (call f a' (G.on p))) (ha : ∀ N μ l, Reps N μ args l → Reps 0 MM.none a' l) (hr : ∀ N μ c, Rep N μ R c → Rep N μ v c) : CallIs Try.prog f args v g g' :=
 scalK hc k fun hp => scE0 (T hp) ha hr
theorem ai {p q : Prop} (h : p) (k : q) : p ∧ q := ⟨h, k⟩
theorem I1 {p0 : Prop} (h0 : p0) : True ∧ p0 := ⟨trivial, h0⟩
theorem I2 {p0 p1 : Prop} (h0 : p0) (h1 : p1) : (True ∧ p0) ∧ p1 := ⟨⟨trivial, h0⟩, h1⟩
theorem I3 {p0 p1 p2 : Prop} (h0 : p0) (h1 : p1) (h2 : p2) : ((True ∧ p0) ∧ p1) ∧ p2 := ⟨⟨⟨trivial, h0⟩, h1⟩, h2⟩
theorem I4 {p0 p1 p2 p3 : Prop} (h0 : p0) (h1 : p1) (h2 : p2) (h3 : p3) : (((True ∧ p0) ∧ p1) ∧ p2) ∧ p3 := ⟨⟨⟨⟨trivial, h0⟩, h1⟩, h2⟩, h3⟩
theorem I5 {p0 p1 p2 p3 p4 : Prop} (h0 : p0) (h1 : p1) (h2 : p2) (h3 : p3) (h4 : p4) : ((((True ∧ p0) ∧ p1) ∧ p2) ∧ p3) ∧ p4 := ⟨⟨⟨⟨⟨trivial, h0⟩, h1⟩, h2⟩, h3⟩, h4⟩
theorem I6 {p0 p1 p2 p3 p4 p5 : Prop} (h0 : p0) (h1 : p1) (h2 : p2) (h3 : p3) (h4 : p4) (h5 : p5) : (((((True ∧ p0) ∧ p1) ∧ p2) ∧ p3) ∧ p4) ∧ p5 := ⟨⟨⟨⟨⟨⟨trivial, h0⟩, h1⟩, h2⟩, h3⟩, h4⟩, h5⟩
theorem I7 {p0 p1 p2 p3 p4 p5 p6 : Prop} (h0 : p0) (h1 : p1) (h2 : p2) (h3 : p3) (h4 : p4) (h5 : p5) (h6 : p6) : ((((((True ∧ p0) ∧ p1) ∧ p2) ∧ p3) ∧ p4) ∧ p5) ∧ p6 := ⟨⟨⟨⟨⟨⟨⟨trivial, h0⟩, h1⟩, h2⟩, h3⟩, h4⟩, h5⟩, h6⟩
theorem I8 {p0 p1 p2 p3 p4 p5 p6 p7 : Prop} (h0 : p0) (h1 : p1) (h2 : p2) (h3 : p3) (h4 : p4) (h5 : p5) (h6 : p6) (h7 : p7) : (((((((True ∧ p0) ∧ p1) ∧ p2) ∧ p3) ∧ p4) ∧ p5) ∧ p6) ∧ p7 := ⟨⟨⟨⟨⟨⟨⟨⟨trivial, h0⟩, h1⟩, h2⟩, h3⟩, h4⟩, h5⟩, h6⟩, h7⟩
theorem I9 {p0 p1 p2 p3 p4 p5 p6 p7 p8 : Prop} (h0 : p0) (h1 : p1) (h2 : p2) (h3 : p3) (h4 : p4) (h5 : p5) (h6 : p6) (h7 : p7) (h8 : p8) : ((((((((True ∧ p0) ∧ p1) ∧ p2) ∧ p3) ∧ p4) ∧ p5) ∧ p6) ∧ p7) ∧ p8 := ⟨⟨⟨⟨⟨⟨⟨⟨⟨trivial, h0⟩, h1⟩, h2⟩, h3⟩, h4⟩, h5⟩, h6⟩, h7⟩, h8⟩
theorem I10 {p0 p1 p2 p3 p4 p5 p6 p7 p8 p9 : Prop} (h0 : p0) (h1 : p1) (h2 : p2) (h3 : p3) (h4 : p4) (h5 : p5) (h6 : p6) (h7 : p7) (h8 : p8) (h9 : p9) : (((((((((True ∧ p0) ∧ p1) ∧ p2) ∧ p3) ∧ p4) ∧ p5) ∧ p6) ∧ p7) ∧ p8) ∧ p9 := ⟨⟨⟨⟨⟨⟨⟨⟨⟨⟨trivial, h0⟩, h1⟩, h2⟩, h3⟩, h4⟩, h5⟩, h6⟩, h7⟩, h8⟩, h9⟩
theorem I12 {p0 p1 p2 p3 p4 p5 p6 p7 p8 p9 p10 p11 : Prop} (h0 : p0) (h1 : p1) (h2 : p2) (h3 : p3) (h4 : p4) (h5 : p5) (h6 : p6) (h7 : p7) (h8 : p8) (h9 : p9) (h10 : p10) (h11 : p11) : (((((((((((True ∧ p0) ∧ p1) ∧ p2) ∧ p3) ∧ p4) ∧ p5) ∧ p6) ∧ p7) ∧ p8) ∧ p9) ∧ p10) ∧ p11 := ⟨⟨⟨⟨⟨⟨⟨⟨⟨⟨⟨⟨trivial, h0⟩, h1⟩, h2⟩, h3⟩, h4⟩, h5⟩, h6⟩, h7⟩, h8⟩, h9⟩, h10⟩, h11⟩
theorem I13 {p0 p1 p2 p3 p4 p5 p6 p7 p8 p9 p10 p11 p12 : Prop} (h0 : p0) (h1 : p1) (h2 : p2) (h3 : p3) (h4 : p4) (h5 : p5) (h6 : p6) (h7 : p7) (h8 : p8) (h9 : p9) (h10 : p10) (h11 : p11) (h12 : p12) : ((((((((((((True ∧ p0) ∧ p1) ∧ p2) ∧ p3) ∧ p4) ∧ p5) ∧ p6) ∧ p7) ∧ p8) ∧ p9) ∧ p10) ∧ p11) ∧ p12 := ⟨⟨⟨⟨⟨⟨⟨⟨⟨⟨⟨⟨⟨trivial, h0⟩, h1⟩, h2⟩, h3⟩, h4⟩, h5⟩, h6⟩, h7⟩, h8⟩, h9⟩, h10⟩, h11⟩, h12⟩
theorem I14 {p0 p1 p2 p3 p4 p5 p6 p7 p8 p9 p10 p11 p12 p13 : Prop} (h0 : p0) (h1 : p1) (h2 : p2) (h3 : p3) (h4 : p4) (h5 : p5) (h6 : p6) (h7 : p7) (h8 : p8) (h9 : p9) (h10 : p10) (h11 : p11) (h12 : p12) (h13 : p13) : (((((((((((((True ∧ p0) ∧ p1) ∧ p2) ∧ p3) ∧ p4) ∧ p5) ∧ p6) ∧ p7) ∧ p8) ∧ p9) ∧ p10) ∧ p11) ∧ p12) ∧ p13 := ⟨⟨⟨⟨⟨⟨⟨⟨⟨⟨⟨⟨⟨⟨trivial, h0⟩, h1⟩, h2⟩, h3⟩, h4⟩, h5⟩, h6⟩, h7⟩, h8⟩, h9⟩, h10⟩, h11⟩, h12⟩, h13⟩
theorem I15 {p0 p1 p2 p3 p4 p5 p6 p7 p8 p9 p10 p11 p12 p13 p14 : Prop} (h0 : p0) (h1 : p1) (h2 : p2) (h3 : p3) (h4 : p4) (h5 : p5) (h6 : p6) (h7 : p7) (h8 : p8) (h9 : p9) (h10 : p10) (h11 : p11) (h12 : p12) (h13 : p13) (h14 : p14) : ((((((((((((((True ∧ p0) ∧ p1) ∧ p2) ∧ p3) ∧ p4) ∧ p5) ∧ p6) ∧ p7) ∧ p8) ∧ p9) ∧ p10) ∧ p11) ∧ p12) ∧ p13) ∧ p14 := ⟨⟨⟨⟨⟨⟨⟨⟨⟨⟨⟨⟨⟨⟨⟨trivial, h0⟩, h1⟩, h2⟩, h3⟩, h4⟩, h5⟩, h6⟩, h7⟩, h8⟩, h9⟩, h10⟩, h11⟩, h12⟩, h13⟩, h14⟩
noncomputable def gam0 : Known := kc 71 ofBits (kc 74 toBits (kn))
theorem gam0_ok : KnownOk Try.prog gam0 := kc_ok ((ofBits_is Try.prog).callIs Try.func71 (by kernel_rfl) (by kernel_rfl) (by kernel_rfl) (by kernel_rfl)) (kc_ok ((toBits_is Try.prog).callIs Try.func74 (by kernel_rfl) (by kernel_rfl) (by kernel_rfl) (by kernel_rfl)) (kn_ok))
theorem gam0_tch : KnownT gam0 := kc_tch Tch.ofBits (kc_tch Tch.toBits (kn_tch))
noncomputable def call0 : Calls' := Sx.runN Try.prog gam0 (regionC Try.prog) 1000 50
theorem call0_ok : CallOk Try.prog call0 := engineC gam0_ok gam0_tch (by kernel_rfl) (by kernel_rfl) 1000 50
theorem call0_tch : CallT call0 := runA_tch gam0_tch (fun _ _ _ h => by cases h) (fun call hc n l fr => regionC_tch hc n l fr) 50
theorem call0_reg (n : Nat) : RegionOk Try.prog (regionC Try.prog call0 n) n := runN_regionC gam0_ok gam0_tch (by kernel_rfl) (by kernel_rfl) 1000 50 n
noncomputable abbrev piececall0 (f : Func) (c : Code) (fr : Fr) (H : T ABk) (K : Nat) (path : List Bool) : Res (Ex × Fr) :=
 codeA Try.prog call0 (regionC Try.prog call0 f.ntmps) noLoops f.ntmps 1000 c fr ⟨H, K, [], path, True⟩
theorem rc0 {fn : Func} {K K' B : Nat} {e : Ex} {F : tF} {Hl : tH} {c : Code} {fr : Fr} {H : T ABk} {path : List Bool} (h : PieceN K' e F Hl (piececall0 fn c fr H K path)) (hB : B ≤ K) : GoesB Try.prog c fn.ntmps B K K' fr H fun e' fr' H' => e' = e ∧ fr' = frL F ∧ H' = hpL Hl := GoesB.runN call0_ok (call0_reg _) (LoopsIn.none _ _ _) h hB
theorem smA_r0 (l : List UInt8) : PieceN 0 (Ex.normal) [(0, .str true l)] [] (piececall0 Try.f72 (nav [0] (bodyOf Try.f72)) (frameOf [.str true l] 0 .e) (.e) 0 []) := eN trivial
theorem smA (B : Nat) (hB : B ≤ 0) (l : List UInt8) : GoesB Try.prog (nav [0] (bodyOf Try.f72)) Try.f72.ntmps B 0 0 (frameOf [.str true l] 0 .e) (.e) fun e fr' H' => (e = .normal ∧ fr' = frL [(0, .str true l)] ∧ H' = hpL []) := rc0 (smA_r0 l) hB
noncomputable abbrev ZA (w0) := (.ptr ⟨false, w0, 0, 0⟩ : AV)
theorem smR_r0 (l : List UInt8) : PieceN 1 (Ex.normal) [(6, ZA 0)] [(0, ABk.sit true l 0)] (piececall0 Try.f72 (nav [1,0,0] (bodyOf Try.f72)) (frL [(0, .str true l)]) (hpL []) 0 []) := eN trivial
theorem smR (B : Nat) (hB : B ≤ 0) (l : List UInt8) : GoesB Try.prog (nav [1,0,0] (bodyOf Try.f72)) Try.f72.ntmps B 0 1 (frL [(0, .str true l)]) (hpL []) fun e fr' H' => (e = .normal ∧ fr' = frL [(6, ZA 0)] ∧ H' = hpL [(0, ABk.sit true l 0)]) := rc0 (smR_r0 l) hB
noncomputable abbrev ZBB := nav [1,0,1,0,0] (bodyOf Try.f72)
noncomputable abbrev ZB3 (v0 : List UInt8) (v1 : Nat) := hpL [(0, .sit true v0 v1)]
noncomputable abbrev ZDy (w0 w1) := frL [(w0, ZA w1)]
theorem smB_r0 (l : List UInt8) (pos : Nat) (c0 : decide (pos < List.length l) = true) (c1 : decide ((↑(Prod.fst (Go.Utf8.decode (ByteArray.mk (List.toArray l)) pos)) : Int) < 97) = true) (c2 : decide ((↑(Prod.fst (Go.Utf8.decode (ByteArray.mk (List.toArray l)) pos)) : Int) < 48) = true) (c3 : (!decide ((↑(Prod.fst (Go.Utf8.decode (ByteArray.mk (List.toArray l)) pos)) : Int) = 95)) = false) : PieceN 1 (Ex.normal) [(6, ZA 0)] [(0, ABk.sit true l (pos + Prod.snd (Go.Utf8.decode (ByteArray.mk (List.toArray l)) pos)))] (piececall0 Try.f72 ZBB (ZDy 6 0) (ZB3 l pos) 1 [true, true, true, false]) := eN (I4 c0 c1 c2 c3)
noncomputable abbrev ZEL := ([(2, .bool false), (6, ZA 0)] : tF)
theorem smB_r1 (l : List UInt8) (pos : Nat) (c0 : decide (pos < List.length l) = true) (c1 : decide ((↑(Prod.fst (Go.Utf8.decode (ByteArray.mk (List.toArray l)) pos)) : Int) < 97) = true) (c2 : decide ((↑(Prod.fst (Go.Utf8.decode (ByteArray.mk (List.toArray l)) pos)) : Int) < 48) = true) (c3 : (!decide ((↑(Prod.fst (Go.Utf8.decode (ByteArray.mk (List.toArray l)) pos)) : Int) = 95)) = true) : PieceN 1 (Ex.ret) ZEL [(0, ABk.sit true l (pos + Prod.snd (Go.Utf8.decode (ByteArray.mk (List.toArray l)) pos)))] (piececall0 Try.f72 ZBB (ZDy 6 0) (ZB3 l pos) 1 [true, true, true, true]) := eN (I4 c0 c1 c2 c3)
theorem smB_r2 (l : List UInt8) (pos : Nat) (c0 : decide (pos < List.length l) = true) (c1 : decide ((↑(Prod.fst (Go.Utf8.decode (ByteArray.mk (List.toArray l)) pos)) : Int) < 97) = true) (c2 : decide ((↑(Prod.fst (Go.Utf8.decode (ByteArray.mk (List.toArray l)) pos)) : Int) < 48) = false) (c3 : decide (57 < (↑(Prod.fst (Go.Utf8.decode (ByteArray.mk (List.toArray l)) pos)) : Int)) = true) (c4 : (!decide ((↑(Prod.fst (Go.Utf8.decode (ByteArray.mk (List.toArray l)) pos)) : Int) = 95)) = false) : PieceN 1 (Ex.normal) [(6, ZA 0)] [(0, ABk.sit true l (pos + Prod.snd (Go.Utf8.decode (ByteArray.mk (List.toArray l)) pos)))] (piececall0 Try.f72 ZBB (ZDy 6 0) (ZB3 l pos) 1 [true, true, false, true, false]) := eN (I5 c0 c1 c2 c3 c4)
theorem smB_r3 (l : List UInt8) (pos : Nat) (c0 : decide (pos < List.length l) = true) (c1 : decide ((↑(Prod.fst (Go.Utf8.decode (ByteArray.mk (List.toArray l)) pos)) : Int) < 97) = true) (c2 : decide ((↑(Prod.fst (Go.Utf8.decode (ByteArray.mk (List.toArray l)) pos)) : Int) < 48) = false) (c3 : decide (57 < (↑(Prod.fst (Go.Utf8.decode (ByteArray.mk (List.toArray l)) pos)) : Int)) = true) (c4 : (!decide ((↑(Prod.fst (Go.Utf8.decode (ByteArray.mk (List.toArray l)) pos)) : Int) = 95)) = true) : PieceN 1 (Ex.ret) ZEL [(0, ABk.sit true l (pos + Prod.snd (Go.Utf8.decode (ByteArray.mk (List.toArray l)) pos)))] (piececall0 Try.f72 ZBB (ZDy 6 0) (ZB3 l pos) 1 [true, true, false, true, true]) := eN (I5 c0 c1 c2 c3 c4)
theorem smB_r4 (l : List UInt8) (pos : Nat) (c0 : decide (pos < List.length l) = true) (c1 : decide ((↑(Prod.fst (Go.Utf8.decode (ByteArray.mk (List.toArray l)) pos)) : Int) < 97) = true) (c2 : decide ((↑(Prod.fst (Go.Utf8.decode (ByteArray.mk (List.toArray l)) pos)) : Int) < 48) = false) (c3 : decide (57 < (↑(Prod.fst (Go.Utf8.decode (ByteArray.mk (List.toArray l)) pos)) : Int)) = false) : PieceN 1 (Ex.normal) [(6, ZA 0)] [(0, ABk.sit true l (pos + Prod.snd (Go.Utf8.decode (ByteArray.mk (List.toArray l)) pos)))] (piececall0 Try.f72 ZBB (ZDy 6 0) (ZB3 l pos) 1 [true, true, false, false]) := eN (I4 c0 c1 c2 c3)
theorem smB_r5 (l : List UInt8) (pos : Nat) (c0 : decide (pos < List.length l) = true) (c1 : decide ((↑(Prod.fst (Go.Utf8.decode (ByteArray.mk (List.toArray l)) pos)) : Int) < 97) = false) (c2 : decide (122 < (↑(Prod.fst (Go.Utf8.decode (ByteArray.mk (List.toArray l)) pos)) : Int)) = true) (c3 : decide ((↑(Prod.fst (Go.Utf8.decode (ByteArray.mk (List.toArray l)) pos)) : Int) < 48) = true) (c4 : (!decide ((↑(Prod.fst (Go.Utf8.decode (ByteArray.mk (List.toArray l)) pos)) : Int) = 95)) = false) : PieceN 1 (Ex.normal) [(6, ZA 0)] [(0, ABk.sit true l (pos + Prod.snd (Go.Utf8.decode (ByteArray.mk (List.toArray l)) pos)))] (piececall0 Try.f72 ZBB (ZDy 6 0) (ZB3 l pos) 1 [true, false, true, true, false]) := eN (I5 c0 c1 c2 c3 c4)
theorem smB_r6 (l : List UInt8) (pos : Nat) (c0 : decide (pos < List.length l) = true) (c1 : decide ((↑(Prod.fst (Go.Utf8.decode (ByteArray.mk (List.toArray l)) pos)) : Int) < 97) = false) (c2 : decide (122 < (↑(Prod.fst (Go.Utf8.decode (ByteArray.mk (List.toArray l)) pos)) : Int)) = true) (c3 : decide ((↑(Prod.fst (Go.Utf8.decode (ByteArray.mk (List.toArray l)) pos)) : Int) < 48) = true) (c4 : (!decide ((↑(Prod.fst (Go.Utf8.decode (ByteArray.mk (List.toArray l)) pos)) : Int) = 95)) = true) : PieceN 1 (Ex.ret) ZEL [(0, ABk.sit true l (pos + Prod.snd (Go.Utf8.decode (ByteArray.mk (List.toArray l)) pos)))] (piececall0 Try.f72 ZBB (ZDy 6 0) (ZB3 l pos) 1 [true, false, true, true, true]) := eN (I5 c0 c1 c2 c3 c4)
theorem smB_r7 (l : List UInt8) (pos : Nat) (c0 : decide (pos < List.length l) = true) (c1 : decide ((↑(Prod.fst (Go.Utf8.decode (ByteArray.mk (List.toArray l)) pos)) : Int) < 97) = false) (c2 : decide (122 < (↑(Prod.fst (Go.Utf8.decode (ByteArray.mk (List.toArray l)) pos)) : Int)) = true) (c3 : decide ((↑(Prod.fst (Go.Utf8.decode (ByteArray.mk (List.toArray l)) pos)) : Int) < 48) = false) (c4 : decide (57 < (↑(Prod.fst (Go.Utf8.decode (ByteArray.mk (List.toArray l)) pos)) : Int)) = true) (c5 : (!decide ((↑(Prod.fst (Go.Utf8.decode (ByteArray.mk (List.toArray l)) pos)) : Int) = 95)) = false) : PieceN 1 (Ex.normal) [(6, ZA 0)] [(0, ABk.sit true l (pos + Prod.snd (Go.Utf8.decode (ByteArray.mk (List.toArray l)) pos)))] (piececall0 Try.f72 ZBB (ZDy 6 0) (ZB3 l pos) 1 [true, false, true, false, true, false]) := eN (I6 c0 c1 c2 c3 c4 c5)
theorem smB_r8 (l : List UInt8) (pos : Nat) (c0 : decide (pos < List.length l) = true) (c1 : decide ((↑(Prod.fst (Go.Utf8.decode (ByteArray.mk (List.toArray l)) pos)) : Int) < 97) = false) (c2 : decide (122 < (↑(Prod.fst (Go.Utf8.decode (ByteArray.mk (List.toArray l)) pos)) : Int)) = true) (c3 : decide ((↑(Prod.fst (Go.Utf8.decode (ByteArray.mk (List.toArray l)) pos)) : Int) < 48) = false) (c4 : decide (57 < (↑(Prod.fst (Go.Utf8.decode (ByteArray.mk (List.toArray l)) pos)) : Int)) = true) (c5 : (!decide ((↑(Prod.fst (Go.Utf8.decode (ByteArray.mk (List.toArray l)) pos)) : Int) = 95)) = true) : PieceN 1 (Ex.ret) ZEL [(0, ABk.sit true l (pos + Prod.snd (Go.Utf8.decode (ByteArray.mk (List.toArray l)) pos)))] (piececall0 Try.f72 ZBB (ZDy 6 0) (ZB3 l pos) 1 [true, false, true, false, true, true]) := eN (I6 c0 c1 c2 c3 c4 c5)
theorem smB_r9 (l : List UInt8) (pos : Nat) (c0 : decide (pos < List.length l) = true) (c1 : decide ((↑(Prod.fst (Go.Utf8.decode (ByteArray.mk (List.toArray l)) pos)) : Int) < 97) = false) (c2 : decide (122 < (↑(Prod.fst (Go.Utf8.decode (ByteArray.mk (List.toArray l)) pos)) : Int)) = true) (c3 : decide ((↑(Prod.fst (Go.Utf8.decode (ByteArray.mk (List.toArray l)) pos)) : Int) < 48) = false) (c4 : decide (57 < (↑(Prod.fst (Go.Utf8.decode (ByteArray.mk (List.toArray l)) pos)) : Int)) = false) : PieceN 1 (Ex.normal) [(6, ZA 0)] [(0, ABk.sit true l (pos + Prod.snd (Go.Utf8.decode (ByteArray.mk (List.toArray l)) pos)))] (piececall0 Try.f72 ZBB (ZDy 6 0) (ZB3 l pos) 1 [true, false, true, false, false]) := eN (I5 c0 c1 c2 c3 c4)
theorem smB_r10 (l : List UInt8) (pos : Nat) (c0 : decide (pos < List.length l) = true) (c1 : decide ((↑(Prod.fst (Go.Utf8.decode (ByteArray.mk (List.toArray l)) pos)) : Int) < 97) = false) (c2 : decide (122 < (↑(Prod.fst (Go.Utf8.decode (ByteArray.mk (List.toArray l)) pos)) : Int)) = false) : PieceN 1 (Ex.normal) [(6, ZA 0)] [(0, ABk.sit true l (pos + Prod.snd (Go.Utf8.decode (ByteArray.mk (List.toArray l)) pos)))] (piececall0 Try.f72 ZBB (ZDy 6 0) (ZB3 l pos) 1 [true, false, false]) := eN (I3 c0 c1 c2)
theorem smB_r11 (l : List UInt8) (pos : Nat) (c0 : decide (pos < List.length l) = false) : PieceN 1 (Ex.exit 0) [(6, ZA 0)] [(0, ABk.sit true l pos)] (piececall0 Try.f72 ZBB (ZDy 6 0) (ZB3 l pos) 1 [false]) := eN (I1 c0)
theorem smB (B : Nat) (hB : B ≤ 1) (l : List UInt8) (pos : Nat) : GoesB Try.prog ZBB Try.f72.ntmps B 1 1 (ZDy 6 0) (ZB3 l pos) fun e fr' H' => (cond (decide (pos < List.length l)) (cond (decide ((↑(Prod.fst (Go.Utf8.decode (ByteArray.mk (List.toArray l)) pos)) : Int) < 97)) (cond (decide ((↑(Prod.fst (Go.Utf8.decode (ByteArray.mk (List.toArray l)) pos)) : Int) < 48)) (cond (decide ((↑(Prod.fst (Go.Utf8.decode (ByteArray.mk (List.toArray l)) pos)) : Int) = 95)) (pP .normal [(6, ZA 0)] [(0, ABk.sit true l (pos + Prod.snd (Go.Utf8.decode (ByteArray.mk (List.toArray l)) pos)))] e fr' H') (pP .ret ZEL [(0, ABk.sit true l (pos + Prod.snd (Go.Utf8.decode (ByteArray.mk (List.toArray l)) pos)))] e fr' H')) (cond (decide (57 < (↑(Prod.fst (Go.Utf8.decode (ByteArray.mk (List.toArray l)) pos)) : Int))) (cond (decide ((↑(Prod.fst (Go.Utf8.decode (ByteArray.mk (List.toArray l)) pos)) : Int) = 95)) (pP .normal [(6, ZA 0)] [(0, ABk.sit true l (pos + Prod.snd (Go.Utf8.decode (ByteArray.mk (List.toArray l)) pos)))] e fr' H') (pP .ret ZEL [(0, ABk.sit true l (pos + Prod.snd (Go.Utf8.decode (ByteArray.mk (List.toArray l)) pos)))] e fr' H')) (pP .normal [(6, ZA 0)] [(0, ABk.sit true l (pos + Prod.snd (Go.Utf8.decode (ByteArray.mk (List.toArray l)) pos)))] e fr' H'))) (cond (decide (122 < (↑(Prod.fst (Go.Utf8.decode (ByteArray.mk (List.toArray l)) pos)) : Int))) (cond (decide ((↑(Prod.fst (Go.Utf8.decode (ByteArray.mk (List.toArray l)) pos)) : Int) < 48)) (cond (decide ((↑(Prod.fst (Go.Utf8.decode (ByteArray.mk (List.toArray l)) pos)) : Int) = 95)) (pP .normal [(6, ZA 0)] [(0, ABk.sit true l (pos + Prod.snd (Go.Utf8.decode (ByteArray.mk (List.toArray l)) pos)))] e fr' H') (pP .ret ZEL [(0, ABk.sit true l (pos + Prod.snd (Go.Utf8.decode (ByteArray.mk (List.toArray l)) pos)))] e fr' H')) (cond (decide (57 < (↑(Prod.fst (Go.Utf8.decode (ByteArray.mk (List.toArray l)) pos)) : Int))) (cond (decide ((↑(Prod.fst (Go.Utf8.decode (ByteArray.mk (List.toArray l)) pos)) : Int) = 95)) (pP .normal [(6, ZA 0)] [(0, ABk.sit true l (pos + Prod.snd (Go.Utf8.decode (ByteArray.mk (List.toArray l)) pos)))] e fr' H') (pP .ret ZEL [(0, ABk.sit true l (pos + Prod.snd (Go.Utf8.decode (ByteArray.mk (List.toArray l)) pos)))] e fr' H')) (pP .normal [(6, ZA 0)] [(0, ABk.sit true l (pos + Prod.snd (Go.Utf8.decode (ByteArray.mk (List.toArray l)) pos)))] e fr' H'))) (pP .normal [(6, ZA 0)] [(0, ABk.sit true l (pos + Prod.snd (Go.Utf8.decode (ByteArray.mk (List.toArray l)) pos)))] e fr' H'))) (pP (.exit 0) [(6, ZA 0)] [(0, ABk.sit true l pos)] e fr' H')) := cD (fun q0 t0 => cD (fun q1 t1 => cD (fun q2 t2 => cD (fun q3 t3 => rc0 (smB_r0 l pos t0 t1 t2 (by rw [t3]; rfl)) hB) (fun q3 t3 => rc0 (smB_r1 l pos t0 t1 t2 (by rw [t3]; rfl)) hB)) (fun q2 t2 => cD (fun q3 t3 => cD (fun q4 t4 => rc0 (smB_r2 l pos t0 t1 t2 t3 (by rw [t4]; rfl)) hB) (fun q4 t4 => rc0 (smB_r3 l pos t0 t1 t2 t3 (by rw [t4]; rfl)) hB)) (fun q3 t3 => rc0 (smB_r4 l pos t0 t1 t2 t3) hB))) (fun q1 t1 => cD (fun q2 t2 => cD (fun q3 t3 => cD (fun q4 t4 => rc0 (smB_r5 l pos t0 t1 t2 t3 (by rw [t4]; rfl)) hB) (fun q4 t4 => rc0 (smB_r6 l pos t0 t1 t2 t3 (by rw [t4]; rfl)) hB)) (fun q3 t3 => cD (fun q4 t4 => cD (fun q5 t5 => rc0 (smB_r7 l pos t0 t1 t2 t3 t4 (by rw [t5]; rfl)) hB) (fun q5 t5 => rc0 (smB_r8 l pos t0 t1 t2 t3 t4 (by rw [t5]; rfl)) hB)) (fun q4 t4 => rc0 (smB_r9 l pos t0 t1 t2 t3 t4) hB))) (fun q2 t2 => rc0 (smB_r10 l pos t0 t1 t2) hB))) (fun q0 t0 => rc0 (smB_r11 l pos t0) hB)
theorem smZ_r0  : PieceN 1 (Ex.ret) [(2, .bool true)] [] (piececall0 Try.f72 (nav [1,1] (bodyOf Try.f72)) (frL []) (hpL []) 1 []) := eN trivial
theorem smZ (B : Nat) (hB : B ≤ 1)  : GoesB Try.prog (nav [1,1] (bodyOf Try.f72)) Try.f72.ntmps B 1 1 (frL []) (hpL []) fun e fr' H' => (e = .ret ∧ fr' = frL [(2, .bool true)] ∧ H' = hpL []) := rc0 (smZ_r0 ) hB
def okB (b : UInt8) : Bool := (decide (97 ≤ b.toNat) && decide (b.toNat ≤ 122)) || (decide (48 ≤ b.toNat) && decide (b.toNat ≤ 57)) || decide (b.toNat = 95)
theorem rune_at (l : List UInt8) (pos : Nat) (h : pos < l.length) : (l[pos].toNat < 128 ∧ Utf8.decode ⟨l.toArray⟩ pos = (l[pos].toNat, 1)) ∨ (128 ≤ l[pos].toNat ∧ 128 ≤ (Utf8.decode ⟨l.toArray⟩ pos).1) := by
 have hs : pos < (⟨l.toArray⟩ : ByteArray).size := by rw [ba_size]; exact h
 have e : (⟨l.toArray⟩ : ByteArray)[pos]'hs = l[pos] := rfl
 by_cases hb : l[pos].toNat < 128
 ·exact .inl ⟨hb, decode_ascii _ pos hs hb⟩
 ·exact .inr ⟨by omega, (decode_high _ pos hs (by rw [e]; omega)).1⟩
theorem take_all (l : List UInt8) (pos : Nat) (h : pos < l.length) (hp : (l.take pos).all okB = true) (hk : okB l[pos] = true) : (l.take (pos + 1)).all okB = true := by
 rw [List.take_succ_eq_append_getElem h, List.all_append, hp]; simp [hk]
theorem all_false (l : List UInt8) (pos : Nat) (h : pos < l.length) (hk : okB l[pos] = false) : l.all okB = false := by
 rw [List.all_eq_false]; exact ⟨l[pos], List.getElem_mem h, by simp [hk]⟩
theorem okB_iff (b : UInt8) : okB b = true ↔ ((97 ≤ b.toNat ∧ b.toNat ≤ 122) ∨ (48 ≤ b.toNat ∧ b.toNat ≤ 57) ∨ b.toNat = 95) := by
 unfold okB; simp only [Bool.or_eq_true, Bool.and_eq_true, decide_eq_true_eq]; omega
theorem okB_not (b : UInt8) : okB b = false ↔ ¬ ((97 ≤ b.toNat ∧ b.toNat ≤ 122) ∨ (48 ≤ b.toNat ∧ b.toNat ≤ 57) ∨ b.toNat = 95) := by
 rw [← okB_iff]; simp
def smI (l : List UInt8) (k : Nat) (fr : Fr) (H : T ABk) : Prop :=
 ∃ pos, k = l.length - pos ∧ (l.take pos).all okB = true ∧ fr = frL [(6, .ptr ⟨false, 0, 0, 0⟩)] ∧ H = hpL [(0, .sit true l pos)]
def smPost (l : List UInt8) : Po := fun e fr H => (e = .exit 0 ∧ l.all okB = true) ∨ (e = .ret ∧ l.all okB = false ∧ fr.get 2 = some (.bool false))
theorem sm_body (l : List UInt8) (k : Nat) (fr : Fr) (H : T ABk) (hI : smI l k fr H) : GoesB Try.prog ZBB Try.f72.ntmps 0 1 1 fr H fun e fr' H' => match e with
   | .normal => ∃ k', k' < k ∧ smI l k' fr' H'
   | e => smPost l e fr' H' := by
 obtain ⟨pos, rfl, hp, rfl, rfl⟩ := hI
 refine (smB 0 (by omega) l pos).mono fun e fr' H' h => ?_
 refine cond_elim h (fun t0 h => ?_) (fun t0 h => ?_)
 ·have hlt := of_decide_eq_true t0
  have ru := rune_at l pos hlt
  have hok := okB_iff l[pos]
  have hno := okB_not l[pos]
  have go : okB l[pos] = true → (Utf8.decode ⟨l.toArray⟩ pos).2 = 1 → ∃ k', k' < l.length - pos ∧ smI l k' (ZDy 6 0) (hpL [(0, .sit true l (pos + (Utf8.decode ⟨l.toArray⟩ pos).2))]) := fun hk hw => by
   rw [hw]
   exact ⟨l.length - (pos + 1), by omega, pos + 1, rfl, take_all l pos hlt hp hk, rfl, rfl⟩
  obtain ⟨r, hr⟩ : ∃ r : Nat × Nat, Utf8.decode ⟨l.toArray⟩ pos = r := ⟨_, rfl⟩
  rw [hr] at ru h go
  have ru' : (l[pos].toNat < 128 ∧ r.1 = l[pos].toNat ∧ r.2 = 1) ∨ (128 ≤ l[pos].toNat ∧ 128 ≤ r.1) := by
   rcases ru with ⟨h1, h2⟩ | h
   ·exact .inl ⟨h1, by rw [h2], by rw [h2]⟩
   ·exact .inr h
  repeat' (refine cond_elim h (fun t1 h => ?_) (fun t1 h => ?_) <;> first | replace t1 := of_decide_eq_true t1 | replace t1 := of_decide_eq_false t1)
  all_goals (obtain ⟨rfl, rfl, rfl⟩ := h)
  all_goals (first | (exact go (hok.2 (by omega)) (by omega)) | (exact .inr ⟨rfl, all_false l pos hlt (hno.2 (by omega)), rfl⟩))
 ·obtain ⟨rfl, rfl, rfl⟩ := h
  refine .inl ⟨rfl, ?_⟩
  rw [List.take_of_length_le (by have := of_decide_eq_false t0; omega)] at hp
  exact hp
theorem sm_is : bodyOf Try.f72 = .seq (nav [0] (bodyOf Try.f72)) (.seq (.seq (nav [1,0,0] (bodyOf Try.f72)) (.block 0 (.loop ZBB))) (nav [1,1] (bodyOf Try.f72))) := by kernel_rfl
theorem sm_goes (l : List UInt8) : GoesB Try.prog (bodyOf Try.f72) Try.f72.ntmps 0 0 1 (frameOf [.str true l] 0 .e) (hpL []) fun e fr' H' => (e = .ret ∨ e = .normal) ∧ fr'.get 2 = some (.bool (l.all okB)) := by
 rw [sm_is]
 refine GoesB.seq (K1 := 0) (by omega) ((smA 0 (by omega) l).mono fun e fr' H' ⟨e1, e2, e3⟩ => ?_)
 subst e1 e2 e3
 refine GoesB.seq (K1 := 1) (by omega) (GoesB.seq (K1 := 1) (by omega) ((smR 0 (by omega) l).mono fun e fr' H' ⟨e1, e2, e3⟩ => ?_))
 subst e1 e2 e3
 refine GoesB.block ((GoesB.loop (smI l) (Post := smPost l) (sm_body l) _ _ _ ⟨0, rfl, by simp, rfl, rfl⟩).mono fun e fr' H' hp => ?_)
 rcases hp with ⟨rfl, h1⟩ | ⟨rfl, h1, h2⟩
 ·simp only [if_true]
  refine GoesB.weakL (fl := []) (bl := []) trivial trivial ((smZ 0 (by omega)).mono fun e fr' H' ⟨e1, e2, e3⟩ => ?_)
  subst e1 e2 e3
  exact ⟨.inl rfl, by rw [h1]; rfl⟩
 ·exact ⟨.inl rfl, by rw [h1]; exact h2⟩
noncomputable def smallS : List AV → M AV
 | [.str s l] => M.ret (cmpB s (l.all okB))
 | args => call0 72 args
theorem smallS_ok : ∀ args v g g', smallS args g = .done v g' → CallIs Try.prog 72 args v g g' := by
 intro args v g g' h
 unfold smallS at h
 split at h
 ·rename_i s l
  obtain ⟨rfl, rfl⟩ := ret_done h
  refine reads (c := bodyOf Try.f72) Try.func72 (by kernel_rfl) (by kernel_rfl) (g1 := g) (p := True) (Keep.refl g) [] (fun _ v hv => by cases hv) (argsC := [.str true l]) (fun _ N μ cs h => by simpa only [Reps, Rep] using h) (nms := []) (bs := []) (K' := 1) (fun _ => (sm_goes l).mono fun e fr' H' ⟨h1, h2⟩ => ⟨h1, [.bool (l.all okB)], ⟨H', 1, [], [], True⟩, ?_, trivial, ?_, ⟨rfl, fun i b h => by simp at h, List.nodup_nil⟩⟩) (by cases s <;> rfl) (by cases s <;> trivial) rfl rfl id
  ·have e : Try.f72.results.toList = [.tmp 2] := by kernel_rfl
   rw [e]
   simp only [resultsA, resultA, h2, Option.getD_some]
   rfl
  ·cases s
   ·exact AV.ge.refl _
   ·exact AV.ge.bool _
 ·exact call0_ok _ _ _ _ _ h
theorem smallS_tch : ∀ args, Tch (smallS args) := by
 intro args
 unfold smallS
 split
 ·exact Tch.ret _
 ·exact call0_tch _ _
noncomputable abbrev ZCG (w0) := AV.int false .i64 w0
theorem kind_0 (n : Nat) (hE : decide (kE n = 0) = true) (hR : decide (kR n = 0) = true) : PureP (ZCG 0) (call0 61 [.raw true n] (G.on [true, true])) := by
 have e : pureP (ZCG 0) (call0 61 [.raw true n] (G.on [true, true])) = (AV.int false .i64 0 = AV.int false .i64 0 ∧ ((((True ∧ (0 : Int) ≤ 52) ∧ (0 : Int) ≤ 12) ∧ decide (kE n = 0) = true) ∧ decide (kR n = 0) = true)) := by kernel_rfl
 exact ⟨by rw [e]; exact ⟨rfl, ⟨⟨⟨⟨trivial, by decide⟩, by decide⟩, hE⟩, hR⟩⟩⟩
theorem kind_1 (n : Nat) (hE : decide (kE n = 0) = true) (hR : decide (kR n = 0) = false) : PureP (ZCG 1) (call0 61 [.raw true n] (G.on [true, false, true])) := by
 have e : pureP (ZCG 1) (call0 61 [.raw true n] (G.on [true, false, true])) = (AV.int false .i64 1 = AV.int false .i64 1 ∧ (((((True ∧ (0 : Int) ≤ 52) ∧ (0 : Int) ≤ 12) ∧ decide (kE n = 0) = true) ∧ decide (kR n = 0) = false) ∧ decide (kE n = 0) = true)) := by kernel_rfl
 exact ⟨by rw [e]; exact ⟨rfl, ⟨⟨⟨⟨⟨trivial, by decide⟩, by decide⟩, hE⟩, hR⟩, hE⟩⟩⟩
theorem kind_2 (n : Nat) (hE : decide (kE n = 0) = false) (hL : decide (kE n < 2047) = true) : PureP (ZCG 2) (call0 61 [.raw true n] (G.on [false, false, true])) := by
 have e : pureP (ZCG 2) (call0 61 [.raw true n] (G.on [false, false, true])) = (AV.int false .i64 2 = AV.int false .i64 2 ∧ (((((True ∧ (0 : Int) ≤ 52) ∧ (0 : Int) ≤ 12) ∧ decide (kE n = 0) = false) ∧ decide (kE n = 0) = false) ∧ decide (kE n < 2047) = true)) := by kernel_rfl
 exact ⟨by rw [e]; exact ⟨rfl, ⟨⟨⟨⟨⟨trivial, by decide⟩, by decide⟩, hE⟩, hE⟩, hL⟩⟩⟩
theorem kind_3 (n : Nat) (hE : decide (kE n = 0) = false) (hL : decide (kE n < 2047) = false) (hR : decide (kR n = 0) = true) : PureP (ZCG 3) (call0 61 [.raw true n] (G.on [false, false, false, true])) := by
 have e : pureP (ZCG 3) (call0 61 [.raw true n] (G.on [false, false, false, true])) = (AV.int false .i64 3 = AV.int false .i64 3 ∧ ((((((True ∧ (0 : Int) ≤ 52) ∧ (0 : Int) ≤ 12) ∧ decide (kE n = 0) = false) ∧ decide (kE n = 0) = false) ∧ decide (kE n < 2047) = false) ∧ decide (kR n = 0) = true)) := by kernel_rfl
 exact ⟨by rw [e]; exact ⟨rfl, ⟨⟨⟨⟨⟨⟨trivial, by decide⟩, by decide⟩, hE⟩, hE⟩, hL⟩, hR⟩⟩⟩
theorem kind_4 (n : Nat) (hE : decide (kE n = 0) = false) (hL : decide (kE n < 2047) = false) (hR : decide (kR n = 0) = false) : PureP (ZCG 4) (call0 61 [.raw true n] (G.on [false, false, false, false])) := by
 have e : pureP (ZCG 4) (call0 61 [.raw true n] (G.on [false, false, false, false])) = (AV.int false .i64 4 = AV.int false .i64 4 ∧ ((((((True ∧ (0 : Int) ≤ 52) ∧ (0 : Int) ≤ 12) ∧ decide (kE n = 0) = false) ∧ decide (kE n = 0) = false) ∧ decide (kE n < 2047) = false) ∧ decide (kR n = 0) = false)) := by kernel_rfl
 exact ⟨by rw [e]; exact ⟨rfl, ⟨⟨⟨⟨⟨⟨trivial, by decide⟩, by decide⟩, hE⟩, hE⟩, hL⟩, hR⟩⟩⟩
noncomputable def kindS : List AV → M AV
 | [.flt s n] => M.ret (.int s .i64 (kindDef n))
 | [.raw s n] => M.ret (.int s .i64 (kindDef n))
 | _ => M.no
theorem kind_road (n : Nat) : ∃ path lv, PureP lv (call0 61 [.raw true n] (G.on path)) ∧ lv = AV.int false .i64 (kindDef n) := by
 cases hE : decide (kE n = 0) with
 | true =>
  cases hR : decide (kR n = 0) with
  | true => exact ⟨_, _, kind_0 n hE hR, by simp only [kindDef, hE, hR, cond_true]⟩
  | false => exact ⟨_, _, kind_1 n hE hR, by simp only [kindDef, hE, hR, cond_true, cond_false]⟩
 | false =>
  cases hL : decide (kE n < 2047) with
  | true => exact ⟨_, _, kind_2 n hE hL, by simp only [kindDef, hE, hL, cond_true, cond_false]⟩
  | false =>
   cases hR : decide (kR n = 0) with
   | true => exact ⟨_, _, kind_3 n hE hL hR, by simp only [kindDef, hE, hL, hR, cond_true, cond_false]⟩
   | false => exact ⟨_, _, kind_4 n hE hL hR, by simp only [kindDef, hE, hL, hR, cond_true, cond_false]⟩
theorem kindS_ok : ∀ args v g g', kindS args g = .done v g' → CallIs Try.prog 61 args v g g' := by
 intro args v g g' h
 unfold kindS at h
 split at h
 ·rename_i s n
  obtain ⟨rfl, rfl⟩ := ret_done h
  refine scal call0_ok fun μ cargs ha => ?_
  obtain ⟨c, rfl, hx⟩ := ha.one
  simp only [Rep] at hx
  obtain ⟨b, rfl, hb⟩ := hx
  obtain ⟨path, lv, h1, rfl⟩ := kind_road b
  refine ⟨[.raw true b], path, _, ?_, h1, rfl, fun c hc => ?_⟩
  ·simp only [Reps, Rep]; exact ⟨_, _, rfl, ⟨rfl, hb.2⟩, rfl⟩
  ·have := hc 0 MM.none
   simp only [Rep] at this ⊢
   rw [this, ← hb.1, kind_cn hb.2]
 ·rename_i s n
  obtain ⟨rfl, rfl⟩ := ret_done h
  refine scal call0_ok fun μ cargs ha => ?_
  obtain ⟨c, rfl, hx⟩ := ha.one
  simp only [Rep] at hx
  obtain ⟨rfl, hb⟩ := hx
  obtain ⟨path, lv, h1, rfl⟩ := kind_road n
  refine ⟨[.raw true n], path, _, ?_, h1, rfl, fun c hc => ?_⟩
  ·simp only [Reps, Rep]; exact ⟨_, _, rfl, ⟨rfl, hb⟩, rfl⟩
  ·have := hc 0 MM.none
   simpa only [Rep] using this
 ·exact (no_done h).elim
theorem kindS_tch : ∀ args, Tch (kindS args) := by
 intro args
 unfold kindS
 split
 ·exact Tch.ret _
 ·exact Tch.ret _
 ·exact Tch.no
noncomputable def gam1 : Known := kc 71 ofBits (kc 74 toBits (kc 72 smallS (kc 61 kindS (kn))))
theorem gam1_ok : KnownOk Try.prog gam1 := kc_ok ((ofBits_is Try.prog).callIs Try.func71 (by kernel_rfl) (by kernel_rfl) (by kernel_rfl) (by kernel_rfl)) (kc_ok ((toBits_is Try.prog).callIs Try.func74 (by kernel_rfl) (by kernel_rfl) (by kernel_rfl) (by kernel_rfl)) (kc_ok smallS_ok (kc_ok kindS_ok (kn_ok))))
theorem gam1_tch : KnownT gam1 := kc_tch Tch.ofBits (kc_tch Tch.toBits (kc_tch smallS_tch (kc_tch kindS_tch (kn_tch))))
noncomputable def call1 : Calls' := Sx.runN Try.prog gam1 (regionC Try.prog) 1000 50
theorem call1_ok : CallOk Try.prog call1 := engineC gam1_ok gam1_tch (by kernel_rfl) (by kernel_rfl) 1000 50
theorem call1_tch : CallT call1 := runA_tch gam1_tch (fun _ _ _ h => by cases h) (fun call hc n l fr => regionC_tch hc n l fr) 50
noncomputable def rowOf_0 (k : Int) : Int := (bif decide (k = (1 : Int)) then ((82 : Int)) else (bif decide (k = (2 : Int)) then ((76 : Int)) else (bif decide (k = (3 : Int)) then ((67 : Int)) else (bif decide (k = (4 : Int)) then ((73 : Int)) else (bif decide (k = (5 : Int)) then ((86 : Int)) else (bif decide (k = (6 : Int)) then ((71 : Int)) else (bif decide (k = (7 : Int)) then ((69 : Int)) else (bif decide (k = (8 : Int)) then ((80 : Int)) else ((0 : Int))))))))))
noncomputable def rowOf_1 (k : Int) : List UInt8 := (bif decide (k = (1 : Int)) then ([(111 : UInt8), (104 : UInt8), (109 : UInt8)]) else (bif decide (k = (2 : Int)) then ([(104 : UInt8), (101 : UInt8), (110 : UInt8), (114 : UInt8), (121 : UInt8)]) else (bif decide (k = (3 : Int)) then ([(102 : UInt8), (97 : UInt8), (114 : UInt8), (97 : UInt8), (100 : UInt8)]) else (bif decide (k = (4 : Int)) then ([(97 : UInt8), (109 : UInt8), (112 : UInt8), (101 : UInt8), (114 : UInt8), (101 : UInt8)]) else (bif decide (k = (5 : Int)) then ([(118 : UInt8), (111 : UInt8), (108 : UInt8), (116 : UInt8)]) else (bif decide (k = (6 : Int)) then ([(115 : UInt8), (105 : UInt8), (101 : UInt8), (109 : UInt8), (101 : UInt8), (110 : UInt8), (115 : UInt8)]) else (bif decide (k = (7 : Int)) then ([]) else (bif decide (k = (8 : Int)) then ([(111 : UInt8), (104 : UInt8), (109 : UInt8)]) else ([])))))))))
noncomputable def rowOf_2 (k : Int) : Bool := (bif decide (k = (1 : Int)) then (true) else (bif decide (k = (2 : Int)) then (true) else (bif decide (k = (3 : Int)) then (true) else (bif decide (k = (4 : Int)) then (false) else (bif decide (k = (5 : Int)) then (false) else (bif decide (k = (6 : Int)) then (false) else (bif decide (k = (7 : Int)) then (false) else (bif decide (k = (8 : Int)) then (true) else (false)))))))))
noncomputable def rowOf_3 (k : Int) : Bool := (bif decide (k = (1 : Int)) then (false) else (bif decide (k = (2 : Int)) then (false) else (bif decide (k = (3 : Int)) then (false) else (bif decide (k = (4 : Int)) then (false) else (bif decide (k = (5 : Int)) then (false) else (bif decide (k = (6 : Int)) then (true) else (bif decide (k = (7 : Int)) then (true) else (bif decide (k = (8 : Int)) then (false) else (false)))))))))
noncomputable def rowOf_4 (k : Int) : Bool := (bif decide (k = (1 : Int)) then (false) else (bif decide (k = (2 : Int)) then (false) else (bif decide (k = (3 : Int)) then (false) else (bif decide (k = (4 : Int)) then (true) else (bif decide (k = (5 : Int)) then (true) else (bif decide (k = (6 : Int)) then (false) else (bif decide (k = (7 : Int)) then (false) else (bif decide (k = (8 : Int)) then (false) else (false)))))))))
noncomputable def rowOf_5 (k : Int) : Bool := (bif decide (k = (1 : Int)) then (true) else (bif decide (k = (2 : Int)) then (true) else (bif decide (k = (3 : Int)) then (true) else (bif decide (k = (4 : Int)) then (true) else (bif decide (k = (5 : Int)) then (true) else (bif decide (k = (6 : Int)) then (true) else (bif decide (k = (7 : Int)) then (true) else (bif decide (k = (8 : Int)) then (true) else (false)))))))))
noncomputable def rowOfS : List AV → M AV
 | [.int s0 .u8 k] => M.ret (AV.tup [AV.agg [AV.int s0 (IntKind.u8) (rowOf_0 k), AV.str s0 (rowOf_1 k), cmpB s0 (rowOf_2 k), cmpB s0 (rowOf_3 k), cmpB s0 (rowOf_4 k)], cmpB s0 (rowOf_5 k)])
 | args => call1 58 args
theorem rowOfS_ok : ∀ args v g g', rowOfS args g = .done v g' → CallIs Try.prog 58 args v g g' := by
  intro args v g g' h
  unfold rowOfS at h
  split at h
  · rename_i s0 k
    obtain ⟨rfl, rfl⟩ := ret_done h
    refine scE call1_ok (a' := [.int true .u8 k]) (R := AV.tup [AV.agg [AV.int true (IntKind.u8) (rowOf_0 k), AV.str true (rowOf_1 k), cmpB true (rowOf_2 k), cmpB true (rowOf_3 k), cmpB true (rowOf_4 k)], cmpB true (rowOf_5 k)]) ?_ (fun N μ l ha => by simpa only [Reps, Rep] using ha) (fun N μ c hc => by simpa only [Rep, Reps, Rep_cmpB] using hc)
    unfold rowOf_0 rowOf_1 rowOf_2 rowOf_3 rowOf_4 rowOf_5
    cases t0 : decide (k = (1 : Int))
    ·cases t1 : decide (k = (2 : Int))
     ·cases t2 : decide (k = (3 : Int))
      ·cases t3 : decide (k = (4 : Int))
       ·cases t4 : decide (k = (5 : Int))
        ·cases t5 : decide (k = (6 : Int))
         ·cases t6 : decide (k = (7 : Int))
          ·cases t7 : decide (k = (8 : Int))
           ·exact ⟨[fF, fF, fF, fF, fF, fF, fF, fF], lF (I8 t0 t1 t2 t3 t4 t5 t6 t7)⟩
           ·exact ⟨[fF, fF, fF, fF, fF, fF, fF, tT], lF (I8 t0 t1 t2 t3 t4 t5 t6 t7)⟩
          ·exact ⟨[fF, fF, fF, fF, fF, fF, tT], lF (I7 t0 t1 t2 t3 t4 t5 t6)⟩
         ·exact ⟨[fF, fF, fF, fF, fF, tT], lF (I6 t0 t1 t2 t3 t4 t5)⟩
        ·exact ⟨[fF, fF, fF, fF, tT], lF (I5 t0 t1 t2 t3 t4)⟩
       ·exact ⟨[fF, fF, fF, tT], lF (I4 t0 t1 t2 t3)⟩
      ·exact ⟨[fF, fF, tT], lF (I3 t0 t1 t2)⟩
     ·exact ⟨[fF, tT], lF (I2 t0 t1)⟩
    ·exact ⟨[tT], lF (I1 t0)⟩
  · exact call1_ok _ _ _ _ _ h
theorem rowOfS_tch : ∀ args, Tch (rowOfS args) := by
 intro args
 unfold rowOfS
 split
 ·exact Tch.ret _
 ·exact call1_tch _ _
noncomputable def of_0 (k : Int) : Int := (bif decide ((82 : Int) = k) then ((1 : Int)) else (bif decide ((76 : Int) = k) then ((2 : Int)) else (bif decide ((67 : Int) = k) then ((3 : Int)) else (bif decide ((73 : Int) = k) then ((4 : Int)) else (bif decide ((86 : Int) = k) then ((5 : Int)) else (bif decide ((71 : Int) = k) then ((6 : Int)) else (bif decide ((69 : Int) = k) then ((7 : Int)) else (bif decide ((80 : Int) = k) then ((8 : Int)) else ((0 : Int))))))))))
noncomputable def of_1 (k : Int) : Bool := (bif decide ((82 : Int) = k) then (true) else (bif decide ((76 : Int) = k) then (true) else (bif decide ((67 : Int) = k) then (true) else (bif decide ((73 : Int) = k) then (true) else (bif decide ((86 : Int) = k) then (true) else (bif decide ((71 : Int) = k) then (true) else (bif decide ((69 : Int) = k) then (true) else (bif decide ((80 : Int) = k) then (true) else (false)))))))))
noncomputable def ofS : List AV → M AV
 | [.int s0 .u8 k] => M.ret (AV.tup [AV.int s0 (IntKind.u8) (of_0 k), cmpB s0 (of_1 k)])
 | args => call1 73 args
theorem ofS_ok : ∀ args v g g', ofS args g = .done v g' → CallIs Try.prog 73 args v g g' := by
  intro args v g g' h
  unfold ofS at h
  split at h
  · rename_i s0 k
    obtain ⟨rfl, rfl⟩ := ret_done h
    refine scE call1_ok (a' := [.int true .u8 k]) (R := AV.tup [AV.int true (IntKind.u8) (of_0 k), cmpB true (of_1 k)]) ?_ (fun N μ l ha => by simpa only [Reps, Rep] using ha) (fun N μ c hc => by simpa only [Rep, Reps, Rep_cmpB] using hc)
    unfold of_0 of_1
    cases t0 : decide ((82 : Int) = k)
    ·cases t1 : decide ((76 : Int) = k)
     ·cases t2 : decide ((67 : Int) = k)
      ·cases t3 : decide ((73 : Int) = k)
       ·cases t4 : decide ((86 : Int) = k)
        ·cases t5 : decide ((71 : Int) = k)
         ·cases t6 : decide ((69 : Int) = k)
          ·cases t7 : decide ((80 : Int) = k)
           ·exact ⟨[fF, fF, fF, fF, fF, fF, fF, fF], lF (I8 t0 t1 t2 t3 t4 t5 t6 t7)⟩
           ·exact ⟨[fF, fF, fF, fF, fF, fF, fF, tT], lF (I8 t0 t1 t2 t3 t4 t5 t6 t7)⟩
          ·exact ⟨[fF, fF, fF, fF, fF, fF, tT], lF (I7 t0 t1 t2 t3 t4 t5 t6)⟩
         ·exact ⟨[fF, fF, fF, fF, fF, tT], lF (I6 t0 t1 t2 t3 t4 t5)⟩
        ·exact ⟨[fF, fF, fF, fF, tT], lF (I5 t0 t1 t2 t3 t4)⟩
       ·exact ⟨[fF, fF, fF, tT], lF (I4 t0 t1 t2 t3)⟩
      ·exact ⟨[fF, fF, tT], lF (I3 t0 t1 t2)⟩
     ·exact ⟨[fF, tT], lF (I2 t0 t1)⟩
    ·exact ⟨[tT], lF (I1 t0)⟩
  · exact call1_ok _ _ _ _ _ h
theorem ofS_tch : ∀ args, Tch (ofS args) := by
 intro args
 unfold ofS
 split
 ·exact Tch.ret _
 ·exact call1_tch _ _
noncomputable def gam2 : Known := kc 71 ofBits (kc 74 toBits (kc 72 smallS (kc 61 kindS (kc 58 rowOfS (kc 73 ofS (kn))))))
theorem gam2_ok : KnownOk Try.prog gam2 := kc_ok ((ofBits_is Try.prog).callIs Try.func71 (by kernel_rfl) (by kernel_rfl) (by kernel_rfl) (by kernel_rfl)) (kc_ok ((toBits_is Try.prog).callIs Try.func74 (by kernel_rfl) (by kernel_rfl) (by kernel_rfl) (by kernel_rfl)) (kc_ok smallS_ok (kc_ok kindS_ok (kc_ok rowOfS_ok (kc_ok ofS_ok (kn_ok))))))
theorem gam2_tch : KnownT gam2 := kc_tch Tch.ofBits (kc_tch Tch.toBits (kc_tch smallS_tch (kc_tch kindS_tch (kc_tch rowOfS_tch (kc_tch ofS_tch (kn_tch))))))
noncomputable def call2 : Calls' := Sx.runN Try.prog gam2 (regionC Try.prog) 1000 50
theorem call2_ok : CallOk Try.prog call2 := engineC gam2_ok gam2_tch (by kernel_rfl) (by kernel_rfl) 1000 50
theorem call2_tch : CallT call2 := runA_tch gam2_tch (fun _ _ _ h => by cases h) (fun call hc n l fr => regionC_tch hc n l fr) 50
noncomputable def name_0 (l : List UInt8) : Int := (bif decide ((↑(List.length l) : Int) < 2) then ((0 : Int)) else (bif decide (16 < (↑(List.length l) : Int)) then ((0 : Int)) else (bif List.all (List.take (List.length l - 1) (List.drop 1 l)) okB then (of_0 (↑(UInt8.toNat (List.getD l 0 (0 : UInt8))) : Int)) else ((0 : Int)))))
noncomputable def name_1 (l : List UInt8) : Bool := (bif decide ((↑(List.length l) : Int) < 2) then (false) else (bif decide (16 < (↑(List.length l) : Int)) then (false) else (bif List.all (List.take (List.length l - 1) (List.drop 1 l)) okB then (of_1 (↑(UInt8.toNat (List.getD l 0 (0 : UInt8))) : Int)) else (false))))
noncomputable def nameS : List AV → M AV
 | [.str s0 l] => M.ret (AV.tup [AV.int s0 (IntKind.u8) (name_0 l), cmpB s0 (name_1 l)])
 | args => call2 59 args
theorem nameS_ok : ∀ args v g g', nameS args g = .done v g' → CallIs Try.prog 59 args v g g' := by
  intro args v g g' h
  unfold nameS at h
  split at h
  · rename_i s0 l
    obtain ⟨rfl, rfl⟩ := ret_done h
    refine scE call2_ok (a' := [.str true l]) (R := AV.tup [AV.int true (IntKind.u8) (name_0 l), cmpB true (name_1 l)]) ?_ (fun N μ l ha => by simpa only [Reps, Rep] using ha) (fun N μ c hc => by simpa only [Rep, Reps, Rep_cmpB] using hc)
    unfold name_0 name_1
    cases t0 : decide ((↑(List.length l) : Int) < 2)
    ·cases t1 : decide (16 < (↑(List.length l) : Int))
     ·cases t2 : List.all (List.take (List.length l - 1) (List.drop 1 l)) okB
      ·exact ⟨[fF, fF, tT], lF (I4 t0 t1 (ai (show (0 : Int) ≤ 1 by decide) (ai (show 1 ≤ (↑(List.length l) : Int) by simp only [dT, dF, List.length_take, List.length_drop] at *; omega) (show (↑(List.length l) : Int) ≤ (↑(List.length l) : Int) by simp only [dT, dF, List.length_take, List.length_drop] at *; omega))) (nf t2))⟩
      ·exact ⟨[fF, fF, fF], lF (I5 t0 t1 (ai (show (0 : Int) ≤ 1 by decide) (ai (show 1 ≤ (↑(List.length l) : Int) by simp only [dT, dF, List.length_take, List.length_drop] at *; omega) (show (↑(List.length l) : Int) ≤ (↑(List.length l) : Int) by simp only [dT, dF, List.length_take, List.length_drop] at *; omega))) (nt t2) (ai (show (0 : Int) ≤ 0 by decide) (show 0 < (↑(List.length l) : Int) by simp only [dT, dF, List.length_take, List.length_drop] at *; omega)))⟩
     ·exact ⟨[fF, tT], lF (I2 t0 t1)⟩
    ·exact ⟨[tT], lF (I1 t0)⟩
  · exact call2_ok _ _ _ _ _ h
theorem nameS_tch : ∀ args, Tch (nameS args) := by
 intro args
 unfold nameS
 split
 ·exact Tch.ret _
 ·exact call2_tch _ _
noncomputable def node_0 (l : List UInt8) : Bool := (bif decide (0 < (↑(List.length l) : Int)) then (bif decide ((↑(List.length l) : Int) ≤ 16) then (List.all l okB) else (false)) else (false))
noncomputable def nodeS : List AV → M AV
 | [.str s0 l] => M.ret (cmpB s0 (node_0 l))
 | args => call2 60 args
theorem nodeS_ok : ∀ args v g g', nodeS args g = .done v g' → CallIs Try.prog 60 args v g g' := by
  intro args v g g' h
  unfold nodeS at h
  split at h
  · rename_i s0 l
    obtain ⟨rfl, rfl⟩ := ret_done h
    refine scE call2_ok (a' := [.str true l]) (R := cmpB true (node_0 l)) ?_ (fun N μ l ha => by simpa only [Reps, Rep] using ha) (fun N μ c hc => by simpa only [Rep, Reps, Rep_cmpB] using hc)
    unfold node_0
    cases t0 : decide (0 < (↑(List.length l) : Int))
    ·exact ⟨[fF], lF (I1 t0)⟩
    ·cases t1 : decide ((↑(List.length l) : Int) ≤ 16)
     ·exact ⟨[tT, fF], lF (I2 t0 t1)⟩
     ·exact ⟨[tT, tT], lF (I2 t0 t1)⟩
  · exact call2_ok _ _ _ _ _ h
theorem nodeS_tch : ∀ args, Tch (nodeS args) := by
 intro args
 unfold nodeS
 split
 ·exact Tch.ret _
 ·exact call2_tch _ _
noncomputable def gam3 : Known := kc 71 ofBits (kc 74 toBits (kc 72 smallS (kc 61 kindS (kc 58 rowOfS (kc 73 ofS (kc 59 nameS (kc 60 nodeS (kn))))))))
theorem gam3_ok : KnownOk Try.prog gam3 := kc_ok ((ofBits_is Try.prog).callIs Try.func71 (by kernel_rfl) (by kernel_rfl) (by kernel_rfl) (by kernel_rfl)) (kc_ok ((toBits_is Try.prog).callIs Try.func74 (by kernel_rfl) (by kernel_rfl) (by kernel_rfl) (by kernel_rfl)) (kc_ok smallS_ok (kc_ok kindS_ok (kc_ok rowOfS_ok (kc_ok ofS_ok (kc_ok nameS_ok (kc_ok nodeS_ok (kn_ok))))))))
theorem gam3_tch : KnownT gam3 := kc_tch Tch.ofBits (kc_tch Tch.toBits (kc_tch smallS_tch (kc_tch kindS_tch (kc_tch rowOfS_tch (kc_tch ofS_tch (kc_tch nameS_tch (kc_tch nodeS_tch (kn_tch))))))))
noncomputable def call3 : Calls' := Sx.runN Try.prog gam3 (regionC Try.prog) 1000 50
theorem call3_ok : CallOk Try.prog call3 := engineC gam3_ok gam3_tch (by kernel_rfl) (by kernel_rfl) 1000 50
theorem call3_tch : CallT call3 := runA_tch gam3_tch (fun _ _ _ h => by cases h) (fun call hc n l fr => regionC_tch hc n l fr) 50
noncomputable def chk_0 (k : Int) (n a b c d : List UInt8) (v : Nat) (ph : Int) : Int := (bif rowOf_5 k then (bif name_1 n then (bif decide (name_0 n = k) then (bif node_0 a then (bif node_0 b then (bif rowOf_3 k then (bif node_0 c then (bif node_0 d then (bif a == b then ((2 : Int)) else (bif rowOf_4 k then (bif decide ((2 : Int) < kindDef v) then ((5 : Int)) else (bif rowOf_2 k then (bif fle (cn v) 0 then ((2 : Int)) else ((0 : Int))) else ((0 : Int)))) else (bif decide (ph = (0 : Int)) then (bif decide ((2 : Int) < kindDef v) then ((5 : Int)) else (bif rowOf_2 k then (bif fle (cn v) 0 then ((2 : Int)) else ((0 : Int))) else ((0 : Int)))) else ((2 : Int))))) else ((8 : Int))) else ((8 : Int))) else (bif a == b then ((2 : Int)) else (bif c == [] then (bif d == [] then (bif rowOf_4 k then (bif decide ((2 : Int) < kindDef v) then ((5 : Int)) else (bif rowOf_2 k then (bif fle (cn v) 0 then ((2 : Int)) else ((0 : Int))) else ((0 : Int)))) else (bif decide (ph = (0 : Int)) then (bif decide ((2 : Int) < kindDef v) then ((5 : Int)) else (bif rowOf_2 k then (bif fle (cn v) 0 then ((2 : Int)) else ((0 : Int))) else ((0 : Int)))) else ((2 : Int)))) else ((2 : Int))) else ((2 : Int))))) else ((8 : Int))) else ((8 : Int))) else ((8 : Int))) else ((8 : Int))) else ((2 : Int)))
noncomputable def chkS : List AV → M AV
 | [.agg [.int s0 .u8 k, .str s1 n, .str s2 a, .str s3 b, .str s4 c, .str s5 d, .raw s6 v, .int s7 .i64 ph]] => M.ret (AV.int (Bool.or s0 (Bool.or s1 (Bool.or s2 (Bool.or s3 (Bool.or s4 (Bool.or s5 (Bool.or s6 s7))))))) (IntKind.i64) (chk_0 k n a b c d v ph))
 | args => call3 35 args
theorem chkS_ok : ∀ args v g g', chkS args g = .done v g' → CallIs Try.prog 35 args v g g' := by
  intro args v g g' h
  unfold chkS at h
  split at h
  · rename_i s0 k s1 n s2 a s3 b s4 c s5 d s6 v s7 ph
    obtain ⟨rfl, rfl⟩ := ret_done h
    refine scE call3_ok (a' := [.agg [.int true .u8 k, .str true n, .str true a, .str true b, .str true c, .str true d, .raw true v, iT ph]]) (R := AV.int (Bool.or true (Bool.or true (Bool.or true (Bool.or true (Bool.or true (Bool.or true (Bool.or true true))))))) (IntKind.i64) (chk_0 k n a b c d v ph)) ?_ (fun N μ l ha => by simpa only [Reps, Rep] using ha) (fun N μ c hc => by simpa only [Rep, Reps, Rep_cmpB] using hc)
    unfold chk_0
    cases t0 : rowOf_5 k
    ·exact ⟨[tT], lF (I1 (nf t0))⟩
    ·cases t1 : name_1 n
     ·exact ⟨[fF, tT], lF (I2 (nt t0) (nf t1))⟩
     ·cases t2 : decide (name_0 n = k)
      ·exact ⟨[fF, fF, tT], lF (I3 (nt t0) (nt t1) (nf t2))⟩
      ·cases t3 : node_0 a
       ·exact ⟨[fF, fF, fF, tT], lF (I4 (nt t0) (nt t1) (nt t2) (nf t3))⟩
       ·cases t4 : node_0 b
        ·exact ⟨[fF, fF, fF, fF, tT], lF (I5 (nt t0) (nt t1) (nt t2) (nt t3) (nf t4))⟩
        ·cases t5 : rowOf_3 k
         ·cases t6 : a == b
          ·cases t7 : c == []
           ·exact ⟨[fF, fF, fF, fF, fF, fF, fF, tT, tT], lF (I9 (nt t0) (nt t1) (nt t2) (nt t3) (nt t4) t5 t6 (nf t5) (nf t7))⟩
           ·cases t8 : d == []
            ·exact ⟨[fF, fF, fF, fF, fF, fF, fF, tT, fF, tT], lF (I10 (nt t0) (nt t1) (nt t2) (nt t3) (nt t4) t5 t6 (nf t5) (nt t7) (nf t8))⟩
            ·cases t9 : rowOf_4 k
             ·cases t10 : decide (ph = (0 : Int))
              ·exact ⟨[fF, fF, fF, fF, fF, fF, fF, tT, fF, fF, tT, tT], lF (I12 (nt t0) (nt t1) (nt t2) (nt t3) (nt t4) t5 t6 (nf t5) (nt t7) (nt t8) (nf t9) (nf t10))⟩
              ·cases t11 : decide ((2 : Int) < kindDef v)
               ·cases t12 : rowOf_2 k
                ·exact ⟨[fF, fF, fF, fF, fF, fF, fF, tT, fF, fF, tT, fF, fF, fF], lF (I14 (nt t0) (nt t1) (nt t2) (nt t3) (nt t4) t5 t6 (nf t5) (nt t7) (nt t8) (nf t9) (nt t10) t11 t12)⟩
                ·cases t13 : fle (cn v) 0
                 ·exact ⟨[fF, fF, fF, fF, fF, fF, fF, tT, fF, fF, tT, fF, fF, tT, fF], lF (I15 (nt t0) (nt t1) (nt t2) (nt t3) (nt t4) t5 t6 (nf t5) (nt t7) (nt t8) (nf t9) (nt t10) t11 t12 t13)⟩
                 ·exact ⟨[fF, fF, fF, fF, fF, fF, fF, tT, fF, fF, tT, fF, fF, tT, tT], lF (I15 (nt t0) (nt t1) (nt t2) (nt t3) (nt t4) t5 t6 (nf t5) (nt t7) (nt t8) (nf t9) (nt t10) t11 t12 t13)⟩
               ·exact ⟨[fF, fF, fF, fF, fF, fF, fF, tT, fF, fF, tT, fF, tT], lF (I13 (nt t0) (nt t1) (nt t2) (nt t3) (nt t4) t5 t6 (nf t5) (nt t7) (nt t8) (nf t9) (nt t10) t11)⟩
             ·cases t10 : decide ((2 : Int) < kindDef v)
              ·cases t11 : rowOf_2 k
               ·exact ⟨[fF, fF, fF, fF, fF, fF, fF, tT, fF, fF, fF, fF, fF], lF (I13 (nt t0) (nt t1) (nt t2) (nt t3) (nt t4) t5 t6 (nf t5) (nt t7) (nt t8) (nt t9) t10 t11)⟩
               ·cases t12 : fle (cn v) 0
                ·exact ⟨[fF, fF, fF, fF, fF, fF, fF, tT, fF, fF, fF, fF, tT, fF], lF (I14 (nt t0) (nt t1) (nt t2) (nt t3) (nt t4) t5 t6 (nf t5) (nt t7) (nt t8) (nt t9) t10 t11 t12)⟩
                ·exact ⟨[fF, fF, fF, fF, fF, fF, fF, tT, fF, fF, fF, fF, tT, tT], lF (I14 (nt t0) (nt t1) (nt t2) (nt t3) (nt t4) t5 t6 (nf t5) (nt t7) (nt t8) (nt t9) t10 t11 t12)⟩
              ·exact ⟨[fF, fF, fF, fF, fF, fF, fF, tT, fF, fF, fF, tT], lF (I12 (nt t0) (nt t1) (nt t2) (nt t3) (nt t4) t5 t6 (nf t5) (nt t7) (nt t8) (nt t9) t10)⟩
          ·exact ⟨[fF, fF, fF, fF, fF, fF, tT], lF (I7 (nt t0) (nt t1) (nt t2) (nt t3) (nt t4) t5 t6)⟩
         ·cases t6 : node_0 c
          ·exact ⟨[fF, fF, fF, fF, fF, tT, tT], lF (I7 (nt t0) (nt t1) (nt t2) (nt t3) (nt t4) t5 (nf t6))⟩
          ·cases t7 : node_0 d
           ·exact ⟨[fF, fF, fF, fF, fF, tT, fF, tT], lF (I8 (nt t0) (nt t1) (nt t2) (nt t3) (nt t4) t5 (nt t6) (nf t7))⟩
           ·cases t8 : a == b
            ·cases t9 : rowOf_4 k
             ·cases t10 : decide (ph = (0 : Int))
              ·exact ⟨[fF, fF, fF, fF, fF, tT, fF, fF, fF, fF, tT, tT], lF (I12 (nt t0) (nt t1) (nt t2) (nt t3) (nt t4) t5 (nt t6) (nt t7) t8 (nt t5) (nf t9) (nf t10))⟩
              ·cases t11 : decide ((2 : Int) < kindDef v)
               ·cases t12 : rowOf_2 k
                ·exact ⟨[fF, fF, fF, fF, fF, tT, fF, fF, fF, fF, tT, fF, fF, fF], lF (I14 (nt t0) (nt t1) (nt t2) (nt t3) (nt t4) t5 (nt t6) (nt t7) t8 (nt t5) (nf t9) (nt t10) t11 t12)⟩
                ·cases t13 : fle (cn v) 0
                 ·exact ⟨[fF, fF, fF, fF, fF, tT, fF, fF, fF, fF, tT, fF, fF, tT, fF], lF (I15 (nt t0) (nt t1) (nt t2) (nt t3) (nt t4) t5 (nt t6) (nt t7) t8 (nt t5) (nf t9) (nt t10) t11 t12 t13)⟩
                 ·exact ⟨[fF, fF, fF, fF, fF, tT, fF, fF, fF, fF, tT, fF, fF, tT, tT], lF (I15 (nt t0) (nt t1) (nt t2) (nt t3) (nt t4) t5 (nt t6) (nt t7) t8 (nt t5) (nf t9) (nt t10) t11 t12 t13)⟩
               ·exact ⟨[fF, fF, fF, fF, fF, tT, fF, fF, fF, fF, tT, fF, tT], lF (I13 (nt t0) (nt t1) (nt t2) (nt t3) (nt t4) t5 (nt t6) (nt t7) t8 (nt t5) (nf t9) (nt t10) t11)⟩
             ·cases t10 : decide ((2 : Int) < kindDef v)
              ·cases t11 : rowOf_2 k
               ·exact ⟨[fF, fF, fF, fF, fF, tT, fF, fF, fF, fF, fF, fF, fF], lF (I13 (nt t0) (nt t1) (nt t2) (nt t3) (nt t4) t5 (nt t6) (nt t7) t8 (nt t5) (nt t9) t10 t11)⟩
               ·cases t12 : fle (cn v) 0
                ·exact ⟨[fF, fF, fF, fF, fF, tT, fF, fF, fF, fF, fF, fF, tT, fF], lF (I14 (nt t0) (nt t1) (nt t2) (nt t3) (nt t4) t5 (nt t6) (nt t7) t8 (nt t5) (nt t9) t10 t11 t12)⟩
                ·exact ⟨[fF, fF, fF, fF, fF, tT, fF, fF, fF, fF, fF, fF, tT, tT], lF (I14 (nt t0) (nt t1) (nt t2) (nt t3) (nt t4) t5 (nt t6) (nt t7) t8 (nt t5) (nt t9) t10 t11 t12)⟩
              ·exact ⟨[fF, fF, fF, fF, fF, tT, fF, fF, fF, fF, fF, tT], lF (I12 (nt t0) (nt t1) (nt t2) (nt t3) (nt t4) t5 (nt t6) (nt t7) t8 (nt t5) (nt t9) t10)⟩
            ·exact ⟨[fF, fF, fF, fF, fF, tT, fF, fF, tT], lF (I9 (nt t0) (nt t1) (nt t2) (nt t3) (nt t4) t5 (nt t6) (nt t7) t8)⟩
  · exact call3_ok _ _ _ _ _ h
theorem chkS_tch : ∀ args, Tch (chkS args) := by
 intro args
 unfold chkS
 split
 ·exact Tch.ret _
 ·exact call3_tch _ _
noncomputable def gamE : Known := kc 71 ofBits (kc 74 toBits (kc 72 smallS (kc 61 kindS (kc 58 rowOfS (kc 73 ofS (kc 59 nameS (kc 60 nodeS (kc 35 chkS (kn)))))))))
theorem gamE_ok : KnownOk Try.prog gamE := kc_ok ((ofBits_is Try.prog).callIs Try.func71 (by kernel_rfl) (by kernel_rfl) (by kernel_rfl) (by kernel_rfl)) (kc_ok ((toBits_is Try.prog).callIs Try.func74 (by kernel_rfl) (by kernel_rfl) (by kernel_rfl) (by kernel_rfl)) (kc_ok smallS_ok (kc_ok kindS_ok (kc_ok rowOfS_ok (kc_ok ofS_ok (kc_ok nameS_ok (kc_ok nodeS_ok (kc_ok chkS_ok (kn_ok)))))))))
theorem gamE_tch : KnownT gamE := kc_tch Tch.ofBits (kc_tch Tch.toBits (kc_tch smallS_tch (kc_tch kindS_tch (kc_tch rowOfS_tch (kc_tch ofS_tch (kc_tch nameS_tch (kc_tch nodeS_tch (kc_tch chkS_tch (kn_tch)))))))))
noncomputable def callE : Calls' := Sx.runN Try.prog gamE (regionC Try.prog) 1000 50
theorem callE_ok : CallOk Try.prog callE := engineC gamE_ok gamE_tch (by kernel_rfl) (by kernel_rfl) 1000 50
theorem callE_reg (n : Nat) : RegionOk Try.prog (regionC Try.prog callE n) n := runN_regionC gamE_ok gamE_tch (by kernel_rfl) (by kernel_rfl) 1000 50 n
noncomputable abbrev piececallE (f : Func) (c : Code) (fr : Fr) (H : T ABk) (K : Nat) (path : List Bool) : Res (Ex × Fr) :=
 codeA Try.prog callE (regionC Try.prog callE f.ntmps) noLoops f.ntmps 1000 c fr ⟨H, K, [], path, True⟩


theorem rcE {fn : Func} {K K' B : Nat} {e : Ex} {F : tF} {Hl : tH} {c : Code} {fr : Fr} {H : T ABk} {path : List Bool} (h : PieceN K' e F Hl (piececallE fn c fr H K path)) (hB : B ≤ K) : GoesB Try.prog c fn.ntmps B K K' fr H fun e' fr' H' => e' = e ∧ fr' = frL F ∧ H' = hpL Hl := GoesB.runN callE_ok (callE_reg _) (LoopsIn.none _ _ _) h hB
theorem rdE {fn : Func} {K K' B : Nat} {e : Ex} {F : tF} {Hl : tH} {c : Code} {fr : Fr} {H : T ABk} (path : List Bool) {q : Prop} (hq : q) (hB : B ≤ K) (h : pieceN K' e F Hl (piececallE fn c fr H K path) = (e = e ∧ selfW F ∧ selfH Hl ∧ true = true ∧ q) := by kernel_rfl) : GoesB Try.prog c fn.ntmps B K K' fr H fun e' fr' H' => e' = e ∧ fr' = frL F ∧ H' = hpL Hl := rcE (eqn h hq) hB
/-- an element -/
structure El where
 k : Int
 n : List UInt8
 a : List UInt8
 b : List UInt8
 c : List UInt8
 d : List UInt8
 v : Nat
 ph : Int
abbrev tE := Nat → El
abbrev Tx := List UInt8
abbrev tX := Nat → Tx
abbrev tM := List (Tx × Int)
/-- the first place of a text -/
def pos (x : Tx) : List Tx → Option Nat
 | [] => none
 | y :: l => bif x == y then some 0 else (pos x l).map (· + 1)
theorem pos_lt {x : Tx} : ∀ {l : List Tx} {i : Nat}, pos x l = some i → i < l.length ∧ l.getD i [] = x
 | y :: l, i, h => by
  unfold pos at h
  cases e : x == y with
  | true =>
   rw [e, cond_true] at h
   cases h
   exact ⟨by simp, by simpa using (eq_of_beq e).symm⟩
  | false =>
   rw [e, cond_false] at h
   cases q : pos x l with
   | none => rw [q] at h; cases h
   | some j =>
    rw [q] at h
    cases h
    obtain ⟨h1, h2⟩ := pos_lt q
    exact ⟨by simpa using h1, by simpa using h2⟩
theorem pos_none {x : Tx} : ∀ {l : List Tx}, pos x l = none ↔ x ∉ l
 | [] => by simp [pos]
 | y :: l => by
  unfold pos
  cases e : x == y with
  | true => simp [eq_of_beq e]
  | false =>
   have : x ≠ y := fun c => by rw [c] at e; simp at e
   simp [pos_none (x := x) (l := l), this]
/-- texts with their places: what a map of them holds -/
def zipF (s : Nat) : List Tx → List (Tx × Int)
 | [] => []
 | x :: l => (x, (s : Int)) :: zipF (s + 1) l
theorem find_zip (x : Tx) : ∀ (s : Nat) (l : List Tx), lfind seq x (zipF s l) = (pos x l).map fun i => ((s + i : Nat) : Int)
 | s, [] => rfl
 | s, y :: l => by
  show (bif x == y then some (s : Int) else lfind seq x (zipF (s + 1) l)) = (bif x == y then some 0 else (pos x l).map (· + 1)).map _
  cases e : x == y with
  | true => rfl
  | false =>
   rw [cond_false, cond_false, find_zip x (s + 1) l]
   cases pos x l with
   | none => rfl
   | some i => simp only [Option.map]; congr 1; omega
theorem put_zip (x : Tx) : ∀ (s : Nat) (l : List Tx), pos x l = none → lput seq x ((s + l.length : Nat) : Int) (zipF s l) = zipF s (l ++ [x])
 | s, [], _ => rfl
 | s, y :: l, h => by
  unfold pos at h
  cases e : x == y with
  | true => rw [e] at h; cases h
  | false =>
   rw [e, cond_false] at h
   have h' : pos x l = none := by
    cases q : pos x l with
    | none => rfl
    | some j => rw [q] at h; cases h
   show lput seq x _ ((y, (s : Int)) :: zipF (s + 1) l) = (y, (s : Int)) :: zipF (s + 1) (l ++ [x])
   unfold lput seq
   rw [e, cond_false]
   congr 1
   have := put_zip x (s + 1) l h'
   rw [← this]
   congr 1
   simp; omega
/-- a node more -/
def addN (l : List Tx) (x : Tx) : List Tx := bif (pos x l).isSome || x == [] || x == [48] then l else l ++ [x]
def isBr (e : El) : Bool := decide (e.k = 5) || decide (e.k = 7)
/-- names, nodes, branches of the first m elements -/
def NM (E : tE) : Nat → List Tx
 | 0 => []
 | m + 1 => NM E m ++ [(E m).n]
def ND (E : tE) : Nat → List Tx
 | 0 => []
 | m + 1 => addN (addN (addN (addN (ND E m) (E m).a) (E m).b) (E m).c) (E m).d
def BR (E : tE) : Nat → List Tx
 | 0 => []
 | m + 1 => bif isBr (E m) then BR E m ++ [(E m).n] else BR E m
theorem NM_len (E : tE) : ∀ m, (NM E m).length = m
 | 0 => rfl
 | m + 1 => by unfold NM; simp [NM_len E m]
theorem BR_len (E : tE) : ∀ m, (BR E m).length ≤ m
 | 0 => Nat.le_refl _
 | m + 1 => by
  have := BR_len E m
  unfold BR
  cases isBr (E m) <;> simp <;> omega
theorem BR_sub (E : tE) {x : Tx} : ∀ {m : Nat}, x ∈ BR E m → x ∈ NM E m
 | m + 1, h => by
  unfold BR at h
  unfold NM
  cases q : isBr (E m) with
  | true =>
   rw [q, cond_true, List.mem_append] at h
   exact List.mem_append.2 (h.imp (BR_sub E) id)
  | false =>
   rw [q, cond_false] at h
   exact List.mem_append.2 (.inl (BR_sub E h))
theorem BR_new (E : tE) {m : Nat} (h : pos (E m).n (NM E m) = none) : pos (E m).n (BR E m) = none :=
 pos_none.2 fun c => pos_none.1 h (BR_sub E c)
theorem addN_len (l : List Tx) (x : Tx) : l.length ≤ (addN l x).length ∧ (addN l x).length ≤ l.length + 1 := by
 unfold addN
 cases (pos x l).isSome || x == [] || x == [48] <;> simp
theorem ND_len (E : tE) : ∀ m, (ND E m).length ≤ 4 * m
 | 0 => Nat.le_refl _
 | m + 1 => by
  have := ND_len E m
  have h1 := addN_len (ND E m) (E m).a
  have h2 := addN_len (addN (ND E m) (E m).a) (E m).b
  have h3 := addN_len (addN (addN (ND E m) (E m).a) (E m).b) (E m).c
  have h4 := addN_len (addN (addN (addN (ND E m) (E m).a) (E m).b) (E m).c) (E m).d
  unfold ND
  omega
/-- what refuses element i, those ahead of it being taken -/
def badE (chk : El → Int) (E : tE) (i : Nat) : Int := bif decide (chk (E i) = 0) then (bif (pos (E i).n (NM E i)).isSome then 9 else 0) else chk (E i)
/-- what Of tells of n elements: the error and its place -/
def ofE (chk : El → Int) (E : tE) (n : Nat) : Nat → Int × Int
 | 0 => bif decide (32 < (ND E n).length) || decide (64 < (ND E n).length + (BR E n).length) then (3, -1) else (0, 0)
 | m + 1 => bif decide (badE chk E (n - (m + 1)) = 0) then ofE chk E n m else (badE chk E (n - (m + 1)), ((n - (m + 1) : Nat) : Int))
def ofR (chk : El → Int) (E : tE) (n : Nat) : Int × Int := bif decide (256 < n) then (3, -1) else ofE chk E n n
theorem ofE_bad {chk : El → Int} {E : tE} {n i : Nat} (hi : i < n) (hb : badE chk E i ≠ 0) : ∀ m, i + m ≤ n → n ≤ i + m → (∀ j, j < i → badE chk E j = 0) → ofE chk E n n = (badE chk E i, (i : Int)) := by
 have step : ∀ m, m ≤ n → n - m ≤ i → (∀ j, n - m ≤ j → j < i → badE chk E j = 0) → ofE chk E n m = (badE chk E i, (i : Int)) := by
  intro m
  induction m with
  | zero => intro _ h; omega
  | succ m ih =>
   intro hm h1 h2
   unfold ofE
   by_cases q : n - (m + 1) = i
   ·rw [q, decide_eq_false hb, cond_false]
   ·rw [decide_eq_true (h2 _ (Nat.le_refl _) (by omega)), cond_true]
    exact ih (by omega) (by omega) fun j a b => h2 j (by omega) b
 intro m _ _ h
 exact step n (Nat.le_refl _) (by omega) fun j _ b => h j b
theorem ofE_good {chk : El → Int} {E : tE} {n : Nat} (h : ∀ j, j < n → badE chk E j = 0) : ofE chk E n n = ofE chk E n 0 := by
 have step : ∀ m, m ≤ n → ofE chk E n m = ofE chk E n 0 := by
  intro m
  induction m with
  | zero => intro _; rfl
  | succ m ih =>
   intro hm
   show (bif decide (badE chk E (n - (m + 1)) = 0) then ofE chk E n m else (badE chk E (n - (m + 1)), ((n - (m + 1) : Nat) : Int))) = _
   rw [decide_eq_true (h _ (by omega)), cond_true]
   exact ih (by omega)
 exact step n (Nat.le_refl _)
/-- rows in memory: an element; a net; a text -/
def elR (e : El) : List AV := [.int true .u8 e.k, .str true e.n, .str true e.a, .str true e.b, .str true e.c, .str true e.d, .raw true e.v, iT e.ph]
noncomputable abbrev ZC6 (v0 v1 : Nat) := (.slc true true ⟨false, v0, 0, 0⟩ v1 : AV)
noncomputable def netR (l nd bg m q r : Nat) : List AV := [.bool true, ZC6 l m, .mp 3, ZC6 nd q, .mp 4, ZC6 bg r, .mp 5]
def txR (f : tX) (j : Nat) : List AV := [.str true (f j)]
theorem of1 {p : Nat → Prop} (h : p 0) (j : Nat) (hj : j < 1) : p j := by
 obtain rfl : j = 0 := by omega
 exact h
theorem hbl1 {g sz : Nat} {own : Bool} {d : List AV} {t : T (List AV)} {H : T ABk} {rows' : Nat → List AV} (h : H.get g = some (.cells own sz 1 (.lit d t))) (e : (Cont.lit d t).row 0 = rows' 0 := by rfl) : ∃ b', H.get g = some b' ∧ SameC b' (.cells own sz 1 (.fn rows')) :=
 ⟨_, h, rfl, rfl, rfl, of1 (p := fun j => (Cont.lit d t).row j = rows' j) e⟩
theorem gM {H : T ABk} {g : Nat} {s : Bool} {l l' : tM} (h : H.get g = some (.mSI s l)) (e : l = l') : ∃ b', H.get g = some b' ∧ SameC b' (.mSI s l') := ⟨_, h, by rw [e]; exact SameC.refl _⟩
def sg (a b x : Nat) : Nat := if x = a then b else x
theorem sg_inj {K a b : Nat} (h : K ≤ b) : ∀ i j, i < K → j < K → sg a b i = sg a b j → i = j := by
 intro i j hi hj e
 unfold sg at e
 split at e <;> split at e <;> omega
theorem sg_low {B a b : Nat} (h : B ≤ a) : ∀ g, g < B → sg a b g = g := by
 intro g hg
 unfold sg
 rw [if_neg (by omega)]
theorem rgM {σ : Nat → Nat} {K' : Nat} {H : T ABk} {g : Nat} {s : Bool} {l l' : tM} (h : H.get (σ g) = some (.mSI s l)) (e : l = l') (hlt : g < K') : ∃ b, H.get (σ g) = some b ∧ SameC b ((ABk.mSI s l').ren σ) ∧ (ABk.mSI s l').lowR K' ∧ g < K' := ⟨_, h, by rw [e]; exact SameC.refl _, trivial, hlt⟩
theorem rgR {σ : Nat → Nat} {K' : Nat} {H : T ABk} {g sz n n' : Nat} {own : Bool} {rows rows' : Nat → List AV} (hg : H.get (σ g) = some (.cells own sz n (.fn rows))) (e : n = n') (hr : ∀ j, j < n → rows j = rens σ (rows' j)) (hl : ∀ j, j < n → (rows' j).all (fun v => v.low K') = true) (hlt : g < K') :
  ∃ b, H.get (σ g) = some b ∧ SameC b ((ABk.cells own sz n' (.fn rows')).ren σ) ∧ (ABk.cells own sz n' (.fn rows')).lowR K' ∧ g < K' := by
 subst e
 exact ⟨_, hg, ⟨rfl, rfl, rfl, hr⟩, fun j hj v hv => List.all_eq_true.1 (hl j hj) v hv, hlt⟩
theorem rgB {σ : Nat → Nat} {K' : Nat} {H : T ABk} {g sz : Nat} {own : Bool} {rows rows' : Nat → List AV} (hg : H.get (σ g) = some (.cells own sz 1 (.fn rows))) (hr : rows 0 = rens σ (rows' 0)) (hl : (rows' 0).all (fun v => v.low K') = true) (hlt : g < K') :
  ∃ b, H.get (σ g) = some b ∧ SameC b ((ABk.cells own sz 1 (.fn rows')).ren σ) ∧ (ABk.cells own sz 1 (.fn rows')).lowR K' ∧ g < K' :=
 rgR hg rfl (of1 (p := fun j => rows j = rens σ (rows' j)) hr) (of1 (p := fun j => (rows' j).all (fun v => v.low K') = true) hl) hlt
/-- nodes after the first i of an element's four -/
def four (z : El) (j : Nat) : Tx := bif Nat.beq j 0 then z.a else bif Nat.beq j 1 then z.b else bif Nat.beq j 2 then z.c else z.d
def nd4 (l : List Tx) (z : El) : Nat → List Tx
 | 0 => l
 | i + 1 => addN (nd4 l z i) (four z i)
theorem nd4_len (l : List Tx) (z : El) : ∀ i, (nd4 l z i).length ≤ l.length + i
 | 0 => Nat.le_refl _
 | i + 1 => by
  have h1 := nd4_len l z i
  have h2 := (addN_len (nd4 l z i) (four z i)).2
  unfold nd4; omega
theorem isS_zip (x : Tx) (l : List Tx) : (lfind seq x (zipF 0 l)).isSome = (pos x l).isSome := by
 rw [find_zip]; cases pos x l <;> rfl
theorem put_zip0 {x : Tx} {l : List Tx} {m : Nat} (hm : m = l.length) (h : pos x l = none) : lput seq x (m : Int) (zipF 0 l) = zipF 0 (l ++ [x]) := by
 subst hm
 have := put_zip x 0 l h
 rwa [Nat.zero_add] at this
theorem none_of {o : Option Nat} (h : o.isSome = false) : o = none := by cases o with
 | none => rfl
 | some _ => cases h
def lget (l : List Tx) (j : Nat) : Tx := l.getD j []
theorem lget_app (l : List Tx) (x : Tx) (j : Nat) (h : j < l.length + 1) : (bif decide (j < l.length) then txR (lget l) j else [.str true x]) = txR (lget (l ++ [x])) j := by
 unfold txR lget
 by_cases c : j < l.length
 ·rw [decide_eq_true c, cond_true, List.getD_eq_getElem?_getD, List.getD_eq_getElem?_getD, List.getElem?_append_left c]
 ·obtain rfl : j = l.length := by omega
  rw [decide_eq_false c, cond_false, List.getD_eq_getElem?_getD, List.getElem?_append_right (Nat.le_refl _), Nat.sub_self]
  rfl
section
variable {P : Program} {n B K K' : Nat}
theorem seqR {K1 : Nat} {x y : Code} {fr : Fr} {H : T ABk} {R : Fr → T ABk → Prop} (hK : K1 ≤ K') (h : GoesB P x n B K K1 fr H fun e fr' H' => e = .ret ∧ R fr' H') : GoesB P (.seq x y) n B K K' fr H fun e fr' H' => e = .ret ∧ R fr' H' :=
 GoesB.seq hK (h.mono fun e fr' H' q => by obtain ⟨rfl, q⟩ := q; exact ⟨rfl, q⟩)
theorem blockR {id : Nat} {x : Code} {fr : Fr} {H : T ABk} {R : Fr → T ABk → Prop} (h : GoesB P x n B K K' fr H fun e fr' H' => e = .ret ∧ R fr' H') : GoesB P (.block id x) n B K K' fr H fun e fr' H' => e = .ret ∧ R fr' H' :=
 GoesB.block (h.mono fun e fr' H' q => by obtain ⟨rfl, q⟩ := q; exact ⟨rfl, q⟩)
end
theorem RowGe_refl : ∀ (l : List AV), l.all AV.one = true → RowGe l l
 | [], _ => trivial
 | v :: l, h => by
  rw [List.all_cons, Bool.and_eq_true] at h
  exact ⟨AV.ge.refl v, h.1, RowGe_refl l h.2⟩
/-- a row as an element -/
def unE : List AV → El
 | [.int _ _ k, .str _ n, .str _ a, .str _ b, .str _ c, .str _ d, .raw _ v, .int _ _ ph] => ⟨k, n, a, b, c, d, v, ph⟩
 | [.int _ _ k, .str _ n, .str _ a, .str _ b, .str _ c, .str _ d, .flt _ v, .int _ _ ph] => ⟨k, n, a, b, c, d, v, ph⟩
 | _ => ⟨0, [], [], [], [], [], 0, 0⟩
def rowsE (f : Nat → List AV) (j : Nat) : El := unE (f j)
structure PE (n : Nat) (f : Nat → List AV) : Prop where
 of : ∀ j, j < n → RowGe (f j) (elR (rowsE f j))
theorem elR_low (K : Nat) (z : El) : (elR z).all (fun v => v.low K) = true := rfl
/-- a net's row, anywhere -/
noncomputable def netG (m1 m2 m3 l nd bg m q r : Nat) : List AV := [.bool true, ZC6 l m, .mp m1, ZC6 nd q, .mp m2, ZC6 bg r, .mp m3]
/-- a net's blocks: the maps, elements, nodes, branches, and the net -/
noncomputable abbrev ZG (v0 : Nat) (v1 : tE) := (.cells true 8 v0 (.fn fun j => elR (v1 j)) : ABk)
noncomputable abbrev ZK (v0 : tE) (v1 : Nat) := (.mSI true (zipF 0 (NM v0 v1)) : ABk)
noncomputable abbrev ZL (v0 : tE) (v1 : Nat) := (.mSI true (zipF 0 (ND v0 v1)) : ABk)
noncomputable abbrev ZM (v0 : tE) (v1 : Nat) := (.mSI true (zipF 0 (BR v0 v1)) : ABk)
noncomputable def netB (N : Nat) (E : tE) (n : Nat) : List ABk :=
 [ZK E n, ZL E n, ZM E n, ZG n E, .cells true 1 (ND E n).length (.fn (txR (lget (ND E n)))), .cells true 1 (BR E n).length (.fn (txR (lget (BR E n)))), .cells true 7 1 (.fn fun _ => netG N (N + 1) (N + 2) (N + 3) (N + 4) (N + 5) n (ND E n).length (BR E n).length)]
/-- a net more in memory; its name -/
noncomputable def netNew (E : tE) (n : Nat) : M Nat :=
 (M.newB (ZK E n)).andThen fun N => (M.newB (ZL E n)).andThen fun _ => (M.newB (ZM E n)).andThen fun _ => (M.newB (ZG n E)).andThen fun _ => (M.newB (.cells true 1 (ND E n).length (.fn (txR (lget (ND E n)))))).andThen fun _ => (M.newB (.cells true 1 (BR E n).length (.fn (txR (lget (BR E n)))))).andThen fun _ => (M.newB (.cells true 7 1 (.fn fun _ => netG N (N + 1) (N + 2) (N + 3) (N + 4) (N + 5) n (ND E n).length (BR E n).length)))
theorem Tch_netNew (E : tE) (n : Nat) : Tch (netNew E n) :=
 (Tch.newB _).andThen fun _ => (Tch.newB _).andThen fun _ => (Tch.newB _).andThen fun _ => (Tch.newB _).andThen fun _ => (Tch.newB _).andThen fun _ => (Tch.newB _).andThen fun _ => Tch.newB _
theorem netNew_done {E : tE} {n : Nat} {N : Nat} {g g' : G} (h : netNew E n g = .done N g') : N = g.nx + 6 ∧ g'.H = putNew g.H g.nx (netB g.nx E n) ∧ g'.nx = g.nx + 7 ∧ g'.cs = g.cs := by
 cases h
 exact ⟨rfl, rfl, rfl, rfl⟩
/-- a slice of elements that are read: told by its arguments alone -/
structure PEQ (n : Nat) (f : Nat → List AV) : Prop where
 of : PE n f
 low : ∀ j, j < n → ∀ u, u ∈ f j → u.low 0 = true
noncomputable def rdQ (esz : Nat) (x : AV) (Q : Nat → (Nat → List AV) → Prop) : M (Nat × (Nat → List AV)) :=
 (srcOf esz x).andThen fun y => (M.req (Q y.2.1 y.2.2)).andThen fun _ => M.ret (y.2.1, y.2.2)
theorem rdQ_done {esz : Nat} {x : AV} {Q : Nat → (Nat → List AV) → Prop} {y : Nat × (Nat → List AV)} {g g' : G} (h : rdQ esz x Q g = .done y g') (he : 0 < esz) (hQ : Q y.1 y.2 → ∀ j, j < y.1 → ∀ u, u ∈ y.2 j → u.low 0 = true) :
  ∃ q, Keep g g' q ∧ (q → Vw.Ok ⟨x, esz, y.1, y.2⟩ g ∧ Q y.1 y.2) := by
 unfold rdQ at h
 obtain ⟨z, g1, a1, h1⟩ := done_of h
 obtain ⟨_, g2, a2, h2⟩ := done_of h1
 obtain ⟨rfl, rfl⟩ := ret_done h2
 obtain ⟨q1, k1, f1⟩ := Vw.Ok.of a1 he
 have k2 := req_done a2
 exact ⟨_, k1.trans k2, fun ⟨e1, e2⟩ => ⟨f1 e1 (hQ e2), e2⟩⟩
theorem Tch_rdQ (esz : Nat) (x : AV) (Q : Nat → (Nat → List AV) → Prop) : Tch (rdQ esz x Q) := (Tch.srcOf _ _).andThen fun _ => (Tch.req _).andThen fun _ => Tch.ret _


noncomputable abbrev ZV (v0 : Nat) (v1 : tX) := (.cells true 1 v0 (.fn (txR v1)) : ABk)
noncomputable abbrev Z2 (v0 v1 v2 : Nat) := (.cells true 7 1 (.fn fun _ => netR 6 7 8 v0 v1 v2) : ABk)
noncomputable def ntL (m q r : Nat) (E : tE) (M1 M2 M3 : tM) (nd br : tX) : List (Nat × ABk) := [(2, Z2 m q r), (3, .mSI true M1), (4, .mSI true M2), (5, .mSI true M3), (6, ZG m E), (7, ZV q nd), (8, ZV r br)]
noncomputable abbrev ZDk := ([(0, ZA 2), (3, ZA 10)] : tF)
theorem ptA (B : Nat) (hB : B ≤ 10) (z : El) (m q r : Nat) (E : tE) (M1 M2 M3 : tM) (nd br : tX) : GoesB Try.prog ((nav [0] (bodyOf Try.f36))) Try.f36.ntmps B 10 11 (frameOf [ZA 2, .agg (elR z)] 0 .e) (hpL (ntL m q r E M1 M2 M3 nd br)) (pP .normal ZDk (ntL m q r E M1 M2 M3 nd br ++ [(10, .cells true 8 1 (.lit [] (T.n T.e (Option.some (elR z)) T.e)))])) := rdE [] trivial hB
noncomputable abbrev ZR (v0 : El) := (.cells true 8 1 (.fn fun _ => elR v0) : ABk)
theorem ptB (B : Nat) (hB : B ≤ 11) (z : El) (m q r : Nat) (E : tE) (M1 M2 M3 : tM) (nd br : tX) : GoesB Try.prog ((nav [1,0] (bodyOf Try.f36))) Try.f36.ntmps B 11 11 (frL ZDk) (hpL (ntL m q r E M1 M2 M3 nd br ++ [(10, ZR z)])) (pP .normal ZDk [(2, Z2 m q r), (3, .mSI true (lput seq (El.n z) (↑m : Int) M1)), (4, .mSI true M2), (5, .mSI true M3), (6, ZG m E), (7, ZV q nd), (8, ZV r br), (10, ZR z)]) := rdE [] trivial hB
theorem ptC (B : Nat) (hB : B ≤ 11) (z : El) (m q r : Nat) (E : tE) (M1 M2 M3 : tM) (nd br : tX) (x0 : ((m + 1) * 104 ≤ 140737488355328)) (x1 : (m + 1 ≤ 9223372036854775807)) : GoesB Try.prog ((nav [1,1,0] (bodyOf Try.f36))) Try.f36.ntmps B 11 13 (frL ZDk) (hpL (ntL m q r E M1 M2 M3 nd br ++ [(10, ZR z)])) (pP .normal ZDk [(2, .cells true 7 1 (.fn fun j => bif Nat.beq j 0 then (netR 12 7 8 (m + 1) q r) else (netR 6 7 8 m q r))), (3, .mSI true M1), (4, .mSI true M2), (5, .mSI true M3), (7, ZV q nd), (8, ZV r br), (10, ZR z), (12, .cells true 8 (m + 1) (.fn fun j => bif decide (j < m) then (elR (E j)) else (elR z)))]) := rdE [] (I1 (ai (show m ≤ m by omega) (ai x0 x1))) hB
noncomputable abbrev Zc := (.int false .i64 0 : AV)
theorem ptD (B : Nat) (hB : B ≤ 11) (z : El) (m q r : Nat) (E : tE) (M1 M2 M3 : tM) (nd br : tX) : GoesB Try.prog ((nav [1,1,1,0,0] (bodyOf Try.f36))) Try.f36.ntmps B 11 12 (frL ZDk) (hpL (ntL m q r E M1 M2 M3 nd br ++ [(10, ZR z)])) (pP .normal [(0, ZA 2), (3, ZA 10), (37, .slc false true ⟨false, 11, 0, 0⟩ 4), (38, .int false .i64 4), (39, Zc)] (ntL m q r E M1 M2 M3 nd br ++ [(10, ZR z), (11, .cells true 1 4 (.lit [.str false []] (T.n (T.n (.n .e (some [.str true (El.d z)]) T.e) (Option.some [.str true (El.b z)]) T.e) (Option.some [.str true (El.a z)]) (.n .e (some [.str true (El.c z)]) .e))))])) := rdE [] trivial hB
noncomputable abbrev ZBw (v0 : Nat) := iT ((↑v0 : Int) + 1)
noncomputable abbrev ZBz (v0 : tX) (w0) := (.cells true 1 w0 (.fn (txR v0)) : ABk)
noncomputable abbrev ZCr := nav [1,1,1,0,1,0,0] (bodyOf Try.f36)
noncomputable abbrev ZEP (v0 : Nat) := ([(0, ZA 2), (3, ZA 10), (37, sL 11 4), (38, iT 4), (39, ZBw v0)] : tF)
theorem ptL (B : Nat) (hB : B ≤ 12) (z : El) (m q r i : Nat) (E : tE) (M1 M2 M3 : tM) (nd br four : tX) (x0 : ((decide ((↑i : Int) < 4)) = true → ((Option.isSome (lfind seq (four (0 + i)) M2)) = false → ((four (0 + i) == []) = false → ((four (0 + i) == [(48 : UInt8)]) = false → ((q + 1) * 16 ≤ 140737488355328)))))) (x1 : ((decide ((↑i : Int) < 4)) = true → ((Option.isSome (lfind seq (four (0 + i)) M2)) = false → ((four (0 + i) == []) = false → ((four (0 + i) == [(48 : UInt8)]) = false → (q + 1 ≤ 9223372036854775807)))))) : GoesB Try.prog (ZCr) Try.f36.ntmps B 12 14 (frL [(0, ZA 2), (3, ZA 10), (37, sL 11 4), (38, iT 4), (39, iT (i : Int))]) (hpL (ntL m q r E M1 M2 M3 nd br ++ [(10, ZR z), (11, ZBz four 4)])) fun e fr' H' => (cond (decide ((↑i : Int) < 4)) (cond (Option.isSome (lfind seq (four (0 + i)) M2)) (pP .normal (ZEP i) (ntL m q r E M1 M2 M3 nd br ++ [(10, ZR z), (11, ZBz four 4)]) e fr' H') (cond (four (0 + i) == []) (pP .normal (ZEP i) (ntL m q r E M1 M2 M3 nd br ++ [(10, ZR z), (11, ZBz four 4)]) e fr' H') (cond (four (0 + i) == [(48 : UInt8)]) (pP .normal (ZEP i) (ntL m q r E M1 M2 M3 nd br ++ [(10, ZR z), (11, ZBz four 4)]) e fr' H') (pP .normal (ZEP i) [(2, .cells true 7 1 (.fn fun j => bif Nat.beq j 0 then (netR 6 13 8 m (q + 1) r) else (netR 6 7 8 m q r))), (3, .mSI true M1), (4, .mSI true (lput seq (four (0 + i)) (↑q : Int) M2)), (5, .mSI true M3), (6, ZG m E), (8, ZV r br), (10, ZR z), (11, ZBz four 4), (13, .cells true 1 (q + 1) (.fn fun j => bif decide (j < q) then (txR nd j) else [.str true (four (0 + i))]))] e fr' H')))) (pP (.exit 0) [(0, ZA 2), (3, ZA 10), (37, sL 11 4), (38, iT 4), (39, iT (↑i : Int))] (ntL m q r E M1 M2 M3 nd br ++ [(10, ZR z), (11, ZBz four 4)]) e fr' H')) := cD (fun q0 t0 => cI (fun t1 => rdE [tT, fF] (I5 t0 (ai (show 0 ≤ (↑i : Int) by omega) (show (↑i : Int) < 4 by omega)) (show 0 + i < 4 by omega) (nt t1) (ai (show -9223372036854775808 ≤ (↑i : Int) + 1 by omega) (show (↑i : Int) + 1 ≤ (9223372036854775807 : Int) by omega))) hB) (fun t1 => cI (fun t2 => rdE [tT, tT, fF] (I6 t0 (ai (show 0 ≤ (↑i : Int) by omega) (show (↑i : Int) < 4 by omega)) (show 0 + i < 4 by omega) (nf t1) (nt t2) (ai (show -9223372036854775808 ≤ (↑i : Int) + 1 by omega) (show (↑i : Int) + 1 ≤ (9223372036854775807 : Int) by omega))) hB) (fun t2 => cI (fun t3 => rdE [tT, tT, tT, fF] (I7 t0 (ai (show 0 ≤ (↑i : Int) by omega) (show (↑i : Int) < 4 by omega)) (show 0 + i < 4 by omega) (nf t1) (nf t2) (nt t3) (ai (show -9223372036854775808 ≤ (↑i : Int) + 1 by omega) (show (↑i : Int) + 1 ≤ (9223372036854775807 : Int) by omega))) hB) (fun t3 => rdE [tT, tT, tT, tT] (I8 t0 (ai (show 0 ≤ (↑i : Int) by omega) (show (↑i : Int) < 4 by omega)) (show 0 + i < 4 by omega) (nf t1) (nf t2) (nf t3) (ai (show q ≤ q by omega) (ai (x0 t0 t1 t2 t3) (x1 t0 t1 t2 t3))) (ai (show -9223372036854775808 ≤ (↑i : Int) + 1 by omega) (show (↑i : Int) + 1 ≤ (9223372036854775807 : Int) by omega))) hB)))) (fun q0 t0 => rdE [fF] (I1 t0) hB)
theorem ptM (B : Nat) (hB : B ≤ 12) (z : El) (m q r : Nat) (E : tE) (M1 M2 M3 : tM) (nd br : tX) (x0 : ((r + 1) * 16 ≤ 140737488355328)) (x1 : (r + 1 ≤ 9223372036854775807)) : GoesB Try.prog ((nav [1,1,1,1] (bodyOf Try.f36))) Try.f36.ntmps B 12 14 (frL ZDk) (hpL (ntL m q r E M1 M2 M3 nd br ++ [(10, ZR z)])) fun e fr' H' => (cond (decide (El.k z = (5 : Int))) (pP .normal ZDk [(2, .cells true 7 1 (.fn fun j => bif Nat.beq j 0 then (netR 6 7 13 m q (r + 1)) else (netR 6 7 8 m q r))), (3, .mSI true M1), (4, .mSI true M2), (5, .mSI true (lput seq (El.n z) (↑r : Int) M3)), (6, ZG m E), (7, ZV q nd), (13, .cells true 1 (r + 1) (.fn fun j => bif decide (j < r) then (txR br j) else [.str true (El.n z)]))] e fr' H') (cond (decide (El.k z = (7 : Int))) (pP .normal ZDk [(2, .cells true 7 1 (.fn fun j => bif Nat.beq j 0 then (netR 6 7 13 m q (r + 1)) else (netR 6 7 8 m q r))), (3, .mSI true M1), (4, .mSI true M2), (5, .mSI true (lput seq (El.n z) (↑r : Int) M3)), (6, ZG m E), (7, ZV q nd), (13, .cells true 1 (r + 1) (.fn fun j => bif decide (j < r) then (txR br j) else [.str true (El.n z)]))] e fr' H') (pP .normal ZDk (ntL m q r E M1 M2 M3 nd br) e fr' H'))) := cD (fun q0 t0 => rdE [tT] (I2 t0 (ai (show r ≤ r by omega) (ai x0 x1))) hB) (fun q0 t0 => cD (fun q1 t1 => rdE [fF, tT] (I3 t0 t1 (ai (show r ≤ r by omega) (ai x0 x1))) hB) (fun q1 t1 => rdE [fF, fF] (I2 t0 t1) hB))
theorem put_is : (bodyOf Try.f36) = .seq (nav [0] (bodyOf Try.f36)) (.seq (nav [1,0] (bodyOf Try.f36)) (.seq (nav [1,1,0] (bodyOf Try.f36)) (.seq (.seq (nav [1,1,1,0,0] (bodyOf Try.f36)) (.block 0 (.loop ZCr))) (nav [1,1,1,1] (bodyOf Try.f36))))) := by kernel_rfl
noncomputable abbrev Zb (v0 : Nat) (v1 : tE) := (.cells true 8 (v0) (.fn fun j => elR (v1 j)) : ABk)
noncomputable abbrev Zi (v0 : List Tx) := (.cells true 1 ((v0).length) (.fn (txR (lget (v0)))) : ABk)
noncomputable abbrev Z8 (v0 : List Tx) := (.mSI true (zipF 0 (v0)) : ABk)
noncomputable abbrev ZBt (v0 : El) := (.cells true 1 4 (.fn (txR (four v0))) : ABk)
noncomputable abbrev ZB7 (v0 : Nat) := iT ((v0 : Nat) : Int)
noncomputable abbrev ZC8 (v0 : List Tx) (v1 : El) (v2 : Nat) := (.cells true 1 ((nd4 v0 v1 (v2 + 1)).length) (.fn (txR (lget (nd4 v0 v1 (v2 + 1))))) : ABk)
noncomputable abbrev ZDZ (v0 : Nat) (v1 : List Tx) (v2 : El) (v3 : Nat) (v4 v5 : List Tx) (v6 : tE) := ([(2, .cells true 7 1 (.fn fun _ => netR 6 7 8 v0 ((nd4 v1 v2 v3)).length (v4).length)), (3, Z8 v5), (4, .mSI true (zipF 0 ((nd4 v1 v2 v3)))), (5, Z8 v4), (6, Zb v0 v6), (7, .cells true 1 (((nd4 v1 v2 v3)).length) (.fn (txR (lget ((nd4 v1 v2 v3)))))), (8, Zi v4), (10, ZR v2), (11, ZBt v2)] : tH)
noncomputable abbrev ZDm (v0 : Nat) (v1 : List Tx) (v2 : El) (v3 : Nat) (v4 v5 : List Tx) (v6 : tE) := ([(2, .cells true 7 1 (.fn fun _ => netR 6 7 8 v0 (nd4 v1 v2 (v3 + 1)).length (v4).length)), (3, Z8 v5), (4, .mSI true (zipF 0 (nd4 v1 v2 (v3 + 1)))), (5, Z8 v4), (6, Zb v0 v6), (7, ZC8 v1 v2 v3), (8, Zi v4), (10, ZR v2), (11, ZBt v2)] : tH)
noncomputable abbrev ZD8 (v0 : Nat) := ([(0, ZA 2), (3, ZA 10), (37, sL 11 4), (38, iT 4), (39, iT (((v0 + 1 : Nat)) : Int))] : tF)
theorem ptL_step (z : El) (m : Nat) (E : tE) (nm nd br : List Tx) (hq : nd.length ≤ 1100) (i : Nat) (hi : i < 4) :
  GoesB Try.prog ZCr Try.f36.ntmps 6 12 12 (frL [(0, .ptr ⟨false, 2, 0, 0⟩), (3, .ptr ⟨false, 10, 0, 0⟩), (37, sL 11 4), (38, iT 4), (39, iT ((i : Nat) : Int))]) (hpL [(2, .cells true 7 1 (.fn fun _ => netR 6 7 8 m ((nd4 nd z i)).length (br).length)), (3, .mSI true (zipF 0 (nm))), (4, .mSI true (zipF 0 ((nd4 nd z i)))), (5, .mSI true (zipF 0 (br))), (6, .cells true 8 (m) (.fn fun j => elR (E j))), (7, .cells true 1 (((nd4 nd z i)).length) (.fn (txR (lget ((nd4 nd z i)))))), (8, .cells true 1 ((br).length) (.fn (txR (lget (br))))), (10, .cells true 8 1 (.fn fun _ => elR z)), (11, .cells true 1 4 (.fn (txR (four z))))]) (Nm [(0, .ptr ⟨false, 2, 0, 0⟩), (3, .ptr ⟨false, 10, 0, 0⟩), (37, sL 11 4), (38, iT 4), (39, iT (((i + 1 : Nat)) : Int))] [(2, .cells true 7 1 (.fn fun _ => netR 6 7 8 m (nd4 nd z (i + 1)).length (br).length)), (3, .mSI true (zipF 0 (nm))), (4, .mSI true (zipF 0 (nd4 nd z (i + 1)))), (5, .mSI true (zipF 0 (br))), (6, .cells true 8 (m) (.fn fun j => elR (E j))), (7, .cells true 1 ((nd4 nd z (i + 1)).length) (.fn (txR (lget (nd4 nd z (i + 1)))))), (8, .cells true 1 ((br).length) (.fn (txR (lget (br))))), (10, .cells true 8 1 (.fn fun _ => elR z)), (11, .cells true 1 4 (.fn (txR (four z))))]) := by
 have l4 := nd4_len nd z i
 refine (ptL 6 (by omega) z m (nd4 nd z i).length br.length i E (zipF 0 nm) (zipF 0 (nd4 nd z i)) (zipF 0 br) (lget ((nd4 nd z i))) (lget (br)) (four z) (fun _ _ _ _ => by omega) (fun _ _ _ _ => by omega)).renG fun e fr' H' h => ?_
 rw [decide_eq_true (show (i : Int) < 4 by omega), cond_true, Nat.zero_add, isS_zip] at h
 have same : addN (nd4 nd z i) (four z i) = (nd4 nd z i) → (e = .normal ∧ fr' = frL [(0, .ptr ⟨false, 2, 0, 0⟩), (3, .ptr ⟨false, 10, 0, 0⟩), (37, sL 11 4), (38, iT 4), (39, iT ((i : Int) + 1 : Int))] ∧ H' = hpL [(2, .cells true 7 1 (.fn fun _ => netR 6 7 8 m ((nd4 nd z i)).length (br).length)), (3, .mSI true (zipF 0 (nm))), (4, .mSI true (zipF 0 ((nd4 nd z i)))), (5, .mSI true (zipF 0 (br))), (6, .cells true 8 (m) (.fn fun j => elR (E j))), (7, .cells true 1 (((nd4 nd z i)).length) (.fn (txR (lget ((nd4 nd z i)))))), (8, .cells true 1 ((br).length) (.fn (txR (lget (br))))), (10, .cells true 8 1 (.fn fun _ => elR z)), (11, .cells true 1 4 (.fn (txR (four z))))]) → ∃ σ fl bl, (∀ g, g < 6 → σ g = g) ∧ RenF 12 σ fr' fl ∧ RenG 12 σ H' bl ∧ (∀ i j, i < 12 → j < 12 → σ i = σ j → i = j) ∧ Nm [(0, .ptr ⟨false, 2, 0, 0⟩), (3, .ptr ⟨false, 10, 0, 0⟩), (37, sL 11 4), (38, iT 4), (39, iT (((i + 1 : Nat)) : Int))] [(2, .cells true 7 1 (.fn fun _ => netR 6 7 8 m (nd4 nd z (i + 1)).length (br).length)), (3, .mSI true (zipF 0 (nm))), (4, .mSI true (zipF 0 (nd4 nd z (i + 1)))), (5, .mSI true (zipF 0 (br))), (6, .cells true 8 (m) (.fn fun j => elR (E j))), (7, .cells true 1 ((nd4 nd z (i + 1)).length) (.fn (txR (lget (nd4 nd z (i + 1)))))), (8, .cells true 1 ((br).length) (.fn (txR (lget (br))))), (10, .cells true 8 1 (.fn fun _ => elR z)), (11, .cells true 1 4 (.fn (txR (four z))))] e (frL fl) (hpL bl) := by
  rintro q ⟨rfl, rfl, rfl⟩
  have q2 : nd4 nd z (i + 1) = (nd4 nd z i) := q
  rw [q2]
  exact ⟨id, [(0, .ptr ⟨false, 2, 0, 0⟩), (3, .ptr ⟨false, 10, 0, 0⟩), (37, sL 11 4), (38, iT 4), (39, iT (((i + 1 : Nat)) : Int))], [(2, .cells true 7 1 (.fn fun _ => netR 6 7 8 m ((nd4 nd z i)).length (br).length)), (3, .mSI true (zipF 0 (nm))), (4, .mSI true (zipF 0 ((nd4 nd z i)))), (5, .mSI true (zipF 0 (br))), (6, .cells true 8 (m) (.fn fun j => elR (E j))), (7, .cells true 1 (((nd4 nd z i)).length) (.fn (txR (lget ((nd4 nd z i)))))), (8, .cells true 1 ((br).length) (.fn (txR (lget (br))))), (10, .cells true 8 1 (.fn fun _ => elR z)), (11, .cells true 1 4 (.fn (txR (four z))))], fun g hg => rfl, (eRr rfl), ⟨rgB rfl rfl rfl (by omega), rgM rfl rfl (by omega), rgM rfl rfl (by omega), rgM rfl rfl (by omega), rgR rfl rfl (fun j _ => rfl) (fun j _ => rfl) (by omega), rgR rfl rfl (fun j _ => rfl) (fun j _ => rfl) (by omega), rgR rfl rfl (fun j _ => rfl) (fun j _ => rfl) (by omega), rgB rfl rfl rfl (by omega), rgR rfl rfl (fun j _ => rfl) (fun j _ => rfl) (by omega), trivial⟩, fun i j _ _ h => h, rfl, rfl, rfl⟩
 refine cond_elim h (fun t h => same (by unfold addN; rw [t]; rfl) h) (fun t1 h => ?_)
 refine cond_elim h (fun t h => same (by unfold addN; rw [t1, t]; rfl) h) (fun t2 h => ?_)
 refine cond_elim h (fun t h => same (by unfold addN; rw [t1, t2, t]; rfl) h) (fun t3 h => ?_)
 obtain ⟨rfl, rfl, rfl⟩ := h
 have q2 : nd4 nd z (i + 1) = (nd4 nd z i) ++ [four z i] := by
  show addN (nd4 nd z i) (four z i) = _
  unfold addN; rw [t1, t2, t3]; rfl
 have len : (nd4 nd z (i + 1)).length = (nd4 nd z i).length + 1 := by rw [q2]; simp
 refine ⟨sg 7 13, [(0, .ptr ⟨false, 2, 0, 0⟩), (3, .ptr ⟨false, 10, 0, 0⟩), (37, sL 11 4), (38, iT 4), (39, iT (((i + 1 : Nat)) : Int))], [(2, .cells true 7 1 (.fn fun _ => netR 6 7 8 m (nd4 nd z (i + 1)).length (br).length)), (3, .mSI true (zipF 0 (nm))), (4, .mSI true (zipF 0 (nd4 nd z (i + 1)))), (5, .mSI true (zipF 0 (br))), (6, .cells true 8 (m) (.fn fun j => elR (E j))), (7, .cells true 1 ((nd4 nd z (i + 1)).length) (.fn (txR (lget (nd4 nd z (i + 1)))))), (8, .cells true 1 ((br).length) (.fn (txR (lget (br))))), (10, .cells true 8 1 (.fn fun _ => elR z)), (11, .cells true 1 4 (.fn (txR (four z))))], sg_low (by omega), (eRr rfl), ⟨rgB rfl (by rw [len]; rfl) rfl (by omega), rgM rfl rfl (by omega), rgM rfl (by rw [q2]; exact put_zip0 rfl (none_of t1)) (by omega), rgM rfl rfl (by omega), rgR rfl rfl (fun j _ => rfl) (fun j _ => rfl) (by omega), rgR rfl len.symm (fun j hj => by rw [q2]; exact lget_app _ _ j hj) (fun j _ => rfl) (by omega), rgR rfl rfl (fun j _ => rfl) (fun j _ => rfl) (by omega), rgB rfl rfl rfl (by omega), rgR rfl rfl (fun j _ => rfl) (fun j _ => rfl) (by omega), trivial⟩, sg_inj (by omega), rfl, rfl, rfl⟩
noncomputable abbrev ZBD (v0 : List Tx) (v1 : El) (w0) := (.cells true 1 ((nd4 v0 v1 w0).length) (.fn (txR (lget (nd4 v0 v1 w0)))) : ABk)
noncomputable abbrev ZCP (v0 : List Tx) (v1 : El) := (.mSI true (zipF 0 (nd4 v0 v1 4)) : ABk)
theorem ptL_end (z : El) (m : Nat) (E : tE) (nm nd br : List Tx) (hq : nd.length ≤ 1100) :
  GoesB Try.prog ZCr Try.f36.ntmps 6 12 12 (frL [(0, ZA 2), (3, ZA 10), (37, sL 11 4), (38, iT 4), (39, iT ((4 : Nat) : Int))]) (hpL [(2, .cells true 7 1 (.fn fun _ => netR 6 7 8 m (nd4 nd z 4).length (br).length)), (3, Z8 nm), (4, ZCP nd z), (5, Z8 br), (6, Zb m E), (7, ZBD nd z 4), (8, Zi br), (10, ZR z), (11, ZBt z)]) (Xm 0 ZDk [(2, .cells true 7 1 (.fn fun _ => netR 6 7 8 m (nd4 nd z 4).length (br).length)), (3, Z8 nm), (4, ZCP nd z), (5, Z8 br), (6, Zb m E), (7, ZBD nd z 4), (8, Zi br), (10, ZR z)]) := by
 have l4 := nd4_len nd z 4
 refine (ptL 6 (by omega) z m (nd4 nd z 4).length br.length 4 E (zipF 0 nm) (zipF 0 (nd4 nd z 4)) (zipF 0 br) (lget (nd4 nd z 4)) (lget (br)) (four z) (fun _ _ _ _ => by omega) (fun _ _ _ _ => by omega)).renG fun e fr' H' h => ?_
 rw [decide_eq_false (show ¬ ((4 : Nat) : Int) < 4 by omega), cond_false] at h
 obtain ⟨rfl, rfl, rfl⟩ := h
 exact ⟨id, ZDk, [(2, .cells true 7 1 (.fn fun _ => netR 6 7 8 m (nd4 nd z 4).length (br).length)), (3, Z8 nm), (4, ZCP nd z), (5, Z8 br), (6, Zb m E), (7, ZBD nd z 4), (8, Zi br), (10, ZR z)], fun g hg => rfl, (eRr rfl), ⟨rgB rfl rfl rfl (by omega), rgM rfl rfl (by omega), rgM rfl rfl (by omega), rgM rfl rfl (by omega), rgR rfl rfl (fun j _ => rfl) (fun j _ => rfl) (by omega), rgR rfl rfl (fun j _ => rfl) (fun j _ => rfl) (by omega), rgR rfl rfl (fun j _ => rfl) (fun j _ => rfl) (by omega), rgB rfl rfl rfl (by omega), trivial⟩, fun i j _ _ h => h, rfl, rfl, rfl⟩
theorem isBr_5 {z : El} (h : decide (z.k = 5) = true) : isBr z = true := by unfold isBr; rw [h]; rfl
theorem isBr_7 {z : El} (h : decide (z.k = 7) = true) : isBr z = true := by unfold isBr; rw [h]; simp
theorem isBr_n {z : El} (h : decide (z.k = 5) = false) (h2 : decide (z.k = 7) = false) : isBr z = false := by unfold isBr; rw [h, h2]; rfl
noncomputable abbrev Z3 (v0 : Nat) (v1 : tE) := (.cells true 8 ((v0 + 1)) (.fn fun j => elR (v1 j)) : ABk)
noncomputable abbrev ZBn := iT ((0 : Nat) : Int)
noncomputable abbrev ZBu (v0 : List Tx) (v1 : El) := (.mSI true (zipF 0 (v0 ++ [v1.n])) : ABk)
noncomputable abbrev ZCV (v0 : Nat) (v1 : List Tx) (v2 : El) (v3 : List Tx) (w0) := (.cells true 7 1 (.fn fun _ => netR 6 7 8 (v0 + 1) (nd4 v1 v2 w0).length (v3).length) : ABk)
noncomputable abbrev ZDw (v0 : Nat) (v1 : List Tx) (v2 : El) (v3 v4 : List Tx) (v5 : tE) := ([(2, .cells true 7 1 (.fn fun _ => netR 6 7 8 (v0 + 1) (nd4 v1 v2 4).length ((bif isBr v2 then v3 ++ [v2.n] else v3)).length)), (3, ZBu v4 v2), (4, ZCP v1 v2), (5, .mSI true (zipF 0 ((bif isBr v2 then v3 ++ [v2.n] else v3)))), (6, Z3 v0 v5), (7, ZBD v1 v2 4), (8, .cells true 1 (((bif isBr v2 then v3 ++ [v2.n] else v3)).length) (.fn (txR (lget ((bif isBr v2 then v3 ++ [v2.n] else v3))))))] : tH)
theorem put_goes (z : El) (m : Nat) (E : tE) (nm nd br : List Tx) (hE : E m = z) (hm : m ≤ 256) (hl : m = nm.length) (hq : nd.length ≤ 1024) (hr : br.length ≤ 256) (hn : pos z.n nm = none) (hb : pos z.n br = none) :
  GoesB Try.prog (bodyOf Try.f36) Try.f36.ntmps 6 10 12 (frameOf [.ptr ⟨false, 2, 0, 0⟩, .agg (elR z)] 0 .e) (hpL [(2, .cells true 7 1 (.fn fun _ => netR 6 7 8 m (nd).length (br).length)), (3, .mSI true (zipF 0 (nm))), (4, .mSI true (zipF 0 (nd))), (5, .mSI true (zipF 0 (br))), (6, .cells true 8 (m) (.fn fun j => elR (E j))), (7, .cells true 1 ((nd).length) (.fn (txR (lget (nd))))), (8, .cells true 1 ((br).length) (.fn (txR (lget (br)))))]) (fun e fr' H' => (e = .ret ∨ e = .normal) ∧ H' = hpL [(2, .cells true 7 1 (.fn fun _ => netR 6 7 8 (m + 1) (nd4 nd z 4).length ((bif isBr z then br ++ [z.n] else br)).length)), (3, .mSI true (zipF 0 (nm ++ [z.n]))), (4, .mSI true (zipF 0 (nd4 nd z 4))), (5, .mSI true (zipF 0 ((bif isBr z then br ++ [z.n] else br)))), (6, .cells true 8 ((m + 1)) (.fn fun j => elR (E j))), (7, .cells true 1 ((nd4 nd z 4).length) (.fn (txR (lget (nd4 nd z 4))))), (8, .cells true 1 (((bif isBr z then br ++ [z.n] else br)).length) (.fn (txR (lget ((bif isBr z then br ++ [z.n] else br))))))]) := by
 rw [put_is]
 refine GoesB.seqN (K1 := 11) (F1 := [(0, .ptr ⟨false, 2, 0, 0⟩), (3, .ptr ⟨false, 10, 0, 0⟩)]) (H1 := [(2, .cells true 7 1 (.fn fun _ => netR 6 7 8 m (nd).length (br).length)), (3, .mSI true (zipF 0 (nm))), (4, .mSI true (zipF 0 (nd))), (5, .mSI true (zipF 0 (br))), (6, .cells true 8 (m) (.fn fun j => elR (E j))), (7, .cells true 1 ((nd).length) (.fn (txR (lget (nd))))), (8, .cells true 1 ((br).length) (.fn (txR (lget (br))))), (10, .cells true 8 1 (.fn fun _ => elR z))]) (GoesB.toN (ptA 6 (by omega) z m nd.length br.length E (zipF 0 nm) (zipF 0 nd) (zipF 0 br) (lget (nd)) (lget (br))) (eGg rfl) ⟨hs rfl, hs rfl, hs rfl, hs rfl, hs rfl, hs rfl, hs rfl, hbl1 rfl, trivial⟩) (by omega) ?_
 refine GoesB.seqN (K1 := 11) (F1 := [(0, .ptr ⟨false, 2, 0, 0⟩), (3, .ptr ⟨false, 10, 0, 0⟩)]) (H1 := [(2, .cells true 7 1 (.fn fun _ => netR 6 7 8 m (nd).length (br).length)), (3, .mSI true (zipF 0 (nm ++ [z.n]))), (4, .mSI true (zipF 0 (nd))), (5, .mSI true (zipF 0 (br))), (6, .cells true 8 (m) (.fn fun j => elR (E j))), (7, .cells true 1 ((nd).length) (.fn (txR (lget (nd))))), (8, .cells true 1 ((br).length) (.fn (txR (lget (br))))), (10, .cells true 8 1 (.fn fun _ => elR z))]) (GoesB.toN (ptB 6 (by omega) z m nd.length br.length E (zipF 0 nm) (zipF 0 nd) (zipF 0 br) (lget (nd)) (lget (br))) (eGg rfl) ⟨hs rfl, gM rfl (put_zip0 hl hn), eHh rfl⟩) (by omega) ?_
 refine GoesB.seqN (K1 := 11) (F1 := [(0, .ptr ⟨false, 2, 0, 0⟩), (3, .ptr ⟨false, 10, 0, 0⟩)]) (H1 := [(2, .cells true 7 1 (.fn fun _ => netR 6 7 8 (m + 1) (nd).length (br).length)), (3, .mSI true (zipF 0 (nm ++ [z.n]))), (4, .mSI true (zipF 0 (nd))), (5, .mSI true (zipF 0 (br))), (6, .cells true 8 ((m + 1)) (.fn fun j => elR (E j))), (7, .cells true 1 ((nd).length) (.fn (txR (lget (nd))))), (8, .cells true 1 ((br).length) (.fn (txR (lget (br))))), (10, .cells true 8 1 (.fn fun _ => elR z))]) ?_ (by omega) ?_
 ·refine (ptC 6 (by omega) z m nd.length br.length E (zipF 0 (nm ++ [z.n])) (zipF 0 nd) (zipF 0 br) (lget (nd)) (lget (br)) (by omega) (by omega)).renG fun e fr' H' h => ?_
  obtain ⟨rfl, rfl, rfl⟩ := h
  exact ⟨sg 6 12, [(0, .ptr ⟨false, 2, 0, 0⟩), (3, .ptr ⟨false, 10, 0, 0⟩)], [(2, .cells true 7 1 (.fn fun _ => netR 6 7 8 (m + 1) (nd).length (br).length)), (3, .mSI true (zipF 0 (nm ++ [z.n]))), (4, .mSI true (zipF 0 (nd))), (5, .mSI true (zipF 0 (br))), (6, .cells true 8 ((m + 1)) (.fn fun j => elR (E j))), (7, .cells true 1 ((nd).length) (.fn (txR (lget (nd))))), (8, .cells true 1 ((br).length) (.fn (txR (lget (br))))), (10, .cells true 8 1 (.fn fun _ => elR z))], sg_low (by omega), (eRr rfl), ⟨rgB rfl rfl rfl (by omega), rgM rfl rfl (by omega), rgM rfl rfl (by omega), rgM rfl rfl (by omega), rgR rfl rfl (fun j hj => by
   show (bif decide (j < m) then elR (E j) else elR z) = elR (E j)
   by_cases c : j < m
   ·rw [decide_eq_true c, cond_true]
   ·rw [decide_eq_false c, cond_false, ← hE]; congr 2; omega) (fun j _ => rfl) (by omega), rgR rfl rfl (fun j _ => rfl) (fun j _ => rfl) (by omega), rgR rfl rfl (fun j _ => rfl) (fun j _ => rfl) (by omega), rgB rfl rfl rfl (by omega), trivial⟩, sg_inj (by omega), rfl, rfl, rfl⟩
 refine GoesB.seqN (K1 := 12) (F1 := [(0, .ptr ⟨false, 2, 0, 0⟩), (3, .ptr ⟨false, 10, 0, 0⟩)]) (H1 := [(2, .cells true 7 1 (.fn fun _ => netR 6 7 8 (m + 1) (nd4 nd z 4).length (br).length)), (3, .mSI true (zipF 0 (nm ++ [z.n]))), (4, .mSI true (zipF 0 (nd4 nd z 4))), (5, .mSI true (zipF 0 (br))), (6, .cells true 8 ((m + 1)) (.fn fun j => elR (E j))), (7, .cells true 1 ((nd4 nd z 4).length) (.fn (txR (lget (nd4 nd z 4))))), (8, .cells true 1 ((br).length) (.fn (txR (lget (br))))), (10, .cells true 8 1 (.fn fun _ => elR z))]) ?_ (by omega) ?_
 ·refine GoesB.seqN (K1 := 12) (F1 := [(0, .ptr ⟨false, 2, 0, 0⟩), (3, .ptr ⟨false, 10, 0, 0⟩), (37, sL 11 4), (38, iT 4), (39, iT ((0 : Nat) : Int))]) (H1 := [(2, .cells true 7 1 (.fn fun _ => netR 6 7 8 (m + 1) (nd4 nd z 0).length (br).length)), (3, .mSI true (zipF 0 (nm ++ [z.n]))), (4, .mSI true (zipF 0 (nd4 nd z 0))), (5, .mSI true (zipF 0 (br))), (6, .cells true 8 ((m + 1)) (.fn fun j => elR (E j))), (7, .cells true 1 ((nd4 nd z 0).length) (.fn (txR (lget (nd4 nd z 0))))), (8, .cells true 1 ((br).length) (.fn (txR (lget (br))))), (10, .cells true 8 1 (.fn fun _ => elR z)), (11, .cells true 1 4 (.fn (txR (four z))))]) (GoesB.toN (ptD 6 (by omega) z (m + 1) nd.length br.length E (zipF 0 (nm ++ [z.n])) (zipF 0 nd) (zipF 0 br) (lget (nd)) (lget (br))) ⟨re rfl, re rfl, ⟨_, rfl, AV.ge.slc _ _ _ rfl⟩, ⟨_, rfl, AV.ge.int _ _ _ _⟩, ⟨_, rfl, AV.ge.int _ _ _ _⟩, trivial⟩ ⟨hs rfl, hs rfl, hs rfl, hs rfl, hs rfl, hs rfl, hs rfl, hs rfl, ⟨_, rfl, rfl, rfl, rfl, fun j hj => by
   have : j = 0 ∨ j = 1 ∨ j = 2 ∨ j = 3 := by omega
   rcases this with rfl | rfl | rfl | rfl <;> rfl⟩, trivial⟩) (by omega) ?_
  refine (GoesB.rounds 4 (fun i => [(0, .ptr ⟨false, 2, 0, 0⟩), (3, .ptr ⟨false, 10, 0, 0⟩), (37, sL 11 4), (38, iT 4), (39, iT ((i : Nat) : Int))]) (fun i => [(2, .cells true 7 1 (.fn fun _ => netR 6 7 8 (m + 1) ((nd4 nd z i)).length (br).length)), (3, .mSI true (zipF 0 (nm ++ [z.n]))), (4, .mSI true (zipF 0 ((nd4 nd z i)))), (5, .mSI true (zipF 0 (br))), (6, .cells true 8 ((m + 1)) (.fn fun j => elR (E j))), (7, .cells true 1 (((nd4 nd z i)).length) (.fn (txR (lget ((nd4 nd z i)))))), (8, .cells true 1 ((br).length) (.fn (txR (lget (br))))), (10, .cells true 8 1 (.fn fun _ => elR z)), (11, .cells true 1 4 (.fn (txR (four z))))]) (fun i hi => ptL_step z (m + 1) E (nm ++ [z.n]) nd br (by omega) i hi) (ptL_end z (m + 1) E (nm ++ [z.n]) nd br (by omega))).renG fun e fr' H' h => ?_
  obtain ⟨rfl, rfl, rfl⟩ := h
  exact ⟨id, [(0, .ptr ⟨false, 2, 0, 0⟩), (3, .ptr ⟨false, 10, 0, 0⟩)], [(2, .cells true 7 1 (.fn fun _ => netR 6 7 8 (m + 1) (nd4 nd z 4).length (br).length)), (3, .mSI true (zipF 0 (nm ++ [z.n]))), (4, .mSI true (zipF 0 (nd4 nd z 4))), (5, .mSI true (zipF 0 (br))), (6, .cells true 8 ((m + 1)) (.fn fun j => elR (E j))), (7, .cells true 1 ((nd4 nd z 4).length) (.fn (txR (lget (nd4 nd z 4))))), (8, .cells true 1 ((br).length) (.fn (txR (lget (br))))), (10, .cells true 8 1 (.fn fun _ => elR z))], fun g hg => rfl, (eRr rfl), ⟨rgB rfl rfl rfl (by omega), rgM rfl rfl (by omega), rgM rfl rfl (by omega), rgM rfl rfl (by omega), rgR rfl rfl (fun j _ => rfl) (fun j _ => rfl) (by omega), rgR rfl rfl (fun j _ => rfl) (fun j _ => rfl) (by omega), rgR rfl rfl (fun j _ => rfl) (fun j _ => rfl) (by omega), rgB rfl rfl rfl (by omega), trivial⟩, fun i j _ _ h => h, rfl, rfl, rfl⟩
 have big : isBr z = true → ∀ e fr' H', (e = .normal ∧ fr' = frL [(0, .ptr ⟨false, 2, 0, 0⟩), (3, .ptr ⟨false, 10, 0, 0⟩)] ∧ H' = hpL [(2, .cells true 7 1 (.fn fun j => bif Nat.beq j 0 then (netR 6 7 13 (m + 1) (nd4 nd z 4).length (br.length + 1)) else (netR 6 7 8 (m + 1) (nd4 nd z 4).length br.length))), (3, ABk.mSI true (zipF 0 (nm ++ [z.n]))), (4, ABk.mSI true (zipF 0 (nd4 nd z 4))), (5, ABk.mSI true (lput seq (El.n z) (↑br.length : Int) (zipF 0 br))), (6, .cells true 8 (m + 1) (.fn fun j => (elR (E j)))), (7, .cells true 1 (nd4 nd z 4).length (.fn (txR (lget (nd4 nd z 4))))), (13, .cells true 1 (br.length + 1) (.fn fun j => bif decide (j < br.length) then (txR (lget (br)) j) else [AV.str true (El.n z)]))]) → ∃ σ fl bl, (∀ g, g < 6 → σ g = g) ∧ RenF 12 σ fr' fl ∧ RenG 12 σ H' bl ∧ (∀ i j, i < 12 → j < 12 → σ i = σ j → i = j) ∧ ((e = Ex.ret ∨ e = .normal) ∧ hpL bl = hpL [(2, .cells true 7 1 (.fn fun _ => netR 6 7 8 (m + 1) (nd4 nd z 4).length ((bif isBr z then br ++ [z.n] else br)).length)), (3, .mSI true (zipF 0 (nm ++ [z.n]))), (4, .mSI true (zipF 0 (nd4 nd z 4))), (5, .mSI true (zipF 0 ((bif isBr z then br ++ [z.n] else br)))), (6, .cells true 8 ((m + 1)) (.fn fun j => elR (E j))), (7, .cells true 1 ((nd4 nd z 4).length) (.fn (txR (lget (nd4 nd z 4))))), (8, .cells true 1 (((bif isBr z then br ++ [z.n] else br)).length) (.fn (txR (lget ((bif isBr z then br ++ [z.n] else br))))))]) := by
  rintro hB e fr' H' ⟨rfl, rfl, rfl⟩
  rw [hB, cond_true]
  have len : (br ++ [z.n]).length = br.length + 1 := by simp
  exact ⟨sg 8 13, [(0, .ptr ⟨false, 2, 0, 0⟩)], [(2, .cells true 7 1 (.fn fun _ => netR 6 7 8 (m + 1) (nd4 nd z 4).length (br ++ [z.n]).length)), (3, .mSI true (zipF 0 (nm ++ [z.n]))), (4, .mSI true (zipF 0 (nd4 nd z 4))), (5, .mSI true (zipF 0 (br ++ [z.n]))), (6, .cells true 8 ((m + 1)) (.fn fun j => elR (E j))), (7, .cells true 1 ((nd4 nd z 4).length) (.fn (txR (lget (nd4 nd z 4))))), (8, .cells true 1 ((br ++ [z.n]).length) (.fn (txR (lget (br ++ [z.n])))))], sg_low (by omega), ⟨⟨_, rfl, AV.ge.refl _, rfl⟩, trivial⟩, ⟨rgB rfl (by rw [len]; rfl) rfl (by omega), rgM rfl rfl (by omega), rgM rfl rfl (by omega), rgM rfl (put_zip0 rfl hb) (by omega), rgR rfl rfl (fun j _ => rfl) (fun j _ => rfl) (by omega), rgR rfl rfl (fun j _ => rfl) (fun j _ => rfl) (by omega), rgR rfl len.symm (fun j hj => lget_app _ _ j hj) (fun j _ => rfl) (by omega), trivial⟩, sg_inj (by omega), .inr rfl, rfl⟩
 refine (ptM 6 (by omega) z (m + 1) (nd4 nd z 4).length br.length E (zipF 0 (nm ++ [z.n])) (zipF 0 (nd4 nd z 4)) (zipF 0 br) (lget (nd4 nd z 4)) (lget (br)) (by omega) (by omega)).renG fun e fr' H' h => ?_
 refine cond_elim h (fun t h => big (isBr_5 t) _ _ _ h) (fun t1 h => ?_)
 refine cond_elim h (fun t h => big (isBr_7 t) _ _ _ h) (fun t2 h => ?_)
 obtain ⟨rfl, rfl, rfl⟩ := h
 rw [isBr_n t1 t2, cond_false]
 exact ⟨id, [(0, .ptr ⟨false, 2, 0, 0⟩)], [(2, .cells true 7 1 (.fn fun _ => netR 6 7 8 (m + 1) (nd4 nd z 4).length (br).length)), (3, .mSI true (zipF 0 (nm ++ [z.n]))), (4, .mSI true (zipF 0 (nd4 nd z 4))), (5, .mSI true (zipF 0 (br))), (6, .cells true 8 ((m + 1)) (.fn fun j => elR (E j))), (7, .cells true 1 ((nd4 nd z 4).length) (.fn (txR (lget (nd4 nd z 4))))), (8, .cells true 1 ((br).length) (.fn (txR (lget (br)))))], fun g hg => rfl, ⟨⟨_, rfl, AV.ge.refl _, rfl⟩, trivial⟩, ⟨rgB rfl rfl rfl (by omega), rgM rfl rfl (by omega), rgM rfl rfl (by omega), rgM rfl rfl (by omega), rgR rfl rfl (fun j _ => rfl) (fun j _ => rfl) (by omega), rgR rfl rfl (fun j _ => rfl) (fun j _ => rfl) (by omega), rgR rfl rfl (fun j _ => rfl) (fun j _ => rfl) (by omega), trivial⟩, fun i j _ _ h => h, .inr rfl, rfl⟩


noncomputable abbrev ZB (v0 : Nat) (v1 : tE) := (.cells false 8 v0 (.fn fun j => elR (v1 j)) : ABk)
noncomputable abbrev ZO := (.cells true 2 1 (.fn fun _ => [.int false .i64 (0), .int false .i64 (0)]) : ABk)
noncomputable def hoL (n m q r : Nat) (E : tE) (M1 M2 M3 : tM) (nd br : tX) : List (Nat × ABk) := [(0, ZB n E), (1, ZO), (2, Z2 m q r), (3, .mSI true M1), (4, .mSI true M2), (5, .mSI true M3), (6, ZG m E), (7, ZV q nd), (8, ZV r br)]
noncomputable abbrev ZF (v0 : Nat) (w0) := (.slc true false ⟨false, w0, 0, 0⟩ v0 : AV)
theorem ofA (B : Nat) (hB : B ≤ 1) (n : Nat) (E : tE) : GoesB Try.prog ((nav [0] (bodyOf Try.f12))) Try.f12.ntmps B 1 2 (frameOf [ZF n 0] 0 .e) (hpL [(0, ZB n E)]) (pP .normal [(0, ZF n 0), (3, ZA 1)] [(0, ZB n E), (1, .cells true 2 1 (.lit [] (.n .e (some [Zc, Zc]) .e)))]) := rdE [] trivial hB
noncomputable abbrev ZDb := (.cells true 2 1 (.fn fun x => [Zc, Zc]) : ABk)
noncomputable abbrev ZD9 := (.cells true 2 1 (.fn fun j => bif Nat.beq j 0 then [.int false .i64 3, .int false .i64 (-1 : Int)] else [Zc, Zc]) : ABk)
theorem ofB (B : Nat) (hB : B ≤ 2) (n : Nat) (E : tE) : GoesB Try.prog ((nav [1,0] (bodyOf Try.f12))) Try.f12.ntmps B 2 2 (frL [(0, ZF n 0), (3, ZA 1)]) (hpL [(0, ZB n E), (1, ZO)]) fun e fr' H' => (cond (decide (256 < (↑n : Int))) (pP .ret [(0, ZF n 0), (2, .nilp), (3, ZA 1)] [(0, ZB n E), (1, ZD9)] e fr' H') (pP .normal [(0, ZF n 0), (3, ZA 1)] [(0, ZB n E), (1, ZDb)] e fr' H')) := cD (fun q0 t0 => rdE [tT] (I1 t0) hB) (fun q0 t0 => rdE [fF] (I1 t0) hB)
theorem ofC (B : Nat) (hB : B ≤ 2) (n : Nat) (E : tE) : GoesB Try.prog ((nav [1,1,0] (bodyOf Try.f12))) Try.f12.ntmps B 2 6 (frL [(0, ZF n 0), (3, ZA 1)]) (hpL [(0, ZB n E), (1, ZO)]) (pP .normal [(0, ZF n 0), (3, ZA 1), (4, ZA 5)] [(0, ZB n E), (1, ZDb), (2, .mSI false []), (3, .mSI false []), (4, .mSI false []), (5, .cells true 7 1 (.lit [] (.n .e (some [.bool true, .nils, AV.mp 2, .nils, AV.mp 3, .nils, AV.mp 4]) .e)))]) := rdE [] trivial hB
theorem ofD (B : Nat) (hB : B ≤ 9) (n m q r : Nat) (E : tE) (M1 M2 M3 : tM) (nd br : tX) : GoesB Try.prog ((nav [1,1,1,0,0] (bodyOf Try.f12))) Try.f12.ntmps B 9 9 (frL [(0, ZF n 0), (3, ZA 1), (4, ZA 2)]) (hpL (hoL n m q r E M1 M2 M3 nd br)) (pP .normal [(3, ZA 1), (4, ZA 2), (19, ZF n 0), (20, iT (↑n : Int)), (21, Zc)] [(0, ZB n E), (1, ZDb), (2, Z2 m q r), (3, .mSI true M1), (4, .mSI true M2), (5, .mSI true M3), (6, ZG m E), (7, ZV q nd), (8, ZV r br)]) := rdE [] trivial hB
noncomputable abbrev ZCk := nav [1,1,1,0,1,0,0,0] (bodyOf Try.f12)
noncomputable abbrev ZDP (v0 v1 : Nat) := ([(3, ZA 1), (4, ZA 2), (19, ZF v0 0), (20, iT v0), (21, iT (v1 : Int))] : tF)
theorem oeA (B : Nat) (hB : B ≤ 9) (n m q r i : Nat) (E : tE) (M1 M2 M3 : tM) (nd br : tX) : GoesB Try.prog (ZCk) Try.f12.ntmps B 9 9 (frL (ZDP n i)) (hpL (hoL n m q r E M1 M2 M3 nd br)) (pP .normal [(3, ZA 1), (4, ZA 2), (19, ZF n 0), (20, iT (↑n : Int)), (21, iT (↑i : Int)), (22, .sbool (decide ((↑i : Int) < (↑n : Int))))] [(0, ZB n E), (1, ZDb), (2, Z2 m q r), (3, .mSI true M1), (4, .mSI true M2), (5, .mSI true M3), (6, ZG m E), (7, ZV q nd), (8, ZV r br)]) := rdE [] trivial hB
noncomputable abbrev ZCf := nav [1,1,1,0,1,0,0,1,0] (bodyOf Try.f12)
noncomputable abbrev ZEt (v0 : Nat) := iT (↑v0 : Int)
noncomputable abbrev ZEe (v0 v1 : Nat) := ([(3, ZA 1), (4, ZA 2), (19, ZF v0 0), (20, ZEt v0), (21, ZEt v1)] : tF)
theorem oeB (B : Nat) (hB : B ≤ 9) (n m q r i : Nat) (E : tE) (M1 M2 M3 : tM) (nd br : tX) (t : Bool) : GoesB Try.prog (ZCf) Try.f12.ntmps B 9 9 (frL [(3, ZA 1), (4, ZA 2), (19, ZF n 0), (20, iT n), (21, iT (i : Int)), (22, .sbool t)]) (hpL (hoL n m q r E M1 M2 M3 nd br)) fun e fr' H' => (cond (t) (pP .normal (ZEe n i) [(0, ZB n E), (1, ZDb), (2, Z2 m q r), (3, .mSI true M1), (4, .mSI true M2), (5, .mSI true M3), (6, ZG m E), (7, ZV q nd), (8, ZV r br)] e fr' H') (pP (.exit 0) (ZEe n i) [(0, ZB n E), (1, ZDb), (2, Z2 m q r), (3, .mSI true M1), (4, .mSI true M2), (5, .mSI true M3), (6, ZG m E), (7, ZV q nd), (8, ZV r br)] e fr' H')) := cI (fun t0 => rdE [tT] (I1 t0) hB) (fun t0 => rdE [fF] (I1 t0) hB)
noncomputable abbrev ZBJ (v0 : tE) (v1 : Nat) := (.cells true 8 1 (.lit [] (T.n T.e (Option.some (elR (v0 (0 + v1)))) T.e)) : ABk)
noncomputable abbrev ZBp := nav [1,1,1,0,1,0,0,1,1,0,0,0] (bodyOf Try.f12)
noncomputable abbrev ZEK (v0 v1 : Nat) := ([(3, ZA 1), (4, ZA 2), (5, ZEt v0), (6, ZA 9), (19, ZF v1 0), (20, ZEt v1), (21, ZEt v0)] : tF)
theorem oeC (B : Nat) (hB : B ≤ 9) (n m q r i : Nat) (E : tE) (M1 M2 M3 : tM) (nd br : tX) (x0 : ((↑i : Int) < (↑n : Int))) (x1 : (0 + i < n)) : GoesB Try.prog (ZBp) Try.f12.ntmps B 9 10 (frL (ZDP n i)) (hpL (hoL n m q r E M1 M2 M3 nd br)) (pP .normal (ZEK i n) [(0, ZB n E), (1, ZDb), (2, Z2 m q r), (3, .mSI true M1), (4, .mSI true M2), (5, .mSI true M3), (6, ZG m E), (7, ZV q nd), (8, ZV r br), (9, ZBJ E i)]) := rdE [] (I3 (ai (show 0 ≤ (↑i : Int) by omega) x0) x1 (show 8 ≤ 8 by omega)) hB
noncomputable abbrev ZBm := nav [1,1,1,0,1,0,0,1,1,0,0,1,0] (bodyOf Try.f12)
noncomputable abbrev ZDQ (v0 v1 : Nat) := ([(3, ZA 1), (4, ZA 2), (19, ZF v0 0), (20, iT v0), (21, iT (v1 : Int)), (5, iT (v1 : Int)), (6, ZA 9)] : tF)
theorem oeD (B : Nat) (hB : B ≤ 10) (z : El) (n m q r i : Nat) (E : tE) (M1 M2 M3 : tM) (nd br : tX) : GoesB Try.prog (ZBm) Try.f12.ntmps B 10 10 (frL (ZDQ n i)) (hpL (hoL n m q r E M1 M2 M3 nd br ++ [(9, ZR z)])) fun e fr' H' => (cond (decide (chk_0 (El.k z) (El.n z) (El.a z) (El.b z) (El.c z) (El.d z) (El.v z) (El.ph z) = (0 : Int))) (pP .normal (ZEK i n) [(0, ZB n E), (1, ZDb), (2, Z2 m q r), (3, .mSI true M1), (4, .mSI true M2), (5, .mSI true M3), (6, ZG m E), (7, ZV q nd), (8, ZV r br), (9, ZR z)] e fr' H') (pP .ret [(2, .nilp), (3, ZA 1), (4, ZA 2), (5, iT (↑i : Int)), (6, ZA 9), (19, ZF n 0), (20, iT (↑n : Int)), (21, iT (↑i : Int))] [(0, ZB n E), (1, .cells true 2 1 (.fn fun j => bif Nat.beq j 0 then [iT (chk_0 (El.k z) (El.n z) (El.a z) (El.b z) (El.c z) (El.d z) (El.v z) (El.ph z)), iT (↑i : Int)] else [Zc, Zc])), (2, Z2 m q r), (3, .mSI true M1), (4, .mSI true M2), (5, .mSI true M3), (6, ZG m E), (7, ZV q nd), (8, ZV r br), (9, ZR z)] e fr' H')) := cD (fun q0 t0 => rdE [fF] (I1 (nt t0)) hB) (fun q0 t0 => rdE [tT] (I1 (nf t0)) hB)
noncomputable abbrev ZBi := nav [1,1,1,0,1,0,0,1,1,0,0,1,1,0] (bodyOf Try.f12)
theorem oeE (B : Nat) (hB : B ≤ 10) (z : El) (n m q r i : Nat) (E : tE) (M1 M2 M3 : tM) (nd br : tX) : GoesB Try.prog (ZBi) Try.f12.ntmps B 10 10 (frL (ZDQ n i)) (hpL (hoL n m q r E M1 M2 M3 nd br ++ [(9, ZR z)])) fun e fr' H' => (cond (Option.isSome (lfind seq (El.n z) M1)) (pP .ret [(2, .nilp), (3, ZA 1), (4, ZA 2), (5, iT (↑i : Int)), (6, ZA 9), (19, ZF n 0), (20, iT (↑n : Int)), (21, iT (↑i : Int))] [(0, ZB n E), (1, .cells true 2 1 (.fn fun j => bif Nat.beq j 0 then [.int false .i64 9, iT (↑i : Int)] else [Zc, Zc])), (2, Z2 m q r), (3, .mSI true M1), (4, .mSI true M2), (5, .mSI true M3), (6, ZG m E), (7, ZV q nd), (8, ZV r br), (9, ZR z)] e fr' H') (pP .normal (ZEK i n) [(0, ZB n E), (1, ZDb), (2, Z2 m q r), (3, .mSI true M1), (4, .mSI true M2), (5, .mSI true M3), (6, ZG m E), (7, ZV q nd), (8, ZV r br), (9, ZR z)] e fr' H')) := cI (fun t0 => rdE [tT] (I1 t0) hB) (fun t0 => rdE [fF] (I1 t0) hB)
noncomputable abbrev ZCc := nav [1,1,1,0,1,0,0,1,1,1] (bodyOf Try.f12)
theorem oeG (B : Nat) (hB : B ≤ 12) (n m q r i : Nat) (E : tE) (M1 M2 M3 : tM) (nd br : tX) (x0 : ((↑i : Int) + 1 ≤ (9223372036854775807 : Int))) : GoesB Try.prog (ZCc) Try.f12.ntmps B 12 12 (frL (ZDP n i)) (hpL (hoL n m q r E M1 M2 M3 nd br)) (pP .normal [(3, ZA 1), (4, ZA 2), (19, ZF n 0), (20, iT (↑n : Int)), (21, ZBw i)] [(0, ZB n E), (1, ZDb), (2, Z2 m q r), (3, .mSI true M1), (4, .mSI true M2), (5, .mSI true M3), (6, ZG m E), (7, ZV q nd), (8, ZV r br)]) := rdE [] (I1 (ai (show -9223372036854775808 ≤ (↑i : Int) + 1 by omega) x0)) hB
noncomputable abbrev ZC5 := nav [1,1,1,1,0] (bodyOf Try.f12)
noncomputable abbrev ZES := ([(3, ZA 1), (4, ZA 2)] : tF)
theorem ofG (B : Nat) (hB : B ≤ 9) (n m q r : Nat) (E : tE) (M1 M2 M3 : tM) (nd br : tX) (x0 : ((decide (32 < (↑q : Int))) = false → ((decide (64 < (↑q : Int) + (↑r : Int))) = true → ((↑q : Int) + (↑r : Int) ≤ 9223372036854775807)))) : GoesB Try.prog (ZC5) Try.f12.ntmps B 9 9 (frL ZES) (hpL (hoL n m q r E M1 M2 M3 nd br)) fun e fr' H' => (cond (decide (32 < (↑q : Int))) (pP .ret [(2, .nilp), (3, ZA 1), (4, ZA 2)] [(0, ZB n E), (1, ZD9), (2, Z2 m q r), (3, .mSI true M1), (4, .mSI true M2), (5, .mSI true M3), (6, ZG m E), (7, ZV q nd), (8, ZV r br)] e fr' H') (cond (decide (64 < (↑q : Int) + (↑r : Int))) (pP .ret [(2, .nilp), (3, ZA 1), (4, ZA 2)] [(0, ZB n E), (1, ZD9), (2, Z2 m q r), (3, .mSI true M1), (4, .mSI true M2), (5, .mSI true M3), (6, ZG m E), (7, ZV q nd), (8, ZV r br)] e fr' H') (pP .normal ZES [(0, ZB n E), (1, ZDb), (2, Z2 m q r), (3, .mSI true M1), (4, .mSI true M2), (5, .mSI true M3), (6, ZG m E), (7, ZV q nd), (8, ZV r br)] e fr' H'))) := cD (fun q0 t0 => rdE [tT] (I1 t0) hB) (fun q0 t0 => cD (fun q1 t1 => rdE [fF, tT] (I3 t0 (ai (show -9223372036854775808 ≤ (↑q : Int) + (↑r : Int) by omega) (x0 t0 t1)) t1) hB) (fun q1 t1 => rdE [fF, fF] (I3 t0 (ai (show -9223372036854775808 ≤ (↑q : Int) + (↑r : Int) by omega) (show (↑q : Int) + (↑r : Int) ≤ 9223372036854775807 by omega)) t1) hB))
theorem ofH (B : Nat) (hB : B ≤ 9) (n m q r : Nat) (E : tE) (M1 M2 M3 : tM) (nd br : tX) : GoesB Try.prog ((nav [1,1,1,1,1] (bodyOf Try.f12))) Try.f12.ntmps B 9 9 (frL ZES) (hpL (hoL n m q r E M1 M2 M3 nd br)) (pP .ret [(2, ZA 2), (3, ZA 1)] [(0, ZB n E), (1, .cells true 2 1 (.fn fun j => bif Nat.beq j 0 then [Zc, Zc] else [Zc, Zc])), (2, Z2 m q r), (3, .mSI true M1), (4, .mSI true M2), (5, .mSI true M3), (6, ZG m E), (7, ZV q nd), (8, ZV r br)]) := rdE [] trivial hB
noncomputable abbrev ZN (v0 : Nat) (v1 : tE) := (.cells true 8 v0 (.fn fun j => (elR (v1 j))) : ABk)
noncomputable abbrev ZQ (v0 : Nat) (v1 : tE) := (.cells false 8 v0 (.fn fun j => (elR (v1 j))) : ABk)
noncomputable abbrev ZBF := nav [1,1,1,0,1,0,0,1,1,0,0,1,1,1] (bodyOf Try.f12)
theorem ofP_r0 (z : El) (n m q r i : Nat) (E : tE) (M1 M2 M3 : tM) (nd br : tX) : PieceN 10 (Ex.normal) [(3, ZA 1), (4, ZA 2), (19, ZF n 0), (20, iT (↑n : Int)), (21, iT (↑i : Int)), (46, ZA 2), (47, .agg (elR z))] [(0, ZQ n E), (1, ZDb), (2, .cells true 7 1 (.fn fun x => (netR 6 7 8 m q r))), (3, ABk.mSI true M1), (4, ABk.mSI true M2), (5, ABk.mSI true M3), (6, ZN m E), (7, ZV q nd), (8, ZV r br)] (piececallE Try.f12 (regPre 2 ZBF) (frL (ZDQ n i)) (hpL [(0, ZB n E), (1, ZO), (2, Z2 m q r), (3, .mSI true M1), (4, .mSI true M2), (5, .mSI true M3), (6, Zb m E), (7, .cells true 1 (q) (.fn (txR nd))), (8, .cells true 1 (r) (.fn (txR br))), (9, ZR z)]) 10 []) := eN trivial
theorem ofQ_r0 (n m q r i : Nat) (E : tE) (M1 M2 M3 : tM) (nd br : tX) : PieceN 12 (Ex.normal) (ZEe n i) [(0, ZQ n E), (1, ZDb), (2, .cells true 7 1 (.fn fun x => (netR 6 7 8 m q r))), (3, ABk.mSI true M1), (4, ABk.mSI true M2), (5, ABk.mSI true M3), (6, ZN m E), (7, ZV q nd), (8, ZV r br)] (piececallE Try.f12 (regPost 3 ZBF) ((frL (ZDP n i)).upd 48 (some (.tup []))) (hpL [(0, ZB n E), (1, ZO), (2, Z2 m q r), (3, .mSI true M1), (4, .mSI true M2), (5, .mSI true M3), (6, Zb m E), (7, .cells true 1 (q) (.fn (txR nd))), (8, .cells true 1 (r) (.fn (txR br)))]) 12 []) := eN trivial
noncomputable def chkE (e : El) : Int := chk_0 e.k e.n e.a e.b e.c e.d e.v e.ph
noncomputable def QF (E : tE) (n : Nat) : Po := fun e fr' H' => e = .ret ∧ (((ofR chkE E n).1 ≠ 0 ∧ ∃ s s' : Bool, fr' = frL [(2, .nilp), (3, .ptr ⟨false, 1, 0, 0⟩)] ∧ H' = hpL [(1, .cells true 2 1 (.fn fun _ => [.int s .i64 (ofR chkE E n).1, .int s' .i64 (ofR chkE E n).2]))]) ∨ ((ofR chkE E n).1 = 0 ∧ fr' = frL [(2, .ptr ⟨false, 2, 0, 0⟩), (3, .ptr ⟨false, 1, 0, 0⟩)] ∧ H' = hpL [(1, .cells true 2 1 (.fn fun _ => [.int false .i64 (0), .int false .i64 (0)])), (2, .cells true 7 1 (.fn fun _ => netR 6 7 8 n (ND E n).length (BR E n).length)), (3, .mSI true (zipF 0 (NM E n))), (4, .mSI true (zipF 0 (ND E n))), (5, .mSI true (zipF 0 (BR E n))), (6, .cells true 8 (n) (.fn fun j => elR (E j))), (7, .cells true 1 ((ND E n).length) (.fn (txR (lget (ND E n))))), (8, .cells true 1 ((BR E n).length) (.fn (txR (lget (BR E n)))))]))
theorem QF_bad {E : tE} {n : Nat} {x y : Int} (s s' : Bool) (h : ofR chkE E n = (x, y)) (h0 : x ≠ 0) : QF E n .ret (frL [(2, .nilp), (3, ZA 1)]) (hpL [(1, .cells true 2 1 (.fn fun _ => [.int s .i64 x, .int s' .i64 y]))]) :=
 ⟨rfl, .inl ⟨by rw [h]; exact h0, s, s', rfl, by rw [h]⟩⟩
noncomputable abbrev ZCs := nav [1,1,1,0,1,0,0] (bodyOf Try.f12)
theorem of_is : (bodyOf Try.f12) = .seq (nav [0] (bodyOf Try.f12)) (.seq (nav [1,0] (bodyOf Try.f12)) (.seq (nav [1,1,0] (bodyOf Try.f12)) (.seq (.seq (nav [1,1,1,0,0] (bodyOf Try.f12)) (.block 0 (.loop ZCs))) (.seq ZC5 (nav [1,1,1,1,1] (bodyOf Try.f12)))))) := by kernel_rfl
theorem of_body : ZCs = .seq ZCk (.seq ZCf (.seq (.block 1 (.seq ZBp (.seq ZBm (.seq ZBi ZBF)))) ZCc)) := by kernel_rfl
def clO : Call := ⟨.value (.func 36), #[.tmp 46, .tmp 47], #[24, 40]⟩
noncomputable def opO : Oper := ((regOps ZBF).drop 2).headD ⟨none, .move (.tmp 0), 0, "", #[], none⟩
theorem ND_b (E : tE) (i : Nat) (h : i ≤ 256) : (ND E i).length ≤ 1024 := by have := ND_len E i; omega
theorem BR_b (E : tE) (i : Nat) (h : i ≤ 256) : (BR E i).length ≤ 256 := by have := BR_len E i; omega
noncomputable abbrev ZZ (v0 : Nat) (v1 : tE) := (.cells true 7 1 (.fn fun _ => netR 6 7 8 v0 (ND v1 v0).length (BR v1 v0).length) : ABk)
noncomputable abbrev Ze (v0 : tE) (v1 : Nat) := (.cells true 1 ((ND v0 v1).length) (.fn (txR (lget (ND v0 v1)))) : ABk)
noncomputable abbrev Zf (v0 : tE) (v1 : Nat) := (.cells true 1 ((BR v0 v1).length) (.fn (txR (lget (BR v0 v1)))) : ABk)
noncomputable abbrev Zg (v0 : tE) (v1 : Nat) := (.cells true 8 1 (.fn fun _ => elR (v0 v1)) : ABk)
noncomputable abbrev ZBL (v0 : Nat) (v1 : tE) := (.cells true 7 1 (.fn fun _ => netR 6 7 8 (v0 + 1) (ND v1 (v0 + 1)).length (BR v1 (v0 + 1)).length) : ABk)
noncomputable abbrev ZBe (v0 : tE) (v1 : Nat) := (.cells true 1 ((ND v0 (v1 + 1)).length) (.fn (txR (lget (ND v0 (v1 + 1))))) : ABk)
noncomputable abbrev ZBf (v0 : tE) (v1 : Nat) := (.cells true 1 ((BR v0 (v1 + 1)).length) (.fn (txR (lget (BR v0 (v1 + 1))))) : ABk)
noncomputable abbrev ZDM (v0 : Nat) (v1 : tE) (v2 : Nat) := ([(0, ZB v0 v1), (1, ZO), (2, ZBL v2 v1), (3, .mSI true (zipF 0 (NM v1 (v2 + 1)))), (4, .mSI true (zipF 0 (ND v1 (v2 + 1)))), (5, .mSI true (zipF 0 (BR v1 (v2 + 1)))), (6, Z3 v2 v1), (7, ZBe v1 v2), (8, ZBf v1 v2)] : tH)
noncomputable abbrev ZDS (v0 : Nat) (v1 : tE) (v2 : Nat) := ([(0, ZB v0 v1), (1, ZO), (2, ZZ v2 v1), (3, ZK v1 v2), (4, ZL v1 v2), (5, ZM v1 v2), (6, Zb v2 v1), (7, Ze v1 v2), (8, Zf v1 v2), (9, Zg v1 v2)] : tH)
theorem oe_put (n i : Nat) (E : tE) (hi : i < n) (hn : n ≤ 256) (hp : pos (E i).n (NM E i) = none) :
  GoesB Try.prog ZBF Try.f12.ntmps 1 10 12 (frL (ZDQ n i)) (hpL (ZDS n E i)) (Nm (ZDP n i) (ZDM n E i)) := by
 refine GoesB.callL (o := opO) (cl := clO) (fop := .func 36) (f := 36) (fn := Try.f36) (body := (bodyOf Try.f36)) (pre := []) (cap := []) (args := [ZA 2, .agg (elR (E i))]) callE_ok 2 (by kernel_rfl) (by kernel_rfl) (by kernel_rfl) (by kernel_rfl) rfl (d := 48) (by kernel_rfl) (Nat.le_of_ble_eq_true (by kernel_rfl)) (K1 := 10) (K2 := 12) (by omega) (ofP_r0 (E i) n i (ND E i).length (BR E i).length i E (zipF 0 (NM E i)) (zipF 0 (ND E i)) (zipF 0 (BR E i)) (lget (ND E i)) (lget (BR E i))) Try.func36 (by kernel_rfl) (by kernel_rfl) rfl (B0 := 6) (by omega) (by omega) (by omega) (ZDP n i) rfl (eGg rfl) rfl
  (V := fun v H' => v = .tup [] ∧ H' = hpL (ZDM n E i)) ?_ (fun v H' hv => by
   obtain ⟨rfl, rfl⟩ := hv
   exact ⟨[], _, _, ofQ_r0 n (i + 1) (ND E (i + 1)).length (BR E (i + 1)).length i E (zipF 0 (NM E (i + 1))) (zipF 0 (ND E (i + 1))) (zipF 0 (BR E (i + 1))) (lget (ND E (i + 1))) (lget (BR E (i + 1))), rfl, rfl, rfl⟩)
 refine GoesB.weakL (fl := [(0, ZA 2), (1, .agg (elR (E i)))]) (bl := [(2, ZZ i E), (3, ZK E i), (4, ZL E i), (5, ZM E i), (6, Zb i E), (7, Ze E i), (8, Zf E i), (0, ZB n E), (1, ZO)]) (eGg rfl) (eHh rfl) ?_
 refine GoesB.frameL (xl := [(0, ZB n E), (1, ZO)]) (bl := [(2, ZZ i E), (3, ZK E i), (4, ZL E i), (5, ZM E i), (6, Zb i E), (7, Ze E i), (8, Zf E i)]) (put_goes (E i) i E (NM E i) (ND E i) (BR E i) rfl (by omega) (NM_len E i).symm (ND_b E i (by omega)) (BR_b E i (by omega)) hp (BR_new E hp)) (by omega) ⟨⟨by omega, fun j hj v hv => List.all_eq_true.1 (show (elR (E j)).all (fun v => v.low 6) = true from rfl) v hv⟩, ⟨by omega, fun j hj v hv => List.all_eq_true.1 (show ([ZCG 0, Zc] : List AV).all (fun v => v.low 6) = true from rfl) v hv⟩, trivial⟩ rfl (fun e fr' H0' hh => ?_)
 obtain ⟨he, hH⟩ := hh
 exact ⟨_, hH, rfl, ⟨.inl rfl, .inl rfl, .inl rfl, .inl rfl, .inl rfl, .inl rfl, .inl rfl, trivial⟩, he, [], _, rfl, trivial, _, AV.ge.refl _, rfl, rfl⟩
theorem bad_chk {E : tE} {i : Nat} (h : chkE (E i) ≠ 0) : badE chkE E i = chkE (E i) := by unfold badE; rw [decide_eq_false h, cond_false]
theorem bad_there {E : tE} {i : Nat} (h : chkE (E i) = 0) (h2 : (pos (E i).n (NM E i)).isSome = true) : badE chkE E i = 9 := by unfold badE; rw [decide_eq_true h, cond_true, h2]; rfl
theorem bad_none {E : tE} {i : Nat} (h : chkE (E i) = 0) (h2 : pos (E i).n (NM E i) = none) : badE chkE E i = 0 := by unfold badE; rw [decide_eq_true h, cond_true, h2]; rfl
theorem ofR_bad {E : tE} {n i : Nat} {x : Int} (hn : n ≤ 256) (hi : i < n) (hg : ∀ j, j < i → badE chkE E j = 0) (h : badE chkE E i = x) (h0 : x ≠ 0) : ofR chkE E n = (x, (i : Int)) := by
 unfold ofR
 rw [decide_eq_false (by omega), cond_false, ofE_bad hi (by rw [h]; exact h0) (n - i) (by omega) (by omega) hg, h]
noncomputable abbrev ZDR (v0 : Nat) (v1 : tE) (v2 : Nat) := ([(0, ZB v0 v1), (1, ZO), (2, ZZ v2 v1), (3, ZK v1 v2), (4, ZL v1 v2), (5, ZM v1 v2), (6, Zb v2 v1), (7, Ze v1 v2), (8, Zf v1 v2)] : tH)
theorem oe_ok (n i : Nat) (E : tE) (hi : i < n) (hn : n ≤ 256) (hc : chkE (E i) = 0) (hp : pos (E i).n (NM E i) = none) :
  GoesB Try.prog (.block 1 (.seq ZBp (.seq ZBm (.seq ZBi ZBF)))) Try.f12.ntmps 1 9 12 (frL (ZDP n i)) (hpL (ZDR n E i)) (Nm (ZDP n i) (ZDM n E i)) := by
 refine GoesB.blockN ?_
 refine GoesB.seqN (K1 := 10) (F1 := (ZDQ n i)) (H1 := (ZDS n E i)) (GoesB.toN (oeC 1 (by omega) n i (ND E i).length (BR E i).length i E (zipF 0 (NM E i)) (zipF 0 (ND E i)) (zipF 0 (BR E i)) (lget (ND E i)) (lget (BR E i)) (by omega) (by omega)) (eGg rfl) ⟨hs rfl, hs rfl, hs rfl, hs rfl, hs rfl, hs rfl, hs rfl, hs rfl, hs rfl, hbl1 rfl (by show elR (E (0 + i)) = elR (E i); rw [Nat.zero_add]), trivial⟩) (by omega) ?_
 refine GoesB.seqN (K1 := 10) (F1 := (ZDQ n i)) (H1 := (ZDS n E i)) ((oeD 1 (by omega) (E i) n i (ND E i).length (BR E i).length i E (zipF 0 (NM E i)) (zipF 0 (ND E i)) (zipF 0 (BR E i)) (lget (ND E i)) (lget (BR E i))).mono fun e fr' H' h => ?_) (by omega) ?_
 ·rw [decide_eq_true (show chk_0 _ _ _ _ _ _ _ _ = 0 from hc), cond_true] at h
  exact h
 refine GoesB.seqN (K1 := 10) (F1 := (ZDQ n i)) (H1 := (ZDS n E i)) ((oeE 1 (by omega) (E i) n i (ND E i).length (BR E i).length i E (zipF 0 (NM E i)) (zipF 0 (ND E i)) (zipF 0 (BR E i)) (lget (ND E i)) (lget (BR E i))).mono fun e fr' H' h => ?_) (by omega) (oe_put n i E hi hn hp)
 rw [isS_zip, hp] at h
 exact h
theorem oe_bad (n i : Nat) (E : tE) (hi : i < n) (hn : n ≤ 256) (hg : ∀ j, j < i → badE chkE E j = 0) (hb : badE chkE E i ≠ 0) :
  GoesB Try.prog (.block 1 (.seq ZBp (.seq ZBm (.seq ZBi ZBF)))) Try.f12.ntmps 1 9 12 (frL (ZDP n i)) (hpL (ZDR n E i)) (fun e fr' H' => e = .ret ∧ QF E n .ret fr' H') := by
 refine blockR ?_
 refine GoesB.seqN (K1 := 10) (F1 := (ZDQ n i)) (H1 := (ZDS n E i)) (GoesB.toN (oeC 1 (by omega) n i (ND E i).length (BR E i).length i E (zipF 0 (NM E i)) (zipF 0 (ND E i)) (zipF 0 (BR E i)) (lget (ND E i)) (lget (BR E i)) (by omega) (by omega)) (eGg rfl) ⟨hs rfl, hs rfl, hs rfl, hs rfl, hs rfl, hs rfl, hs rfl, hs rfl, hs rfl, hbl1 rfl (by show elR (E (0 + i)) = elR (E i); rw [Nat.zero_add]), trivial⟩) (by omega) ?_
 by_cases hc : chkE (E i) = 0
 ·have hp : (pos (E i).n (NM E i)).isSome = true := by
   cases q : pos (E i).n (NM E i) with
   | none => exact absurd (bad_none hc q) hb
   | some _ => rfl
  refine GoesB.seqN (K1 := 10) (F1 := (ZDQ n i)) (H1 := (ZDS n E i)) ((oeD 1 (by omega) (E i) n i (ND E i).length (BR E i).length i E (zipF 0 (NM E i)) (zipF 0 (ND E i)) (zipF 0 (BR E i)) (lget (ND E i)) (lget (BR E i))).mono fun e fr' H' h => ?_) (by omega) ?_
  ·rw [decide_eq_true (show chk_0 _ _ _ _ _ _ _ _ = 0 from hc), cond_true] at h
   exact h
  refine seqR (K1 := 10) (by omega) ((oeE 1 (by omega) (E i) n i (ND E i).length (BR E i).length i E (zipF 0 (NM E i)) (zipF 0 (ND E i)) (zipF 0 (BR E i)) (lget (ND E i)) (lget (BR E i))).post fun e fr' H' h => ?_)
  rw [isS_zip, hp, cond_true] at h
  obtain ⟨rfl, rfl, rfl⟩ := h
  exact ⟨[(2, .nilp), (3, ZA 1)], [(1, .cells true 2 1 (.fn fun _ => [.int false .i64 9, iT (i : Int)]))], (eGg rfl), ⟨⟨_, rfl, rfl, rfl, rfl, of1 (p := fun j => _ = _) rfl⟩, trivial⟩, rfl, QF_bad _ _ (ofR_bad hn hi hg (bad_there hc hp) (by decide)) (by decide)⟩
 ·refine seqR (K1 := 10) (by omega) ((oeD 1 (by omega) (E i) n i (ND E i).length (BR E i).length i E (zipF 0 (NM E i)) (zipF 0 (ND E i)) (zipF 0 (BR E i)) (lget (ND E i)) (lget (BR E i))).post fun e fr' H' h => ?_)
  rw [decide_eq_false (show ¬ chk_0 _ _ _ _ _ _ _ _ = 0 from hc), cond_false] at h
  obtain ⟨rfl, rfl, rfl⟩ := h
  exact ⟨[(2, .nilp), (3, ZA 1)], [(1, .cells true 2 1 (.fn fun _ => [iT (chkE (E i)), iT (i : Int)]))], (eGg rfl), ⟨⟨_, rfl, rfl, rfl, rfl, of1 (p := fun j => _ = _) rfl⟩, trivial⟩, rfl, QF_bad _ _ (ofR_bad hn hi hg (bad_chk hc) hc) hc⟩
noncomputable abbrev ZCR (v0 : Nat) := iT ((v0 + 1 : Nat) : Int)
noncomputable abbrev ZDW (v0 : Nat) (v1 : tE) := ([(0, ZB v0 v1), (1, ZO), (2, ZZ v0 v1), (3, ZK v1 v0), (4, ZL v1 v0), (5, ZM v1 v0), (6, Zb v0 v1), (7, Ze v1 v0), (8, Zf v1 v0)] : tH)
theorem oe_step (n i : Nat) (E : tE) (hi : i ≤ n) (hn : n ≤ 256) (hg : ∀ j, j < i → badE chkE E j = 0) :
  GoesB Try.prog ZCs Try.f12.ntmps 1 9 9 (frL (ZDP n i)) (hpL (ZDR n E i)) (fun e fr H => (e = .normal ∧ i < n ∧ (∀ j, j < i + 1 → badE chkE E j = 0) ∧ fr = frL [(3, ZA 1), (4, ZA 2), (19, ZF n 0), (20, iT n), (21, ZCR i)] ∧ H = hpL (ZDM n E i)) ∨ (e = .exit 0 ∧ (∀ j, j < n → badE chkE E j = 0) ∧ fr = frL ZES ∧ H = hpL (ZDW n E)) ∨ (e = .ret ∧ QF E n .ret fr H)) := by
 rw [of_body]
 by_cases hlt : i < n
 ·by_cases hb : badE chkE E i = 0
  ·have hc : chkE (E i) = 0 := by
    by_cases c : chkE (E i) = 0
    ·exact c
    ·rw [bad_chk c] at hb; exact absurd hb c
   have hp : pos (E i).n (NM E i) = none := by
    cases q : pos (E i).n (NM E i) with
    | none => rfl
    | some y => rw [bad_there hc (by rw [q]; rfl)] at hb; exact absurd hb (by decide)
   have main : GoesB Try.prog (.seq ZCk (.seq ZCf (.seq (.block 1 (.seq ZBp (.seq ZBm (.seq ZBi ZBF)))) ZCc))) Try.f12.ntmps 1 9 12 (frL (ZDP n i)) (hpL (ZDR n E i)) (Nm [(3, ZA 1), (4, ZA 2), (19, ZF n 0), (20, iT n), (21, iT ((i : Int) + 1 : Int))] (ZDM n E i)) := by
    refine GoesB.seqN (K1 := 9) (oeA 1 (by omega) n i (ND E i).length (BR E i).length i E (zipF 0 (NM E i)) (zipF 0 (ND E i)) (zipF 0 (BR E i)) (lget (ND E i)) (lget (BR E i))) (by omega) ?_
    refine GoesB.seqN (K1 := 9) (F1 := (ZDP n i)) (H1 := (ZDR n E i)) ((oeB 1 (by omega) n i (ND E i).length (BR E i).length i E (zipF 0 (NM E i)) (zipF 0 (ND E i)) (zipF 0 (BR E i)) (lget (ND E i)) (lget (BR E i)) (decide ((i : Int) < (n : Int)))).mono fun e fr' H' h => ?_) (by omega) ?_
    ·rw [decide_eq_true (by omega), cond_true] at h
     exact h
    exact GoesB.seqN (K1 := 12) (oe_ok n i E hlt hn hc hp) (by omega) (oeG 1 (by omega) n (i + 1) (ND E (i + 1)).length (BR E (i + 1)).length i E (zipF 0 (NM E (i + 1))) (zipF 0 (ND E (i + 1))) (zipF 0 (BR E (i + 1))) (lget (ND E (i + 1))) (lget (BR E (i + 1))) (by omega))
   refine main.renG fun e fr' H' h => ?_
   obtain ⟨rfl, rfl, rfl⟩ := h
   exact ⟨id, [(3, ZA 1), (4, ZA 2), (19, ZF n 0), (20, iT n), (21, ZCR i)], (ZDM n E i), fun g hg => rfl, (eRr rfl), ⟨rgR rfl rfl (fun j _ => rfl) (fun j _ => rfl) (by omega), rgB rfl rfl rfl (by omega), rgB rfl rfl rfl (by omega), rgM rfl rfl (by omega), rgM rfl rfl (by omega), rgM rfl rfl (by omega), rgR rfl rfl (fun j _ => rfl) (fun j _ => rfl) (by omega), rgR rfl rfl (fun j _ => rfl) (fun j _ => rfl) (by omega), rgR rfl rfl (fun j _ => rfl) (fun j _ => rfl) (by omega), trivial⟩, fun i j _ _ h => h, .inl ⟨rfl, hlt, fun j hj => by
    by_cases c : j < i
    ·exact hg j c
    ·obtain rfl : j = i := by omega
     exact hb, rfl, rfl⟩⟩
  ·have main : GoesB Try.prog (.seq ZCk (.seq ZCf (.seq (.block 1 (.seq ZBp (.seq ZBm (.seq ZBi ZBF)))) ZCc))) Try.f12.ntmps 1 9 12 (frL (ZDP n i)) (hpL (ZDR n E i)) (fun e fr' H' => e = .ret ∧ QF E n .ret fr' H') := by
    refine GoesB.seqN (K1 := 9) (oeA 1 (by omega) n i (ND E i).length (BR E i).length i E (zipF 0 (NM E i)) (zipF 0 (ND E i)) (zipF 0 (BR E i)) (lget (ND E i)) (lget (BR E i))) (by omega) ?_
    refine GoesB.seqN (K1 := 9) (F1 := (ZDP n i)) (H1 := (ZDR n E i)) ((oeB 1 (by omega) n i (ND E i).length (BR E i).length i E (zipF 0 (NM E i)) (zipF 0 (ND E i)) (zipF 0 (BR E i)) (lget (ND E i)) (lget (BR E i)) (decide ((i : Int) < (n : Int)))).mono fun e fr' H' h => ?_) (by omega) ?_
    ·rw [decide_eq_true (by omega), cond_true] at h
     exact h
    exact seqR (K1 := 12) (by omega) (oe_bad n i E hlt hn hg hb)
   refine main.renG fun e fr' H' h => ?_
   obtain ⟨rfl, h⟩ := h
   have hq := h
   obtain ⟨_, ⟨h0, s, s', rfl, rfl⟩ | ⟨h0, rfl, rfl⟩⟩ := h
   ·exact ⟨id, [(2, .nilp), (3, ZA 1)], [(1, .cells true 2 1 (.fn fun _ => [.int s .i64 (ofR chkE E n).1, .int s' .i64 (ofR chkE E n).2]))], fun g hg => rfl, (eRr rfl), ⟨rgB rfl rfl rfl (by omega), trivial⟩, fun i j _ _ h => h, .inr (.inr ⟨rfl, hq⟩)⟩
   ·exact absurd h0 (by rw [ofR_bad hn hlt hg rfl hb]; exact hb)
 ·obtain rfl : i = n := by omega
  refine GoesB.seqN (K1 := 9) (oeA 1 (by omega) i i (ND E i).length (BR E i).length i E (zipF 0 (NM E i)) (zipF 0 (ND E i)) (zipF 0 (BR E i)) (lget (ND E i)) (lget (BR E i))) (by omega) ?_
  refine GoesB.seq (K1 := 9) (by omega) ((oeB 1 (by omega) i i (ND E i).length (BR E i).length i E (zipF 0 (NM E i)) (zipF 0 (ND E i)) (zipF 0 (BR E i)) (lget (ND E i)) (lget (BR E i)) (decide ((i : Int) < (i : Int)))).post fun e fr' H' h => ?_)
  rw [decide_eq_false (by omega), cond_false] at h
  obtain ⟨rfl, rfl, rfl⟩ := h
  exact ⟨ZES, (ZDW i E), (eGg rfl), (eHh rfl), .inr (.inl ⟨rfl, hg, rfl, rfl⟩)⟩
theorem ofR_len {E : tE} {n : Nat} (h : 256 < n) : ofR chkE E n = (3, -1) := by unfold ofR; rw [decide_eq_true h]; rfl
theorem ofR_end {E : tE} {n : Nat} (hn : n ≤ 256) (hg : ∀ j, j < n → badE chkE E j = 0) : ofR chkE E n = bif decide (32 < (ND E n).length) || decide (64 < (ND E n).length + (BR E n).length) then (3, -1) else (0, 0) := by
 unfold ofR
 rw [decide_eq_false (by omega), cond_false, ofE_good hg]
 rfl
def sgC (x : Nat) : Nat := if x = 2 then 5 else if x = 3 then 2 else if x = 4 then 3 else if x = 5 then 4 else x
theorem sgC_inj : ∀ i j, i < 6 → j < 6 → sgC i = sgC j → i = j := by
 intro i j hi hj e
 unfold sgC at e
 split at e <;> split at e <;> (try split at e) <;> (try split at e) <;> (try split at e) <;> (try split at e) <;> (try split at e) <;> (try split at e) <;> omega
noncomputable abbrev ZBx := ([(1, .cells true 2 1 (.fn fun _ => [.int false .i64 3, .int false .i64 (-1)]))] : tH)
noncomputable abbrev ZDg (v0 : Nat) (v1 : tE) := ([(0, ZB v0 v1), (1, ZO), (2, .cells true 7 1 (.fn fun _ => netR 6 7 8 0 (ND v1 0).length (BR v1 0).length)), (3, .mSI true (zipF 0 (NM v1 0))), (4, .mSI true (zipF 0 (ND v1 0))), (5, .mSI true (zipF 0 (BR v1 0))), (6, .cells true 8 (0) (.fn fun j => elR (v1 j))), (7, .cells true 1 ((ND v1 0).length) (.fn (txR (lget (ND v1 0))))), (8, .cells true 1 ((BR v1 0).length) (.fn (txR (lget (BR v1 0)))))] : tH)
theorem of_goes (n : Nat) (E : tE) : GoesB Try.prog (bodyOf Try.f12) Try.f12.ntmps 1 1 9 (frameOf [ZF n 0] 0 .e) (hpL [(0, ZB n E)]) (QF E n) := by
 rw [of_is]
 refine GoesB.seqN (K1 := 2) (F1 := [(0, ZF n 0), (3, ZA 1)]) (H1 := [(0, ZB n E), (1, ZO)]) (GoesB.toN (ofA 1 (by omega) n E) (eGg rfl) ⟨hs rfl, hbl1 rfl, trivial⟩) (by omega) ?_
 by_cases hn : 256 < n
 ·refine (seqR (R := QF E n .ret) (K1 := 2) (by omega) ((ofB 1 (by omega) n E).post fun e fr' H' h => ?_)).mono fun e fr' H' h => ?_
  ·rw [decide_eq_true (by omega), cond_true] at h
   obtain ⟨rfl, rfl, rfl⟩ := h
   exact ⟨[(2, .nilp), (3, ZA 1)], ZBx, (eGg rfl), ⟨⟨_, rfl, rfl, rfl, rfl, of1 (p := fun j => _ = _) rfl⟩, trivial⟩, rfl, QF_bad _ _ (ofR_len hn) (by decide)⟩
  ·obtain ⟨rfl, h⟩ := h
   exact h
 have hn : n ≤ 256 := by omega
 refine GoesB.seqN (K1 := 2) (F1 := [(0, ZF n 0), (3, ZA 1)]) (H1 := [(0, ZB n E), (1, ZO)]) ((ofB 1 (by omega) n E).mono fun e fr' H' h => ?_) (by omega) ?_
 ·rw [decide_eq_false (by omega), cond_false] at h
  exact h
 refine GoesB.seq (K1 := 6) (by omega) ((ofC 1 (by omega) n E).renG (K'' := 6) fun e fr' H' h => ?_)
 obtain ⟨rfl, rfl, rfl⟩ := h
 refine ⟨sgC, [(0, ZF n 0), (3, ZA 1), (4, ZA 2)], [(0, ZB n E), (1, ZO), (2, .cells true 7 1 (.fn fun _ => [.bool true, .nils, .mp 3, .nils, .mp 4, .nils, .mp 5])), (3, .mSI false []), (4, .mSI false []), (5, .mSI false [])], fun g hg => by
  obtain rfl : g = 0 := by omega
  rfl, (eRr rfl), ⟨rgR rfl rfl (fun j _ => rfl) (fun j _ => rfl) (by omega), rgB rfl rfl rfl (by omega), ⟨_, rfl, ⟨rfl, rfl, rfl, of1 (p := fun j => _ = _) rfl⟩, fun j hj v hv => List.all_eq_true.1 (show ([.bool true, .nils, .mp 3, .nils, .mp 4, .nils, .mp 5] : List AV).all (fun v => v.low 6) = true from rfl) v hv, by omega⟩, rgM rfl rfl (by omega), rgM rfl rfl (by omega), rgM rfl rfl (by omega), trivial⟩, sgC_inj, ?_⟩
 refine GoesB.phantomR 2 8 (fun j => elR (E j)) 1 [.bool true, .nils, .mp 3, .nils, .mp 4, .nils, .mp 5] rfl rfl rfl (by omega) (by omega) ?_
 refine GoesB.phantomR 2 1 (txR (lget [])) 3 [.bool true, noSlc 6, .mp 3, .nils, .mp 4, .nils, .mp 5] rfl rfl rfl (by omega) (by omega) ?_
 refine GoesB.phantomR 2 1 (txR (lget [])) 5 [.bool true, noSlc 6, .mp 3, noSlc 7, .mp 4, .nils, .mp 5] rfl rfl rfl (by omega) (by omega) ?_
 refine GoesB.weakML (fl := [(0, ZF n 0), (3, ZA 1), (4, ZA 2)]) (bl := (ZDg n E)) (eGg rfl) ⟨⟨_, rfl, .inl ⟨rfl, rfl, rfl, fun j _ => RowGe_refl _ rfl⟩⟩, ⟨_, rfl, .inl ⟨rfl, rfl, rfl, fun j _ => RowGe_refl _ rfl⟩⟩, ⟨_, rfl, .inl ⟨rfl, rfl, rfl, fun j _ => RowGe_refl _ rfl⟩⟩, ⟨_, rfl, .inr ⟨_, _, _, rfl, rfl⟩⟩, ⟨_, rfl, .inr ⟨_, _, _, rfl, rfl⟩⟩, ⟨_, rfl, .inr ⟨_, _, _, rfl, rfl⟩⟩, ⟨_, rfl, .inl ⟨rfl, rfl, rfl, fun j _ => RowGe_refl _ rfl⟩⟩, ⟨_, rfl, .inl ⟨rfl, rfl, rfl, fun j _ => RowGe_refl _ rfl⟩⟩, ⟨_, rfl, .inl ⟨rfl, rfl, rfl, fun j _ => RowGe_refl _ rfl⟩⟩, trivial⟩ ?_
 have loop := GoesB.count (P := Try.prog) (n := Try.f12.ntmps) (B := 1) (K := 9) (c := ZCs) (id := 0) n (fun i => [(3, ZA 1), (4, ZA 2), (19, ZF n 0), (20, iT n), (21, iT (i : Int))]) (fun i => [(0, ZB n E), (1, ZO), (2, .cells true 7 1 (.fn fun _ => netR 6 7 8 i (ND E i).length (BR E i).length)), (3, .mSI true (zipF 0 (NM E i))), (4, .mSI true (zipF 0 (ND E i))), (5, .mSI true (zipF 0 (BR E i))), (6, .cells true 8 (i) (.fn fun j => elR (E j))), (7, .cells true 1 ((ND E i).length) (.fn (txR (lget (ND E i))))), (8, .cells true 1 ((BR E i).length) (.fn (txR (lget (BR E i)))))]) ZES (ZDW n E) (fun i => ∀ j, j < i → badE chkE E j = 0) (QF E n .ret) (fun j hj => absurd hj (Nat.not_lt_zero _)) (fun i hi hg => oe_step n i E hi hn hg)
 refine GoesB.seq (K1 := 9) (by omega) (GoesB.seqN (K1 := 9) (F1 := [(3, ZA 1), (4, ZA 2), (19, ZF n 0), (20, iT n), (21, ZBn)]) (H1 := (ZDg n E)) (GoesB.toN (ofD 1 (by omega) n 0 (ND E 0).length (BR E 0).length E (zipF 0 (NM E 0)) (zipF 0 (ND E 0)) (zipF 0 (BR E 0)) (lget (ND E 0)) (lget (BR E 0))) ⟨re rfl, re rfl, re rfl, re rfl, ⟨_, rfl, AV.ge.int _ _ _ _⟩, trivial⟩ (eHh rfl)) (by omega) (loop.mono fun e fr' H' h => ?_))
 rcases h with ⟨rfl, hg, rfl, rfl⟩ | ⟨rfl, h⟩
 ·have hend := ofR_end hn hg
  have lN := ND_b E n hn
  have lB := BR_b E n hn
  have hh := ofG 1 (by omega) n n (ND E n).length (BR E n).length E (zipF 0 (NM E n)) (zipF 0 (ND E n)) (zipF 0 (BR E n)) (lget (ND E n)) (lget (BR E n)) (fun _ _ => by omega)
  have leaf : ofR chkE E n = (3, -1) → GoesB Try.prog ZC5 Try.f12.ntmps 1 9 9 (frL ZES) (hpL (ZDW n E)) (fun e fr' H' => e = .ret ∧ fr' = frL [(2, .nilp), (3, ZA 1)] ∧ H' = hpL ZBx) → GoesB Try.prog (.seq ZC5 (nav [1,1,1,1,1] (bodyOf Try.f12))) Try.f12.ntmps 1 9 9 (frL ZES) (hpL (ZDW n E)) (QF E n) := fun q h => (seqR (R := QF E n .ret) (K1 := 9) (by omega) (h.mono fun e fr' H' h => by
    obtain ⟨rfl, rfl, rfl⟩ := h
    exact ⟨rfl, QF_bad _ _ q (by decide)⟩)).mono fun e fr' H' h => by
   obtain ⟨rfl, h⟩ := h
   exact h
  by_cases c1 : 32 < (ND E n).length
  ·refine leaf (by rw [hend, decide_eq_true c1]; rfl) (hh.post fun e fr' H' h => ?_)
   rw [decide_eq_true (by omega), cond_true] at h
   obtain ⟨rfl, rfl, rfl⟩ := h
   exact ⟨[(2, .nilp), (3, ZA 1)], ZBx, (eGg rfl), ⟨⟨_, rfl, rfl, rfl, rfl, of1 (p := fun j => _ = _) rfl⟩, trivial⟩, rfl, rfl, rfl⟩
  ·by_cases c2 : 64 < (ND E n).length + (BR E n).length
   ·refine leaf (by rw [hend, decide_eq_false c1, decide_eq_true c2]; rfl) (hh.post fun e fr' H' h => ?_)
    rw [decide_eq_false (by omega), cond_false, decide_eq_true (by omega), cond_true] at h
    obtain ⟨rfl, rfl, rfl⟩ := h
    exact ⟨[(2, .nilp), (3, ZA 1)], ZBx, (eGg rfl), ⟨⟨_, rfl, rfl, rfl, rfl, of1 (p := fun j => _ = _) rfl⟩, trivial⟩, rfl, rfl, rfl⟩
   ·have h0 : (ofR chkE E n).1 = 0 := by rw [hend, decide_eq_false c1, decide_eq_false c2]; rfl
    refine GoesB.seqN (K1 := 9) (F1 := ZES) (H1 := (ZDW n E)) (hh.mono fun e fr' H' h => ?_) (by omega) ?_
    ·rw [decide_eq_false (by omega), cond_false, decide_eq_false (by omega), cond_false] at h
     exact h
    refine (ofH 1 (by omega) n n (ND E n).length (BR E n).length E (zipF 0 (NM E n)) (zipF 0 (ND E n)) (zipF 0 (BR E n)) (lget (ND E n)) (lget (BR E n))).post fun e fr' H' h => ?_
    obtain ⟨rfl, rfl, rfl⟩ := h
    exact ⟨[(2, ZA 2), (3, ZA 1)], [(1, ZO), (2, ZZ n E), (3, ZK E n), (4, ZL E n), (5, ZM E n), (6, Zb n E), (7, Ze E n), (8, Zf E n)], (eGg rfl), ⟨⟨_, rfl, rfl, rfl, rfl, of1 (p := fun j => _ = _) rfl⟩, eHh rfl⟩, rfl, .inr ⟨h0, rfl, rfl⟩⟩
 ·exact h


theorem elR_inS {S : Nat → Prop} {z : El} {o : Nat} {v : AV} (h : (elR z)[o]? = some v) : v.inS S := by
 match o, h with
 | 0, h => cases h; trivial
 | 1, h => cases h; trivial
 | 2, h => cases h; trivial
 | 3, h => cases h; trivial
 | 4, h => cases h; trivial
 | 5, h => cases h; trivial
 | 6, h => cases h; trivial
 | 7, h => cases h; trivial
theorem netG_inS {N n q r o : Nat} {v : AV} (h : (netG N (N + 1) (N + 2) (N + 3) (N + 4) (N + 5) n q r)[o]? = some v) : v.inS (fun i => N ≤ i) := by
 match o, h with
 | 0, h => cases h; trivial
 | 1, h => cases h; show N ≤ N + 3; omega
 | 2, h => cases h; show N ≤ N; omega
 | 3, h => cases h; show N ≤ N + 4; omega
 | 4, h => cases h; show N ≤ N + 1; omega
 | 5, h => cases h; show N ≤ N + 5; omega
 | 6, h => cases h; show N ≤ N + 2; omega
theorem netG_low {N n q r K : Nat} {v : AV} (h : v ∈ netG N (N + 1) (N + 2) (N + 3) (N + 4) (N + 5) n q r) (hK : N + 6 ≤ K) : v.low K = true := by
 simp only [netG, List.mem_cons, List.not_mem_nil, or_false] at h
 rcases h with rfl | rfl | rfl | rfl | rfl | rfl | rfl <;> first | rfl | exact Nat.ble_eq_true_of_le (show Nat.succ N ≤ K by omega) | exact Nat.ble_eq_true_of_le (show Nat.succ (N + 1) ≤ K by omega) | exact Nat.ble_eq_true_of_le (show Nat.succ (N + 2) ≤ K by omega) | exact Nat.ble_eq_true_of_le (show Nat.succ (N + 3) ≤ K by omega) | exact Nat.ble_eq_true_of_le (show Nat.succ (N + 4) ≤ K by omega) | exact Nat.ble_eq_true_of_le (show Nat.succ (N + 5) ≤ K by omega)
theorem ge_agg2 {x y x' y' : AV} (h : AV.ge x x') (k : AV.ge y y') : AV.ge (.agg [x, y]) (.agg [x', y']) := fun N μ c hr => by
 simp only [Rep, Reps] at hr ⊢
 obtain ⟨cs, e, c1, r1, e1, h1, c2, r2, e2, h2, e3⟩ := hr
 exact ⟨cs, e, c1, r1, e1, h _ _ _ h1, c2, r2, e2, k _ _ _ h2, e3⟩
/-- ofR, not to be unfolded by a run -/
noncomputable def ofX : (Nat → El) → Nat → Int × Int := Classical.choose (⟨ofR chkE, rfl⟩ : ∃ f, f = ofR chkE)
theorem ofX_is : ofX = ofR chkE := Classical.choose_spec (⟨ofR chkE, rfl⟩ : ∃ f, f = ofR chkE)
noncomputable def netofS : List AV → M AV
 | [x] => (rdQ 8 x PEQ).andThen fun y => (M.dec (decide ((ofX (rowsE y.2) y.1).1 = 0))).andThen fun d => bif d then (netNew (rowsE y.2) y.1).andThen fun N => M.ret (.tup [.ptr ⟨false, N, 0, 0⟩, .agg [Zc, Zc]]) else M.ret (.tup [.nilp, .agg [iT (ofX (rowsE y.2) y.1).1, iT (ofX (rowsE y.2) y.1).2]])
 | _ => M.no
theorem netofS_tch : ∀ args, Tch (netofS args) := by
 intro args
 unfold netofS
 split
 ·exact (Tch_rdQ _ _ _).andThen fun _ => (Tch.dec _).andThen fun d => Tch.cond ((Tch_netNew _ _).andThen fun _ => Tch.ret _) (Tch.ret _)
 ·exact Tch.no
theorem getD_sub (l : List Nat) (N k : Nat) : l.getD (N + k - N) 0 = l.getD k 0 := by rw [Nat.add_sub_cancel_left]
theorem getD_sub0 (l : List Nat) (N : Nat) : l.getD (N - N) 0 = l.getD 0 0 := by rw [Nat.sub_self]
theorem netG_ren (N n q r : Nat) : rens (fun i => [3, 4, 5, 6, 7, 8, 2].getD (i - N) 0) (netG N (N + 1) (N + 2) (N + 3) (N + 4) (N + 5) n q r) = netR 6 7 8 n q r := by
 simp only [netG, netR, rens, AV.ren, AA.ren, getD_sub, getD_sub0]
 rfl
theorem of_weak (n : Nat) (f : Nat → List AV) (h : PE n f) : GoesB Try.prog (bodyOf Try.f12) Try.f12.ntmps 1 1 9 (frameOf [ZF n 0] 0 .e) (hpL [(0, .cells false 8 n (.fn f))]) (QF (rowsE f) n) :=
 GoesB.weakG (H0 := hpL [(0, .cells false 8 n (.fn fun j => elR (rowsE f j)))]) (fun t v ht => ⟨v, ht, AV.ge.refl _⟩) (fun i b hb => by
  have hm := hpL_get hb
  simp only [List.mem_cons, List.not_mem_nil, or_false] at hm
  cases hm
  exact ⟨_, rfl, rfl, rfl, rfl, h.of⟩) (of_goes n (rowsE f))
theorem netofS_ok : ∀ args v g g', netofS args g = .done v g' → CallIs Try.prog 12 args v g g' := by
 intro args v g g' h
 unfold netofS at h
 simp only [ofX_is] at h
 split at h
 case h_2 => exact (no_done h).elim
 rename_i x
 obtain ⟨⟨n, f⟩, g1, a1, h1⟩ := done_of h
 clear h
 obtain ⟨qv, kv, fv0⟩ := rdQ_done a1 (by omega) (fun h => h.low)
 have fv : qv → Vw.Ok ⟨x, 8, n, f⟩ g ∧ PE n f := fun h => ⟨(fv0 h).1, (fv0 h).2.of⟩
 obtain ⟨d, g2, a2, h2⟩ := done_of h1
 clear h1
 dsimp only at a2 h2
 have kk := kv.trans (dec_done a2)
 have hrep : qv → ∀ N μ (cs : List Value), Reps N μ [x] cs → Reps 1 (vwMM μ [⟨x, 8, n, f⟩]) [slcV 0 n] cs := fun hp N μ cs hcs => by
  simp only [Reps] at hcs ⊢
  obtain ⟨c, r, rfl, hc, rfl⟩ := hcs
  exact ⟨c, [], rfl, vw_val (l := [⟨x, 8, n, f⟩]) (fv hp).1 rfl hc, rfl⟩
 have hvs : qv → ∀ v ∈ [(⟨x, 8, n, f⟩ : Vw)], v.Ok g := fun hp v hv => by
  rw [List.mem_singleton.1 hv]; exact (fv hp).1
 cases d with
 | true =>
  rw [cond_true] at h2
  obtain ⟨N, g3, a3, h3⟩ := done_of h2
  obtain ⟨rfl, rfl⟩ := ret_done h3
  obtain ⟨rfl, e1, e2, e3⟩ := netNew_done a3
  rw [kk.1, kk.2.1] at e1
  rw [kk.2.1] at e2 ⊢
  refine readsG (c := (bodyOf Try.f12)) Try.func12 (by kernel_rfl) (by kernel_rfl) kk [⟨x, 8, n, f⟩] (fun hp => hvs hp.1) (argsC := [slcV 0 n]) (fun hp => hrep hp.1) (nms := [3, 4, 5, 6, 7, 8, 2]) (bs := netB g.nx (rowsE f) n) (K' := 9) (fun hp => ?_) ?_ ?_ e1 e2 (fun hc => by rw [← e3]; exact hc)
  ·refine (of_weak n f (fv hp.1).2).mono fun e fr' H' h => ?_
   have he := of_decide_eq_true hp.2
   obtain ⟨rfl, ⟨c0, _⟩ | ⟨_, rfl, rfl⟩⟩ := h
   ·exact (c0 he).elim
   ·refine ⟨.inl rfl, [ZA 2, .agg [Zc, Zc]], _, rfl, trivial, ?_, rfl, ?_, by decide⟩
    ·simp only [AV.ren, rens, AA.ren, getD_sub]
     exact AV.ge.refl _
    ·intro i b hb
     have G : ∀ j, j < 7 → [3, 4, 5, 6, 7, 8, 2][j]? = some ([3, 4, 5, 6, 7, 8, 2].getD j 0) := by decide
     have tx : ∀ (K : Nat) (l : List Tx) (j : Nat) (v : AV), v ∈ txR (lget l) j → v.low K = true := fun K l j v hv => by rw [List.mem_singleton.1 hv]; rfl
     have tx2 : ∀ (S : Nat → Prop) (l : List Tx) (j o : Nat) (v : AV), (txR (lget l) j)[o]? = some v → v.inS S := fun S l j o v hv => by
      match o, hv with
      | 0, hv => cases hv; trivial
     match i, hb with
     | 0, hb => cases hb; exact ⟨3, _, rfl, rfl, SameC.refl _, rfl, trivial, trivial⟩
     | 1, hb => cases hb; exact ⟨4, _, rfl, rfl, SameC.refl _, rfl, trivial, trivial⟩
     | 2, hb => cases hb; exact ⟨5, _, rfl, rfl, SameC.refl _, rfl, trivial, trivial⟩
     | 3, hb => cases hb; exact ⟨6, _, rfl, rfl, ⟨rfl, rfl, rfl, fun j hj => rfl⟩, rfl, fun j hj v hv => List.all_eq_true.1 (elR_low _ (rowsE f j)) v hv, fun j hj o v hv => elR_inS hv⟩
     | 4, hb => cases hb; exact ⟨7, _, rfl, rfl, ⟨rfl, rfl, rfl, fun j hj => rfl⟩, rfl, fun j hj v hv => tx _ _ _ v hv, fun j hj o v hv => tx2 _ _ _ o v hv⟩
     | 5, hb => cases hb; exact ⟨8, _, rfl, rfl, ⟨rfl, rfl, rfl, fun j hj => rfl⟩, rfl, fun j hj v hv => tx _ _ _ v hv, fun j hj o v hv => tx2 _ _ _ o v hv⟩
     | 6, hb => cases hb; exact ⟨2, _, rfl, rfl, ⟨rfl, rfl, rfl, fun j hj => (netG_ren _ _ _ _).symm⟩, rfl, fun j hj v hv => netG_low hv (by simp only [netB, List.length_cons, List.length_nil]; omega), fun j hj o v hv => netG_inS hv⟩
  ·simp only [AV.low, lows, netB, List.length_cons, List.length_nil]
   simp
  ·simp only [AV.inS, insS]
   exact ⟨by omega, ⟨trivial, trivial, trivial⟩, trivial⟩
 | false =>
  rw [cond_false] at h2
  obtain ⟨rfl, rfl⟩ := ret_done h2
  refine readsG (c := (bodyOf Try.f12)) Try.func12 (by kernel_rfl) (by kernel_rfl) kk [⟨x, 8, n, f⟩] (fun hp => hvs hp.1) (argsC := [slcV 0 n]) (fun hp => hrep hp.1) (nms := []) (bs := []) (K' := 9) (fun hp => ?_) ?_ ?_ (show g2.H = g.H from kk.1) (show g2.nx = g.nx from kk.2.1) id
  ·refine (of_weak n f (fv hp.1).2).mono fun e fr' H' h => ?_
   have he := of_decide_eq_false hp.2
   obtain ⟨rfl, ⟨c0, s, s', rfl, rfl⟩ | ⟨c0, _⟩⟩ := h
   ·refine ⟨.inl rfl, [.nilp, .agg [.int s .i64 (ofR chkE (rowsE f) n).1, .int s' .i64 (ofR chkE (rowsE f) n).2]], _, rfl, trivial, ?_, rfl, fun i b hb => (by cases hb), List.nodup_nil⟩
    exact AV.ge.tup2 (AV.ge.refl _) (ge_agg2 (AV.ge.int _ _ _ _) (AV.ge.int _ _ _ _))
   ·exact (he c0).elim
  ·simp [AV.low, lows]
  ·simp [AV.inS, insS]


/-- the row of an element that is handed in -/
def zR (e : El) : List AV := [AV.int true .u8 (e).k, .str true (e).n, .str true (e).a, .str true (e).b, .str true (e).c, .str true (e).d, .int true .u64 (((e).v : Nat) : Int), iT (e).ph]
def unZ : List AV → El
 | [.int _ _ k, .str _ n, .str _ a, .str _ b, .str _ c, .str _ d, .int _ _ v, .int _ _ ph] => ⟨k, n, a, b, c, d, v.toNat, ph⟩
 | _ => ⟨0, [], [], [], [], [], 0, 0⟩
def rowsZ (f : Nat → List AV) (j : Nat) : El := unZ (f j)
def PZ (n : Nat) (f : Nat → List AV) : Prop := n * 104 ≤ 140737488355328 ∧ ∀ j, j < n → RowGe (f j) (zR (rowsZ f j)) ∧ (rowsZ f j).v < 18446744073709551616


noncomputable abbrev Za (v0 : Nat) (v1 : tE) := (.cells false 8 v0 (.fn fun j => [.int true .u8 (El.k (v1 j)), .str true (El.n (v1 j)), .str true (El.a (v1 j)), .str true (El.b (v1 j)), .str true (El.c (v1 j)), .str true (El.d (v1 j)), .int true .u64 (↑(El.v (v1 j)) : Int), iT (El.ph (v1 j))]) : ABk)
noncomputable abbrev Zt (v0 : Nat) (v1 : tE) := (.cells false 8 v0 (.fn fun j => zR (v1 j)) : ABk)
theorem eoA (B : Nat) (hB : B ≤ 1) (n : Nat) (G : tE) : GoesB Try.prog ((nav [0] (bodyOf Try.f29))) Try.f29.ntmps B 1 1 (frameOf [ZF n 0] 0 .e) (hpL [(0, Zt n G)]) (pP .normal [(0, ZF n 0)] [(0, Za n G)]) := rdE [] trivial hB
theorem eoB (B : Nat) (hB : B ≤ 1) (n : Nat) (G : tE) : GoesB Try.prog ((nav [1,0] (bodyOf Try.f29))) Try.f29.ntmps B 1 1 (frL [(0, ZF n 0)]) (hpL [(0, Zt n G)]) (pP .normal [(0, ZF n 0), (3, .nils)] [(0, Za n G)]) := rdE [] trivial hB
theorem eoC (B : Nat) (hB : B ≤ 2) (n i : Nat) (G : tE) : GoesB Try.prog ((nav [1,1,0,0] (bodyOf Try.f29))) Try.f29.ntmps B 2 2 (frL [(0, ZF n 0), (3, sL 1 i)]) (hpL [(0, Zt n G), (1, ZG i G)]) (pP .normal [(0, ZF n 0), (3, sL 1 i), (4, Zc)] [(0, Za n G), (1, ZN i G)]) := rdE [] trivial hB
noncomputable abbrev ZCv := nav [1,1,0,1,0,0] (bodyOf Try.f29)
theorem eoL (B : Nat) (hB : B ≤ 2) (n i : Nat) (G : tE) (x0 : ((decide ((↑i : Int) < (↑n : Int))) = true → ((↑(El.v (G (0 + i))) : Int) < 18446744073709551616))) (x1 : ((decide ((↑i : Int) < (↑n : Int))) = true → ((i + 1) * 104 ≤ 140737488355328))) (x2 : ((decide ((↑i : Int) < (↑n : Int))) = true → (i + 1 ≤ 9223372036854775807))) (x3 : ((decide ((↑i : Int) < (↑n : Int))) = true → ((↑i : Int) + 1 ≤ (9223372036854775807 : Int)))) : GoesB Try.prog (ZCv) Try.f29.ntmps B 2 6 (frL [(0, ZF n 0), (3, sL 1 i), (4, iT (i : Int))]) (hpL [(0, Zt n G), (1, ZG i G)]) fun e fr' H' => (cond (decide ((↑i : Int) < (↑n : Int))) (pP .normal [(0, ZF n 0), (3, sL 5 (i + 1)), (4, ZBw i)] [(0, Za n G), (5, .cells true 8 (i + 1) (.fn fun j => bif decide (j < i) then (elR (G j)) else (elR (G (0 + i)))))] e fr' H') (pP (.exit 0) [(0, ZF n 0), (3, sL 1 i), (4, iT (↑i : Int))] [(0, Za n G), (1, ZN i G)] e fr' H')) := cD (fun q0 t0 => rdE [tT] (I7 t0 (ai (show 0 ≤ (↑i : Int) by omega) (show (↑i : Int) < (↑n : Int) by omega)) (show 0 + i < n by omega) (show 8 ≤ 8 by omega) (ai (show 0 ≤ (↑(El.v (G (0 + i))) : Int) by omega) (x0 t0)) (ai (show i ≤ i by omega) (ai (x1 t0) (x2 t0))) (ai (show -9223372036854775808 ≤ (↑i : Int) + 1 by omega) (x3 t0))) hB) (fun q0 t0 => rdE [fF] (I1 t0) hB)
theorem eoE (B : Nat) (hB : B ≤ 2) (n : Nat) (G : tE) : GoesB Try.prog ((nav [1,1,1] (bodyOf Try.f29))) Try.f29.ntmps B 2 2 (frL [(0, ZF n 0), (3, sL 1 n)]) (hpL [(0, Zt n G), (1, ZG n G)]) (pP .ret [(2, sL 1 n)] [(1, ZN n G)]) := rdE [] trivial hB
theorem eo_is : (bodyOf Try.f29) = .seq (nav [0] (bodyOf Try.f29)) (.seq (nav [1,0] (bodyOf Try.f29)) (.seq (.seq (nav [1,1,0,0] (bodyOf Try.f29)) (.block 0 (.loop ZCv))) (nav [1,1,1] (bodyOf Try.f29)))) := by kernel_rfl
noncomputable abbrev ZBj (v0 : Nat) := iT ((v0 + 1) : Int)
theorem eo_step (n i : Nat) (G : tE) (hi : i < n) (hn : n * 104 ≤ 140737488355328) (hv : ∀ j, j < n → (G j).v < 18446744073709551616) :
  GoesB Try.prog ZCv Try.f29.ntmps 1 2 2 (frL [(0, ZF n 0), (3, sL 1 i), (4, iT (i : Int))]) (hpL [(0, Zt n G), (1, ZG i G)]) (Nm [(0, ZF n 0), (3, sL 1 (i + 1)), (4, ZBj i)] [(0, Zt n G), (1, .cells true 8 (i + 1) (.fn fun j => elR (G j)))]) := by
 have w := hv i hi
 refine (eoL 1 (by omega) n i G (fun _ => by rw [Nat.zero_add]; omega) (fun _ => by omega) (fun _ => by omega) (fun _ => by omega)).renG fun e fr' H' h => ?_
 rw [decide_eq_true (by omega), cond_true] at h
 obtain ⟨rfl, rfl, rfl⟩ := h
 exact ⟨sg 1 5, [(0, ZF n 0), (3, sL 1 (i + 1)), (4, ZBj i)], [(0, Zt n G), (1, .cells true 8 (i + 1) (.fn fun j => elR (G j)))], sg_low (by omega), ⟨⟨_, rfl, AV.ge.refl _, rfl⟩, ⟨_, rfl, AV.ge.refl _, rfl⟩, ⟨_, rfl, AV.ge.int' _ _ _ (by omega), rfl⟩, trivial⟩, ⟨rgR rfl rfl (fun j _ => rfl) (fun j _ => rfl) (by omega), rgR rfl rfl (fun j hj => by
  show (bif decide (j < i) then elR (G j) else _) = elR (G j)
  by_cases c : j < i
  ·rw [decide_eq_true c, cond_true]
  ·obtain rfl : j = i := by omega
   rw [decide_eq_false c, cond_false]
   simp only [Nat.zero_add]) (fun j _ => rfl) (by omega), trivial⟩, sg_inj (by omega), rfl, rfl, rfl⟩
theorem eo_end (n : Nat) (G : tE) : GoesB Try.prog ZCv Try.f29.ntmps 1 2 2 (frL [(0, ZF n 0), (3, sL 1 n), (4, iT (n : Int))]) (hpL [(0, Zt n G), (1, ZG n G)]) (Xm 0 [(0, ZF n 0), (3, sL 1 n)] [(0, Zt n G), (1, ZG n G)]) := by
 refine (eoL 1 (by omega) n n G (fun h => absurd (of_decide_eq_true h) (by omega)) (fun h => absurd (of_decide_eq_true h) (by omega)) (fun h => absurd (of_decide_eq_true h) (by omega)) (fun h => absurd (of_decide_eq_true h) (by omega))).renG fun e fr' H' h => ?_
 rw [decide_eq_false (by omega), cond_false] at h
 obtain ⟨rfl, rfl, rfl⟩ := h
 exact ⟨id, [(0, ZF n 0), (3, sL 1 n)], [(0, Zt n G), (1, ZG n G)], fun g hg => rfl, (eRr rfl), ⟨rgR rfl rfl (fun j _ => rfl) (fun j _ => rfl) (by omega), rgR rfl rfl (fun j _ => rfl) (fun j _ => rfl) (by omega), trivial⟩, fun i j _ _ h => h, rfl, rfl, rfl⟩
noncomputable abbrev ZCO (v0 : tE) := (.cells true 8 0 (.fn fun j => elR (v0 j)) : ABk)
theorem eo_goes (n : Nat) (G : tE) (hn : n * 104 ≤ 140737488355328) (hv : ∀ j, j < n → (G j).v < 18446744073709551616) :
  GoesB Try.prog (bodyOf Try.f29) Try.f29.ntmps 1 1 2 (frameOf [ZF n 0] 0 .e) (hpL [(0, Zt n G)]) (fun e fr' H' => e = .ret ∧ fr' = frL [(2, sL 1 n)] ∧ H' = hpL [(1, ZG n G)]) := by
 rw [eo_is]
 refine GoesB.seqN (K1 := 1) (eoA 1 (by omega) n G) (by omega) ?_
 refine GoesB.seqN (K1 := 1) (F1 := [(0, ZF n 0), (3, .nils)]) (H1 := [(0, Zt n G)]) (GoesB.toN (eoB 1 (by omega) n G) (eGg rfl) ⟨hs rfl, trivial⟩) (by omega) ?_
 refine GoesB.phantom 3 8 (fun j => elR (G j)) rfl (by omega) (by omega) ?_
 refine GoesB.weakL (fl := [(0, ZF n 0), (3, sL 1 0)]) (bl := [(0, Zt n G), (1, ZCO G)]) (eGg rfl) (eHh rfl) ?_
 refine GoesB.seqN (K1 := 2) (F1 := [(0, ZF n 0), (3, sL 1 n)]) (H1 := [(0, Zt n G), (1, ZG n G)]) ?_ (by omega) ?_
 ·refine GoesB.seqN (K1 := 2) (F1 := [(0, ZF n 0), (3, sL 1 0), (4, ZBn)]) (H1 := [(0, Zt n G), (1, ZCO G)]) (GoesB.toN (eoC 1 (by omega) n 0 G) ⟨re rfl, re rfl, ⟨_, rfl, AV.ge.int _ _ _ _⟩, trivial⟩ (eHh rfl)) (by omega) ?_
  exact GoesB.rounds n (fun i => [(0, ZF n 0), (3, sL 1 i), (4, iT (i : Int))]) (fun i => [(0, Zt n G), (1, .cells true 8 i (.fn fun j => elR (G j)))]) (fun i hi => eo_step n i G hi hn hv) (eo_end n G)
 exact (eoE 1 (by omega) n G).mono fun e fr' H' h => h
noncomputable def elsS : List AV → M AV
 | [x] => (rd 8 x PZ).andThen fun y => newS 8 y.1 (fun j => elR (rowsZ y.2 j))
 | _ => M.no
theorem elsS_tch : ∀ args, Tch (elsS args) := by
 intro args
 unfold elsS
 split
 ·exact (Tch.rd _ _ _).andThen fun _ => Tch.newS _ _ _
 ·exact Tch.no
theorem elsS_ok : ∀ args v g g', elsS args g = .done v g' → CallIs Try.prog 29 args v g g' := by
 intro args v g g' h
 unfold elsS at h
 split at h
 case h_2 => exact (no_done h).elim
 rename_i x
 obtain ⟨⟨n, f⟩, g1, a1, h1⟩ := done_of h
 clear h
 obtain ⟨qv, kv, fv⟩ := rd_done a1 (by omega)
 dsimp only at h1 fv
 obtain ⟨rfl, e1, e2, e3⟩ := newS_done h1
 rw [kv.1, kv.2.1] at e1
 rw [kv.2.1] at e2 ⊢
 refine readsG (c := (bodyOf Try.f29)) Try.func29 (by kernel_rfl) (by kernel_rfl) kv [⟨x, 8, n, f⟩] (fun hp v hv => by rw [List.mem_singleton.1 hv]; exact (fv hp).1) (argsC := [slcV 0 n]) (fun hp N μ cs hcs => by
  simp only [Reps] at hcs ⊢
  obtain ⟨c, r, rfl, hc, rfl⟩ := hcs
  exact ⟨c, [], rfl, vw_val (l := [⟨x, 8, n, f⟩]) (fv hp).1 rfl hc, rfl⟩) (nms := [1]) (bs := [.cells true 8 n (.fn fun j => elR (rowsZ f j))]) (K' := 2) (fun hp => ?_) ?_ ?_ e1 (by rw [e2]; rfl) (fun hc => by rw [← e3]; exact hc)
 ·obtain ⟨_, hn, hr⟩ := fv hp
  have hg := GoesB.weakG (H0 := hpL [(0, .cells false 8 n (.fn fun j => zR (rowsZ f j)))]) (H := hpL [(0, .cells false 8 n (.fn f))]) (fun t v ht => ⟨v, ht, AV.ge.refl _⟩) (fun i b hb => by
   have hm := hpL_get hb
   simp only [List.mem_cons, List.not_mem_nil, or_false] at hm
   cases hm
   exact ⟨_, rfl, rfl, rfl, rfl, fun j hj => (hr j hj).1⟩) (eo_goes n (rowsZ f) hn (fun j hj => (hr j hj).2))
  refine hg.mono fun e fr' H' h => ?_
  obtain ⟨rfl, rfl, rfl⟩ := h
  refine ⟨.inl rfl, [sL 1 n], _, rfl, trivial, ?_, rfl, ?_, by decide⟩
  ·simp only [AV.ren, AA.ren, getD_sub0]
   exact AV.ge.refl _
  ·intro i b hb
   match i, hb with
   | 0, hb => cases hb; exact ⟨1, _, rfl, rfl, ⟨rfl, rfl, rfl, fun j hj => rfl⟩, rfl, fun j hj v hv => List.all_eq_true.1 (elR_low _ (rowsZ f j)) v hv, fun j hj o v hv => elR_inS hv⟩
 ·exact Nat.ble_eq_true_of_le (show Nat.succ g.nx ≤ g.nx + 1 by omega)
 ·show g.nx ≤ g.nx; omega


noncomputable abbrev ZP (v0 : Nat) (v1 : Nat → List UInt8) := (.cells true 1 v0 (.fn (txR v1)) : ABk)
noncomputable abbrev Zh (v0 : List UInt8) := (.cells true 1 1 (.fn fun x => [.str true v0]) : ABk)
noncomputable abbrev Zo (v0 : List UInt8) := (.cells true 1 1 (.fn fun _ => [.str true v0]) : ABk)
noncomputable abbrev Zs (v0 : Nat) := (.cells true 1 1 (.fn fun x => [sL 5 v0]) : ABk)
noncomputable abbrev Z0 (v0 : Nat) := (.cells true 1 1 (.fn fun _ => [sL 5 v0]) : ABk)
noncomputable abbrev ZDE := (.cells true 1 1 (.fn fun _ => [.fn (.func 67) [] [ZA 2, ZA 1, ZA 3, ZA 4]]) : ABk)
noncomputable abbrev ZDF (v0 : Nat) := (.cells true 1 1 (.fn fun _ => [ZF v0 0]) : ABk)
noncomputable abbrev ZDN (v0 : Nat) := (.cells true 1 1 (.fn fun x => [ZF v0 0]) : ABk)
noncomputable abbrev ZD5 (v0 : List UInt8) (v1 : Int) := ([(0, .str true v0), (1, iT v1), (2, ZA 2), (3, ZA 1), (4, ZA 3), (5, ZA 4)] : tF)
noncomputable abbrev ZEl (v0 : Nat) (v1 : tE) (v2 : List UInt8) (v3 v4 : Nat) (v5 : Nat → List UInt8) := hpL [(0, ZB v0 v1), (1, ZDF v0), (2, Zo v2), (3, Z0 v3), (4, ZDE), (5, ZP v4 v5)]
theorem waA (B : Nat) (hB : B ≤ 6) (k L m : Nat) (E : tE) (f : Nat → List UInt8) (x y : List UInt8) (cm : Int) : GoesB Try.prog ((nav [0] (bodyOf Try.f67))) Try.f67.ntmps B 6 6 (frL (ZD5 x cm)) (ZEl k E y L m f) (pP .normal (ZD5 x cm) [(0, ZQ k E), (1, ZDN k), (2, Zh y), (3, Zs L), (4, .cells true 1 1 (.fn fun x => [.fn (Go.Fn.func (67 : Go.FuncId)) [] [ZA 2, ZA 1, ZA 3, ZA 4]])), (5, ZP m f)]) := rdE [] trivial hB
theorem waB (B : Nat) (hB : B ≤ 6) (k L m : Nat) (E : tE) (f : Nat → List UInt8) (x y : List UInt8) (cm : Int) : GoesB Try.prog ((nav [1,0] (bodyOf Try.f67))) Try.f67.ntmps B 6 6 (frL (ZD5 x cm)) (ZEl k E y L m f) fun e fr' H' => (cond (x == y) (pP .ret [(0, .str true x), (1, iT cm), (2, ZA 2), (3, ZA 1), (4, ZA 3), (5, ZA 4), (8, .bool true)] [(0, ZQ k E), (1, ZDN k), (2, Zh y), (3, Zs L), (4, .cells true 1 1 (.fn fun x => [.fn (Go.Fn.func (67 : Go.FuncId)) [] [ZA 2, ZA 1, ZA 3, ZA 4]])), (5, ZP m f)] e fr' H') (pP .normal (ZD5 x cm) [(0, ZQ k E), (1, ZDN k), (2, Zh y), (3, Zs L), (4, .cells true 1 1 (.fn fun x => [.fn (Go.Fn.func (67 : Go.FuncId)) [] [ZA 2, ZA 1, ZA 3, ZA 4]])), (5, ZP m f)] e fr' H')) := cI (fun t0 => rdE [tT] (I1 t0) hB) (fun t0 => rdE [fF] (I1 t0) hB)
theorem waC (B : Nat) (hB : B ≤ 6) (k L m : Nat) (E : tE) (f : Nat → List UInt8) (x y : List UInt8) (cm : Int) : GoesB Try.prog ((nav [1,1,0,0] (bodyOf Try.f67))) Try.f67.ntmps B 6 6 (frL (ZD5 x cm)) (ZEl k E y L m f) (pP .normal [(0, .str true x), (1, iT cm), (2, ZA 2), (3, ZA 1), (4, ZA 3), (5, ZA 4), (15, ZF k 0), (16, iT (↑k : Int)), (17, Zc)] [(0, ZQ k E), (1, ZDN k), (2, Zh y), (3, Zs L), (4, .cells true 1 1 (.fn fun x => [.fn (Go.Fn.func (67 : Go.FuncId)) [] [ZA 2, ZA 1, ZA 3, ZA 4]])), (5, ZP m f)]) := rdE [] trivial hB
noncomputable abbrev ZDX (v0 : List UInt8) (v1 : Int) (v2 v3 : Nat) := frL [(0, .str true v0), (1, iT v1), (2, ZA 2), (3, ZA 1), (4, ZA 3), (5, ZA 4), (15, ZF v2 0), (16, iT (v2 : Int)), (17, iT (v3 : Int))]
theorem waD (B : Nat) (hB : B ≤ 6) (i k L m : Nat) (E : tE) (f : Nat → List UInt8) (x y : List UInt8) (cm : Int) : GoesB Try.prog ((nav [1,1,0,1,0,0,0] (bodyOf Try.f67))) Try.f67.ntmps B 6 6 (ZDX x cm k i) (ZEl k E y L m f) (pP .normal [(0, .str true x), (1, iT cm), (2, ZA 2), (3, ZA 1), (4, ZA 3), (5, ZA 4), (15, ZF k 0), (16, iT (↑k : Int)), (17, iT (↑i : Int)), (18, .sbool (decide ((↑i : Int) < (↑k : Int))))] [(0, ZQ k E), (1, ZDN k), (2, Zh y), (3, Zs L), (4, .cells true 1 1 (.fn fun x => [.fn (Go.Fn.func (67 : Go.FuncId)) [] [ZA 2, ZA 1, ZA 3, ZA 4]])), (5, ZP m f)]) := rdE [] trivial hB
theorem waF (B : Nat) (hB : B ≤ 6) (i k L m : Nat) (E : tE) (f : Nat → List UInt8) (x y : List UInt8) (cm : Int) (x0 : ((↑i : Int) < (↑k : Int))) (x1 : (0 + i < k)) : GoesB Try.prog ((nav [1,1,0,1,0,0,1,1,0,0,0] (bodyOf Try.f67))) Try.f67.ntmps B 6 7 (ZDX x cm k i) (ZEl k E y L m f) (pP .normal [(0, .str true x), (1, iT cm), (2, ZA 2), (3, ZA 1), (4, ZA 3), (5, ZA 4), (9, iT (↑i : Int)), (10, ZA 6), (15, ZF k 0), (16, iT (↑k : Int)), (17, iT (↑i : Int))] [(0, ZQ k E), (1, ZDN k), (2, Zh y), (3, Zs L), (4, .cells true 1 1 (.fn fun x => [.fn (Go.Fn.func (67 : Go.FuncId)) [] [ZA 2, ZA 1, ZA 3, ZA 4]])), (5, ZP m f), (6, ZBJ E i)]) := rdE [] (I3 (ai (show 0 ≤ (↑i : Int) by omega) x0) x1 (show 8 ≤ 8 by omega)) hB
noncomputable abbrev ZBr (v0 : tE) (v1 : Nat) := (.cells true 8 1 (.fn fun x => (elR (v0 v1))) : ABk)
noncomputable abbrev ZEb (v0 : List UInt8) (v1 : Int) (v2 : Nat) (v3 : tE) (v4 : Nat) := ([(0, .str true v0), (1, iT v1), (2, ZA 2), (3, ZA 1), (4, ZA 3), (5, ZA 4), (9, ZEt v2), (10, ZA 6), (11, .str true (El.a (v3 v2))), (15, ZF v4 0), (16, ZEt v4), (17, ZEt v2)] : tF)
noncomputable abbrev ZEu (v0 : Nat) (v1 : tE) (v2 : List UInt8) (v3 v4 : Nat) (v5 : Nat → List UInt8) (v6 : Nat) := hpL [(0, ZB v0 v1), (1, ZDF v0), (2, Zo v2), (3, Z0 v3), (4, ZDE), (5, ZP v4 v5), (6, Zg v1 v6)]
theorem waG (B : Nat) (hB : B ≤ 7) (i k L m : Nat) (E : tE) (f : Nat → List UInt8) (x y : List UInt8) (cm : Int) : GoesB Try.prog ((nav [1,1,0,1,0,0,1,1,0,0,1,0] (bodyOf Try.f67))) Try.f67.ntmps B 7 7 (frL [(0, .str true x), (1, iT cm), (2, ZA 2), (3, ZA 1), (4, ZA 3), (5, ZA 4), (15, ZF k 0), (16, iT (k : Int)), (17, iT (i : Int)), (9, iT (i : Int)), (10, ZA 6)]) (ZEu k E y L m f i) (pP .normal (ZEb x cm i E k) [(0, ZQ k E), (1, ZDN k), (2, Zh y), (3, Zs L), (4, .cells true 1 1 (.fn fun x => [.fn (Go.Fn.func (67 : Go.FuncId)) [] [ZA 2, ZA 1, ZA 3, ZA 4]])), (5, ZP m f), (6, ZBr E i)]) := rdE [] trivial hB
theorem waH (B : Nat) (hB : B ≤ 7) (i k L m : Nat) (E : tE) (f : Nat → List UInt8) (x y : List UInt8) (cm : Int) : GoesB Try.prog ((nav [1,1,0,1,0,0,1,1,0,0,1,1,0] (bodyOf Try.f67))) Try.f67.ntmps B 7 7 (frL [(0, .str true x), (1, iT cm), (2, ZA 2), (3, ZA 1), (4, ZA 3), (5, ZA 4), (15, ZF k 0), (16, iT (k : Int)), (17, iT (i : Int)), (9, iT (i : Int)), (10, ZA 6), (11, .str true (E i).a)]) (ZEu k E y L m f i) fun e fr' H' => (cond (El.a (E i) == x) (pP .normal [(0, .str true x), (1, iT cm), (2, ZA 2), (3, ZA 1), (4, ZA 3), (5, ZA 4), (9, iT (↑i : Int)), (10, ZA 6), (11, .str true (El.b (E i))), (15, ZF k 0), (16, iT (↑k : Int)), (17, iT (↑i : Int))] [(0, ZQ k E), (1, ZDN k), (2, Zh y), (3, Zs L), (4, .cells true 1 1 (.fn fun x => [.fn (Go.Fn.func (67 : Go.FuncId)) [] [ZA 2, ZA 1, ZA 3, ZA 4]])), (5, ZP m f), (6, ZBr E i)] e fr' H') (pP .normal (ZEb x cm i E k) [(0, ZQ k E), (1, ZDN k), (2, Zh y), (3, Zs L), (4, .cells true 1 1 (.fn fun x => [.fn (Go.Fn.func (67 : Go.FuncId)) [] [ZA 2, ZA 1, ZA 3, ZA 4]])), (5, ZP m f), (6, ZBr E i)] e fr' H')) := cI (fun t0 => rdE [tT] (I1 t0) hB) (fun t0 => rdE [fF] (I1 t0) hB)
noncomputable abbrev ZDY (v0 : List UInt8) (v1 : Int) (v2 : Nat) (v3 : List UInt8) (v4 : Nat) := ([(0, .str true v0), (1, iT v1), (2, ZA 2), (3, ZA 1), (4, ZA 3), (5, ZA 4), (9, ZEt v2), (10, ZA 6), (11, .str true v3), (15, ZF v4 0), (16, ZEt v4), (17, ZEt v2)] : tF)
noncomputable abbrev ZEh (v0 : List UInt8) (v1 : Int) (v2 v3 : Nat) (v4 : List UInt8) := frL [(0, .str true v0), (1, iT v1), (2, ZA 2), (3, ZA 1), (4, ZA 3), (5, ZA 4), (15, ZF v2 0), (16, iT (v2 : Int)), (17, iT (v3 : Int)), (9, iT (v3 : Int)), (10, ZA 6), (11, .str true v4)]
theorem waI (B : Nat) (hB : B ≤ 7) (i k L m : Nat) (E : tE) (f : Nat → List UInt8) (x y z : List UInt8) (cm : Int) : GoesB Try.prog ((nav [1,1,0,1,0,0,1,1,0,0,1,1,1,0] (bodyOf Try.f67))) Try.f67.ntmps B 7 7 (ZEh x cm k i z) (ZEu k E y L m f i) fun e fr' H' => (cond (decide ((↑i : Int) = cm)) (pP (.exit 1) (ZDY x cm i z k) [(0, ZQ k E), (1, ZDN k), (2, Zh y), (3, Zs L), (4, .cells true 1 1 (.fn fun x => [.fn (Go.Fn.func (67 : Go.FuncId)) [] [ZA 2, ZA 1, ZA 3, ZA 4]])), (5, ZP m f), (6, ZBr E i)] e fr' H') (cond (El.a (E i) == x) (pP .normal (ZDY x cm i z k) [(0, ZQ k E), (1, ZDN k), (2, Zh y), (3, Zs L), (4, .cells true 1 1 (.fn fun x => [.fn (Go.Fn.func (67 : Go.FuncId)) [] [ZA 2, ZA 1, ZA 3, ZA 4]])), (5, ZP m f), (6, ZBr E i)] e fr' H') (cond (El.b (E i) == x) (pP .normal (ZDY x cm i z k) [(0, ZQ k E), (1, ZDN k), (2, Zh y), (3, Zs L), (4, .cells true 1 1 (.fn fun x => [.fn (Go.Fn.func (67 : Go.FuncId)) [] [ZA 2, ZA 1, ZA 3, ZA 4]])), (5, ZP m f), (6, ZBr E i)] e fr' H') (pP (.exit 1) (ZDY x cm i z k) [(0, ZQ k E), (1, ZDN k), (2, Zh y), (3, Zs L), (4, .cells true 1 1 (.fn fun x => [.fn (Go.Fn.func (67 : Go.FuncId)) [] [ZA 2, ZA 1, ZA 3, ZA 4]])), (5, ZP m f), (6, ZBr E i)] e fr' H')))) := cD (fun q0 t0 => rdE [tT] (I1 t0) hB) (fun q0 t0 => cI (fun t1 => rdE [fF, fF] (I2 t0 (nt t1)) hB) (fun t1 => cI (fun t2 => rdE [fF, tT, fF] (I3 t0 (nf t1) (nt t2)) hB) (fun t2 => rdE [fF, tT, tT] (I3 t0 (nf t1) (nf t2)) hB)))
noncomputable abbrev ZC0 := nav [1,1,0,1,0,0,1,1,0,0,1,1,1,1,0] (bodyOf Try.f67)
theorem waJ (B : Nat) (hB : B ≤ 7) (i k L m : Nat) (E : tE) (f : Nat → List UInt8) (x y z : List UInt8) (cm : Int) (x0 : (L ≤ m)) (x1 : ((L + 1) * 16 ≤ 140737488355328)) (x2 : (L + 1 ≤ 9223372036854775807)) : GoesB Try.prog (ZC0) Try.f67.ntmps B 7 9 (ZEh x cm k i z) (ZEu k E y L m f i) (pP .normal [(0, .str true x), (1, iT cm), (2, ZA 2), (3, ZA 1), (4, ZA 3), (5, ZA 4), (9, iT (↑i : Int)), (11, .str true z), (15, ZF k 0), (16, iT (↑k : Int)), (17, iT (↑i : Int))] [(0, ZQ k E), (1, ZDN k), (2, Zh y), (3, .cells true 1 1 (.fn fun j => bif Nat.beq j 0 then [sL 8 (L + 1)] else [sL 5 L])), (4, .cells true 1 1 (.fn fun x => [.fn (Go.Fn.func (67 : Go.FuncId)) [] [ZA 2, ZA 1, ZA 3, ZA 4]])), (8, .cells true 1 (L + 1) (.fn fun j => bif decide (j < L) then (txR f j) else [.str true (El.n (E i))]))]) := rdE [] (I1 (ai x0 (ai x1 x2))) hB
noncomputable abbrev ZCD := nav [1,1,0,1,0,0,1,1,0,0,1,1,1,1,1,1] (bodyOf Try.f67)
noncomputable abbrev ZDp (v0 : List UInt8) (v1 : Int) (v2 v3 : Nat) := ([(0, .str true v0), (1, iT v1), (2, ZA 2), (3, ZA 1), (4, ZA 3), (5, ZA 4), (15, ZF v2 0), (16, ZEt v2), (17, ZEt v3)] : tF)
theorem waM (B : Nat) (hB : B ≤ 6) (i k L m : Nat) (E : tE) (f : Nat → List UInt8) (x y : List UInt8) (cm : Int) (x0 : ((↑L : Int) - 1 ≤ (9223372036854775807 : Int))) (x1 : (0 ≤ (↑L : Int) - 1)) : GoesB Try.prog (ZCD) Try.f67.ntmps B 6 6 (ZDX x cm k i) (ZEl k E y L m f) (pP .normal (ZDp x cm k i) [(0, ZQ k E), (1, ZDN k), (2, Zh y), (3, .cells true 1 1 (.fn fun j => bif Nat.beq j 0 then [sL 5 (Int.toNat ((↑L : Int) - 1))] else [sL 5 L])), (4, .cells true 1 1 (.fn fun x => [.fn (Go.Fn.func (67 : Go.FuncId)) [] [ZA 2, ZA 1, ZA 3, ZA 4]])), (5, ZP m f)]) := rdE [] (I2 (ai (show -9223372036854775808 ≤ (↑L : Int) - 1 by omega) x0) (ai (show (0 : Int) ≤ 0 by omega) (ai x1 (show (↑L : Int) - 1 ≤ (↑L : Int) by omega)))) hB
theorem waN (B : Nat) (hB : B ≤ 6) (i k L m : Nat) (E : tE) (f : Nat → List UInt8) (x y : List UInt8) (cm : Int) (x0 : ((↑i : Int) + 1 ≤ (9223372036854775807 : Int))) : GoesB Try.prog ((nav [1,1,0,1,0,0,1,1,1] (bodyOf Try.f67))) Try.f67.ntmps B 6 6 (ZDX x cm k i) (ZEl k E y L m f) (pP .normal [(0, .str true x), (1, iT cm), (2, ZA 2), (3, ZA 1), (4, ZA 3), (5, ZA 4), (15, ZF k 0), (16, iT (↑k : Int)), (17, ZBw i)] [(0, ZQ k E), (1, ZDN k), (2, Zh y), (3, Zs L), (4, .cells true 1 1 (.fn fun x => [.fn (Go.Fn.func (67 : Go.FuncId)) [] [ZA 2, ZA 1, ZA 3, ZA 4]])), (5, ZP m f)]) := rdE [] (I1 (ai (show -9223372036854775808 ≤ (↑i : Int) + 1 by omega) x0)) hB
theorem waE (B : Nat) (hB : B ≤ 6) (i k L m : Nat) (E : tE) (f : Nat → List UInt8) (x y : List UInt8) (cm : Int) (b : Bool) : GoesB Try.prog ((nav [1,1,0,1,0,0,1,0] (bodyOf Try.f67))) Try.f67.ntmps B 6 6 (frL [(0, .str true x), (1, iT cm), (2, ZA 2), (3, ZA 1), (4, ZA 3), (5, ZA 4), (15, ZF k 0), (16, iT (k : Int)), (17, iT (i : Int)), (18, .sbool b)]) (ZEl k E y L m f) fun e fr' H' => (cond (b) (pP .normal (ZDp x cm k i) [(0, ZQ k E), (1, ZDN k), (2, Zh y), (3, Zs L), (4, .cells true 1 1 (.fn fun x => [.fn (Go.Fn.func (67 : Go.FuncId)) [] [ZA 2, ZA 1, ZA 3, ZA 4]])), (5, ZP m f)] e fr' H') (pP (.exit 0) (ZDp x cm k i) [(0, ZQ k E), (1, ZDN k), (2, Zh y), (3, Zs L), (4, .cells true 1 1 (.fn fun x => [.fn (Go.Fn.func (67 : Go.FuncId)) [] [ZA 2, ZA 1, ZA 3, ZA 4]])), (5, ZP m f)] e fr' H')) := cI (fun t0 => rdE [tT] (I1 t0) hB) (fun t0 => rdE [fF] (I1 t0) hB)
noncomputable abbrev ZBT := nav [1,1,0,1,0,0,1,1,0,0,1,1,1,1,1,0,0] (bodyOf Try.f67)
theorem waK_r0 (i k L m : Nat) (E : tE) (f : Nat → List UInt8) (x y z : List UInt8) (cm : Int) : PieceN 6 (Ex.normal) [(0, .str true x), (1, iT cm), (2, ZA 2), (3, ZA 1), (4, ZA 3), (5, ZA 4), (15, ZF k 0), (16, iT (↑k : Int)), (17, iT (↑i : Int)), (50, .fn (Go.Fn.func (67 : Go.FuncId)) [] [ZA 2, ZA 1, ZA 3, ZA 4]), (51, .str true z), (52, iT (↑i : Int))] [(0, ZQ k E), (1, ZDN k), (2, Zh y), (3, Zs L), (4, .cells true 1 1 (.fn fun x => [.fn (Go.Fn.func (67 : Go.FuncId)) [] [ZA 2, ZA 1, ZA 3, ZA 4]])), (5, ZP m f)] (piececallE Try.f67 ((regPre 3 ZBT)) (frL [(0, .str true x), (1, iT cm), (2, ZA 2), (3, ZA 1), (4, ZA 3), (5, ZA 4), (15, ZF k 0), (16, iT (k : Int)), (17, iT (i : Int)), (9, iT (i : Int)), (11, .str true z)]) (ZEl k E y L m f) 6 []) := eN trivial
theorem waQ_r0 (i k L m : Nat) (E : tE) (f : Nat → List UInt8) (x y : List UInt8) (cm : Int) (b : Bool) : PieceN 6 (Ex.normal) [(53, .sbool b), (0, .str true x), (1, iT cm), (2, ZA 2), (3, ZA 1), (4, ZA 3), (5, ZA 4), (15, ZF k 0), (16, iT (↑k : Int)), (17, iT (↑i : Int))] [(0, ZQ k E), (1, ZDN k), (2, Zh y), (3, Zs L), (4, .cells true 1 1 (.fn fun x => [.fn (Go.Fn.func (67 : Go.FuncId)) [] [ZA 2, ZA 1, ZA 3, ZA 4]])), (5, ZP m f)] (piececallE Try.f67 ((regPost 4 ZBT)) (frL [(53, .sbool b), (0, .str true x), (1, iT cm), (2, ZA 2), (3, ZA 1), (4, ZA 3), (5, ZA 4), (15, ZF k 0), (16, iT (k : Int)), (17, iT (i : Int))]) (ZEl k E y L m f) 6 []) := eN trivial
noncomputable abbrev ZCC := nav [1,1,0,1,0,0,1,1,0,0,1,1,1,1,1,0,1] (bodyOf Try.f67)
theorem waL (B : Nat) (hB : B ≤ 6) (i k L m : Nat) (E : tE) (f : Nat → List UInt8) (x y : List UInt8) (cm : Int) (b : Bool) : GoesB Try.prog (ZCC) Try.f67.ntmps B 6 6 (frL [(53, .sbool b), (0, .str true x), (1, iT cm), (2, ZA 2), (3, ZA 1), (4, ZA 3), (5, ZA 4), (15, ZF k 0), (16, iT (k : Int)), (17, iT (i : Int))]) (ZEl k E y L m f) fun e fr' H' => (cond (b) (pP .ret [(0, .str true x), (1, iT cm), (2, ZA 2), (3, ZA 1), (4, ZA 3), (5, ZA 4), (15, ZF k 0), (16, iT (↑k : Int)), (17, iT (↑i : Int)), (8, .bool true)] [(0, ZQ k E), (1, ZDN k), (2, Zh y), (3, Zs L), (4, .cells true 1 1 (.fn fun x => [.fn (Go.Fn.func (67 : Go.FuncId)) [] [ZA 2, ZA 1, ZA 3, ZA 4]])), (5, ZP m f)] e fr' H') (pP .normal (ZDp x cm k i) [(0, ZQ k E), (1, ZDN k), (2, Zh y), (3, Zs L), (4, .cells true 1 1 (.fn fun x => [.fn (Go.Fn.func (67 : Go.FuncId)) [] [ZA 2, ZA 1, ZA 3, ZA 4]])), (5, ZP m f)] e fr' H')) := cI (fun t0 => rdE [tT] (I1 t0) hB) (fun t0 => rdE [fF] (I1 t0) hB)
theorem waO (B : Nat) (hB : B ≤ 6) (i k L m : Nat) (E : tE) (f : Nat → List UInt8) (x y : List UInt8) (cm : Int) : GoesB Try.prog ((nav [1,1,1] (bodyOf Try.f67))) Try.f67.ntmps B 6 6 (ZDX x cm k i) (ZEl k E y L m f) (pP .ret [(8, .bool false)] [(0, ZQ k E), (1, ZDN k), (2, Zh y), (3, Zs L), (4, .cells true 1 1 (.fn fun x => [.fn (Go.Fn.func (67 : Go.FuncId)) [] [ZA 2, ZA 1, ZA 3, ZA 4]])), (5, ZP m f)]) := rdE [] trivial hB
theorem List.reverseRecOn' {α : Type} {P : List α → Prop} (l : List α) (nil : P []) (snoc : ∀ l p, P l → P (l ++ [p])) : P l := by
 have : ∀ l : List α, P l.reverse := by
  intro l
  induction l with
  | nil => exact nil
  | cons a l ih => rw [List.reverse_cons]; exact snoc _ _ ih
 simpa using this l.reverse
/-! ### sets of nodes: each knows a lesser one of its set -/
def rt (u : Nat → Nat) : Nat → Nat → Nat
 | 0, k => k
 | f + 1, k => if u k = k then k else rt u f (u k)
def root (u : Nat → Nat) (k : Nat) : Nat := rt u k k
theorem rt_le {u : Nat → Nat} (hu : ∀ j, u j ≤ j) : ∀ f k, rt u f k ≤ k
 | 0, k => Nat.le_refl _
 | f + 1, k => by
  unfold rt
  split
  ·exact Nat.le_refl _
  ·exact Nat.le_trans (rt_le hu f _) (hu k)
theorem rt_fix {u : Nat → Nat} (hu : ∀ j, u j ≤ j) : ∀ f k, k ≤ f → u (rt u f k) = rt u f k
 | 0, k, h => by
  have := hu k
  show u k = k
  omega
 | f + 1, k, h => by
  unfold rt
  split
  ·assumption
  ·exact rt_fix hu f _ (by have := hu k; omega)
theorem rt_more {u : Nat → Nat} (hu : ∀ j, u j ≤ j) : ∀ f f' k, k ≤ f → k ≤ f' → rt u f k = rt u f' k
 | 0, 0, k, h, h' => rfl
 | 0, f' + 1, k, h, h' => by
  unfold rt
  have := hu k
  rw [if_pos (by omega)]
 | f + 1, 0, k, h, h' => by
  unfold rt
  have := hu k
  rw [if_pos (by omega)]
 | f + 1, f' + 1, k, h, h' => by
  unfold rt
  split
  ·rfl
  ·exact rt_more hu f f' _ (by have := hu k; omega) (by have := hu k; omega)
theorem root_le {u : Nat → Nat} (hu : ∀ j, u j ≤ j) (k : Nat) : root u k ≤ k := rt_le hu k k
theorem root_fix {u : Nat → Nat} (hu : ∀ j, u j ≤ j) (k : Nat) : u (root u k) = root u k := rt_fix hu k k (Nat.le_refl _)
theorem root_self {u : Nat → Nat} {k : Nat} (h : u k = k) : root u k = k := by
 unfold root
 cases k with
 | zero => rfl
 | succ k => unfold rt; rw [if_pos h]
theorem root_step {u : Nat → Nat} (hu : ∀ j, u j ≤ j) (k : Nat) : root u (u k) = root u k := by
 by_cases h : u k = k
 ·rw [h]
 ·have hk := hu k
  unfold root
  cases k with
  | zero => omega
  | succ k =>
   show rt u (u (k + 1)) (u (k + 1)) = rt u (k + 1) (k + 1)
   conv => rhs; unfold rt
   rw [if_neg h]
   exact rt_more hu _ _ _ (Nat.le_refl _) (by omega)
/-- the sets of two are joined -/
def jn (u : Nat → Nat) (x y : Nat) : Nat → Nat := fun j => if j = max (root u x) (root u y) then min (root u x) (root u y) else u j
theorem jn_le {u : Nat → Nat} (hu : ∀ j, u j ≤ j) (x y : Nat) : ∀ j, jn u x y j ≤ j := by
 intro j
 unfold jn
 split
 ·subst_vars; omega
 ·exact hu j
theorem root_jn {u : Nat → Nat} (hu : ∀ j, u j ≤ j) (x y : Nat) : ∀ k, root (jn u x y) k = if root u k = max (root u x) (root u y) then min (root u x) (root u y) else root u k := by
 have hx := root_fix hu x
 have hy := root_fix hu y
 have hj := jn_le hu x y
 have hmin : jn u x y (min (root u x) (root u y)) = min (root u x) (root u y) := by
  unfold jn
  split
  ·rfl
  ·rcases Nat.le_total (root u x) (root u y) with h | h
   ·rw [Nat.min_eq_left h]; exact hx
   ·rw [Nat.min_eq_right h]; exact hy
 have hmaxr : root u (max (root u x) (root u y)) = max (root u x) (root u y) := by
  rcases Nat.le_total (root u x) (root u y) with h | h
  ·rw [Nat.max_eq_right h]; exact root_self hy
  ·rw [Nat.max_eq_left h]; exact root_self hx
 intro k
 induction k using Nat.strongRecOn with
 | ind k ih =>
  by_cases hk : k = max (root u x) (root u y)
  ·have e1 : jn u x y k = min (root u x) (root u y) := by unfold jn; rw [if_pos hk]
   rw [← root_step hj k, e1, root_self hmin]
   rw [if_pos (by rw [hk]; exact hmaxr)]
  ·have e1 : jn u x y k = u k := by unfold jn; rw [if_neg hk]
   by_cases hf : u k = k
   ·rw [root_self (by rw [e1]; exact hf), root_self hf, if_neg hk]
   ·rw [← root_step hj k, e1, ih (u k) (by have := hu k; omega), root_step hu]
/-- joined one behind the other -/
def Ul {α : Type} (A : α → Nat) (l : List (α × α)) : Nat → Nat := l.foldl (fun u p => jn u (A p.1) (A p.2)) id
theorem Ul_snoc {α : Type} (A : α → Nat) (l : List (α × α)) (p : α × α) : Ul A (l ++ [p]) = jn (Ul A l) (A p.1) (A p.2) := by
 unfold Ul; rw [List.foldl_append]; rfl
theorem Ul_le {α : Type} (A : α → Nat) : ∀ (l : List (α × α)) j, Ul A l j ≤ j := by
 have key : ∀ (l : List (α × α)) (u : Nat → Nat), (∀ j, u j ≤ j) → ∀ j, l.foldl (fun u p => jn u (A p.1) (A p.2)) u j ≤ j := by
  intro l
  induction l with
  | nil => intro u hu j; exact hu j
  | cons p l ih => intro u hu j; exact ih _ (jn_le hu _ _) j
 exact fun l j => key l id (fun j => Nat.le_refl _) j
/-- the class of a node -/
def cls {α : Type} (A : α → Nat) (l : List (α × α)) (a : α) : Nat := root (Ul A l) (A a)
theorem cls_nil {α : Type} (A : α → Nat) (a : α) : cls A [] a = A a := root_self rfl
theorem cls_snoc {α : Type} (A : α → Nat) (l : List (α × α)) (p : α × α) (a : α) : cls A (l ++ [p]) a = if cls A l a = max (cls A l p.1) (cls A l p.2) then min (cls A l p.1) (cls A l p.2) else cls A l a := by
 unfold cls; rw [Ul_snoc, root_jn (Ul_le A l)]
theorem cls_join {α : Type} (A : α → Nat) (l : List (α × α)) (p : α × α) (a b : α) : cls A (l ++ [p]) a = cls A (l ++ [p]) b ↔ cls A l a = cls A l b ∨ ((cls A l a = cls A l p.1 ∨ cls A l a = cls A l p.2) ∧ (cls A l b = cls A l p.1 ∨ cls A l b = cls A l p.2)) := by
 rw [cls_snoc, cls_snoc]
 generalize cls A l a = x
 generalize cls A l b = y
 generalize cls A l p.1 = c
 generalize cls A l p.2 = d
 rcases Nat.le_total c d with h | h
 ·rw [Nat.max_eq_right h, Nat.min_eq_left h]
  split <;> split <;> omega
 ·rw [Nat.max_eq_left h, Nat.min_eq_right h]
  split <;> split <;> omega
/-- in two numberings the same hangs together -/
theorem cls_sim {α : Type} {A A' : α → Nat} {V : α → Prop} (h0 : ∀ a b, V a → V b → (A a = A b ↔ A' a = A' b)) : ∀ (l : List (α × α)), (∀ p ∈ l, V p.1 ∧ V p.2) → ∀ a b, V a → V b → (cls A l a = cls A l b ↔ cls A' l a = cls A' l b) := by
 intro l
 induction l using List.reverseRecOn' with
 | nil => intro _ a b ha hb; rw [cls_nil, cls_nil, cls_nil, cls_nil]; exact h0 a b ha hb
 | snoc l p ih =>
  intro hl a b ha hb
  have hl' : ∀ q ∈ l, V q.1 ∧ V q.2 := fun q hq => hl q (List.mem_append_left _ hq)
  obtain ⟨h1, h2⟩ := hl p (by simp)
  rw [cls_join, cls_join, ih hl' a b ha hb, ih hl' a _ ha h1, ih hl' a _ ha h2, ih hl' b _ hb h1, ih hl' b _ hb h2]
/-- is one of them in a set already that it joins? -/
def shut {α : Type} (A : α → Nat) (l : List (α × α)) : Prop := ∃ i p, l[i]? = some p ∧ cls A (l.take i) p.1 = cls A (l.take i) p.2
theorem shut_sim {α : Type} {A A' : α → Nat} {V : α → Prop} (h0 : ∀ a b, V a → V b → (A a = A b ↔ A' a = A' b)) (l : List (α × α)) (hl : ∀ p ∈ l, V p.1 ∧ V p.2) : shut A l ↔ shut A' l := by
 have key : ∀ i p, l[i]? = some p → (cls A (l.take i) p.1 = cls A (l.take i) p.2 ↔ cls A' (l.take i) p.1 = cls A' (l.take i) p.2) := fun i p hp => by
  have hm := List.mem_of_getElem? hp
  exact cls_sim h0 (l.take i) (fun q hq => hl q (List.mem_of_mem_take hq)) _ _ (hl p hm).1 (hl p hm).2
 constructor
 ·rintro ⟨i, p, h1, h2⟩; exact ⟨i, p, h1, (key i p h1).1 h2⟩
 ·rintro ⟨i, p, h1, h2⟩; exact ⟨i, p, h1, (key i p h1).2 h2⟩
/-! ### ways in a forest -/
section
variable {α : Type}
/-- edge i of the forest, and its ends -/
abbrev Ed (α : Type) := List (α × α)
/-- from a by edge i one comes to b -/
def Goes1 (T : Ed α) (i : Nat) (a b : α) : Prop := ∃ p, T[i]? = some p ∧ ((a = p.1 ∧ b = p.2) ∨ (a = p.2 ∧ b = p.1))
/-- a way: the edges that are taken, from a to b, none twice at once -/
inductive Way (T : Ed α) : α → List Nat → α → Prop where
 | nil (a : α) : Way T a [] a
 | cons {a b c : α} {i : Nat} {l : List Nat} : Goes1 T i a b → Way T b l c → (∀ j, l.head? = some j → j ≠ i) → Way T a (i :: l) c
variable {T : Ed α}
theorem Goes1.symm {i : Nat} {a b : α} (h : Goes1 T i a b) : Goes1 T i b a := by
 obtain ⟨p, h1, h2⟩ := h
 exact ⟨p, h1, h2.elim (fun h => .inr ⟨h.2, h.1⟩) (fun h => .inl ⟨h.2, h.1⟩)⟩
theorem Way.split : ∀ {l l' : List Nat} {a c : α}, Way T a (l ++ l') c → ∃ b, Way T a l b ∧ Way T b l' c
 | [], l', a, c, h => ⟨a, .nil a, h⟩
 | i :: l, l', a, c, h => by
  cases h with
  | cons h1 h2 h3 =>
   obtain ⟨b, k1, k2⟩ := Way.split h2
   refine ⟨b, .cons h1 k1 fun j hj => h3 j ?_, k2⟩
   cases l with
   | nil => simp at hj
   | cons x l => simpa using hj
/-- classes by the edges below M are the same along a way of such edges -/
theorem Way.cls {cl : α → Nat} {M : Nat} (h1 : ∀ i a b, i < M → Goes1 T i a b → cl a = cl b) : ∀ {l : List Nat} {a c : α}, Way T a l c → (∀ i ∈ l, i < M) → cl a = cl c
 | [], a, c, h, _ => by cases h; rfl
 | i :: l, a, c, h, hl => by
  cases h with
  | cons k1 k2 k3 => exact (h1 _ _ _ (hl i (by simp)) k1).trans (Way.cls h1 k2 fun j hj => hl j (by simp [hj]))
/-- a forest: by classes at each stage -/
structure Forest (T : Ed α) (cl : Nat → α → Nat) : Prop where
 same : ∀ M i a b, i < M → Goes1 T i a b → cl M a = cl M b
 diff : ∀ M p, T[M]? = some p → cl M p.1 ≠ cl M p.2
theorem Forest.ne {cl : Nat → α → Nat} (F : Forest T cl) {M : Nat} {a b : α} (h : Goes1 T M a b) : cl M a ≠ cl M b := by
 obtain ⟨p, h1, h2⟩ := h
 rcases h2 with ⟨rfl, rfl⟩ | ⟨rfl, rfl⟩
 ·exact F.diff M p h1
 ·exact Ne.symm (F.diff M p h1)
theorem first_of {M : Nat} : ∀ {l : List Nat}, M ∈ l → ∃ l1 l2, l = l1 ++ M :: l2 ∧ M ∉ l1
 | x :: l, h => by
  by_cases e : x = M
  ·exact ⟨[], l, by rw [e]; rfl, by simp⟩
  ·have h' : M ∈ l := by simpa [Ne.symm e] using h
   obtain ⟨l1, l2, rfl, h2⟩ := first_of h'
   exact ⟨x :: l1, l2, rfl, by simp [h2, Ne.symm e]⟩
/-- no way leads back -/
theorem Forest.no_round {cl : Nat → α → Nat} (F : Forest T cl) : ∀ (M : Nat) {l : List Nat} {a : α}, (∀ i ∈ l, i < M) → Way T a l a → l = []
 | 0, l, a, hl, h => by
  cases l with
  | nil => rfl
  | cons i l => exact absurd (hl i (by simp)) (by omega)
 | M + 1, l, a, hl, h => by
  by_cases hM : M ∈ l
  ·exfalso
   obtain ⟨l1, l2, rfl, h1⟩ := first_of hM
   obtain ⟨b, w1, w2⟩ := h.split
   have hl1 : ∀ i ∈ l1, i < M := fun i hi => by
    have := hl i (by simp [hi])
    have : i ≠ M := fun e => h1 (e ▸ hi)
    omega
   cases w2 with
   | cons g1 w3 nb =>
    rename_i c
    -- w3 : Way c l2 a
    by_cases h2 : M ∈ l2
    ·obtain ⟨l3, l4, rfl, h3⟩ := first_of h2
     obtain ⟨d, w4, w5⟩ := w3.split
     have hl3 : ∀ i ∈ l3, i < M := fun i hi => by
      have := hl i (by simp [hi])
      have : i ≠ M := fun e => h3 (e ▸ hi)
      omega
     have hc : cl M c = cl M d := w4.cls (F.same M) hl3
     cases w5 with
     | cons g2 w6 nb2 =>
      rename_i e
      have e0 : l3 ≠ [] := fun e0 => by subst e0; exact nb M (by simp) rfl
      obtain ⟨p, q1, q2⟩ := g1
      obtain ⟨p', r1, r2⟩ := g2
      rw [q1] at r1
      cases r1
      have dne := F.diff M p q1
      have hcd : c = d := by
       rcases q2 with ⟨rfl, rfl⟩ | ⟨rfl, rfl⟩ <;> rcases r2 with ⟨rfl, rfl⟩ | ⟨rfl, rfl⟩
       ·exact absurd hc.symm dne
       ·rfl
       ·rfl
       ·exact absurd hc dne
      subst hcd
      exact e0 (Forest.no_round F M hl3 w4)
    ·have hl2 : ∀ i ∈ l2, i < M := fun i hi => by
      have := hl i (by simp [hi])
      have : i ≠ M := fun e => h2 (e ▸ hi)
      omega
     have e1 : cl M a = cl M b := w1.cls (F.same M) hl1
     have e2 : cl M c = cl M a := w3.cls (F.same M) hl2
     exact F.ne g1 (e1.symm.trans e2.symm)
  ·refine Forest.no_round F M (fun i hi => ?_) h
   have := hl i hi
   have : i ≠ M := fun e => hM (e ▸ hi)
   omega
theorem Way.lt : ∀ {l : List Nat} {a c : α}, Way T a l c → ∀ i ∈ l, i < T.length
 | [], a, c, _, i, hi => by cases hi
 | x :: l, a, c, h, i, hi => by
  cases h with
  | cons h1 h2 h3 =>
   rcases List.mem_cons.1 hi with rfl | hi
   ·obtain ⟨p, q, _⟩ := h1; exact (List.getElem?_eq_some_iff.1 q).1
   ·exact h2.lt i hi
/-- no edge is taken twice -/
theorem Forest.nodup {cl : Nat → α → Nat} (F : Forest T cl) : ∀ {l : List Nat} {a c : α}, Way T a l c → l.Nodup
 | [], a, c, _ => List.nodup_nil
 | i :: l, a, c, h => by
  cases h with
  | cons g1 w nb =>
   rename_i b
   refine List.nodup_cons.2 ⟨fun hi => ?_, Forest.nodup F w⟩
   obtain ⟨l1, l2, rfl, h1⟩ := first_of hi
   obtain ⟨d, w1, w2⟩ := w.split
   have e0 : l1 ≠ [] := fun e0 => by subst e0; exact nb i (by simp) rfl
   cases w2 with
   | cons g2 w3 nb2 =>
    obtain ⟨p, q1, q2⟩ := g1
    obtain ⟨p', r1, r2⟩ := g2
    rw [q1] at r1
    cases r1
    -- either the way between leads from b to b, or with edge i ahead from a to a
    have cases2 : b = d ∨ a = d := by
     rcases q2 with ⟨rfl, rfl⟩ | ⟨rfl, rfl⟩ <;> rcases r2 with ⟨rfl, _⟩ | ⟨rfl, _⟩
     ·exact .inr rfl
     ·exact .inl rfl
     ·exact .inl rfl
     ·exact .inr rfl
    rcases cases2 with rfl | rfl
    ·exact e0 (F.no_round T.length (fun j hj => w1.lt j hj) w1)
    ·have w' : Way T a (i :: l1) a := .cons ⟨p, q1, q2⟩ w1 fun j hj => nb j (by cases l1 with | nil => simp at hj | cons x l1 => simpa using hj)
     have := F.no_round T.length (fun j hj => w'.lt j hj) w'
     cases this
theorem nodup_filter {n : Nat} : ∀ {l : List Nat}, l.Nodup → l.length ≤ (l.filter (fun x => !Nat.beq x n)).length + 1
 | [], _ => by simp
 | x :: l, hn => by
  obtain ⟨k1, k2⟩ := List.nodup_cons.1 hn
  cases e : Nat.beq x n with
  | true =>
   have e' := Nat.eq_of_beq_eq_true e
   have : l.filter (fun y => !Nat.beq y n) = l := List.filter_eq_self.2 fun a ha => by
    cases q : Nat.beq a n with
    | false => rfl
    | true => exact absurd (by rw [e', ← Nat.eq_of_beq_eq_true q]; exact ha) k1
   rw [List.filter_cons, e, this]
   exact Nat.le_refl _
  | false =>
   have := nodup_filter (n := n) k2
   rw [List.filter_cons, e]
   simp only [Bool.not_false, if_true, List.length_cons]
   omega
theorem nodup_length : ∀ {n : Nat} {l : List Nat}, l.Nodup → (∀ i ∈ l, i < n) → l.length ≤ n
 | 0, l, _, h => by
  cases l with
  | nil => simp
  | cons i l => exact absurd (h i (by simp)) (by omega)
 | n + 1, l, hn, h => by
  have h1 : (l.filter (fun x => !Nat.beq x n)).length ≤ n := nodup_length (hn.filter _) fun i hi => by
   have := List.mem_filter.1 hi
   have h2 := h i this.1
   have h3 : Nat.beq i n = false := by simpa using this.2
   have := Nat.ne_of_beq_eq_false h3
   omega
  have h2 := nodup_filter (n := n) hn
  omega
theorem Forest.short {cl : Nat → α → Nat} (F : Forest T cl) {l : List Nat} {a c : α} (h : Way T a l c) : l.length ≤ T.length := nodup_length (F.nodup h) (fun i hi => h.lt i hi)
end
theorem cls_mono {α : Type} (A : α → Nat) (l : List (α × α)) (p : α × α) {a b : α} (h : cls A l a = cls A l b) : cls A (l ++ [p]) a = cls A (l ++ [p]) b := (cls_join A l p a b).2 (.inl h)
theorem cls_edge {α : Type} (A : α → Nat) (l : List (α × α)) (p : α × α) : cls A (l ++ [p]) p.1 = cls A (l ++ [p]) p.2 := (cls_join A l p _ _).2 (.inr ⟨.inl rfl, .inr rfl⟩)
theorem cls_take {α : Type} (A : α → Nat) (T : List (α × α)) {a b : α} : ∀ (M : Nat) {m : Nat}, m ≤ M → cls A (T.take m) a = cls A (T.take m) b → cls A (T.take M) a = cls A (T.take M) b
 | 0, m, h, k => by rw [show m = 0 by omega] at k; exact k
 | M + 1, m, h, k => by
  by_cases e : m = M + 1
  ·rw [← e]; exact k
  ·have ih := cls_take A T M (m := m) (by omega) k
   cases q : T[M]? with
   | none =>
    have hl := List.getElem?_eq_none_iff.1 q
    rw [List.take_of_length_le (by omega)]
    rw [List.take_of_length_le hl] at ih
    exact ih
   | some p =>
    rw [List.take_add_one, q]
    exact cls_mono A _ p ih
theorem forest_of {α : Type} (A : α → Nat) (T : List (α × α)) (h : ∀ i p, T[i]? = some p → cls A (T.take i) p.1 ≠ cls A (T.take i) p.2) : Forest T (fun M => cls A (T.take M)) where
 same := fun M i a b hi hg => by
  obtain ⟨p, h1, h2⟩ := hg
  have e : cls A (T.take (i + 1)) p.1 = cls A (T.take (i + 1)) p.2 := by
   rw [List.take_add_one, h1]
   exact cls_edge A _ p
  have e' := cls_take A T M (m := i + 1) (by omega) e
  rcases h2 with ⟨rfl, rfl⟩ | ⟨rfl, rfl⟩
  ·exact e'
  ·exact e'.symm
 diff := h
theorem Way.snoc {α : Type} {T : Ed α} : ∀ {l : List Nat} {a b c : α} {i : Nat}, Way T a l b → Goes1 T i b c → l.getLast? ≠ some i → Way T a (l ++ [i]) c
 | [], a, b, c, i, h, g, _ => by
  cases h
  exact .cons g (.nil _) fun j hj => by simp at hj
 | x :: l, a, b, c, i, h, g, hn => by
  cases h with
  | cons g1 w nb =>
   refine .cons g1 (w.snoc g fun e => hn ?_) fun j hj => ?_
   ·cases l with
    | nil => simp at e
    | cons y l => rw [List.getLast?_cons_cons]; exact e
   ·cases l with
    | nil =>
     simp at hj
     subst hj
     intro e
     subst e
     exact hn (by simp)
    | cons y l => exact nb j (by simpa using hj)


def edT (E : tE) (k : Nat) : List (Tx × Tx) := (List.range k).map fun j => ((E j).a, (E j).b)
theorem edT_len (E : tE) (k : Nat) : (edT E k).length = k := by simp [edT]
theorem edT_get (E : tE) {k j : Nat} (h : j < k) : (edT E k)[j]? = some ((E j).a, (E j).b) := by simp [edT, h]
/-- the edge by which one came -/
def cmOf (l : List Nat) : Int := match l.getLast? with
 | some j => (j : Int)
 | none => -1
theorem cmOf_snoc (l : List Nat) (i : Nat) : cmOf (l ++ [i]) = (i : Int) := by simp [cmOf]
theorem cmOf_ne {l : List Nat} {i : Nat} (h : (i : Int) ≠ cmOf l) : l.getLast? ≠ some i := fun e => h (by simp [cmOf, e])
/-- the other end -/
def nxt (E : tE) (i : Nat) (x : Tx) : Tx := bif (E i).a == x then (E i).b else (E i).a
/-- an edge that is passed over -/
def skp (E : tE) (i : Nat) (x : Tx) (cm : Int) : Bool := decide ((i : Int) = cm) || !((E i).a == x || (E i).b == x)
def wlp (E : tE) (k : Nat) (rec : List Tx → Tx → Int → Bool × List Tx) (ps : List Tx) (x : Tx) (cm : Int) : Nat → Bool × List Tx
 | 0 => (false, ps)
 | r + 1 => bif skp E (k - (r + 1)) x cm then wlp E k rec ps x cm r else
  bif (rec (ps ++ [(E (k - (r + 1))).n]) (nxt E (k - (r + 1)) x) ((k - (r + 1) : Nat) : Int)).1 then rec (ps ++ [(E (k - (r + 1))).n]) (nxt E (k - (r + 1)) x) ((k - (r + 1) : Nat) : Int) else wlp E k rec ps x cm r
/-- what a walk finds: the names on its way -/
def wks (E : tE) (k : Nat) (y : Tx) : Nat → List Tx → Tx → Int → Bool × List Tx
 | 0, ps, _, _ => (false, ps)
 | d + 1, ps, x, cm => bif x == y then (true, ps) else wlp E k (wks E k y d) ps x cm k
theorem wlp_false {E : tE} {k : Nat} {rec : List Tx → Tx → Int → Bool × List Tx} {ps : List Tx} {x : Tx} {cm : Int} : ∀ r, (wlp E k rec ps x cm r).1 = false → (wlp E k rec ps x cm r).2 = ps
 | 0, _ => rfl
 | r + 1, h => by
  unfold wlp at h ⊢
  cases s : skp E (k - (r + 1)) x cm with
  | true => rw [s, cond_true] at h; rw [cond_true]; exact wlp_false r h
  | false =>
   rw [s, cond_false] at h
   rw [cond_false]
   cases q : (rec (ps ++ [(E (k - (r + 1))).n]) (nxt E (k - (r + 1)) x) ((k - (r + 1) : Nat) : Int)).1 with
   | true => rw [q, cond_true] at h; rw [q] at h; cases h
   | false => rw [q, cond_false] at h; rw [cond_false]; exact wlp_false r h
theorem wks_false {E : tE} {k : Nat} {y : Tx} : ∀ {d : Nat} {ps : List Tx} {x : Tx} {cm : Int}, (wks E k y d ps x cm).1 = false → (wks E k y d ps x cm).2 = ps
 | 0, _, _, _, _ => rfl
 | d + 1, ps, x, cm, h => by
  unfold wks at h ⊢
  cases q : x == y with
  | true => rw [q, cond_true] at h; cases h
  | false => rw [q, cond_false] at h; rw [cond_false]; exact wlp_false _ h
theorem wlp_len {E : tE} {k : Nat} {rec : List Tx → Tx → Int → Bool × List Tx} {ps : List Tx} {x : Tx} {cm : Int} {d : Nat} (hr : ∀ ps x cm, (rec ps x cm).2.length ≤ ps.length + d) : ∀ r, (wlp E k rec ps x cm r).2.length ≤ ps.length + (d + 1)
 | 0 => by show ps.length ≤ _; omega
 | r + 1 => by
  unfold wlp
  cases skp E (k - (r + 1)) x cm with
  | true => rw [cond_true]; exact wlp_len hr r
  | false =>
   rw [cond_false]
   cases q : (rec (ps ++ [(E (k - (r + 1))).n]) (nxt E (k - (r + 1)) x) ((k - (r + 1) : Nat) : Int)).1 with
   | true =>
    rw [cond_true]
    have := hr (ps ++ [(E (k - (r + 1))).n]) (nxt E (k - (r + 1)) x) ((k - (r + 1) : Nat) : Int)
    simp only [List.length_append, List.length_cons, List.length_nil] at this
    omega
   | false => rw [cond_false]; exact wlp_len hr r
theorem wks_len (E : tE) (k : Nat) (y : Tx) : ∀ (d : Nat) (ps : List Tx) (x : Tx) (cm : Int), (wks E k y d ps x cm).2.length ≤ ps.length + d
 | 0, ps, x, cm => Nat.le_refl _
 | d + 1, ps, x, cm => by
  unfold wks
  cases x == y with
  | true => show ps.length ≤ _; omega
  | false => rw [cond_false]; exact wlp_len (fun ps x cm => wks_len E k y d ps x cm) k
/-- what a walk gives -/
def WPo (k : Nat) (q : Bool × List Tx) (y : Tx) (E : tE) : Po := fun e fr' H' => e = .ret ∧ ∃ (m' : Nat) (f' : tX), fr'.get 8 = some (.bool q.1) ∧ H' = hpL [(0, .cells false 8 k (.fn fun j => elR (E j))), (1, .cells true 1 1 (.fn fun _ => [.slc true false ⟨false, 0, 0, 0⟩ k])), (2, .cells true 1 1 (.fn fun _ => [.str true y])), (3, .cells true 1 1 (.fn fun _ => [sL 5 q.2.length])), (4, .cells true 1 1 (.fn fun _ => [.fn (.func 67) [] [.ptr ⟨false, 2, 0, 0⟩, .ptr ⟨false, 1, 0, 0⟩, .ptr ⟨false, 3, 0, 0⟩, .ptr ⟨false, 4, 0, 0⟩]])), (5, .cells true 1 m' (.fn (txR f')))] ∧ (∀ j, j < q.2.length → f' j = q.2.getD j []) ∧ q.2.length ≤ m'
/-- the path of these names -/
def PsO (ps : List Tx) (m : Nat) (f : tX) : Prop := ps.length ≤ m ∧ ∀ j, j < ps.length → f j = ps.getD j []
/-- behind a round: it goes on, or it was found -/
def RPo (k i : Nat) (ps : List Tx) (q : Bool × List Tx) (x y : Tx) (cm : Int) (E : tE) : Po := fun e fr' H' => (e = .normal ∧ q.1 = false ∧ ∃ (m' : Nat) (f' : tX), PsO ps m' f' ∧ fr' = frL [(0, .str true x), (1, iT cm), (2, .ptr ⟨false, 2, 0, 0⟩), (3, .ptr ⟨false, 1, 0, 0⟩), (4, .ptr ⟨false, 3, 0, 0⟩), (5, .ptr ⟨false, 4, 0, 0⟩), (15, .slc true false ⟨false, 0, 0, 0⟩ k), (16, iT (k : Int)), (17, iT (i : Int))] ∧ H' = hpL [(0, .cells false 8 k (.fn fun j => elR (E j))), (1, .cells true 1 1 (.fn fun _ => [.slc true false ⟨false, 0, 0, 0⟩ k])), (2, .cells true 1 1 (.fn fun _ => [.str true y])), (3, .cells true 1 1 (.fn fun _ => [sL 5 ps.length])), (4, .cells true 1 1 (.fn fun _ => [.fn (.func 67) [] [.ptr ⟨false, 2, 0, 0⟩, .ptr ⟨false, 1, 0, 0⟩, .ptr ⟨false, 3, 0, 0⟩, .ptr ⟨false, 4, 0, 0⟩]])), (5, .cells true 1 m' (.fn (txR f')))]) ∨ (q.1 = true ∧ WPo k q y E e fr' H')
noncomputable abbrev ZCw := nav [1,1,0,1,0,0] (bodyOf Try.f67)
theorem wk_is : (bodyOf Try.f67) = .seq (nav [0] (bodyOf Try.f67)) (.seq (nav [1,0] (bodyOf Try.f67)) (.seq (.seq (nav [1,1,0,0] (bodyOf Try.f67)) (.block 0 (.loop ZCw))) (nav [1,1,1] (bodyOf Try.f67)))) := by kernel_rfl
noncomputable abbrev ZCA := nav [1,1,0,1,0,0,1,1,0,0] (bodyOf Try.f67)
theorem wk_body : ZCw = .seq (nav [1,1,0,1,0,0,0] (bodyOf Try.f67)) (.seq (nav [1,1,0,1,0,0,1,0] (bodyOf Try.f67)) (.seq (.block 1 ZCA) (nav [1,1,0,1,0,0,1,1,1] (bodyOf Try.f67)))) := by kernel_rfl
theorem wk_ins : ZCA = .seq (nav [1,1,0,1,0,0,1,1,0,0,0] (bodyOf Try.f67)) (.seq (nav [1,1,0,1,0,0,1,1,0,0,1,0] (bodyOf Try.f67)) (.seq (nav [1,1,0,1,0,0,1,1,0,0,1,1,0] (bodyOf Try.f67)) (.seq (nav [1,1,0,1,0,0,1,1,0,0,1,1,1,0] (bodyOf Try.f67)) (.seq ZC0 (.seq (.seq ZBT ZCC) ZCD))))) := by kernel_rfl
noncomputable def opW : Oper := ((regOps ZBT).drop 3).headD ⟨none, .move (.tmp 0), 0, "", #[], none⟩
def clW : Call := ⟨.value (.tmp 50), #[.tmp 51, .tmp 52], #[9, 3]⟩
theorem wk_hb {g sz : Nat} {own : Bool} {d : List AV} {t : T (List AV)} {H : T ABk} {rows' : Nat → List AV} (h : H.get g = some (.cells own sz 1 (.lit d t))) (e : (Cont.lit d t).row 0 = rows' 0) : ∃ b', H.get g = some b' ∧ SameC b' (.cells own sz 1 (.fn rows')) :=
  ⟨_, h, rfl, rfl, rfl, fun j hj => by obtain rfl : j = 0 := by omega
                                       exact e⟩
noncomputable abbrev ZU (v0 : Tx) := (.cells true 1 1 (.fn fun _ => [.str true v0]) : ABk)
noncomputable abbrev ZBN (v0 v1) := (.cells true 1 v0 (.fn (txR v1)) : ABk)
noncomputable abbrev ZC9 (v0 : Bool × List Tx) := (.cells true 1 1 (.fn fun _ => [sL 5 v0.2.length]) : ABk)
end Go.Proofs.Ytgjdeclenlgaeaa
