/- GraphCounts: a part: summaries of functions that the statement reaches, printed by program, checked by the kernel. -/
import Derived.ProofKit
import Derived.OpenShut
import Derived.KernelRfl
import Derived.SizedLaws
import Derived.Test.YtgjdeclenlgaeaaProg
import Derived.Test.YtgjdeclenlgaeaaSm3
namespace Go.Proofs.Ytgjdeclenlgaeaa
open Go.ChangeShapes Go.WideShapes Go.ChangeAt Go.RowKit Go.Sx
set_option linter.unusedVariables false
set_option linter.unusedSimpArgs false
set_option maxRecDepth 100000

abbrev tP := Nat → Nat × Nat
abbrev jU := List (Nat × AV)
abbrev tH := List (Nat × aF)
theorem iD {fr : Fr} : ∀ {F : jU}, F.map (fun p => fr.get p.1) = F.map (fun p => some p.2) → Ge fr F
 | [], _ => trivial
 | p :: l, h => by
  simp only [List.map_cons, List.cons.injEq] at h
  exact ⟨re h.1, iD h.2⟩
theorem gq {H : T aF} : ∀ {F : tH}, F.map (fun p => H.get p.1) = F.map (fun p => some p.2) → Ia H F
 | [], _ => trivial
 | p :: l, h => by
  simp only [List.map_cons, List.cons.injEq] at h
  exact ⟨hs h.1, gq h.2⟩
theorem yX {K : Nat} {σ : Nat → Nat} {fr : Fr} : ∀ {F : jU}, F.map (fun p => (fr.get p.1, p.2.low K)) = F.map (fun p => (some (p.2.ren σ), true)) → DK K σ fr F
 | [], _ => trivial
 | p :: l, h => by
  simp only [List.map_cons, List.cons.injEq, Prod.mk.injEq] at h
  exact ⟨⟨_, h.1.1, AV.ge.refl _, h.1.2⟩, yX h.2⟩
abbrev pP (x : Ex) (F : jU) (Hl : tH) : Po := fun e fr' H' => e = x ∧ fr' = aV F ∧ H' = hpL Hl
theorem eN {K' : Nat} {e : Ex} {fl : jU} {bl : tH} {r : Aa (Ex × Fr)} {q : Prop} (hq : q) (h : jg K' e fl bl r = (e = e ∧ ql fl ∧ qm bl ∧ true = true ∧ q) := by kernel_rfl) : cO K' e fl bl r := eqn h hq
theorem cI {P : Program} {c : Code} {n B K K' : Nat} {fr : Fr} {H : T aF} {p : Bool} {X Y : Po} (h1 : p = true → aj P c n B K K' fr H X) (h2 : p = false → aj P c n B K K' fr H Y) : aj P c n B K K' fr H fun e fr' H' => cond p (X e fr' H') (Y e fr' H') := by
 cases p
 ·exact h2 rfl
 ·exact h1 rfl
theorem cD {P : Program} {c : Code} {n B K K' : Nat} {fr : Fr} {H : T aF} {p : Prop} {i : Decidable p} {X Y : Po} (h1 : p → decide p = true → aj P c n B K K' fr H X) (h2 : ¬p → decide p = false → aj P c n B K K' fr H Y) : aj P c n B K K' fr H fun e fr' H' => cond (decide p) (X e fr' H') (Y e fr' H') :=
 cI (fun t => h1 (of_decide_eq_true t) t) (fun t => h2 (of_decide_eq_false t) t)
abbrev sL (g n : Nat) : AV := .slc true true ⟨false, g, 0, 0⟩ n
abbrev sF (g n : Nat) : AV := .slc false false ⟨false, g, 0, 0⟩ n
abbrev iT (x : Int) : AV := .int true .i64 x
abbrev cK (o : Bool) (n : Nat) (p q : Nat → Nat) : aF := .cells o 1 n (.fn fun j => [.vW true (p j) (q j)])
theorem dT {p : Prop} {i : Decidable p} : (decide p = true) = p := decide_eq_true_eq
theorem dF {p : Prop} {i : Decidable p} : decide p = false ↔ ¬p := decide_eq_false_iff_not
theorem nt {a : Bool} (h : a = true) : (!a) = false := by rw [h]; rfl
theorem nf {a : Bool} (h : a = false) : (!a) = true := by rw [h]; rfl
abbrev tT : Bool := true
abbrev fF : Bool := false
def er0 : AV → AV
 | .bool b => .bD b
 | .int _ k n => .int true k n
 | .flt _ x => .flt true x
 | .raw _ x => .raw true x
 | .vW _ x y => .vW true x y
 | .str _ l => .str true l
 | v => v
def er1 : AV → AV
 | .agg l => .agg (l.map er0)
 | v => er0 v
def er2 : AV → AV
 | .lZ l => .lZ (l.map er1)
 | v => er1 v
theorem Om {N : Nat} {μ : MM} {v : AV} {c : Value} (h : Rep N μ v c) : Rep N μ (er0 v) c := by
 cases v <;> first | exact h | (simp only [er0, Rep] at h ⊢; exact h)
theorem Hf {N : Nat} {μ : MM} {f : AV → AV} (hf : ∀ {v c}, Rep N μ v c → Rep N μ (f v) c) : ∀ {l : List AV} {cs : List Value}, aO N μ l cs → aO N μ (l.map f) cs
 | [], cs, h => by simpa only [List.map_nil, aO] using h
 | v :: l, cs, h => by
  simp only [aO] at h
  obtain ⟨c, r, rfl, h1, h2⟩ := h
  simp only [List.map_cons, aO]
  exact ⟨c, r, rfl, hf h1, Hf hf h2⟩
theorem Oo {N : Nat} {μ : MM} {v : AV} {c : Value} (h : Rep N μ v c) : Rep N μ (er1 v) c := by
 cases v with
 | agg l =>
  simp only [er1, Rep] at h ⊢
  obtain ⟨cs, rfl, h1⟩ := h
  exact ⟨cs, rfl, Hf Om h1⟩
 | _ => exact Om h
theorem WH {N : Nat} {μ : MM} {v : AV} {c : Value} (h : Rep N μ v c) : Rep N μ (er2 v) c := by
 cases v with
 | lZ l =>
  simp only [er2, Rep] at h ⊢
  obtain ⟨cs, rfl, h1⟩ := h
  exact ⟨cs, rfl, Hf Oo h1⟩
 | _ => exact Oo h
def Oq (R : AV) : Aa AV → Prop
 | .done v g => er2 v = R ∧ v.low 0 = true ∧ g.cs
 | _ => False
structure J3 (R : AV) (r : Aa AV) : Prop where
 of : Oq R r
theorem lE {R : AV} {r : Aa AV} {q : Prop} (e : Oq R r = (R = R ∧ true = true ∧ q)) (h : q) : J3 R r := ⟨by rw [e]; exact ⟨rfl, rfl, h⟩⟩
theorem lF {R : AV} {r : Aa AV} {q : Prop} (h : q) (e : Oq R r = (R = R ∧ true = true ∧ q) := by kernel_rfl) : J3 R r := lE e h
theorem adt {call : Calls'} {f : FuncId} {args a' : List AV} {v R : AV} {g : G} (T : ∃ p, J3 R (call f a' (G.on p))) (ha : ∀ N μ l, aO N μ args l → aO 0 MM.none a' l) (hr : ∀ N μ c, Rep N μ R c → Rep N μ v c) : ∀ μ (bW : Array Value), aO g.nx μ args bW.toList → ∃ args' path lv, aO 0 MM.none args' bW.toList ∧ wC lv (call f args' (G.on path)) ∧ lv.low 0 = true ∧ ∀ c, (∀ N μ, Rep N μ lv c) → Rep g.nx μ v c := by
 intro μ bW h
 obtain ⟨p, hp⟩ := T
 have k := hp.of
 unfold Oq at k
 split at k
 ·rename_i v' g' e
  obtain ⟨k1, k2, k3⟩ := k
  exact ⟨a', p, v', ha _ _ _ h, ⟨by rw [e]; exact ⟨rfl, k3⟩⟩, k2, fun c hc => hr _ _ _ (by rw [← k1]; exact WH (hc g.nx μ))⟩
 ·exact k.elim
theorem scE {call : Calls'} (hc : dw Try.prog call) {f : FuncId} {args a' : List AV} {v R : AV} {g : G} (T : ∃ p, J3 R (call f a' (G.on p))) (ha : ∀ N μ l, aO N μ args l → aO 0 MM.none a' l) (hr : ∀ N μ c, Rep N μ R c → Rep N μ v c) : bZ Try.prog f args v g g :=
 VG hc (adt T ha hr)
theorem ai3 {call : Calls'} (hc : dw Try.prog call) {f : FuncId} {args a' : List AV} {v R : AV} {g g' : G} {p : Prop} (k : Keep g g' p) (T : p → ∃ p, J3 R (call f a' (G.on p))) (ha : ∀ N μ l, aO N μ args l → aO 0 MM.none a' l) (hr : ∀ N μ c, Rep N μ R c → Rep N μ v c) : bZ Try.prog f args v g g' :=
 acR hc k fun hp => adt (T hp) ha hr
theorem ai {p q : Prop} (h : p) (k : q) : p ∧ q := ⟨h, k⟩
theorem I1 {p0 : Prop} (h0 : p0) : True ∧ p0 := ⟨trivial, h0⟩
theorem I2 {p0 p1 : Prop} (h0 : p0) (h1 : p1) : (True ∧ p0) ∧ p1 := ⟨⟨trivial, h0⟩, h1⟩
theorem I3 {p0 p1 p2 : Prop} (h0 : p0) (h1 : p1) (h2 : p2) : ((True ∧ p0) ∧ p1) ∧ p2 := ⟨⟨⟨trivial, h0⟩, h1⟩, h2⟩
theorem I4 {p0 p1 p2 p3 : Prop} (h0 : p0) (h1 : p1) (h2 : p2) (h3 : p3) : (((True ∧ p0) ∧ p1) ∧ p2) ∧ p3 := ⟨⟨⟨⟨trivial, h0⟩, h1⟩, h2⟩, h3⟩
theorem I5 {p0 p1 p2 p3 p4 : Prop} (h0 : p0) (h1 : p1) (h2 : p2) (h3 : p3) (h4 : p4) : ((((True ∧ p0) ∧ p1) ∧ p2) ∧ p3) ∧ p4 := ⟨⟨⟨⟨⟨trivial, h0⟩, h1⟩, h2⟩, h3⟩, h4⟩
theorem I6 {p0 p1 p2 p3 p4 p5 : Prop} (h0 : p0) (h1 : p1) (h2 : p2) (h3 : p3) (h4 : p4) (h5 : p5) : (((((True ∧ p0) ∧ p1) ∧ p2) ∧ p3) ∧ p4) ∧ p5 := ⟨⟨⟨⟨⟨⟨trivial, h0⟩, h1⟩, h2⟩, h3⟩, h4⟩, h5⟩
theorem I7 {p0 p1 p2 p3 p4 p5 p6 : Prop} (h0 : p0) (h1 : p1) (h2 : p2) (h3 : p3) (h4 : p4) (h5 : p5) (h6 : p6) : ((((((True ∧ p0) ∧ p1) ∧ p2) ∧ p3) ∧ p4) ∧ p5) ∧ p6 := ⟨⟨⟨⟨⟨⟨⟨trivial, h0⟩, h1⟩, h2⟩, h3⟩, h4⟩, h5⟩, h6⟩
theorem I8 {p0 p1 p2 p3 p4 p5 p6 p7 : Prop} (h0 : p0) (h1 : p1) (h2 : p2) (h3 : p3) (h4 : p4) (h5 : p5) (h6 : p6) (h7 : p7) : (((((((True ∧ p0) ∧ p1) ∧ p2) ∧ p3) ∧ p4) ∧ p5) ∧ p6) ∧ p7 := ⟨⟨⟨⟨⟨⟨⟨⟨trivial, h0⟩, h1⟩, h2⟩, h3⟩, h4⟩, h5⟩, h6⟩, h7⟩
theorem I9 {p0 p1 p2 p3 p4 p5 p6 p7 p8 : Prop} (h0 : p0) (h1 : p1) (h2 : p2) (h3 : p3) (h4 : p4) (h5 : p5) (h6 : p6) (h7 : p7) (h8 : p8) : ((((((((True ∧ p0) ∧ p1) ∧ p2) ∧ p3) ∧ p4) ∧ p5) ∧ p6) ∧ p7) ∧ p8 := ⟨⟨⟨⟨⟨⟨⟨⟨⟨trivial, h0⟩, h1⟩, h2⟩, h3⟩, h4⟩, h5⟩, h6⟩, h7⟩, h8⟩
theorem I10 {p0 p1 p2 p3 p4 p5 p6 p7 p8 p9 : Prop} (h0 : p0) (h1 : p1) (h2 : p2) (h3 : p3) (h4 : p4) (h5 : p5) (h6 : p6) (h7 : p7) (h8 : p8) (h9 : p9) : (((((((((True ∧ p0) ∧ p1) ∧ p2) ∧ p3) ∧ p4) ∧ p5) ∧ p6) ∧ p7) ∧ p8) ∧ p9 := ⟨⟨⟨⟨⟨⟨⟨⟨⟨⟨trivial, h0⟩, h1⟩, h2⟩, h3⟩, h4⟩, h5⟩, h6⟩, h7⟩, h8⟩, h9⟩
theorem I12 {p0 p1 p2 p3 p4 p5 p6 p7 p8 p9 p10 p11 : Prop} (h0 : p0) (h1 : p1) (h2 : p2) (h3 : p3) (h4 : p4) (h5 : p5) (h6 : p6) (h7 : p7) (h8 : p8) (h9 : p9) (h10 : p10) (h11 : p11) : (((((((((((True ∧ p0) ∧ p1) ∧ p2) ∧ p3) ∧ p4) ∧ p5) ∧ p6) ∧ p7) ∧ p8) ∧ p9) ∧ p10) ∧ p11 := ⟨⟨⟨⟨⟨⟨⟨⟨⟨⟨⟨⟨trivial, h0⟩, h1⟩, h2⟩, h3⟩, h4⟩, h5⟩, h6⟩, h7⟩, h8⟩, h9⟩, h10⟩, h11⟩
theorem I13 {p0 p1 p2 p3 p4 p5 p6 p7 p8 p9 p10 p11 p12 : Prop} (h0 : p0) (h1 : p1) (h2 : p2) (h3 : p3) (h4 : p4) (h5 : p5) (h6 : p6) (h7 : p7) (h8 : p8) (h9 : p9) (h10 : p10) (h11 : p11) (h12 : p12) : ((((((((((((True ∧ p0) ∧ p1) ∧ p2) ∧ p3) ∧ p4) ∧ p5) ∧ p6) ∧ p7) ∧ p8) ∧ p9) ∧ p10) ∧ p11) ∧ p12 := ⟨⟨⟨⟨⟨⟨⟨⟨⟨⟨⟨⟨⟨trivial, h0⟩, h1⟩, h2⟩, h3⟩, h4⟩, h5⟩, h6⟩, h7⟩, h8⟩, h9⟩, h10⟩, h11⟩, h12⟩
theorem I14 {p0 p1 p2 p3 p4 p5 p6 p7 p8 p9 p10 p11 p12 p13 : Prop} (h0 : p0) (h1 : p1) (h2 : p2) (h3 : p3) (h4 : p4) (h5 : p5) (h6 : p6) (h7 : p7) (h8 : p8) (h9 : p9) (h10 : p10) (h11 : p11) (h12 : p12) (h13 : p13) : (((((((((((((True ∧ p0) ∧ p1) ∧ p2) ∧ p3) ∧ p4) ∧ p5) ∧ p6) ∧ p7) ∧ p8) ∧ p9) ∧ p10) ∧ p11) ∧ p12) ∧ p13 := ⟨⟨⟨⟨⟨⟨⟨⟨⟨⟨⟨⟨⟨⟨trivial, h0⟩, h1⟩, h2⟩, h3⟩, h4⟩, h5⟩, h6⟩, h7⟩, h8⟩, h9⟩, h10⟩, h11⟩, h12⟩, h13⟩
theorem I15 {p0 p1 p2 p3 p4 p5 p6 p7 p8 p9 p10 p11 p12 p13 p14 : Prop} (h0 : p0) (h1 : p1) (h2 : p2) (h3 : p3) (h4 : p4) (h5 : p5) (h6 : p6) (h7 : p7) (h8 : p8) (h9 : p9) (h10 : p10) (h11 : p11) (h12 : p12) (h13 : p13) (h14 : p14) : ((((((((((((((True ∧ p0) ∧ p1) ∧ p2) ∧ p3) ∧ p4) ∧ p5) ∧ p6) ∧ p7) ∧ p8) ∧ p9) ∧ p10) ∧ p11) ∧ p12) ∧ p13) ∧ p14 := ⟨⟨⟨⟨⟨⟨⟨⟨⟨⟨⟨⟨⟨⟨⟨trivial, h0⟩, h1⟩, h2⟩, h3⟩, h4⟩, h5⟩, h6⟩, h7⟩, h8⟩, h9⟩, h10⟩, h11⟩, h12⟩, h13⟩, h14⟩
noncomputable def aaB : Known := kc 71 ofBits (kc 74 toBits (kn))
theorem Ot : fK Try.prog aaB := aH ((fQ Try.prog).fE Try.func71 (by kernel_rfl) (by kernel_rfl) (by kernel_rfl) (by kernel_rfl)) (aH ((fP Try.prog).fE Try.func74 (by kernel_rfl) (by kernel_rfl) (by kernel_rfl) (by kernel_rfl)) (qj))
theorem Ec : gY aaB := aG aC.ofBits (aG aC.toBits (lJ))
noncomputable def lU : Calls' := Sx.runN Try.prog aaB (bK Try.prog) 1000 50
theorem qR : dw Try.prog lU := iQ Ot Ec (by kernel_rfl) (by kernel_rfl) 1000 50
theorem FH : iO lU := oW Ec (fun _ _ _ h => by cases h) (fun call hc n l fr => kV hc n l fr) 50
theorem Ql (n : Nat) : eF Try.prog (bK Try.prog lU n) n := eX Ot Ec (by kernel_rfl) (by kernel_rfl) 1000 50 n
noncomputable abbrev dR (f : Func) (c : Code) (fr : Fr) (H : T aF) (K : Nat) (path : List Bool) : Aa (Ex × Fr) :=
 bV Try.prog lU (bK Try.prog lU f.ntmps) jH f.ntmps 1000 c fr ⟨H, K, [], path, True⟩
theorem MS {fn : Func} {K K' B : Nat} {e : Ex} {F : jU} {Hl : tH} {c : Code} {fr : Fr} {H : T aF} {path : List Bool} (h : cO K' e F Hl (dR fn c fr H K path)) (hB : B ≤ K) : aj Try.prog c fn.ntmps B K K' fr H fun e' fr' H' => e' = e ∧ fr' = aV F ∧ H' = hpL Hl := aj.runN qR (Ql _) (gu.none _ _ _) h hB
theorem aaC (l : List UInt8) : cO 0 (Ex.normal) [(0, .str true l)] [] (dR Try.f72 (aT [0] (ak Try.f72)) (bJ [.str true l] 0 .e) (.e) 0 []) := eN trivial
theorem smA (B : Nat) (hB : B ≤ 0) (l : List UInt8) : aj Try.prog (aT [0] (ak Try.f72)) Try.f72.ntmps B 0 0 (bJ [.str true l] 0 .e) (.e) fun e fr' H' => (e = .normal ∧ fr' = aV [(0, .str true l)] ∧ H' = hpL []) := MS (aaC l) hB
noncomputable abbrev ZA (w0) := (.ptr ⟨false, w0, 0, 0⟩ : AV)
theorem aaD (l : List UInt8) : cO 1 (Ex.normal) [(6, ZA 0)] [(0, aF.sit true l 0)] (dR Try.f72 (aT [1,0,0] (ak Try.f72)) (aV [(0, .str true l)]) (hpL []) 0 []) := eN trivial
theorem smR (B : Nat) (hB : B ≤ 0) (l : List UInt8) : aj Try.prog (aT [1,0,0] (ak Try.f72)) Try.f72.ntmps B 0 1 (aV [(0, .str true l)]) (hpL []) fun e fr' H' => (e = .normal ∧ fr' = aV [(6, ZA 0)] ∧ H' = hpL [(0, aF.sit true l 0)]) := MS (aaD l) hB
noncomputable abbrev MV := aT [1,0,1,0,0] (ak Try.f72)
noncomputable abbrev Qm (v0 : List UInt8) (v1 : Nat) := hpL [(0, .sit true v0 v1)]
noncomputable abbrev zq (w0 w1) := aV [(w0, ZA w1)]
theorem aaE (l : List UInt8) (pos : Nat) (c0 : decide (pos < List.length l) = true) (c1 : decide ((↑(Prod.fst (Go.Utf8.decode (ByteArray.mk (List.toArray l)) pos)) : Int) < 97) = true) (c2 : decide ((↑(Prod.fst (Go.Utf8.decode (ByteArray.mk (List.toArray l)) pos)) : Int) < 48) = true) (c3 : (!decide ((↑(Prod.fst (Go.Utf8.decode (ByteArray.mk (List.toArray l)) pos)) : Int) = 95)) = false) : cO 1 (Ex.normal) [(6, ZA 0)] [(0, aF.sit true l (pos + Prod.snd (Go.Utf8.decode (ByteArray.mk (List.toArray l)) pos)))] (dR Try.f72 MV (zq 6 0) (Qm l pos) 1 [true, true, true, false]) := eN (I4 c0 c1 c2 c3)
noncomputable abbrev Yz := ([(2, .bool false), (6, ZA 0)] : jU)
theorem aaF (l : List UInt8) (pos : Nat) (c0 : decide (pos < List.length l) = true) (c1 : decide ((↑(Prod.fst (Go.Utf8.decode (ByteArray.mk (List.toArray l)) pos)) : Int) < 97) = true) (c2 : decide ((↑(Prod.fst (Go.Utf8.decode (ByteArray.mk (List.toArray l)) pos)) : Int) < 48) = true) (c3 : (!decide ((↑(Prod.fst (Go.Utf8.decode (ByteArray.mk (List.toArray l)) pos)) : Int) = 95)) = true) : cO 1 (Ex.ret) Yz [(0, aF.sit true l (pos + Prod.snd (Go.Utf8.decode (ByteArray.mk (List.toArray l)) pos)))] (dR Try.f72 MV (zq 6 0) (Qm l pos) 1 [true, true, true, true]) := eN (I4 c0 c1 c2 c3)
theorem aaG (l : List UInt8) (pos : Nat) (c0 : decide (pos < List.length l) = true) (c1 : decide ((↑(Prod.fst (Go.Utf8.decode (ByteArray.mk (List.toArray l)) pos)) : Int) < 97) = true) (c2 : decide ((↑(Prod.fst (Go.Utf8.decode (ByteArray.mk (List.toArray l)) pos)) : Int) < 48) = false) (c3 : decide (57 < (↑(Prod.fst (Go.Utf8.decode (ByteArray.mk (List.toArray l)) pos)) : Int)) = true) (c4 : (!decide ((↑(Prod.fst (Go.Utf8.decode (ByteArray.mk (List.toArray l)) pos)) : Int) = 95)) = false) : cO 1 (Ex.normal) [(6, ZA 0)] [(0, aF.sit true l (pos + Prod.snd (Go.Utf8.decode (ByteArray.mk (List.toArray l)) pos)))] (dR Try.f72 MV (zq 6 0) (Qm l pos) 1 [true, true, false, true, false]) := eN (I5 c0 c1 c2 c3 c4)
theorem aaH (l : List UInt8) (pos : Nat) (c0 : decide (pos < List.length l) = true) (c1 : decide ((↑(Prod.fst (Go.Utf8.decode (ByteArray.mk (List.toArray l)) pos)) : Int) < 97) = true) (c2 : decide ((↑(Prod.fst (Go.Utf8.decode (ByteArray.mk (List.toArray l)) pos)) : Int) < 48) = false) (c3 : decide (57 < (↑(Prod.fst (Go.Utf8.decode (ByteArray.mk (List.toArray l)) pos)) : Int)) = true) (c4 : (!decide ((↑(Prod.fst (Go.Utf8.decode (ByteArray.mk (List.toArray l)) pos)) : Int) = 95)) = true) : cO 1 (Ex.ret) Yz [(0, aF.sit true l (pos + Prod.snd (Go.Utf8.decode (ByteArray.mk (List.toArray l)) pos)))] (dR Try.f72 MV (zq 6 0) (Qm l pos) 1 [true, true, false, true, true]) := eN (I5 c0 c1 c2 c3 c4)
theorem aaI (l : List UInt8) (pos : Nat) (c0 : decide (pos < List.length l) = true) (c1 : decide ((↑(Prod.fst (Go.Utf8.decode (ByteArray.mk (List.toArray l)) pos)) : Int) < 97) = true) (c2 : decide ((↑(Prod.fst (Go.Utf8.decode (ByteArray.mk (List.toArray l)) pos)) : Int) < 48) = false) (c3 : decide (57 < (↑(Prod.fst (Go.Utf8.decode (ByteArray.mk (List.toArray l)) pos)) : Int)) = false) : cO 1 (Ex.normal) [(6, ZA 0)] [(0, aF.sit true l (pos + Prod.snd (Go.Utf8.decode (ByteArray.mk (List.toArray l)) pos)))] (dR Try.f72 MV (zq 6 0) (Qm l pos) 1 [true, true, false, false]) := eN (I4 c0 c1 c2 c3)
theorem aaJ (l : List UInt8) (pos : Nat) (c0 : decide (pos < List.length l) = true) (c1 : decide ((↑(Prod.fst (Go.Utf8.decode (ByteArray.mk (List.toArray l)) pos)) : Int) < 97) = false) (c2 : decide (122 < (↑(Prod.fst (Go.Utf8.decode (ByteArray.mk (List.toArray l)) pos)) : Int)) = true) (c3 : decide ((↑(Prod.fst (Go.Utf8.decode (ByteArray.mk (List.toArray l)) pos)) : Int) < 48) = true) (c4 : (!decide ((↑(Prod.fst (Go.Utf8.decode (ByteArray.mk (List.toArray l)) pos)) : Int) = 95)) = false) : cO 1 (Ex.normal) [(6, ZA 0)] [(0, aF.sit true l (pos + Prod.snd (Go.Utf8.decode (ByteArray.mk (List.toArray l)) pos)))] (dR Try.f72 MV (zq 6 0) (Qm l pos) 1 [true, false, true, true, false]) := eN (I5 c0 c1 c2 c3 c4)
theorem aaK (l : List UInt8) (pos : Nat) (c0 : decide (pos < List.length l) = true) (c1 : decide ((↑(Prod.fst (Go.Utf8.decode (ByteArray.mk (List.toArray l)) pos)) : Int) < 97) = false) (c2 : decide (122 < (↑(Prod.fst (Go.Utf8.decode (ByteArray.mk (List.toArray l)) pos)) : Int)) = true) (c3 : decide ((↑(Prod.fst (Go.Utf8.decode (ByteArray.mk (List.toArray l)) pos)) : Int) < 48) = true) (c4 : (!decide ((↑(Prod.fst (Go.Utf8.decode (ByteArray.mk (List.toArray l)) pos)) : Int) = 95)) = true) : cO 1 (Ex.ret) Yz [(0, aF.sit true l (pos + Prod.snd (Go.Utf8.decode (ByteArray.mk (List.toArray l)) pos)))] (dR Try.f72 MV (zq 6 0) (Qm l pos) 1 [true, false, true, true, true]) := eN (I5 c0 c1 c2 c3 c4)
theorem aaL (l : List UInt8) (pos : Nat) (c0 : decide (pos < List.length l) = true) (c1 : decide ((↑(Prod.fst (Go.Utf8.decode (ByteArray.mk (List.toArray l)) pos)) : Int) < 97) = false) (c2 : decide (122 < (↑(Prod.fst (Go.Utf8.decode (ByteArray.mk (List.toArray l)) pos)) : Int)) = true) (c3 : decide ((↑(Prod.fst (Go.Utf8.decode (ByteArray.mk (List.toArray l)) pos)) : Int) < 48) = false) (c4 : decide (57 < (↑(Prod.fst (Go.Utf8.decode (ByteArray.mk (List.toArray l)) pos)) : Int)) = true) (c5 : (!decide ((↑(Prod.fst (Go.Utf8.decode (ByteArray.mk (List.toArray l)) pos)) : Int) = 95)) = false) : cO 1 (Ex.normal) [(6, ZA 0)] [(0, aF.sit true l (pos + Prod.snd (Go.Utf8.decode (ByteArray.mk (List.toArray l)) pos)))] (dR Try.f72 MV (zq 6 0) (Qm l pos) 1 [true, false, true, false, true, false]) := eN (I6 c0 c1 c2 c3 c4 c5)
theorem aaM (l : List UInt8) (pos : Nat) (c0 : decide (pos < List.length l) = true) (c1 : decide ((↑(Prod.fst (Go.Utf8.decode (ByteArray.mk (List.toArray l)) pos)) : Int) < 97) = false) (c2 : decide (122 < (↑(Prod.fst (Go.Utf8.decode (ByteArray.mk (List.toArray l)) pos)) : Int)) = true) (c3 : decide ((↑(Prod.fst (Go.Utf8.decode (ByteArray.mk (List.toArray l)) pos)) : Int) < 48) = false) (c4 : decide (57 < (↑(Prod.fst (Go.Utf8.decode (ByteArray.mk (List.toArray l)) pos)) : Int)) = true) (c5 : (!decide ((↑(Prod.fst (Go.Utf8.decode (ByteArray.mk (List.toArray l)) pos)) : Int) = 95)) = true) : cO 1 (Ex.ret) Yz [(0, aF.sit true l (pos + Prod.snd (Go.Utf8.decode (ByteArray.mk (List.toArray l)) pos)))] (dR Try.f72 MV (zq 6 0) (Qm l pos) 1 [true, false, true, false, true, true]) := eN (I6 c0 c1 c2 c3 c4 c5)
theorem aaN (l : List UInt8) (pos : Nat) (c0 : decide (pos < List.length l) = true) (c1 : decide ((↑(Prod.fst (Go.Utf8.decode (ByteArray.mk (List.toArray l)) pos)) : Int) < 97) = false) (c2 : decide (122 < (↑(Prod.fst (Go.Utf8.decode (ByteArray.mk (List.toArray l)) pos)) : Int)) = true) (c3 : decide ((↑(Prod.fst (Go.Utf8.decode (ByteArray.mk (List.toArray l)) pos)) : Int) < 48) = false) (c4 : decide (57 < (↑(Prod.fst (Go.Utf8.decode (ByteArray.mk (List.toArray l)) pos)) : Int)) = false) : cO 1 (Ex.normal) [(6, ZA 0)] [(0, aF.sit true l (pos + Prod.snd (Go.Utf8.decode (ByteArray.mk (List.toArray l)) pos)))] (dR Try.f72 MV (zq 6 0) (Qm l pos) 1 [true, false, true, false, false]) := eN (I5 c0 c1 c2 c3 c4)
theorem WI (l : List UInt8) (pos : Nat) (c0 : decide (pos < List.length l) = true) (c1 : decide ((↑(Prod.fst (Go.Utf8.decode (ByteArray.mk (List.toArray l)) pos)) : Int) < 97) = false) (c2 : decide (122 < (↑(Prod.fst (Go.Utf8.decode (ByteArray.mk (List.toArray l)) pos)) : Int)) = false) : cO 1 (Ex.normal) [(6, ZA 0)] [(0, aF.sit true l (pos + Prod.snd (Go.Utf8.decode (ByteArray.mk (List.toArray l)) pos)))] (dR Try.f72 MV (zq 6 0) (Qm l pos) 1 [true, false, false]) := eN (I3 c0 c1 c2)
theorem WJ (l : List UInt8) (pos : Nat) (c0 : decide (pos < List.length l) = false) : cO 1 (Ex.exit 0) [(6, ZA 0)] [(0, aF.sit true l pos)] (dR Try.f72 MV (zq 6 0) (Qm l pos) 1 [false]) := eN (I1 c0)
theorem smB (B : Nat) (hB : B ≤ 1) (l : List UInt8) (pos : Nat) : aj Try.prog MV Try.f72.ntmps B 1 1 (zq 6 0) (Qm l pos) fun e fr' H' => (cond (decide (pos < List.length l)) (cond (decide ((↑(Prod.fst (Go.Utf8.decode (ByteArray.mk (List.toArray l)) pos)) : Int) < 97)) (cond (decide ((↑(Prod.fst (Go.Utf8.decode (ByteArray.mk (List.toArray l)) pos)) : Int) < 48)) (cond (decide ((↑(Prod.fst (Go.Utf8.decode (ByteArray.mk (List.toArray l)) pos)) : Int) = 95)) (pP .normal [(6, ZA 0)] [(0, aF.sit true l (pos + Prod.snd (Go.Utf8.decode (ByteArray.mk (List.toArray l)) pos)))] e fr' H') (pP .ret Yz [(0, aF.sit true l (pos + Prod.snd (Go.Utf8.decode (ByteArray.mk (List.toArray l)) pos)))] e fr' H')) (cond (decide (57 < (↑(Prod.fst (Go.Utf8.decode (ByteArray.mk (List.toArray l)) pos)) : Int))) (cond (decide ((↑(Prod.fst (Go.Utf8.decode (ByteArray.mk (List.toArray l)) pos)) : Int) = 95)) (pP .normal [(6, ZA 0)] [(0, aF.sit true l (pos + Prod.snd (Go.Utf8.decode (ByteArray.mk (List.toArray l)) pos)))] e fr' H') (pP .ret Yz [(0, aF.sit true l (pos + Prod.snd (Go.Utf8.decode (ByteArray.mk (List.toArray l)) pos)))] e fr' H')) (pP .normal [(6, ZA 0)] [(0, aF.sit true l (pos + Prod.snd (Go.Utf8.decode (ByteArray.mk (List.toArray l)) pos)))] e fr' H'))) (cond (decide (122 < (↑(Prod.fst (Go.Utf8.decode (ByteArray.mk (List.toArray l)) pos)) : Int))) (cond (decide ((↑(Prod.fst (Go.Utf8.decode (ByteArray.mk (List.toArray l)) pos)) : Int) < 48)) (cond (decide ((↑(Prod.fst (Go.Utf8.decode (ByteArray.mk (List.toArray l)) pos)) : Int) = 95)) (pP .normal [(6, ZA 0)] [(0, aF.sit true l (pos + Prod.snd (Go.Utf8.decode (ByteArray.mk (List.toArray l)) pos)))] e fr' H') (pP .ret Yz [(0, aF.sit true l (pos + Prod.snd (Go.Utf8.decode (ByteArray.mk (List.toArray l)) pos)))] e fr' H')) (cond (decide (57 < (↑(Prod.fst (Go.Utf8.decode (ByteArray.mk (List.toArray l)) pos)) : Int))) (cond (decide ((↑(Prod.fst (Go.Utf8.decode (ByteArray.mk (List.toArray l)) pos)) : Int) = 95)) (pP .normal [(6, ZA 0)] [(0, aF.sit true l (pos + Prod.snd (Go.Utf8.decode (ByteArray.mk (List.toArray l)) pos)))] e fr' H') (pP .ret Yz [(0, aF.sit true l (pos + Prod.snd (Go.Utf8.decode (ByteArray.mk (List.toArray l)) pos)))] e fr' H')) (pP .normal [(6, ZA 0)] [(0, aF.sit true l (pos + Prod.snd (Go.Utf8.decode (ByteArray.mk (List.toArray l)) pos)))] e fr' H'))) (pP .normal [(6, ZA 0)] [(0, aF.sit true l (pos + Prod.snd (Go.Utf8.decode (ByteArray.mk (List.toArray l)) pos)))] e fr' H'))) (pP (.exit 0) [(6, ZA 0)] [(0, aF.sit true l pos)] e fr' H')) := cD (fun q0 t0 => cD (fun q1 t1 => cD (fun q2 t2 => cD (fun q3 t3 => MS (aaE l pos t0 t1 t2 (by rw [t3]; rfl)) hB) (fun q3 t3 => MS (aaF l pos t0 t1 t2 (by rw [t3]; rfl)) hB)) (fun q2 t2 => cD (fun q3 t3 => cD (fun q4 t4 => MS (aaG l pos t0 t1 t2 t3 (by rw [t4]; rfl)) hB) (fun q4 t4 => MS (aaH l pos t0 t1 t2 t3 (by rw [t4]; rfl)) hB)) (fun q3 t3 => MS (aaI l pos t0 t1 t2 t3) hB))) (fun q1 t1 => cD (fun q2 t2 => cD (fun q3 t3 => cD (fun q4 t4 => MS (aaJ l pos t0 t1 t2 t3 (by rw [t4]; rfl)) hB) (fun q4 t4 => MS (aaK l pos t0 t1 t2 t3 (by rw [t4]; rfl)) hB)) (fun q3 t3 => cD (fun q4 t4 => cD (fun q5 t5 => MS (aaL l pos t0 t1 t2 t3 t4 (by rw [t5]; rfl)) hB) (fun q5 t5 => MS (aaM l pos t0 t1 t2 t3 t4 (by rw [t5]; rfl)) hB)) (fun q4 t4 => MS (aaN l pos t0 t1 t2 t3 t4) hB))) (fun q2 t2 => MS (WI l pos t0 t1 t2) hB))) (fun q0 t0 => MS (WJ l pos t0) hB)
theorem aaO  : cO 1 (Ex.ret) [(2, .bool true)] [] (dR Try.f72 (aT [1,1] (ak Try.f72)) (aV []) (hpL []) 1 []) := eN trivial
theorem smZ (B : Nat) (hB : B ≤ 1)  : aj Try.prog (aT [1,1] (ak Try.f72)) Try.f72.ntmps B 1 1 (aV []) (hpL []) fun e fr' H' => (e = .ret ∧ fr' = aV [(2, .bool true)] ∧ H' = hpL []) := MS (aaO ) hB
def okB (b : UInt8) : Bool := (decide (97 ≤ b.toNat) && decide (b.toNat ≤ 122)) || (decide (48 ≤ b.toNat) && decide (b.toNat ≤ 57)) || decide (b.toNat = 95)
theorem WL (l : List UInt8) (pos : Nat) (h : pos < l.length) : (l[pos].toNat < 128 ∧ Utf8.decode ⟨l.toArray⟩ pos = (l[pos].toNat, 1)) ∨ (128 ≤ l[pos].toNat ∧ 128 ≤ (Utf8.decode ⟨l.toArray⟩ pos).1) := by
 have hs : pos < (⟨l.toArray⟩ : ByteArray).size := by rw [rF]; exact h
 have e : (⟨l.toArray⟩ : ByteArray)[pos]'hs = l[pos] := rfl
 by_cases hb : l[pos].toNat < 128
 ·exact .inl ⟨hb, decode_ascii _ pos hs hb⟩
 ·exact .inr ⟨by omega, (decode_high _ pos hs (by rw [e]; omega)).1⟩
theorem TV (l : List UInt8) (pos : Nat) (h : pos < l.length) (hp : (l.take pos).all okB = true) (hk : okB l[pos] = true) : (l.take (pos + 1)).all okB = true := by
 rw [List.take_succ_eq_append_getElem h, List.all_append, hp]; simp [hk]
theorem all_false (l : List UInt8) (pos : Nat) (h : pos < l.length) (hk : okB l[pos] = false) : l.all okB = false := by
 rw [List.all_eq_false]; exact ⟨l[pos], List.getElem_mem h, by simp [hk]⟩
theorem Ou (b : UInt8) : okB b = true ↔ ((97 ≤ b.toNat ∧ b.toNat ≤ 122) ∨ (48 ≤ b.toNat ∧ b.toNat ≤ 57) ∨ b.toNat = 95) := by
 unfold okB; simp only [Bool.or_eq_true, Bool.and_eq_true, decide_eq_true_eq]; omega
theorem WM (b : UInt8) : okB b = false ↔ ¬ ((97 ≤ b.toNat ∧ b.toNat ≤ 122) ∨ (48 ≤ b.toNat ∧ b.toNat ≤ 57) ∨ b.toNat = 95) := by
 rw [← Ou]; simp
def smI (l : List UInt8) (k : Nat) (fr : Fr) (H : T aF) : Prop :=
 ∃ pos, k = l.length - pos ∧ (l.take pos).all okB = true ∧ fr = aV [(6, .ptr ⟨false, 0, 0, 0⟩)] ∧ H = hpL [(0, .sit true l pos)]
def TW (l : List UInt8) : Po := fun e fr H => (e = .exit 0 ∧ l.all okB = true) ∨ (e = .ret ∧ l.all okB = false ∧ fr.get 2 = some (.bool false))
theorem WO (l : List UInt8) (k : Nat) (fr : Fr) (H : T aF) (hI : smI l k fr H) : aj Try.prog MV Try.f72.ntmps 0 1 1 fr H fun e fr' H' => match e with
   | .normal => ∃ k', k' < k ∧ smI l k' fr' H'
   | e => TW l e fr' H' := by
 obtain ⟨pos, rfl, hp, rfl, rfl⟩ := hI
 refine (smB 0 (by omega) l pos).mono fun e fr' H' h => ?_
 refine mG h (fun t0 h => ?_) (fun t0 h => ?_)
 ·have hlt := of_decide_eq_true t0
  have ru := WL l pos hlt
  have hok := Ou l[pos]
  have hno := WM l[pos]
  have go : okB l[pos] = true → (Utf8.decode ⟨l.toArray⟩ pos).2 = 1 → ∃ k', k' < l.length - pos ∧ smI l k' (zq 6 0) (hpL [(0, .sit true l (pos + (Utf8.decode ⟨l.toArray⟩ pos).2))]) := fun hk hw => by
   rw [hw]
   exact ⟨l.length - (pos + 1), by omega, pos + 1, rfl, TV l pos hlt hp hk, rfl, rfl⟩
  obtain ⟨r, hr⟩ : ∃ r : Nat × Nat, Utf8.decode ⟨l.toArray⟩ pos = r := ⟨_, rfl⟩
  rw [hr] at ru h go
  have ru' : (l[pos].toNat < 128 ∧ r.1 = l[pos].toNat ∧ r.2 = 1) ∨ (128 ≤ l[pos].toNat ∧ 128 ≤ r.1) := by
   rcases ru with ⟨h1, h2⟩ | h
   ·exact .inl ⟨h1, by rw [h2], by rw [h2]⟩
   ·exact .inr h
  repeat' (refine mG h (fun t1 h => ?_) (fun t1 h => ?_) <;> first | replace t1 := of_decide_eq_true t1 | replace t1 := of_decide_eq_false t1)
  all_goals (obtain ⟨rfl, rfl, rfl⟩ := h)
  all_goals (first | (exact go (hok.2 (by omega)) (by omega)) | (exact .inr ⟨rfl, all_false l pos hlt (hno.2 (by omega)), rfl⟩))
 ·obtain ⟨rfl, rfl, rfl⟩ := h
  refine .inl ⟨rfl, ?_⟩
  rw [List.take_of_length_le (by have := of_decide_eq_false t0; omega)] at hp
  exact hp
theorem adv : ak Try.f72 = .seq (aT [0] (ak Try.f72)) (.seq (.seq (aT [1,0,0] (ak Try.f72)) (.block 0 (.loop MV))) (aT [1,1] (ak Try.f72))) := by kernel_rfl
theorem WQ (l : List UInt8) : aj Try.prog (ak Try.f72) Try.f72.ntmps 0 0 1 (bJ [.str true l] 0 .e) (hpL []) fun e fr' H' => (e = .ret ∨ e = .normal) ∧ fr'.get 2 = some (.bool (l.all okB)) := by
 rw [adv]
 refine aj.seq (K1 := 0) (by omega) ((smA 0 (by omega) l).mono fun e fr' H' ⟨e1, e2, e3⟩ => ?_)
 subst e1 e2 e3
 refine aj.seq (K1 := 1) (by omega) (aj.seq (K1 := 1) (by omega) ((smR 0 (by omega) l).mono fun e fr' H' ⟨e1, e2, e3⟩ => ?_))
 subst e1 e2 e3
 refine aj.block ((aj.loop (smI l) (Post := TW l) (WO l) _ _ _ ⟨0, rfl, by simp, rfl, rfl⟩).mono fun e fr' H' hp => ?_)
 rcases hp with ⟨rfl, h1⟩ | ⟨rfl, h1, h2⟩
 ·simp only [if_true]
  refine aj.gK (fl := []) (bl := []) trivial trivial ((smZ 0 (by omega)).mono fun e fr' H' ⟨e1, e2, e3⟩ => ?_)
  subst e1 e2 e3
  exact ⟨.inl rfl, by rw [h1]; rfl⟩
 ·exact ⟨.inl rfl, by rw [h1]; exact h2⟩
noncomputable def jw : List AV → M AV
 | [.str s l] => M.ret (dZ s (l.all okB))
 | args => lU 72 args
theorem gI : ∀ args v g g', jw args g = .done v g' → bZ Try.prog 72 args v g g' := by
 intro args v g g' h
 unfold jw at h
 split at h
 ·rename_i s l
  obtain ⟨rfl, rfl⟩ := aB h
  refine reads (c := ak Try.f72) Try.func72 (by kernel_rfl) (by kernel_rfl) (g1 := g) (p := True) (Keep.refl g) [] (fun _ v hv => by cases hv) (gG := [.str true l]) (fun _ N μ cs h => by simpa only [aO, Rep] using h) (nms := []) (bs := []) (K' := 1) (fun _ => (WQ l).mono fun e fr' H' ⟨h1, h2⟩ => ⟨h1, [.bool (l.all okB)], ⟨H', 1, [], [], True⟩, ?_, trivial, ?_, ⟨rfl, fun i b h => by simp at h, List.nodup_nil⟩⟩) (by cases s <;> rfl) (by cases s <;> trivial) rfl rfl id
  ·have e : Try.f72.results.toList = [.tmp 2] := by kernel_rfl
   rw [e]
   simp only [dH, mZ, h2, Option.getD_some]
   rfl
  ·cases s
   ·exact AV.ge.refl _
   ·exact AV.ge.bool _
 ·exact qR _ _ _ _ _ h
theorem fJ : ∀ args, aC (jw args) := by
 intro args
 unfold jw
 split
 ·exact aC.ret _
 ·exact FH _ _
noncomputable abbrev KQ (w0) := AV.int false .i64 w0
theorem aaP (n : Nat) (hE : decide (kE n = 0) = true) (hR : decide (kR n = 0) = true) : wC (KQ 0) (lU 61 [.raw true n] (G.on [true, true])) := by
 have e : AO (KQ 0) (lU 61 [.raw true n] (G.on [true, true])) = (AV.int false .i64 0 = AV.int false .i64 0 ∧ ((((True ∧ (0 : Int) ≤ 52) ∧ (0 : Int) ≤ 12) ∧ decide (kE n = 0) = true) ∧ decide (kR n = 0) = true)) := by kernel_rfl
 exact ⟨by rw [e]; exact ⟨rfl, ⟨⟨⟨⟨trivial, by decide⟩, by decide⟩, hE⟩, hR⟩⟩⟩
theorem aaQ (n : Nat) (hE : decide (kE n = 0) = true) (hR : decide (kR n = 0) = false) : wC (KQ 1) (lU 61 [.raw true n] (G.on [true, false, true])) := by
 have e : AO (KQ 1) (lU 61 [.raw true n] (G.on [true, false, true])) = (AV.int false .i64 1 = AV.int false .i64 1 ∧ (((((True ∧ (0 : Int) ≤ 52) ∧ (0 : Int) ≤ 12) ∧ decide (kE n = 0) = true) ∧ decide (kR n = 0) = false) ∧ decide (kE n = 0) = true)) := by kernel_rfl
 exact ⟨by rw [e]; exact ⟨rfl, ⟨⟨⟨⟨⟨trivial, by decide⟩, by decide⟩, hE⟩, hR⟩, hE⟩⟩⟩
theorem aaR (n : Nat) (hE : decide (kE n = 0) = false) (hL : decide (kE n < 2047) = true) : wC (KQ 2) (lU 61 [.raw true n] (G.on [false, false, true])) := by
 have e : AO (KQ 2) (lU 61 [.raw true n] (G.on [false, false, true])) = (AV.int false .i64 2 = AV.int false .i64 2 ∧ (((((True ∧ (0 : Int) ≤ 52) ∧ (0 : Int) ≤ 12) ∧ decide (kE n = 0) = false) ∧ decide (kE n = 0) = false) ∧ decide (kE n < 2047) = true)) := by kernel_rfl
 exact ⟨by rw [e]; exact ⟨rfl, ⟨⟨⟨⟨⟨trivial, by decide⟩, by decide⟩, hE⟩, hE⟩, hL⟩⟩⟩
theorem aaS (n : Nat) (hE : decide (kE n = 0) = false) (hL : decide (kE n < 2047) = false) (hR : decide (kR n = 0) = true) : wC (KQ 3) (lU 61 [.raw true n] (G.on [false, false, false, true])) := by
 have e : AO (KQ 3) (lU 61 [.raw true n] (G.on [false, false, false, true])) = (AV.int false .i64 3 = AV.int false .i64 3 ∧ ((((((True ∧ (0 : Int) ≤ 52) ∧ (0 : Int) ≤ 12) ∧ decide (kE n = 0) = false) ∧ decide (kE n = 0) = false) ∧ decide (kE n < 2047) = false) ∧ decide (kR n = 0) = true)) := by kernel_rfl
 exact ⟨by rw [e]; exact ⟨rfl, ⟨⟨⟨⟨⟨⟨trivial, by decide⟩, by decide⟩, hE⟩, hE⟩, hL⟩, hR⟩⟩⟩
theorem aaT (n : Nat) (hE : decide (kE n = 0) = false) (hL : decide (kE n < 2047) = false) (hR : decide (kR n = 0) = false) : wC (KQ 4) (lU 61 [.raw true n] (G.on [false, false, false, false])) := by
 have e : AO (KQ 4) (lU 61 [.raw true n] (G.on [false, false, false, false])) = (AV.int false .i64 4 = AV.int false .i64 4 ∧ ((((((True ∧ (0 : Int) ≤ 52) ∧ (0 : Int) ≤ 12) ∧ decide (kE n = 0) = false) ∧ decide (kE n = 0) = false) ∧ decide (kE n < 2047) = false) ∧ decide (kR n = 0) = false)) := by kernel_rfl
 exact ⟨by rw [e]; exact ⟨rfl, ⟨⟨⟨⟨⟨⟨trivial, by decide⟩, by decide⟩, hE⟩, hE⟩, hL⟩, hR⟩⟩⟩
noncomputable def nM : List AV → M AV
 | [.flt s n] => M.ret (.int s .i64 (fU n))
 | [.raw s n] => M.ret (.int s .i64 (fU n))
 | _ => M.no
theorem FI (n : Nat) : ∃ path lv, wC lv (lU 61 [.raw true n] (G.on path)) ∧ lv = AV.int false .i64 (fU n) := by
 cases hE : decide (kE n = 0) with
 | true =>
  cases hR : decide (kR n = 0) with
  | true => exact ⟨_, _, aaP n hE hR, by simp only [fU, hE, hR, cond_true]⟩
  | false => exact ⟨_, _, aaQ n hE hR, by simp only [fU, hE, hR, cond_true, cond_false]⟩
 | false =>
  cases hL : decide (kE n < 2047) with
  | true => exact ⟨_, _, aaR n hE hL, by simp only [fU, hE, hL, cond_true, cond_false]⟩
  | false =>
   cases hR : decide (kR n = 0) with
   | true => exact ⟨_, _, aaS n hE hL hR, by simp only [fU, hE, hL, hR, cond_true, cond_false]⟩
   | false => exact ⟨_, _, aaT n hE hL hR, by simp only [fU, hE, hL, hR, cond_true, cond_false]⟩
theorem iK : ∀ args v g g', nM args g = .done v g' → bZ Try.prog 61 args v g g' := by
 intro args v g g' h
 unfold nM at h
 split at h
 ·rename_i s n
  obtain ⟨rfl, rfl⟩ := aB h
  refine VG qR fun μ bW ha => ?_
  obtain ⟨c, rfl, hx⟩ := ha.one
  simp only [Rep] at hx
  obtain ⟨b, rfl, hb⟩ := hx
  obtain ⟨path, lv, h1, rfl⟩ := FI b
  refine ⟨[.raw true b], path, _, ?_, h1, rfl, fun c hc => ?_⟩
  ·simp only [aO, Rep]; exact ⟨_, _, rfl, ⟨rfl, hb.2⟩, rfl⟩
  ·have := hc 0 MM.none
   simp only [Rep] at this ⊢
   rw [this, ← hb.1, VH hb.2]
 ·rename_i s n
  obtain ⟨rfl, rfl⟩ := aB h
  refine VG qR fun μ bW ha => ?_
  obtain ⟨c, rfl, hx⟩ := ha.one
  simp only [Rep] at hx
  obtain ⟨rfl, hb⟩ := hx
  obtain ⟨path, lv, h1, rfl⟩ := FI n
  refine ⟨[.raw true n], path, _, ?_, h1, rfl, fun c hc => ?_⟩
  ·simp only [aO, Rep]; exact ⟨_, _, rfl, ⟨rfl, hb⟩, rfl⟩
  ·have := hc 0 MM.none
   simpa only [Rep] using this
 ·exact (bC h).elim
theorem gJ : ∀ args, aC (nM args) := by
 intro args
 unfold nM
 split
 ·exact aC.ret _
 ·exact aC.ret _
 ·exact aC.no
noncomputable def aaU : Known := kc 71 ofBits (kc 74 toBits (kc 72 jw (kc 61 nM (kn))))
theorem WR : fK Try.prog aaU := aH ((fQ Try.prog).fE Try.func71 (by kernel_rfl) (by kernel_rfl) (by kernel_rfl) (by kernel_rfl)) (aH ((fP Try.prog).fE Try.func74 (by kernel_rfl) (by kernel_rfl) (by kernel_rfl) (by kernel_rfl)) (aH gI (aH iK (qj))))
theorem J4 : gY aaU := aG aC.ofBits (aG aC.toBits (aG fJ (aG gJ (lJ))))
noncomputable def Ov : Calls' := Sx.runN Try.prog aaU (bK Try.prog) 1000 50
theorem yY : dw Try.prog Ov := iQ WR J4 (by kernel_rfl) (by kernel_rfl) 1000 50
theorem FK : iO Ov := oW J4 (fun _ _ _ h => by cases h) (fun call hc n l fr => kV hc n l fr) 50
noncomputable def Hg (k : Int) : Int := (bif decide (k = (1 : Int)) then ((82 : Int)) else (bif decide (k = (2 : Int)) then ((76 : Int)) else (bif decide (k = (3 : Int)) then ((67 : Int)) else (bif decide (k = (4 : Int)) then ((73 : Int)) else (bif decide (k = (5 : Int)) then ((86 : Int)) else (bif decide (k = (6 : Int)) then ((71 : Int)) else (bif decide (k = (7 : Int)) then ((69 : Int)) else (bif decide (k = (8 : Int)) then ((80 : Int)) else ((0 : Int))))))))))
noncomputable def Ho (k : Int) : List UInt8 := (bif decide (k = (1 : Int)) then ([(111 : UInt8), (104 : UInt8), (109 : UInt8)]) else (bif decide (k = (2 : Int)) then ([(104 : UInt8), (101 : UInt8), (110 : UInt8), (114 : UInt8), (121 : UInt8)]) else (bif decide (k = (3 : Int)) then ([(102 : UInt8), (97 : UInt8), (114 : UInt8), (97 : UInt8), (100 : UInt8)]) else (bif decide (k = (4 : Int)) then ([(97 : UInt8), (109 : UInt8), (112 : UInt8), (101 : UInt8), (114 : UInt8), (101 : UInt8)]) else (bif decide (k = (5 : Int)) then ([(118 : UInt8), (111 : UInt8), (108 : UInt8), (116 : UInt8)]) else (bif decide (k = (6 : Int)) then ([(115 : UInt8), (105 : UInt8), (101 : UInt8), (109 : UInt8), (101 : UInt8), (110 : UInt8), (115 : UInt8)]) else (bif decide (k = (7 : Int)) then ([]) else (bif decide (k = (8 : Int)) then ([(111 : UInt8), (104 : UInt8), (109 : UInt8)]) else ([])))))))))
noncomputable def lV (k : Int) : Bool := (bif decide (k = (1 : Int)) then (true) else (bif decide (k = (2 : Int)) then (true) else (bif decide (k = (3 : Int)) then (true) else (bif decide (k = (4 : Int)) then (false) else (bif decide (k = (5 : Int)) then (false) else (bif decide (k = (6 : Int)) then (false) else (bif decide (k = (7 : Int)) then (false) else (bif decide (k = (8 : Int)) then (true) else (false)))))))))
noncomputable def vN (k : Int) : Bool := (bif decide (k = (1 : Int)) then (false) else (bif decide (k = (2 : Int)) then (false) else (bif decide (k = (3 : Int)) then (false) else (bif decide (k = (4 : Int)) then (false) else (bif decide (k = (5 : Int)) then (false) else (bif decide (k = (6 : Int)) then (true) else (bif decide (k = (7 : Int)) then (true) else (bif decide (k = (8 : Int)) then (false) else (false)))))))))
noncomputable def sK (k : Int) : Bool := (bif decide (k = (1 : Int)) then (false) else (bif decide (k = (2 : Int)) then (false) else (bif decide (k = (3 : Int)) then (false) else (bif decide (k = (4 : Int)) then (true) else (bif decide (k = (5 : Int)) then (true) else (bif decide (k = (6 : Int)) then (false) else (bif decide (k = (7 : Int)) then (false) else (bif decide (k = (8 : Int)) then (false) else (false)))))))))
noncomputable def vO (k : Int) : Bool := (bif decide (k = (1 : Int)) then (true) else (bif decide (k = (2 : Int)) then (true) else (bif decide (k = (3 : Int)) then (true) else (bif decide (k = (4 : Int)) then (true) else (bif decide (k = (5 : Int)) then (true) else (bif decide (k = (6 : Int)) then (true) else (bif decide (k = (7 : Int)) then (true) else (bif decide (k = (8 : Int)) then (true) else (false)))))))))
noncomputable def jT : List AV → M AV
 | [.int s0 .u8 k] => M.ret (AV.lZ [AV.agg [AV.int s0 (IntKind.u8) (Hg k), AV.str s0 (Ho k), dZ s0 (lV k), dZ s0 (vN k), dZ s0 (sK k)], dZ s0 (vO k)])
 | args => Ov 58 args
theorem gU : ∀ args v g g', jT args g = .done v g' → bZ Try.prog 58 args v g g' := by
  intro args v g g' h
  unfold jT at h
  split at h
  · rename_i s0 k
    obtain ⟨rfl, rfl⟩ := aB h
    refine scE yY (a' := [.int true .u8 k]) (R := AV.lZ [AV.agg [AV.int true (IntKind.u8) (Hg k), AV.str true (Ho k), dZ true (lV k), dZ true (vN k), dZ true (sK k)], dZ true (vO k)]) ?_ (fun N μ l ha => by simpa only [aO, Rep] using ha) (fun N μ c hc => by simpa only [Rep, aO, o9] using hc)
    unfold Hg Ho lV vN sK vO
    cases t0 : decide (k = (1 : Int))
    ·cases t1 : decide (k = (2 : Int))
     ·cases t2 : decide (k = (3 : Int))
      ·cases t3 : decide (k = (4 : Int))
       ·cases t4 : decide (k = (5 : Int))
        ·cases t5 : decide (k = (6 : Int))
         ·cases t6 : decide (k = (7 : Int))
          ·cases t7 : decide (k = (8 : Int))
           ·exact ⟨[fF, fF, fF, fF, fF, fF, fF, fF], lF (I8 t0 t1 t2 t3 t4 t5 t6 t7)⟩
           ·exact ⟨[fF, fF, fF, fF, fF, fF, fF, tT], lF (I8 t0 t1 t2 t3 t4 t5 t6 t7)⟩
          ·exact ⟨[fF, fF, fF, fF, fF, fF, tT], lF (I7 t0 t1 t2 t3 t4 t5 t6)⟩
         ·exact ⟨[fF, fF, fF, fF, fF, tT], lF (I6 t0 t1 t2 t3 t4 t5)⟩
        ·exact ⟨[fF, fF, fF, fF, tT], lF (I5 t0 t1 t2 t3 t4)⟩
       ·exact ⟨[fF, fF, fF, tT], lF (I4 t0 t1 t2 t3)⟩
      ·exact ⟨[fF, fF, tT], lF (I3 t0 t1 t2)⟩
     ·exact ⟨[fF, tT], lF (I2 t0 t1)⟩
    ·exact ⟨[tT], lF (I1 t0)⟩
  · exact yY _ _ _ _ _ h
theorem fZ : ∀ args, aC (jT args) := by
 intro args
 unfold jT
 split
 ·exact aC.ret _
 ·exact FK _ _
noncomputable def WS (k : Int) : Int := (bif decide ((82 : Int) = k) then ((1 : Int)) else (bif decide ((76 : Int) = k) then ((2 : Int)) else (bif decide ((67 : Int) = k) then ((3 : Int)) else (bif decide ((73 : Int) = k) then ((4 : Int)) else (bif decide ((86 : Int) = k) then ((5 : Int)) else (bif decide ((71 : Int) = k) then ((6 : Int)) else (bif decide ((69 : Int) = k) then ((7 : Int)) else (bif decide ((80 : Int) = k) then ((8 : Int)) else ((0 : Int))))))))))
noncomputable def WT (k : Int) : Bool := (bif decide ((82 : Int) = k) then (true) else (bif decide ((76 : Int) = k) then (true) else (bif decide ((67 : Int) = k) then (true) else (bif decide ((73 : Int) = k) then (true) else (bif decide ((86 : Int) = k) then (true) else (bif decide ((71 : Int) = k) then (true) else (bif decide ((69 : Int) = k) then (true) else (bif decide ((80 : Int) = k) then (true) else (false)))))))))
noncomputable def KP : List AV → M AV
 | [.int s0 .u8 k] => M.ret (AV.lZ [AV.int s0 (IntKind.u8) (WS k), dZ s0 (WT k)])
 | args => Ov 73 args
theorem nX : ∀ args v g g', KP args g = .done v g' → bZ Try.prog 73 args v g g' := by
  intro args v g g' h
  unfold KP at h
  split at h
  · rename_i s0 k
    obtain ⟨rfl, rfl⟩ := aB h
    refine scE yY (a' := [.int true .u8 k]) (R := AV.lZ [AV.int true (IntKind.u8) (WS k), dZ true (WT k)]) ?_ (fun N μ l ha => by simpa only [aO, Rep] using ha) (fun N μ c hc => by simpa only [Rep, aO, o9] using hc)
    unfold WS WT
    cases t0 : decide ((82 : Int) = k)
    ·cases t1 : decide ((76 : Int) = k)
     ·cases t2 : decide ((67 : Int) = k)
      ·cases t3 : decide ((73 : Int) = k)
       ·cases t4 : decide ((86 : Int) = k)
        ·cases t5 : decide ((71 : Int) = k)
         ·cases t6 : decide ((69 : Int) = k)
          ·cases t7 : decide ((80 : Int) = k)
           ·exact ⟨[fF, fF, fF, fF, fF, fF, fF, fF], lF (I8 t0 t1 t2 t3 t4 t5 t6 t7)⟩
           ·exact ⟨[fF, fF, fF, fF, fF, fF, fF, tT], lF (I8 t0 t1 t2 t3 t4 t5 t6 t7)⟩
          ·exact ⟨[fF, fF, fF, fF, fF, fF, tT], lF (I7 t0 t1 t2 t3 t4 t5 t6)⟩
         ·exact ⟨[fF, fF, fF, fF, fF, tT], lF (I6 t0 t1 t2 t3 t4 t5)⟩
        ·exact ⟨[fF, fF, fF, fF, tT], lF (I5 t0 t1 t2 t3 t4)⟩
       ·exact ⟨[fF, fF, fF, tT], lF (I4 t0 t1 t2 t3)⟩
      ·exact ⟨[fF, fF, tT], lF (I3 t0 t1 t2)⟩
     ·exact ⟨[fF, tT], lF (I2 t0 t1)⟩
    ·exact ⟨[tT], lF (I1 t0)⟩
  · exact yY _ _ _ _ _ h
theorem kH : ∀ args, aC (KP args) := by
 intro args
 unfold KP
 split
 ·exact aC.ret _
 ·exact FK _ _
noncomputable def aaV : Known := kc 71 ofBits (kc 74 toBits (kc 72 jw (kc 61 nM (kc 58 jT (kc 73 KP (kn))))))
theorem WU : fK Try.prog aaV := aH ((fQ Try.prog).fE Try.func71 (by kernel_rfl) (by kernel_rfl) (by kernel_rfl) (by kernel_rfl)) (aH ((fP Try.prog).fE Try.func74 (by kernel_rfl) (by kernel_rfl) (by kernel_rfl) (by kernel_rfl)) (aH gI (aH iK (aH gU (aH nX (qj))))))
theorem J5 : gY aaV := aG aC.ofBits (aG aC.toBits (aG fJ (aG gJ (aG fZ (aG kH (lJ))))))
noncomputable def Ox : Calls' := Sx.runN Try.prog aaV (bK Try.prog) 1000 50
theorem yZ : dw Try.prog Ox := iQ WU J5 (by kernel_rfl) (by kernel_rfl) 1000 50
theorem FM : iO Ox := oW J5 (fun _ _ _ h => by cases h) (fun call hc n l fr => kV hc n l fr) 50
noncomputable def xu (l : List UInt8) : Int := (bif decide ((↑(List.length l) : Int) < 2) then ((0 : Int)) else (bif decide (16 < (↑(List.length l) : Int)) then ((0 : Int)) else (bif List.all (List.take (List.length l - 1) (List.drop 1 l)) okB then (WS (↑(UInt8.toNat (List.getD l 0 (0 : UInt8))) : Int)) else ((0 : Int)))))
noncomputable def xA (l : List UInt8) : Bool := (bif decide ((↑(List.length l) : Int) < 2) then (false) else (bif decide (16 < (↑(List.length l) : Int)) then (false) else (bif List.all (List.take (List.length l - 1) (List.drop 1 l)) okB then (WT (↑(UInt8.toNat (List.getD l 0 (0 : UInt8))) : Int)) else (false))))
noncomputable def pq : List AV → M AV
 | [.str s0 l] => M.ret (AV.lZ [AV.int s0 (IntKind.u8) (xu l), dZ s0 (xA l)])
 | args => Ox 59 args
theorem jy : ∀ args v g g', pq args g = .done v g' → bZ Try.prog 59 args v g g' := by
  intro args v g g' h
  unfold pq at h
  split at h
  · rename_i s0 l
    obtain ⟨rfl, rfl⟩ := aB h
    refine scE yZ (a' := [.str true l]) (R := AV.lZ [AV.int true (IntKind.u8) (xu l), dZ true (xA l)]) ?_ (fun N μ l ha => by simpa only [aO, Rep] using ha) (fun N μ c hc => by simpa only [Rep, aO, o9] using hc)
    unfold xu xA
    cases t0 : decide ((↑(List.length l) : Int) < 2)
    ·cases t1 : decide (16 < (↑(List.length l) : Int))
     ·cases t2 : List.all (List.take (List.length l - 1) (List.drop 1 l)) okB
      ·exact ⟨[fF, fF, tT], lF (I4 t0 t1 (ai (show (0 : Int) ≤ 1 by decide) (ai (show 1 ≤ (↑(List.length l) : Int) by simp only [dT, dF, List.length_take, List.length_drop] at *; omega) (show (↑(List.length l) : Int) ≤ (↑(List.length l) : Int) by simp only [dT, dF, List.length_take, List.length_drop] at *; omega))) (nf t2))⟩
      ·exact ⟨[fF, fF, fF], lF (I5 t0 t1 (ai (show (0 : Int) ≤ 1 by decide) (ai (show 1 ≤ (↑(List.length l) : Int) by simp only [dT, dF, List.length_take, List.length_drop] at *; omega) (show (↑(List.length l) : Int) ≤ (↑(List.length l) : Int) by simp only [dT, dF, List.length_take, List.length_drop] at *; omega))) (nt t2) (ai (show (0 : Int) ≤ 0 by decide) (show 0 < (↑(List.length l) : Int) by simp only [dT, dF, List.length_take, List.length_drop] at *; omega)))⟩
     ·exact ⟨[fF, tT], lF (I2 t0 t1)⟩
    ·exact ⟨[tT], lF (I1 t0)⟩
  · exact yZ _ _ _ _ _ h
theorem iL : ∀ args, aC (pq args) := by
 intro args
 unfold pq
 split
 ·exact aC.ret _
 ·exact FM _ _
noncomputable def iV (l : List UInt8) : Bool := (bif decide (0 < (↑(List.length l) : Int)) then (bif decide ((↑(List.length l) : Int) ≤ 16) then (List.all l okB) else (false)) else (false))
noncomputable def pz : List AV → M AV
 | [.str s0 l] => M.ret (dZ s0 (iV l))
 | args => Ox 60 args
theorem jA : ∀ args v g g', pz args g = .done v g' → bZ Try.prog 60 args v g g' := by
  intro args v g g' h
  unfold pz at h
  split at h
  · rename_i s0 l
    obtain ⟨rfl, rfl⟩ := aB h
    refine scE yZ (a' := [.str true l]) (R := dZ true (iV l)) ?_ (fun N μ l ha => by simpa only [aO, Rep] using ha) (fun N μ c hc => by simpa only [Rep, aO, o9] using hc)
    unfold iV
    cases t0 : decide (0 < (↑(List.length l) : Int))
    ·exact ⟨[fF], lF (I1 t0)⟩
    ·cases t1 : decide ((↑(List.length l) : Int) ≤ 16)
     ·exact ⟨[tT, fF], lF (I2 t0 t1)⟩
     ·exact ⟨[tT, tT], lF (I2 t0 t1)⟩
  · exact yZ _ _ _ _ _ h
theorem iM : ∀ args, aC (pz args) := by
 intro args
 unfold pz
 split
 ·exact aC.ret _
 ·exact FM _ _
noncomputable def aaW : Known := kc 71 ofBits (kc 74 toBits (kc 72 jw (kc 61 nM (kc 58 jT (kc 73 KP (kc 59 pq (kc 60 pz (kn))))))))
theorem WV : fK Try.prog aaW := aH ((fQ Try.prog).fE Try.func71 (by kernel_rfl) (by kernel_rfl) (by kernel_rfl) (by kernel_rfl)) (aH ((fP Try.prog).fE Try.func74 (by kernel_rfl) (by kernel_rfl) (by kernel_rfl) (by kernel_rfl)) (aH gI (aH iK (aH gU (aH nX (aH jy (aH jA (qj))))))))
theorem J6 : gY aaW := aG aC.ofBits (aG aC.toBits (aG fJ (aG gJ (aG fZ (aG kH (aG iL (aG iM (lJ))))))))
noncomputable def TY : Calls' := Sx.runN Try.prog aaW (bK Try.prog) 1000 50
theorem J7 : dw Try.prog TY := iQ WV J6 (by kernel_rfl) (by kernel_rfl) 1000 50
theorem Qn : iO TY := oW J6 (fun _ _ _ h => by cases h) (fun call hc n l fr => kV hc n l fr) 50
noncomputable def sV (k : Int) (n a b c d : List UInt8) (v : Nat) (ph : Int) : Int := (bif vO k then (bif xA n then (bif decide (xu n = k) then (bif iV a then (bif iV b then (bif vN k then (bif iV c then (bif iV d then (bif a == b then ((2 : Int)) else (bif sK k then (bif decide ((2 : Int) < fU v) then ((5 : Int)) else (bif lV k then (bif Va (cn v) 0 then ((2 : Int)) else ((0 : Int))) else ((0 : Int)))) else (bif decide (ph = (0 : Int)) then (bif decide ((2 : Int) < fU v) then ((5 : Int)) else (bif lV k then (bif Va (cn v) 0 then ((2 : Int)) else ((0 : Int))) else ((0 : Int)))) else ((2 : Int))))) else ((8 : Int))) else ((8 : Int))) else (bif a == b then ((2 : Int)) else (bif c == [] then (bif d == [] then (bif sK k then (bif decide ((2 : Int) < fU v) then ((5 : Int)) else (bif lV k then (bif Va (cn v) 0 then ((2 : Int)) else ((0 : Int))) else ((0 : Int)))) else (bif decide (ph = (0 : Int)) then (bif decide ((2 : Int) < fU v) then ((5 : Int)) else (bif lV k then (bif Va (cn v) 0 then ((2 : Int)) else ((0 : Int))) else ((0 : Int)))) else ((2 : Int)))) else ((2 : Int))) else ((2 : Int))))) else ((8 : Int))) else ((8 : Int))) else ((8 : Int))) else ((8 : Int))) else ((2 : Int)))
noncomputable def yS : List AV → M AV
 | [.agg [.int s0 .u8 k, .str s1 n, .str s2 a, .str s3 b, .str s4 c, .str s5 d, .raw s6 v, .int s7 .i64 ph]] => M.ret (AV.int (Bool.or s0 (Bool.or s1 (Bool.or s2 (Bool.or s3 (Bool.or s4 (Bool.or s5 (Bool.or s6 s7))))))) (IntKind.i64) (sV k n a b c d v ph))
 | args => TY 35 args
theorem nC : ∀ args v g g', yS args g = .done v g' → bZ Try.prog 35 args v g g' := by
  intro args v g g' h
  unfold yS at h
  split at h
  · rename_i s0 k s1 n s2 a s3 b s4 c s5 d s6 v s7 ph
    obtain ⟨rfl, rfl⟩ := aB h
    refine scE J7 (a' := [.agg [.int true .u8 k, .str true n, .str true a, .str true b, .str true c, .str true d, .raw true v, iT ph]]) (R := AV.int (Bool.or true (Bool.or true (Bool.or true (Bool.or true (Bool.or true (Bool.or true (Bool.or true true))))))) (IntKind.i64) (sV k n a b c d v ph)) ?_ (fun N μ l ha => by simpa only [aO, Rep] using ha) (fun N μ c hc => by simpa only [Rep, aO, o9] using hc)
    unfold sV
    cases t0 : vO k
    ·exact ⟨[tT], lF (I1 (nf t0))⟩
    ·cases t1 : xA n
     ·exact ⟨[fF, tT], lF (I2 (nt t0) (nf t1))⟩
     ·cases t2 : decide (xu n = k)
      ·exact ⟨[fF, fF, tT], lF (I3 (nt t0) (nt t1) (nf t2))⟩
      ·cases t3 : iV a
       ·exact ⟨[fF, fF, fF, tT], lF (I4 (nt t0) (nt t1) (nt t2) (nf t3))⟩
       ·cases t4 : iV b
        ·exact ⟨[fF, fF, fF, fF, tT], lF (I5 (nt t0) (nt t1) (nt t2) (nt t3) (nf t4))⟩
        ·cases t5 : vN k
         ·cases t6 : a == b
          ·cases t7 : c == []
           ·exact ⟨[fF, fF, fF, fF, fF, fF, fF, tT, tT], lF (I9 (nt t0) (nt t1) (nt t2) (nt t3) (nt t4) t5 t6 (nf t5) (nf t7))⟩
           ·cases t8 : d == []
            ·exact ⟨[fF, fF, fF, fF, fF, fF, fF, tT, fF, tT], lF (I10 (nt t0) (nt t1) (nt t2) (nt t3) (nt t4) t5 t6 (nf t5) (nt t7) (nf t8))⟩
            ·cases t9 : sK k
             ·cases t10 : decide (ph = (0 : Int))
              ·exact ⟨[fF, fF, fF, fF, fF, fF, fF, tT, fF, fF, tT, tT], lF (I12 (nt t0) (nt t1) (nt t2) (nt t3) (nt t4) t5 t6 (nf t5) (nt t7) (nt t8) (nf t9) (nf t10))⟩
              ·cases t11 : decide ((2 : Int) < fU v)
               ·cases t12 : lV k
                ·exact ⟨[fF, fF, fF, fF, fF, fF, fF, tT, fF, fF, tT, fF, fF, fF], lF (I14 (nt t0) (nt t1) (nt t2) (nt t3) (nt t4) t5 t6 (nf t5) (nt t7) (nt t8) (nf t9) (nt t10) t11 t12)⟩
                ·cases t13 : Va (cn v) 0
                 ·exact ⟨[fF, fF, fF, fF, fF, fF, fF, tT, fF, fF, tT, fF, fF, tT, fF], lF (I15 (nt t0) (nt t1) (nt t2) (nt t3) (nt t4) t5 t6 (nf t5) (nt t7) (nt t8) (nf t9) (nt t10) t11 t12 t13)⟩
                 ·exact ⟨[fF, fF, fF, fF, fF, fF, fF, tT, fF, fF, tT, fF, fF, tT, tT], lF (I15 (nt t0) (nt t1) (nt t2) (nt t3) (nt t4) t5 t6 (nf t5) (nt t7) (nt t8) (nf t9) (nt t10) t11 t12 t13)⟩
               ·exact ⟨[fF, fF, fF, fF, fF, fF, fF, tT, fF, fF, tT, fF, tT], lF (I13 (nt t0) (nt t1) (nt t2) (nt t3) (nt t4) t5 t6 (nf t5) (nt t7) (nt t8) (nf t9) (nt t10) t11)⟩
             ·cases t10 : decide ((2 : Int) < fU v)
              ·cases t11 : lV k
               ·exact ⟨[fF, fF, fF, fF, fF, fF, fF, tT, fF, fF, fF, fF, fF], lF (I13 (nt t0) (nt t1) (nt t2) (nt t3) (nt t4) t5 t6 (nf t5) (nt t7) (nt t8) (nt t9) t10 t11)⟩
               ·cases t12 : Va (cn v) 0
                ·exact ⟨[fF, fF, fF, fF, fF, fF, fF, tT, fF, fF, fF, fF, tT, fF], lF (I14 (nt t0) (nt t1) (nt t2) (nt t3) (nt t4) t5 t6 (nf t5) (nt t7) (nt t8) (nt t9) t10 t11 t12)⟩
                ·exact ⟨[fF, fF, fF, fF, fF, fF, fF, tT, fF, fF, fF, fF, tT, tT], lF (I14 (nt t0) (nt t1) (nt t2) (nt t3) (nt t4) t5 t6 (nf t5) (nt t7) (nt t8) (nt t9) t10 t11 t12)⟩
              ·exact ⟨[fF, fF, fF, fF, fF, fF, fF, tT, fF, fF, fF, tT], lF (I12 (nt t0) (nt t1) (nt t2) (nt t3) (nt t4) t5 t6 (nf t5) (nt t7) (nt t8) (nt t9) t10)⟩
          ·exact ⟨[fF, fF, fF, fF, fF, fF, tT], lF (I7 (nt t0) (nt t1) (nt t2) (nt t3) (nt t4) t5 t6)⟩
         ·cases t6 : iV c
          ·exact ⟨[fF, fF, fF, fF, fF, tT, tT], lF (I7 (nt t0) (nt t1) (nt t2) (nt t3) (nt t4) t5 (nf t6))⟩
          ·cases t7 : iV d
           ·exact ⟨[fF, fF, fF, fF, fF, tT, fF, tT], lF (I8 (nt t0) (nt t1) (nt t2) (nt t3) (nt t4) t5 (nt t6) (nf t7))⟩
           ·cases t8 : a == b
            ·cases t9 : sK k
             ·cases t10 : decide (ph = (0 : Int))
              ·exact ⟨[fF, fF, fF, fF, fF, tT, fF, fF, fF, fF, tT, tT], lF (I12 (nt t0) (nt t1) (nt t2) (nt t3) (nt t4) t5 (nt t6) (nt t7) t8 (nt t5) (nf t9) (nf t10))⟩
              ·cases t11 : decide ((2 : Int) < fU v)
               ·cases t12 : lV k
                ·exact ⟨[fF, fF, fF, fF, fF, tT, fF, fF, fF, fF, tT, fF, fF, fF], lF (I14 (nt t0) (nt t1) (nt t2) (nt t3) (nt t4) t5 (nt t6) (nt t7) t8 (nt t5) (nf t9) (nt t10) t11 t12)⟩
                ·cases t13 : Va (cn v) 0
                 ·exact ⟨[fF, fF, fF, fF, fF, tT, fF, fF, fF, fF, tT, fF, fF, tT, fF], lF (I15 (nt t0) (nt t1) (nt t2) (nt t3) (nt t4) t5 (nt t6) (nt t7) t8 (nt t5) (nf t9) (nt t10) t11 t12 t13)⟩
                 ·exact ⟨[fF, fF, fF, fF, fF, tT, fF, fF, fF, fF, tT, fF, fF, tT, tT], lF (I15 (nt t0) (nt t1) (nt t2) (nt t3) (nt t4) t5 (nt t6) (nt t7) t8 (nt t5) (nf t9) (nt t10) t11 t12 t13)⟩
               ·exact ⟨[fF, fF, fF, fF, fF, tT, fF, fF, fF, fF, tT, fF, tT], lF (I13 (nt t0) (nt t1) (nt t2) (nt t3) (nt t4) t5 (nt t6) (nt t7) t8 (nt t5) (nf t9) (nt t10) t11)⟩
             ·cases t10 : decide ((2 : Int) < fU v)
              ·cases t11 : lV k
               ·exact ⟨[fF, fF, fF, fF, fF, tT, fF, fF, fF, fF, fF, fF, fF], lF (I13 (nt t0) (nt t1) (nt t2) (nt t3) (nt t4) t5 (nt t6) (nt t7) t8 (nt t5) (nt t9) t10 t11)⟩
               ·cases t12 : Va (cn v) 0
                ·exact ⟨[fF, fF, fF, fF, fF, tT, fF, fF, fF, fF, fF, fF, tT, fF], lF (I14 (nt t0) (nt t1) (nt t2) (nt t3) (nt t4) t5 (nt t6) (nt t7) t8 (nt t5) (nt t9) t10 t11 t12)⟩
                ·exact ⟨[fF, fF, fF, fF, fF, tT, fF, fF, fF, fF, fF, fF, tT, tT], lF (I14 (nt t0) (nt t1) (nt t2) (nt t3) (nt t4) t5 (nt t6) (nt t7) t8 (nt t5) (nt t9) t10 t11 t12)⟩
              ·exact ⟨[fF, fF, fF, fF, fF, tT, fF, fF, fF, fF, fF, tT], lF (I12 (nt t0) (nt t1) (nt t2) (nt t3) (nt t4) t5 (nt t6) (nt t7) t8 (nt t5) (nt t9) t10)⟩
            ·exact ⟨[fF, fF, fF, fF, fF, tT, fF, fF, tT], lF (I9 (nt t0) (nt t1) (nt t2) (nt t3) (nt t4) t5 (nt t6) (nt t7) t8)⟩
  · exact J7 _ _ _ _ _ h
theorem ku : ∀ args, aC (yS args) := by
 intro args
 unfold yS
 split
 ·exact aC.ret _
 ·exact Qn _ _
noncomputable def aaX : Known := kc 71 ofBits (kc 74 toBits (kc 72 jw (kc 61 nM (kc 58 jT (kc 73 KP (kc 59 pq (kc 60 pz (kc 35 yS (kn)))))))))
theorem Oy : fK Try.prog aaX := aH ((fQ Try.prog).fE Try.func71 (by kernel_rfl) (by kernel_rfl) (by kernel_rfl) (by kernel_rfl)) (aH ((fP Try.prog).fE Try.func74 (by kernel_rfl) (by kernel_rfl) (by kernel_rfl) (by kernel_rfl)) (aH gI (aH iK (aH gU (aH nX (aH jy (aH jA (aH nC (qj)))))))))
theorem J8 : gY aaX := aG aC.ofBits (aG aC.toBits (aG fJ (aG gJ (aG fZ (aG kH (aG iL (aG iM (aG ku (lJ)))))))))
noncomputable def Oz : Calls' := Sx.runN Try.prog aaX (bK Try.prog) 1000 50
theorem y7 : dw Try.prog Oz := iQ Oy J8 (by kernel_rfl) (by kernel_rfl) 1000 50
theorem Qo (n : Nat) : eF Try.prog (bK Try.prog Oz n) n := eX Oy J8 (by kernel_rfl) (by kernel_rfl) 1000 50 n
noncomputable abbrev jB (f : Func) (c : Code) (fr : Fr) (H : T aF) (K : Nat) (path : List Bool) : Aa (Ex × Fr) :=
 bV Try.prog Oz (bK Try.prog Oz f.ntmps) jH f.ntmps 1000 c fr ⟨H, K, [], path, True⟩


theorem rcE {fn : Func} {K K' B : Nat} {e : Ex} {F : jU} {Hl : tH} {c : Code} {fr : Fr} {H : T aF} {path : List Bool} (h : cO K' e F Hl (jB fn c fr H K path)) (hB : B ≤ K) : aj Try.prog c fn.ntmps B K K' fr H fun e' fr' H' => e' = e ∧ fr' = aV F ∧ H' = hpL Hl := aj.runN y7 (Qo _) (gu.none _ _ _) h hB
theorem jW {fn : Func} {K K' B : Nat} {e : Ex} {F : jU} {Hl : tH} {c : Code} {fr : Fr} {H : T aF} (path : List Bool) {q : Prop} (hq : q) (hB : B ≤ K) (h : jg K' e F Hl (jB fn c fr H K path) = (e = e ∧ ql F ∧ qm Hl ∧ true = true ∧ q) := by kernel_rfl) : aj Try.prog c fn.ntmps B K K' fr H fun e' fr' H' => e' = e ∧ fr' = aV F ∧ H' = hpL Hl := rcE (eqn h hq) hB
/-- an element -/
structure El where
 k : Int
 n : List UInt8
 a : List UInt8
 b : List UInt8
 c : List UInt8
 d : List UInt8
 v : Nat
 ph : Int
abbrev tE := Nat → El
abbrev Tx := List UInt8
abbrev tX := Nat → Tx
abbrev tM := List (Tx × Int)
/-- the first place of a text -/
def pos (x : Tx) : List Tx → Option Nat
 | [] => none
 | y :: l => bif x == y then some 0 else (pos x l).map (· + 1)
theorem MO {x : Tx} : ∀ {l : List Tx} {i : Nat}, pos x l = some i → i < l.length ∧ l.getD i [] = x
 | y :: l, i, h => by
  unfold pos at h
  cases e : x == y with
  | true =>
   rw [e, cond_true] at h
   cases h
   exact ⟨by simp, by simpa using (eq_of_beq e).symm⟩
  | false =>
   rw [e, cond_false] at h
   cases q : pos x l with
   | none => rw [q] at h; cases h
   | some j =>
    rw [q] at h
    cases h
    obtain ⟨h1, h2⟩ := MO q
    exact ⟨by simpa using h1, by simpa using h2⟩
theorem nO {x : Tx} : ∀ {l : List Tx}, pos x l = none ↔ x ∉ l
 | [] => by simp [pos]
 | y :: l => by
  unfold pos
  cases e : x == y with
  | true => simp [eq_of_beq e]
  | false =>
   have : x ≠ y := fun c => by rw [c] at e; simp at e
   simp [nO (x := x) (l := l), this]
/-- texts with their places: what a map of them holds -/
def ay (s : Nat) : List Tx → List (Tx × Int)
 | [] => []
 | x :: l => (x, (s : Int)) :: ay (s + 1) l
theorem y8 (x : Tx) : ∀ (s : Nat) (l : List Tx), cZ seq x (ay s l) = (pos x l).map fun i => ((s + i : Nat) : Int)
 | s, [] => rfl
 | s, y :: l => by
  show (bif x == y then some (s : Int) else cZ seq x (ay (s + 1) l)) = (bif x == y then some 0 else (pos x l).map (· + 1)).map _
  cases e : x == y with
  | true => rfl
  | false =>
   rw [cond_false, cond_false, y8 x (s + 1) l]
   cases pos x l with
   | none => rfl
   | some i => simp only [Option.map]; congr 1; omega
theorem OA (x : Tx) : ∀ (s : Nat) (l : List Tx), pos x l = none → oh seq x ((s + l.length : Nat) : Int) (ay s l) = ay s (l ++ [x])
 | s, [], _ => rfl
 | s, y :: l, h => by
  unfold pos at h
  cases e : x == y with
  | true => rw [e] at h; cases h
  | false =>
   rw [e, cond_false] at h
   have h' : pos x l = none := by
    cases q : pos x l with
    | none => rfl
    | some j => rw [q] at h; cases h
   show oh seq x _ ((y, (s : Int)) :: ay (s + 1) l) = (y, (s : Int)) :: ay (s + 1) (l ++ [x])
   unfold oh seq
   rw [e, cond_false]
   congr 1
   have := OA x (s + 1) l h'
   rw [← this]
   congr 1
   simp; omega
/-- a node more -/
def addN (l : List Tx) (x : Tx) : List Tx := bif (pos x l).isSome || x == [] || x == [48] then l else l ++ [x]
def pR (e : El) : Bool := decide (e.k = 5) || decide (e.k = 7)
/-- names, nodes, branches of the first m elements -/
def NM (E : tE) : Nat → List Tx
 | 0 => []
 | m + 1 => NM E m ++ [(E m).n]
def ND (E : tE) : Nat → List Tx
 | 0 => []
 | m + 1 => addN (addN (addN (addN (ND E m) (E m).a) (E m).b) (E m).c) (E m).d
def BR (E : tE) : Nat → List Tx
 | 0 => []
 | m + 1 => bif pR (E m) then BR E m ++ [(E m).n] else BR E m
theorem Ua (E : tE) : ∀ m, (NM E m).length = m
 | 0 => rfl
 | m + 1 => by unfold NM; simp [Ua E m]
theorem Ub (E : tE) : ∀ m, (BR E m).length ≤ m
 | 0 => Nat.le_refl _
 | m + 1 => by
  have := Ub E m
  unfold BR
  cases pR (E m) <;> simp <;> omega
theorem MW (E : tE) {x : Tx} : ∀ {m : Nat}, x ∈ BR E m → x ∈ NM E m
 | m + 1, h => by
  unfold BR at h
  unfold NM
  cases q : pR (E m) with
  | true =>
   rw [q, cond_true, List.mem_append] at h
   exact List.mem_append.2 (h.imp (MW E) id)
  | false =>
   rw [q, cond_false] at h
   exact List.mem_append.2 (.inl (MW E h))
theorem aaY (E : tE) {m : Nat} (h : pos (E m).n (NM E m) = none) : pos (E m).n (BR E m) = none :=
 nO.2 fun c => nO.1 h (MW E c)
theorem uN (l : List Tx) (x : Tx) : l.length ≤ (addN l x).length ∧ (addN l x).length ≤ l.length + 1 := by
 unfold addN
 cases (pos x l).isSome || x == [] || x == [48] <;> simp
theorem uK (E : tE) : ∀ m, (ND E m).length ≤ 4 * m
 | 0 => Nat.le_refl _
 | m + 1 => by
  have := uK E m
  have h1 := uN (ND E m) (E m).a
  have h2 := uN (addN (ND E m) (E m).a) (E m).b
  have h3 := uN (addN (addN (ND E m) (E m).a) (E m).b) (E m).c
  have h4 := uN (addN (addN (addN (ND E m) (E m).a) (E m).b) (E m).c) (E m).d
  unfold ND
  omega
/-- what refuses element i, those ahead of it being taken -/
def jh (chk : El → Int) (E : tE) (i : Nat) : Int := bif decide (chk (E i) = 0) then (bif (pos (E i).n (NM E i)).isSome then 9 else 0) else chk (E i)
/-- what Of tells of n elements: the error and its place -/
def Hq (chk : El → Int) (E : tE) (n : Nat) : Nat → Int × Int
 | 0 => bif decide (32 < (ND E n).length) || decide (64 < (ND E n).length + (BR E n).length) then (3, -1) else (0, 0)
 | m + 1 => bif decide (jh chk E (n - (m + 1)) = 0) then Hq chk E n m else (jh chk E (n - (m + 1)), ((n - (m + 1) : Nat) : Int))
def ofR (chk : El → Int) (E : tE) (n : Nat) : Int × Int := bif decide (256 < n) then (3, -1) else Hq chk E n n
theorem WW {chk : El → Int} {E : tE} {n i : Nat} (hi : i < n) (hb : jh chk E i ≠ 0) : ∀ m, i + m ≤ n → n ≤ i + m → (∀ j, j < i → jh chk E j = 0) → Hq chk E n n = (jh chk E i, (i : Int)) := by
 have step : ∀ m, m ≤ n → n - m ≤ i → (∀ j, n - m ≤ j → j < i → jh chk E j = 0) → Hq chk E n m = (jh chk E i, (i : Int)) := by
  intro m
  induction m with
  | zero => intro _ h; omega
  | succ m ih =>
   intro hm h1 h2
   unfold Hq
   by_cases q : n - (m + 1) = i
   ·rw [q, decide_eq_false hb, cond_false]
   ·rw [decide_eq_true (h2 _ (Nat.le_refl _) (by omega)), cond_true]
    exact ih (by omega) (by omega) fun j a b => h2 j (by omega) b
 intro m _ _ h
 exact step n (Nat.le_refl _) (by omega) fun j _ b => h j b
theorem Uc {chk : El → Int} {E : tE} {n : Nat} (h : ∀ j, j < n → jh chk E j = 0) : Hq chk E n n = Hq chk E n 0 := by
 have step : ∀ m, m ≤ n → Hq chk E n m = Hq chk E n 0 := by
  intro m
  induction m with
  | zero => intro _; rfl
  | succ m ih =>
   intro hm
   show (bif decide (jh chk E (n - (m + 1)) = 0) then Hq chk E n m else (jh chk E (n - (m + 1)), ((n - (m + 1) : Nat) : Int))) = _
   rw [decide_eq_true (h _ (by omega)), cond_true]
   exact ih (by omega)
 exact step n (Nat.le_refl _)
/-- rows in memory: an element; a net; a text -/
def aP (e : El) : List AV := [.int true .u8 e.k, .str true e.n, .str true e.a, .str true e.b, .str true e.c, .str true e.d, .raw true e.v, iT e.ph]
noncomputable abbrev ZDI (v0 v1 : Nat) := (.slc true true ⟨false, v0, 0, 0⟩ v1 : AV)
noncomputable def bQ (l nd bg m q r : Nat) : List AV := [.bool true, ZDI l m, .mp 3, ZDI nd q, .mp 4, ZDI bg r, .mp 5]
def aU (f : tX) (j : Nat) : List AV := [.str true (f j)]
theorem Vk {p : Nat → Prop} (h : p 0) (j : Nat) (hj : j < 1) : p j := by
 obtain rfl : j = 0 := by omega
 exact h
theorem Qk {g sz : Nat} {own : Bool} {d : List AV} {t : T (List AV)} {H : T aF} {rows' : Nat → List AV} (h : H.get g = some (.cells own sz 1 (.lit d t))) (e : (Cont.lit d t).row 0 = rows' 0 := by rfl) : ∃ b', H.get g = some b' ∧ dD b' (.cells own sz 1 (.fn rows')) :=
 ⟨_, h, rfl, rfl, rfl, Vk (p := fun j => (Cont.lit d t).row j = rows' j) e⟩
theorem gM {H : T aF} {g : Nat} {s : Bool} {l l' : tM} (h : H.get g = some (.aJ s l)) (e : l = l') : ∃ b', H.get g = some b' ∧ dD b' (.aJ s l') := ⟨_, h, by rw [e]; exact dD.refl _⟩
def sg (a b x : Nat) : Nat := if x = a then b else x
theorem mY {K a b : Nat} (h : K ≤ b) : ∀ i j, i < K → j < K → sg a b i = sg a b j → i = j := by
 intro i j hi hj e
 unfold sg at e
 split at e <;> split at e <;> omega
theorem mX {B a b : Nat} (h : B ≤ a) : ∀ g, g < B → sg a b g = g := by
 intro g hg
 unfold sg
 rw [if_neg (by omega)]
theorem lW {σ : Nat → Nat} {K' : Nat} {H : T aF} {g : Nat} {s : Bool} {l l' : tM} (h : H.get (σ g) = some (.aJ s l)) (e : l = l') (hlt : g < K') : ∃ b, H.get (σ g) = some b ∧ dD b ((aF.aJ s l').ren σ) ∧ (aF.aJ s l').mJ K' ∧ g < K' := ⟨_, h, by rw [e]; exact dD.refl _, trivial, hlt⟩
theorem dX {σ : Nat → Nat} {K' : Nat} {H : T aF} {g sz n n' : Nat} {own : Bool} {rows rows' : Nat → List AV} (hg : H.get (σ g) = some (.cells own sz n (.fn rows))) (e : n = n') (hr : ∀ j, j < n → rows j = kQ σ (rows' j)) (hl : ∀ j, j < n → (rows' j).all (fun v => v.low K') = true) (hlt : g < K') :
  ∃ b, H.get (σ g) = some b ∧ dD b ((aF.cells own sz n' (.fn rows')).ren σ) ∧ (aF.cells own sz n' (.fn rows')).mJ K' ∧ g < K' := by
 subst e
 exact ⟨_, hg, ⟨rfl, rfl, rfl, hr⟩, fun j hj v hv => List.all_eq_true.1 (hl j hj) v hv, hlt⟩
theorem JZ {σ : Nat → Nat} {K' : Nat} {H : T aF} {g sz : Nat} {own : Bool} {rows rows' : Nat → List AV} (hg : H.get (σ g) = some (.cells own sz 1 (.fn rows))) (hr : rows 0 = kQ σ (rows' 0)) (hl : (rows' 0).all (fun v => v.low K') = true) (hlt : g < K') :
  ∃ b, H.get (σ g) = some b ∧ dD b ((aF.cells own sz 1 (.fn rows')).ren σ) ∧ (aF.cells own sz 1 (.fn rows')).mJ K' ∧ g < K' :=
 dX hg rfl (Vk (p := fun j => rows j = kQ σ (rows' j)) hr) (Vk (p := fun j => (rows' j).all (fun v => v.low K') = true) hl) hlt
/-- nodes after the first i of an element's four -/
def four (z : El) (j : Nat) : Tx := bif Nat.beq j 0 then z.a else bif Nat.beq j 1 then z.b else bif Nat.beq j 2 then z.c else z.d
def gB (l : List Tx) (z : El) : Nat → List Tx
 | 0 => l
 | i + 1 => addN (gB l z i) (four z i)
theorem Hr (l : List Tx) (z : El) : ∀ i, (gB l z i).length ≤ l.length + i
 | 0 => Nat.le_refl _
 | i + 1 => by
  have h1 := Hr l z i
  have h2 := (uN (gB l z i) (four z i)).2
  unfold gB; omega
theorem Ht (x : Tx) (l : List Tx) : (cZ seq x (ay 0 l)).isSome = (pos x l).isSome := by
 rw [y8]; cases pos x l <;> rfl
theorem y9 {x : Tx} {l : List Tx} {m : Nat} (hm : m = l.length) (h : pos x l = none) : oh seq x (m : Int) (ay 0 l) = ay 0 (l ++ [x]) := by
 subst hm
 have := OA x 0 l h
 rwa [Nat.zero_add] at this
theorem WX {o : Option Nat} (h : o.isSome = false) : o = none := by cases o with
 | none => rfl
 | some _ => cases h
def aA (l : List Tx) (j : Nat) : Tx := l.getD j []
theorem J9 (l : List Tx) (x : Tx) (j : Nat) (h : j < l.length + 1) : (bif decide (j < l.length) then aU (aA l) j else [.str true x]) = aU (aA (l ++ [x])) j := by
 unfold aU aA
 by_cases c : j < l.length
 ·rw [decide_eq_true c, cond_true, List.getD_eq_getElem?_getD, List.getD_eq_getElem?_getD, List.getElem?_append_left c]
 ·obtain rfl : j = l.length := by omega
  rw [decide_eq_false c, cond_false, List.getD_eq_getElem?_getD, List.getElem?_append_right (Nat.le_refl _), Nat.sub_self]
  rfl
section
variable {P : Program} {n B K K' : Nat}
theorem Ud {K1 : Nat} {x y : Code} {fr : Fr} {H : T aF} {R : Fr → T aF → Prop} (hK : K1 ≤ K') (h : aj P x n B K K1 fr H fun e fr' H' => e = .ret ∧ R fr' H') : aj P (.seq x y) n B K K' fr H fun e fr' H' => e = .ret ∧ R fr' H' :=
 aj.seq hK (h.mono fun e fr' H' q => by obtain ⟨rfl, q⟩ := q; exact ⟨rfl, q⟩)
theorem aaZ {id : Nat} {x : Code} {fr : Fr} {H : T aF} {R : Fr → T aF → Prop} (h : aj P x n B K K' fr H fun e fr' H' => e = .ret ∧ R fr' H') : aj P (.block id x) n B K K' fr H fun e fr' H' => e = .ret ∧ R fr' H' :=
 aj.block (h.mono fun e fr' H' q => by obtain ⟨rfl, q⟩ := q; exact ⟨rfl, q⟩)
end
theorem aQ : ∀ (l : List AV), l.all AV.one = true → dQ l l
 | [], _ => trivial
 | v :: l, h => by
  rw [List.all_cons, Bool.and_eq_true] at h
  exact ⟨AV.ge.refl v, h.1, aQ l h.2⟩
/-- a row as an element -/
def unE : List AV → El
 | [.int _ _ k, .str _ n, .str _ a, .str _ b, .str _ c, .str _ d, .raw _ v, .int _ _ ph] => ⟨k, n, a, b, c, d, v, ph⟩
 | [.int _ _ k, .str _ n, .str _ a, .str _ b, .str _ c, .str _ d, .flt _ v, .int _ _ ph] => ⟨k, n, a, b, c, d, v, ph⟩
 | _ => ⟨0, [], [], [], [], [], 0, 0⟩
def aK (f : Nat → List AV) (j : Nat) : El := unE (f j)
structure PE (n : Nat) (f : Nat → List AV) : Prop where
 of : ∀ j, j < n → dQ (f j) (aP (aK f j))
theorem sJ (K : Nat) (z : El) : (aP z).all (fun v => v.low K) = true := rfl
/-- a net's row, anywhere -/
noncomputable def EN (m1 m2 m3 l nd bg m q r : Nat) : List AV := [.bool true, ZDI l m, .mp m1, ZDI nd q, .mp m2, ZDI bg r, .mp m3]
/-- a net's blocks: the maps, elements, nodes, branches, and the net -/
noncomputable abbrev ZF (v0 : Nat) (v1 : tE) := (.cells true 8 v0 (.fn fun j => aP (v1 j)) : aF)
noncomputable abbrev ZM (v0 : tE) (v1 : Nat) := (.aJ true (ay 0 (NM v0 v1)) : aF)
noncomputable abbrev ZN (v0 : tE) (v1 : Nat) := (.aJ true (ay 0 (ND v0 v1)) : aF)
noncomputable abbrev ZO (v0 : tE) (v1 : Nat) := (.aJ true (ay 0 (BR v0 v1)) : aF)
noncomputable abbrev ZR (v0 : tE) (v1 : Nat) := (.cells true 1 (ND v0 v1).length (.fn (aU (aA (ND v0 v1)))) : aF)
noncomputable def WY (N : Nat) (E : tE) (n : Nat) : List aF :=
 [ZM E n, ZN E n, ZO E n, ZF n E, ZR E n, .cells true 1 (BR E n).length (.fn (aU (aA (BR E n)))), .cells true 7 1 (.fn fun _ => EN N (N + 1) (N + 2) (N + 3) (N + 4) (N + 5) n (ND E n).length (BR E n).length)]
/-- a net more in memory; its name -/
noncomputable def MX (E : tE) (n : Nat) : M Nat :=
 (M.fD (ZM E n)).andThen fun N => (M.fD (ZN E n)).andThen fun _ => (M.fD (ZO E n)).andThen fun _ => (M.fD (ZF n E)).andThen fun _ => (M.fD (ZR E n)).andThen fun _ => (M.fD (.cells true 1 (BR E n).length (.fn (aU (aA (BR E n)))))).andThen fun _ => (M.fD (.cells true 7 1 (.fn fun _ => EN N (N + 1) (N + 2) (N + 3) (N + 4) (N + 5) n (ND E n).length (BR E n).length)))
theorem MZ (E : tE) (n : Nat) : aC (MX E n) :=
 (aC.fD _).andThen fun _ => (aC.fD _).andThen fun _ => (aC.fD _).andThen fun _ => (aC.fD _).andThen fun _ => (aC.fD _).andThen fun _ => (aC.fD _).andThen fun _ => aC.fD _
theorem Ko {E : tE} {n : Nat} {N : Nat} {g g' : G} (h : MX E n g = .done N g') : N = g.nx + 6 ∧ g'.H = kS g.H g.nx (WY g.nx E n) ∧ g'.nx = g.nx + 7 ∧ g'.cs = g.cs := by
 cases h
 exact ⟨rfl, rfl, rfl, rfl⟩
/-- a slice of elements that are read: told by its arguments alone -/
structure PEQ (n : Nat) (f : Nat → List AV) : Prop where
 of : PE n f
 low : ∀ j, j < n → ∀ u, u ∈ f j → u.low 0 = true
noncomputable def OB (dA : Nat) (x : AV) (Q : Nat → (Nat → List AV) → Prop) : M (Nat × (Nat → List AV)) :=
 (nG dA x).andThen fun y => (M.req (Q y.2.1 y.2.2)).andThen fun _ => M.ret (y.2.1, y.2.2)
theorem Ue {dA : Nat} {x : AV} {Q : Nat → (Nat → List AV) → Prop} {y : Nat × (Nat → List AV)} {g g' : G} (h : OB dA x Q g = .done y g') (he : 0 < dA) (hQ : Q y.1 y.2 → ∀ j, j < y.1 → ∀ u, u ∈ y.2 j → u.low 0 = true) :
  ∃ q, Keep g g' q ∧ (q → Vw.Ok ⟨x, dA, y.1, y.2⟩ g ∧ Q y.1 y.2) := by
 unfold OB at h
 obtain ⟨z, g1, a1, h1⟩ := au h
 obtain ⟨_, g2, a2, h2⟩ := au h1
 obtain ⟨rfl, rfl⟩ := aB h2
 obtain ⟨q1, k1, f1⟩ := Vw.Ok.of a1 he
 have k2 := iZ a2
 exact ⟨_, k1.trans k2, fun ⟨e1, e2⟩ => ⟨f1 e1 (hQ e2), e2⟩⟩
theorem WZ (dA : Nat) (x : AV) (Q : Nat → (Nat → List AV) → Prop) : aC (OB dA x Q) := (aC.nG _ _).andThen fun _ => (aC.req _).andThen fun _ => aC.ret _


noncomputable abbrev ZY (v0 : Nat) (v1 : tX) := (.cells true 1 v0 (.fn (aU v1)) : aF)
noncomputable abbrev Z4 (v0 v1 v2 : Nat) := (.cells true 7 1 (.fn fun _ => bQ 6 7 8 v0 v1 v2) : aF)
noncomputable def Qp (m q r : Nat) (E : tE) (M1 M2 M3 : tM) (nd br : tX) : List (Nat × aF) := [(2, Z4 m q r), (3, .aJ true M1), (4, .aJ true M2), (5, .aJ true M3), (6, ZF m E), (7, ZY q nd), (8, ZY r br)]
noncomputable abbrev sQ (w0 w1 w2 w3) := ([(w0, ZA w1), (w2, ZA w3)] : jU)
theorem ptA (B : Nat) (hB : B ≤ 10) (z : El) (m q r : Nat) (E : tE) (M1 M2 M3 : tM) (nd br : tX) : aj Try.prog ((aT [0] (ak Try.f36))) Try.f36.ntmps B 10 11 (bJ [ZA 2, .agg (aP z)] 0 .e) (hpL (Qp m q r E M1 M2 M3 nd br)) (pP .normal (sQ 0 2 3 10) (Qp m q r E M1 M2 M3 nd br ++ [(10, .cells true 8 1 (.lit [] (T.n T.e (Option.some (aP z)) T.e)))])) := jW [] trivial hB
noncomputable abbrev Zk (v0 : El) := (.cells true 8 1 (.fn fun _ => aP v0) : aF)
theorem ptB (B : Nat) (hB : B ≤ 11) (z : El) (m q r : Nat) (E : tE) (M1 M2 M3 : tM) (nd br : tX) : aj Try.prog ((aT [1,0] (ak Try.f36))) Try.f36.ntmps B 11 11 (aV (sQ 0 2 3 10)) (hpL (Qp m q r E M1 M2 M3 nd br ++ [(10, Zk z)])) (pP .normal (sQ 0 2 3 10) [(2, Z4 m q r), (3, .aJ true (oh seq (El.n z) (↑m : Int) M1)), (4, .aJ true M2), (5, .aJ true M3), (6, ZF m E), (7, ZY q nd), (8, ZY r br), (10, Zk z)]) := jW [] trivial hB
theorem ptC (B : Nat) (hB : B ≤ 11) (z : El) (m q r : Nat) (E : tE) (M1 M2 M3 : tM) (nd br : tX) (x0 : ((m + 1) * 104 ≤ 140737488355328)) (x1 : (m + 1 ≤ 9223372036854775807)) : aj Try.prog ((aT [1,1,0] (ak Try.f36))) Try.f36.ntmps B 11 13 (aV (sQ 0 2 3 10)) (hpL (Qp m q r E M1 M2 M3 nd br ++ [(10, Zk z)])) (pP .normal (sQ 0 2 3 10) [(2, .cells true 7 1 (.fn fun j => bif Nat.beq j 0 then (bQ 12 7 8 (m + 1) q r) else (bQ 6 7 8 m q r))), (3, .aJ true M1), (4, .aJ true M2), (5, .aJ true M3), (7, ZY q nd), (8, ZY r br), (10, Zk z), (12, .cells true 8 (m + 1) (.fn fun j => bif decide (j < m) then (aP (E j)) else (aP z)))]) := jW [] (I1 (ai (show m ≤ m by omega) (ai x0 x1))) hB
noncomputable abbrev Zg := (.int false .i64 0 : AV)
theorem ptD (B : Nat) (hB : B ≤ 11) (z : El) (m q r : Nat) (E : tE) (M1 M2 M3 : tM) (nd br : tX) : aj Try.prog ((aT [1,1,1,0,0] (ak Try.f36))) Try.f36.ntmps B 11 12 (aV (sQ 0 2 3 10)) (hpL (Qp m q r E M1 M2 M3 nd br ++ [(10, Zk z)])) (pP .normal [(0, ZA 2), (3, ZA 10), (37, .slc false true ⟨false, 11, 0, 0⟩ 4), (38, .int false .i64 4), (39, Zg)] (Qp m q r E M1 M2 M3 nd br ++ [(10, Zk z), (11, .cells true 1 4 (.lit [.str false []] (T.n (T.n (.n .e (some [.str true (El.d z)]) T.e) (Option.some [.str true (El.b z)]) T.e) (Option.some [.str true (El.a z)]) (.n .e (some [.str true (El.c z)]) .e))))])) := jW [] trivial hB
noncomputable abbrev JJ (v0 : Nat) := iT ((↑v0 : Int) + 1)
noncomputable abbrev ZCv := aT [1,1,1,0,1,0,0] (ak Try.f36)
noncomputable abbrev ZEX (v0 : Nat) := ([(0, ZA 2), (3, ZA 10), (37, sL 11 4), (38, iT 4), (39, JJ v0)] : jU)
noncomputable abbrev ZEi (v0 : El) (v1 : tX) := ([(10, Zk v0), (11, .cells true 1 4 (.fn (aU v1)))] : tH)
theorem ptL (B : Nat) (hB : B ≤ 12) (z : El) (m q r i : Nat) (E : tE) (M1 M2 M3 : tM) (nd br four : tX) (x0 : ((decide ((↑i : Int) < 4)) = true → ((Option.isSome (cZ seq (four (0 + i)) M2)) = false → ((four (0 + i) == []) = false → ((four (0 + i) == [(48 : UInt8)]) = false → ((q + 1) * 16 ≤ 140737488355328)))))) (x1 : ((decide ((↑i : Int) < 4)) = true → ((Option.isSome (cZ seq (four (0 + i)) M2)) = false → ((four (0 + i) == []) = false → ((four (0 + i) == [(48 : UInt8)]) = false → (q + 1 ≤ 9223372036854775807)))))) : aj Try.prog (ZCv) Try.f36.ntmps B 12 14 (aV [(0, ZA 2), (3, ZA 10), (37, sL 11 4), (38, iT 4), (39, iT (i : Int))]) (hpL (Qp m q r E M1 M2 M3 nd br ++ (ZEi z four))) fun e fr' H' => (cond (decide ((↑i : Int) < 4)) (cond (Option.isSome (cZ seq (four (0 + i)) M2)) (pP .normal (ZEX i) (Qp m q r E M1 M2 M3 nd br ++ (ZEi z four)) e fr' H') (cond (four (0 + i) == []) (pP .normal (ZEX i) (Qp m q r E M1 M2 M3 nd br ++ (ZEi z four)) e fr' H') (cond (four (0 + i) == [(48 : UInt8)]) (pP .normal (ZEX i) (Qp m q r E M1 M2 M3 nd br ++ (ZEi z four)) e fr' H') (pP .normal (ZEX i) [(2, .cells true 7 1 (.fn fun j => bif Nat.beq j 0 then (bQ 6 13 8 m (q + 1) r) else (bQ 6 7 8 m q r))), (3, .aJ true M1), (4, .aJ true (oh seq (four (0 + i)) (↑q : Int) M2)), (5, .aJ true M3), (6, ZF m E), (8, ZY r br), (10, Zk z), (11, .cells true 1 4 (.fn (aU four))), (13, .cells true 1 (q + 1) (.fn fun j => bif decide (j < q) then (aU nd j) else [.str true (four (0 + i))]))] e fr' H')))) (pP (.exit 0) [(0, ZA 2), (3, ZA 10), (37, sL 11 4), (38, iT 4), (39, iT (↑i : Int))] (Qp m q r E M1 M2 M3 nd br ++ (ZEi z four)) e fr' H')) := cD (fun q0 t0 => cI (fun t1 => jW [tT, fF] (I5 t0 (ai (show 0 ≤ (↑i : Int) by omega) (show (↑i : Int) < 4 by omega)) (show 0 + i < 4 by omega) (nt t1) (ai (show -9223372036854775808 ≤ (↑i : Int) + 1 by omega) (show (↑i : Int) + 1 ≤ (9223372036854775807 : Int) by omega))) hB) (fun t1 => cI (fun t2 => jW [tT, tT, fF] (I6 t0 (ai (show 0 ≤ (↑i : Int) by omega) (show (↑i : Int) < 4 by omega)) (show 0 + i < 4 by omega) (nf t1) (nt t2) (ai (show -9223372036854775808 ≤ (↑i : Int) + 1 by omega) (show (↑i : Int) + 1 ≤ (9223372036854775807 : Int) by omega))) hB) (fun t2 => cI (fun t3 => jW [tT, tT, tT, fF] (I7 t0 (ai (show 0 ≤ (↑i : Int) by omega) (show (↑i : Int) < 4 by omega)) (show 0 + i < 4 by omega) (nf t1) (nf t2) (nt t3) (ai (show -9223372036854775808 ≤ (↑i : Int) + 1 by omega) (show (↑i : Int) + 1 ≤ (9223372036854775807 : Int) by omega))) hB) (fun t3 => jW [tT, tT, tT, tT] (I8 t0 (ai (show 0 ≤ (↑i : Int) by omega) (show (↑i : Int) < 4 by omega)) (show 0 + i < 4 by omega) (nf t1) (nf t2) (nf t3) (ai (show q ≤ q by omega) (ai (x0 t0 t1 t2 t3) (x1 t0 t1 t2 t3))) (ai (show -9223372036854775808 ≤ (↑i : Int) + 1 by omega) (show (↑i : Int) + 1 ≤ (9223372036854775807 : Int) by omega))) hB)))) (fun q0 t0 => jW [fF] (I1 t0) hB)
theorem ptM (B : Nat) (hB : B ≤ 12) (z : El) (m q r : Nat) (E : tE) (M1 M2 M3 : tM) (nd br : tX) (x0 : ((r + 1) * 16 ≤ 140737488355328)) (x1 : (r + 1 ≤ 9223372036854775807)) : aj Try.prog ((aT [1,1,1,1] (ak Try.f36))) Try.f36.ntmps B 12 14 (aV (sQ 0 2 3 10)) (hpL (Qp m q r E M1 M2 M3 nd br ++ [(10, Zk z)])) fun e fr' H' => (cond (decide (El.k z = (5 : Int))) (pP .normal (sQ 0 2 3 10) [(2, .cells true 7 1 (.fn fun j => bif Nat.beq j 0 then (bQ 6 7 13 m q (r + 1)) else (bQ 6 7 8 m q r))), (3, .aJ true M1), (4, .aJ true M2), (5, .aJ true (oh seq (El.n z) (↑r : Int) M3)), (6, ZF m E), (7, ZY q nd), (13, .cells true 1 (r + 1) (.fn fun j => bif decide (j < r) then (aU br j) else [.str true (El.n z)]))] e fr' H') (cond (decide (El.k z = (7 : Int))) (pP .normal (sQ 0 2 3 10) [(2, .cells true 7 1 (.fn fun j => bif Nat.beq j 0 then (bQ 6 7 13 m q (r + 1)) else (bQ 6 7 8 m q r))), (3, .aJ true M1), (4, .aJ true M2), (5, .aJ true (oh seq (El.n z) (↑r : Int) M3)), (6, ZF m E), (7, ZY q nd), (13, .cells true 1 (r + 1) (.fn fun j => bif decide (j < r) then (aU br j) else [.str true (El.n z)]))] e fr' H') (pP .normal (sQ 0 2 3 10) (Qp m q r E M1 M2 M3 nd br) e fr' H'))) := cD (fun q0 t0 => jW [tT] (I2 t0 (ai (show r ≤ r by omega) (ai x0 x1))) hB) (fun q0 t0 => cD (fun q1 t1 => jW [fF, tT] (I3 t0 t1 (ai (show r ≤ r by omega) (ai x0 x1))) hB) (fun q1 t1 => jW [fF, fF] (I2 t0 t1) hB))
theorem aa0 : (ak Try.f36) = .seq (aT [0] (ak Try.f36)) (.seq (aT [1,0] (ak Try.f36)) (.seq (aT [1,1,0] (ak Try.f36)) (.seq (.seq (aT [1,1,1,0,0] (ak Try.f36)) (.block 0 (.loop ZCv))) (aT [1,1,1,1] (ak Try.f36))))) := by kernel_rfl
noncomputable abbrev Zf (v0 : Nat) (v1 : tE) := (.cells true 8 (v0) (.fn fun j => aP (v1 j)) : aF)
noncomputable abbrev Zn (v0 : List Tx) := (.cells true 1 ((v0).length) (.fn (aU (aA (v0)))) : aF)
noncomputable abbrev Z9 (v0 : List Tx) := (.aJ true (ay 0 (v0)) : aF)
noncomputable abbrev ZBx (v0 : El) := (.cells true 1 4 (.fn (aU (four v0))) : aF)
noncomputable abbrev ZDJ (v0 : List Tx) (v1 : El) (v2 : Nat) := (.cells true 1 ((gB v0 v1 (v2 + 1)).length) (.fn (aU (aA (gB v0 v1 (v2 + 1))))) : aF)
noncomputable abbrev ZDh (v0 : Nat) (v1 : List Tx) (v2 : El) (v3 : Nat) (v4 v5 : List Tx) (v6 : tE) := ([(2, .cells true 7 1 (.fn fun _ => bQ 6 7 8 v0 ((gB v1 v2 v3)).length (v4).length)), (3, Z9 v5), (4, .aJ true (ay 0 ((gB v1 v2 v3)))), (5, Z9 v4), (6, Zf v0 v6), (7, .cells true 1 (((gB v1 v2 v3)).length) (.fn (aU (aA ((gB v1 v2 v3)))))), (8, Zn v4), (10, Zk v2), (11, ZBx v2)] : tH)
noncomputable abbrev ZDs (v0 : Nat) (v1 : List Tx) (v2 : El) (v3 : Nat) (v4 v5 : List Tx) (v6 : tE) := ([(2, .cells true 7 1 (.fn fun _ => bQ 6 7 8 v0 (gB v1 v2 (v3 + 1)).length (v4).length)), (3, Z9 v5), (4, .aJ true (ay 0 (gB v1 v2 (v3 + 1)))), (5, Z9 v4), (6, Zf v0 v6), (7, ZDJ v1 v2 v3), (8, Zn v4), (10, Zk v2), (11, ZBx v2)] : tH)
noncomputable abbrev ZEG (v0 : Nat) := ([(0, ZA 2), (3, ZA 10), (37, sL 11 4), (38, iT 4), (39, iT (((v0 + 1 : Nat)) : Int))] : jU)
theorem Uf (z : El) (m : Nat) (E : tE) (nm nd br : List Tx) (hq : nd.length ≤ 1100) (i : Nat) (hi : i < 4) :
  aj Try.prog ZCv Try.f36.ntmps 6 12 12 (aV [(0, .ptr ⟨false, 2, 0, 0⟩), (3, .ptr ⟨false, 10, 0, 0⟩), (37, sL 11 4), (38, iT 4), (39, iT ((i : Nat) : Int))]) (hpL [(2, .cells true 7 1 (.fn fun _ => bQ 6 7 8 m ((gB nd z i)).length (br).length)), (3, .aJ true (ay 0 (nm))), (4, .aJ true (ay 0 ((gB nd z i)))), (5, .aJ true (ay 0 (br))), (6, .cells true 8 (m) (.fn fun j => aP (E j))), (7, .cells true 1 (((gB nd z i)).length) (.fn (aU (aA ((gB nd z i)))))), (8, .cells true 1 ((br).length) (.fn (aU (aA (br))))), (10, .cells true 8 1 (.fn fun _ => aP z)), (11, .cells true 1 4 (.fn (aU (four z))))]) (Nm [(0, .ptr ⟨false, 2, 0, 0⟩), (3, .ptr ⟨false, 10, 0, 0⟩), (37, sL 11 4), (38, iT 4), (39, iT (((i + 1 : Nat)) : Int))] [(2, .cells true 7 1 (.fn fun _ => bQ 6 7 8 m (gB nd z (i + 1)).length (br).length)), (3, .aJ true (ay 0 (nm))), (4, .aJ true (ay 0 (gB nd z (i + 1)))), (5, .aJ true (ay 0 (br))), (6, .cells true 8 (m) (.fn fun j => aP (E j))), (7, .cells true 1 ((gB nd z (i + 1)).length) (.fn (aU (aA (gB nd z (i + 1)))))), (8, .cells true 1 ((br).length) (.fn (aU (aA (br))))), (10, .cells true 8 1 (.fn fun _ => aP z)), (11, .cells true 1 4 (.fn (aU (four z))))]) := by
 have l4 := Hr nd z i
 refine (ptL 6 (by omega) z m (gB nd z i).length br.length i E (ay 0 nm) (ay 0 (gB nd z i)) (ay 0 br) (aA ((gB nd z i))) (aA (br)) (four z) (fun _ _ _ _ => by omega) (fun _ _ _ _ => by omega)).renG fun e fr' H' h => ?_
 rw [decide_eq_true (show (i : Int) < 4 by omega), cond_true, Nat.zero_add, Ht] at h
 have same : addN (gB nd z i) (four z i) = (gB nd z i) → (e = .normal ∧ fr' = aV [(0, .ptr ⟨false, 2, 0, 0⟩), (3, .ptr ⟨false, 10, 0, 0⟩), (37, sL 11 4), (38, iT 4), (39, iT ((i : Int) + 1 : Int))] ∧ H' = hpL [(2, .cells true 7 1 (.fn fun _ => bQ 6 7 8 m ((gB nd z i)).length (br).length)), (3, .aJ true (ay 0 (nm))), (4, .aJ true (ay 0 ((gB nd z i)))), (5, .aJ true (ay 0 (br))), (6, .cells true 8 (m) (.fn fun j => aP (E j))), (7, .cells true 1 (((gB nd z i)).length) (.fn (aU (aA ((gB nd z i)))))), (8, .cells true 1 ((br).length) (.fn (aU (aA (br))))), (10, .cells true 8 1 (.fn fun _ => aP z)), (11, .cells true 1 4 (.fn (aU (four z))))]) → ∃ σ fl bl, (∀ g, g < 6 → σ g = g) ∧ DK 12 σ fr' fl ∧ EJ 12 σ H' bl ∧ (∀ i j, i < 12 → j < 12 → σ i = σ j → i = j) ∧ Nm [(0, .ptr ⟨false, 2, 0, 0⟩), (3, .ptr ⟨false, 10, 0, 0⟩), (37, sL 11 4), (38, iT 4), (39, iT (((i + 1 : Nat)) : Int))] [(2, .cells true 7 1 (.fn fun _ => bQ 6 7 8 m (gB nd z (i + 1)).length (br).length)), (3, .aJ true (ay 0 (nm))), (4, .aJ true (ay 0 (gB nd z (i + 1)))), (5, .aJ true (ay 0 (br))), (6, .cells true 8 (m) (.fn fun j => aP (E j))), (7, .cells true 1 ((gB nd z (i + 1)).length) (.fn (aU (aA (gB nd z (i + 1)))))), (8, .cells true 1 ((br).length) (.fn (aU (aA (br))))), (10, .cells true 8 1 (.fn fun _ => aP z)), (11, .cells true 1 4 (.fn (aU (four z))))] e (aV fl) (hpL bl) := by
  rintro q ⟨rfl, rfl, rfl⟩
  have q2 : gB nd z (i + 1) = (gB nd z i) := q
  rw [q2]
  exact ⟨id, [(0, .ptr ⟨false, 2, 0, 0⟩), (3, .ptr ⟨false, 10, 0, 0⟩), (37, sL 11 4), (38, iT 4), (39, iT (((i + 1 : Nat)) : Int))], [(2, .cells true 7 1 (.fn fun _ => bQ 6 7 8 m ((gB nd z i)).length (br).length)), (3, .aJ true (ay 0 (nm))), (4, .aJ true (ay 0 ((gB nd z i)))), (5, .aJ true (ay 0 (br))), (6, .cells true 8 (m) (.fn fun j => aP (E j))), (7, .cells true 1 (((gB nd z i)).length) (.fn (aU (aA ((gB nd z i)))))), (8, .cells true 1 ((br).length) (.fn (aU (aA (br))))), (10, .cells true 8 1 (.fn fun _ => aP z)), (11, .cells true 1 4 (.fn (aU (four z))))], fun g hg => rfl, (yX rfl), ⟨JZ rfl rfl rfl (by omega), lW rfl rfl (by omega), lW rfl rfl (by omega), lW rfl rfl (by omega), dX rfl rfl (fun j _ => rfl) (fun j _ => rfl) (by omega), dX rfl rfl (fun j _ => rfl) (fun j _ => rfl) (by omega), dX rfl rfl (fun j _ => rfl) (fun j _ => rfl) (by omega), JZ rfl rfl rfl (by omega), dX rfl rfl (fun j _ => rfl) (fun j _ => rfl) (by omega), trivial⟩, fun i j _ _ h => h, rfl, rfl, rfl⟩
 refine mG h (fun t h => same (by unfold addN; rw [t]; rfl) h) (fun t1 h => ?_)
 refine mG h (fun t h => same (by unfold addN; rw [t1, t]; rfl) h) (fun t2 h => ?_)
 refine mG h (fun t h => same (by unfold addN; rw [t1, t2, t]; rfl) h) (fun t3 h => ?_)
 obtain ⟨rfl, rfl, rfl⟩ := h
 have q2 : gB nd z (i + 1) = (gB nd z i) ++ [four z i] := by
  show addN (gB nd z i) (four z i) = _
  unfold addN; rw [t1, t2, t3]; rfl
 have len : (gB nd z (i + 1)).length = (gB nd z i).length + 1 := by rw [q2]; simp
 refine ⟨sg 7 13, [(0, .ptr ⟨false, 2, 0, 0⟩), (3, .ptr ⟨false, 10, 0, 0⟩), (37, sL 11 4), (38, iT 4), (39, iT (((i + 1 : Nat)) : Int))], [(2, .cells true 7 1 (.fn fun _ => bQ 6 7 8 m (gB nd z (i + 1)).length (br).length)), (3, .aJ true (ay 0 (nm))), (4, .aJ true (ay 0 (gB nd z (i + 1)))), (5, .aJ true (ay 0 (br))), (6, .cells true 8 (m) (.fn fun j => aP (E j))), (7, .cells true 1 ((gB nd z (i + 1)).length) (.fn (aU (aA (gB nd z (i + 1)))))), (8, .cells true 1 ((br).length) (.fn (aU (aA (br))))), (10, .cells true 8 1 (.fn fun _ => aP z)), (11, .cells true 1 4 (.fn (aU (four z))))], mX (by omega), (yX rfl), ⟨JZ rfl (by rw [len]; rfl) rfl (by omega), lW rfl rfl (by omega), lW rfl (by rw [q2]; exact y9 rfl (WX t1)) (by omega), lW rfl rfl (by omega), dX rfl rfl (fun j _ => rfl) (fun j _ => rfl) (by omega), dX rfl len.symm (fun j hj => by rw [q2]; exact J9 _ _ j hj) (fun j _ => rfl) (by omega), dX rfl rfl (fun j _ => rfl) (fun j _ => rfl) (by omega), JZ rfl rfl rfl (by omega), dX rfl rfl (fun j _ => rfl) (fun j _ => rfl) (by omega), trivial⟩, mY (by omega), rfl, rfl, rfl⟩
noncomputable abbrev ZBH (v0 : List Tx) (v1 : El) (w0) := (.cells true 1 ((gB v0 v1 w0).length) (.fn (aU (aA (gB v0 v1 w0)))) : aF)
noncomputable abbrev ZCU (v0 : List Tx) (v1 : El) := (.aJ true (ay 0 (gB v0 v1 4)) : aF)
theorem W9 (z : El) (m : Nat) (E : tE) (nm nd br : List Tx) (hq : nd.length ≤ 1100) :
  aj Try.prog ZCv Try.f36.ntmps 6 12 12 (aV [(0, ZA 2), (3, ZA 10), (37, sL 11 4), (38, iT 4), (39, iT ((4 : Nat) : Int))]) (hpL [(2, .cells true 7 1 (.fn fun _ => bQ 6 7 8 m (gB nd z 4).length (br).length)), (3, Z9 nm), (4, ZCU nd z), (5, Z9 br), (6, Zf m E), (7, ZBH nd z 4), (8, Zn br), (10, Zk z), (11, ZBx z)]) (Xm 0 (sQ 0 2 3 10) [(2, .cells true 7 1 (.fn fun _ => bQ 6 7 8 m (gB nd z 4).length (br).length)), (3, Z9 nm), (4, ZCU nd z), (5, Z9 br), (6, Zf m E), (7, ZBH nd z 4), (8, Zn br), (10, Zk z)]) := by
 have l4 := Hr nd z 4
 refine (ptL 6 (by omega) z m (gB nd z 4).length br.length 4 E (ay 0 nm) (ay 0 (gB nd z 4)) (ay 0 br) (aA (gB nd z 4)) (aA (br)) (four z) (fun _ _ _ _ => by omega) (fun _ _ _ _ => by omega)).renG fun e fr' H' h => ?_
 rw [decide_eq_false (show ¬ ((4 : Nat) : Int) < 4 by omega), cond_false] at h
 obtain ⟨rfl, rfl, rfl⟩ := h
 exact ⟨id, (sQ 0 2 3 10), [(2, .cells true 7 1 (.fn fun _ => bQ 6 7 8 m (gB nd z 4).length (br).length)), (3, Z9 nm), (4, ZCU nd z), (5, Z9 br), (6, Zf m E), (7, ZBH nd z 4), (8, Zn br), (10, Zk z)], fun g hg => rfl, (yX rfl), ⟨JZ rfl rfl rfl (by omega), lW rfl rfl (by omega), lW rfl rfl (by omega), lW rfl rfl (by omega), dX rfl rfl (fun j _ => rfl) (fun j _ => rfl) (by omega), dX rfl rfl (fun j _ => rfl) (fun j _ => rfl) (by omega), dX rfl rfl (fun j _ => rfl) (fun j _ => rfl) (by omega), JZ rfl rfl rfl (by omega), trivial⟩, fun i j _ _ h => h, rfl, rfl, rfl⟩
theorem aa1 {z : El} (h : decide (z.k = 5) = true) : pR z = true := by unfold pR; rw [h]; rfl
theorem aa2 {z : El} (h : decide (z.k = 7) = true) : pR z = true := by unfold pR; rw [h]; simp
theorem aa3 {z : El} (h : decide (z.k = 5) = false) (h2 : decide (z.k = 7) = false) : pR z = false := by unfold pR; rw [h, h2]; rfl
noncomputable abbrev Z7 (v0 : Nat) (v1 : tE) := (.cells true 8 ((v0 + 1)) (.fn fun j => aP (v1 j)) : aF)
noncomputable abbrev FC := iT ((0 : Nat) : Int)
noncomputable abbrev ZBy (v0 : List Tx) (v1 : El) := (.aJ true (ay 0 (v0 ++ [v1.n])) : aF)
noncomputable abbrev ZCa (v0 : Nat) (v1 : List Tx) (v2 : El) (v3 : List Tx) (w0) := (.cells true 7 1 (.fn fun _ => bQ 6 7 8 (v0 + 1) (gB v1 v2 w0).length (v3).length) : aF)
noncomputable abbrev ZD2 (v0 : Nat) (v1 : List Tx) (v2 : El) (v3 v4 : List Tx) (v5 : tE) := ([(2, .cells true 7 1 (.fn fun _ => bQ 6 7 8 (v0 + 1) (gB v1 v2 4).length ((bif pR v2 then v3 ++ [v2.n] else v3)).length)), (3, ZBy v4 v2), (4, ZCU v1 v2), (5, .aJ true (ay 0 ((bif pR v2 then v3 ++ [v2.n] else v3)))), (6, Z7 v0 v5), (7, ZBH v1 v2 4), (8, .cells true 1 (((bif pR v2 then v3 ++ [v2.n] else v3)).length) (.fn (aU (aA ((bif pR v2 then v3 ++ [v2.n] else v3))))))] : tH)
theorem Ug (z : El) (m : Nat) (E : tE) (nm nd br : List Tx) (hE : E m = z) (hm : m ≤ 256) (hl : m = nm.length) (hq : nd.length ≤ 1024) (hr : br.length ≤ 256) (hn : pos z.n nm = none) (hb : pos z.n br = none) :
  aj Try.prog (ak Try.f36) Try.f36.ntmps 6 10 12 (bJ [.ptr ⟨false, 2, 0, 0⟩, .agg (aP z)] 0 .e) (hpL [(2, .cells true 7 1 (.fn fun _ => bQ 6 7 8 m (nd).length (br).length)), (3, .aJ true (ay 0 (nm))), (4, .aJ true (ay 0 (nd))), (5, .aJ true (ay 0 (br))), (6, .cells true 8 (m) (.fn fun j => aP (E j))), (7, .cells true 1 ((nd).length) (.fn (aU (aA (nd))))), (8, .cells true 1 ((br).length) (.fn (aU (aA (br)))))]) (fun e fr' H' => (e = .ret ∨ e = .normal) ∧ H' = hpL [(2, .cells true 7 1 (.fn fun _ => bQ 6 7 8 (m + 1) (gB nd z 4).length ((bif pR z then br ++ [z.n] else br)).length)), (3, .aJ true (ay 0 (nm ++ [z.n]))), (4, .aJ true (ay 0 (gB nd z 4))), (5, .aJ true (ay 0 ((bif pR z then br ++ [z.n] else br)))), (6, .cells true 8 ((m + 1)) (.fn fun j => aP (E j))), (7, .cells true 1 ((gB nd z 4).length) (.fn (aU (aA (gB nd z 4))))), (8, .cells true 1 (((bif pR z then br ++ [z.n] else br)).length) (.fn (aU (aA ((bif pR z then br ++ [z.n] else br))))))]) := by
 rw [aa0]
 refine aj.bn (K1 := 11) (F1 := [(0, .ptr ⟨false, 2, 0, 0⟩), (3, .ptr ⟨false, 10, 0, 0⟩)]) (H1 := [(2, .cells true 7 1 (.fn fun _ => bQ 6 7 8 m (nd).length (br).length)), (3, .aJ true (ay 0 (nm))), (4, .aJ true (ay 0 (nd))), (5, .aJ true (ay 0 (br))), (6, .cells true 8 (m) (.fn fun j => aP (E j))), (7, .cells true 1 ((nd).length) (.fn (aU (aA (nd))))), (8, .cells true 1 ((br).length) (.fn (aU (aA (br))))), (10, .cells true 8 1 (.fn fun _ => aP z))]) (aj.toN (ptA 6 (by omega) z m nd.length br.length E (ay 0 nm) (ay 0 nd) (ay 0 br) (aA (nd)) (aA (br))) (iD rfl) ⟨hs rfl, hs rfl, hs rfl, hs rfl, hs rfl, hs rfl, hs rfl, Qk rfl, trivial⟩) (by omega) ?_
 refine aj.bn (K1 := 11) (F1 := [(0, .ptr ⟨false, 2, 0, 0⟩), (3, .ptr ⟨false, 10, 0, 0⟩)]) (H1 := [(2, .cells true 7 1 (.fn fun _ => bQ 6 7 8 m (nd).length (br).length)), (3, .aJ true (ay 0 (nm ++ [z.n]))), (4, .aJ true (ay 0 (nd))), (5, .aJ true (ay 0 (br))), (6, .cells true 8 (m) (.fn fun j => aP (E j))), (7, .cells true 1 ((nd).length) (.fn (aU (aA (nd))))), (8, .cells true 1 ((br).length) (.fn (aU (aA (br))))), (10, .cells true 8 1 (.fn fun _ => aP z))]) (aj.toN (ptB 6 (by omega) z m nd.length br.length E (ay 0 nm) (ay 0 nd) (ay 0 br) (aA (nd)) (aA (br))) (iD rfl) ⟨hs rfl, gM rfl (y9 hl hn), gq rfl⟩) (by omega) ?_
 refine aj.bn (K1 := 11) (F1 := [(0, .ptr ⟨false, 2, 0, 0⟩), (3, .ptr ⟨false, 10, 0, 0⟩)]) (H1 := [(2, .cells true 7 1 (.fn fun _ => bQ 6 7 8 (m + 1) (nd).length (br).length)), (3, .aJ true (ay 0 (nm ++ [z.n]))), (4, .aJ true (ay 0 (nd))), (5, .aJ true (ay 0 (br))), (6, .cells true 8 ((m + 1)) (.fn fun j => aP (E j))), (7, .cells true 1 ((nd).length) (.fn (aU (aA (nd))))), (8, .cells true 1 ((br).length) (.fn (aU (aA (br))))), (10, .cells true 8 1 (.fn fun _ => aP z))]) ?_ (by omega) ?_
 ·refine (ptC 6 (by omega) z m nd.length br.length E (ay 0 (nm ++ [z.n])) (ay 0 nd) (ay 0 br) (aA (nd)) (aA (br)) (by omega) (by omega)).renG fun e fr' H' h => ?_
  obtain ⟨rfl, rfl, rfl⟩ := h
  exact ⟨sg 6 12, [(0, .ptr ⟨false, 2, 0, 0⟩), (3, .ptr ⟨false, 10, 0, 0⟩)], [(2, .cells true 7 1 (.fn fun _ => bQ 6 7 8 (m + 1) (nd).length (br).length)), (3, .aJ true (ay 0 (nm ++ [z.n]))), (4, .aJ true (ay 0 (nd))), (5, .aJ true (ay 0 (br))), (6, .cells true 8 ((m + 1)) (.fn fun j => aP (E j))), (7, .cells true 1 ((nd).length) (.fn (aU (aA (nd))))), (8, .cells true 1 ((br).length) (.fn (aU (aA (br))))), (10, .cells true 8 1 (.fn fun _ => aP z))], mX (by omega), (yX rfl), ⟨JZ rfl rfl rfl (by omega), lW rfl rfl (by omega), lW rfl rfl (by omega), lW rfl rfl (by omega), dX rfl rfl (fun j hj => by
   show (bif decide (j < m) then aP (E j) else aP z) = aP (E j)
   by_cases c : j < m
   ·rw [decide_eq_true c, cond_true]
   ·rw [decide_eq_false c, cond_false, ← hE]; congr 2; omega) (fun j _ => rfl) (by omega), dX rfl rfl (fun j _ => rfl) (fun j _ => rfl) (by omega), dX rfl rfl (fun j _ => rfl) (fun j _ => rfl) (by omega), JZ rfl rfl rfl (by omega), trivial⟩, mY (by omega), rfl, rfl, rfl⟩
 refine aj.bn (K1 := 12) (F1 := [(0, .ptr ⟨false, 2, 0, 0⟩), (3, .ptr ⟨false, 10, 0, 0⟩)]) (H1 := [(2, .cells true 7 1 (.fn fun _ => bQ 6 7 8 (m + 1) (gB nd z 4).length (br).length)), (3, .aJ true (ay 0 (nm ++ [z.n]))), (4, .aJ true (ay 0 (gB nd z 4))), (5, .aJ true (ay 0 (br))), (6, .cells true 8 ((m + 1)) (.fn fun j => aP (E j))), (7, .cells true 1 ((gB nd z 4).length) (.fn (aU (aA (gB nd z 4))))), (8, .cells true 1 ((br).length) (.fn (aU (aA (br))))), (10, .cells true 8 1 (.fn fun _ => aP z))]) ?_ (by omega) ?_
 ·refine aj.bn (K1 := 12) (F1 := [(0, .ptr ⟨false, 2, 0, 0⟩), (3, .ptr ⟨false, 10, 0, 0⟩), (37, sL 11 4), (38, iT 4), (39, iT ((0 : Nat) : Int))]) (H1 := [(2, .cells true 7 1 (.fn fun _ => bQ 6 7 8 (m + 1) (gB nd z 0).length (br).length)), (3, .aJ true (ay 0 (nm ++ [z.n]))), (4, .aJ true (ay 0 (gB nd z 0))), (5, .aJ true (ay 0 (br))), (6, .cells true 8 ((m + 1)) (.fn fun j => aP (E j))), (7, .cells true 1 ((gB nd z 0).length) (.fn (aU (aA (gB nd z 0))))), (8, .cells true 1 ((br).length) (.fn (aU (aA (br))))), (10, .cells true 8 1 (.fn fun _ => aP z)), (11, .cells true 1 4 (.fn (aU (four z))))]) (aj.toN (ptD 6 (by omega) z (m + 1) nd.length br.length E (ay 0 (nm ++ [z.n])) (ay 0 nd) (ay 0 br) (aA (nd)) (aA (br))) ⟨re rfl, re rfl, ⟨_, rfl, AV.ge.slc _ _ _ rfl⟩, ⟨_, rfl, AV.ge.int _ _ _ _⟩, ⟨_, rfl, AV.ge.int _ _ _ _⟩, trivial⟩ ⟨hs rfl, hs rfl, hs rfl, hs rfl, hs rfl, hs rfl, hs rfl, hs rfl, ⟨_, rfl, rfl, rfl, rfl, fun j hj => by
   have : j = 0 ∨ j = 1 ∨ j = 2 ∨ j = 3 := by omega
   rcases this with rfl | rfl | rfl | rfl <;> rfl⟩, trivial⟩) (by omega) ?_
  refine (aj.rounds 4 (fun i => [(0, .ptr ⟨false, 2, 0, 0⟩), (3, .ptr ⟨false, 10, 0, 0⟩), (37, sL 11 4), (38, iT 4), (39, iT ((i : Nat) : Int))]) (fun i => [(2, .cells true 7 1 (.fn fun _ => bQ 6 7 8 (m + 1) ((gB nd z i)).length (br).length)), (3, .aJ true (ay 0 (nm ++ [z.n]))), (4, .aJ true (ay 0 ((gB nd z i)))), (5, .aJ true (ay 0 (br))), (6, .cells true 8 ((m + 1)) (.fn fun j => aP (E j))), (7, .cells true 1 (((gB nd z i)).length) (.fn (aU (aA ((gB nd z i)))))), (8, .cells true 1 ((br).length) (.fn (aU (aA (br))))), (10, .cells true 8 1 (.fn fun _ => aP z)), (11, .cells true 1 4 (.fn (aU (four z))))]) (fun i hi => Uf z (m + 1) E (nm ++ [z.n]) nd br (by omega) i hi) (W9 z (m + 1) E (nm ++ [z.n]) nd br (by omega))).renG fun e fr' H' h => ?_
  obtain ⟨rfl, rfl, rfl⟩ := h
  exact ⟨id, [(0, .ptr ⟨false, 2, 0, 0⟩), (3, .ptr ⟨false, 10, 0, 0⟩)], [(2, .cells true 7 1 (.fn fun _ => bQ 6 7 8 (m + 1) (gB nd z 4).length (br).length)), (3, .aJ true (ay 0 (nm ++ [z.n]))), (4, .aJ true (ay 0 (gB nd z 4))), (5, .aJ true (ay 0 (br))), (6, .cells true 8 ((m + 1)) (.fn fun j => aP (E j))), (7, .cells true 1 ((gB nd z 4).length) (.fn (aU (aA (gB nd z 4))))), (8, .cells true 1 ((br).length) (.fn (aU (aA (br))))), (10, .cells true 8 1 (.fn fun _ => aP z))], fun g hg => rfl, (yX rfl), ⟨JZ rfl rfl rfl (by omega), lW rfl rfl (by omega), lW rfl rfl (by omega), lW rfl rfl (by omega), dX rfl rfl (fun j _ => rfl) (fun j _ => rfl) (by omega), dX rfl rfl (fun j _ => rfl) (fun j _ => rfl) (by omega), dX rfl rfl (fun j _ => rfl) (fun j _ => rfl) (by omega), JZ rfl rfl rfl (by omega), trivial⟩, fun i j _ _ h => h, rfl, rfl, rfl⟩
 have big : pR z = true → ∀ e fr' H', (e = .normal ∧ fr' = aV [(0, .ptr ⟨false, 2, 0, 0⟩), (3, .ptr ⟨false, 10, 0, 0⟩)] ∧ H' = hpL [(2, .cells true 7 1 (.fn fun j => bif Nat.beq j 0 then (bQ 6 7 13 (m + 1) (gB nd z 4).length (br.length + 1)) else (bQ 6 7 8 (m + 1) (gB nd z 4).length br.length))), (3, aF.aJ true (ay 0 (nm ++ [z.n]))), (4, aF.aJ true (ay 0 (gB nd z 4))), (5, aF.aJ true (oh seq (El.n z) (↑br.length : Int) (ay 0 br))), (6, .cells true 8 (m + 1) (.fn fun j => (aP (E j)))), (7, .cells true 1 (gB nd z 4).length (.fn (aU (aA (gB nd z 4))))), (13, .cells true 1 (br.length + 1) (.fn fun j => bif decide (j < br.length) then (aU (aA (br)) j) else [AV.str true (El.n z)]))]) → ∃ σ fl bl, (∀ g, g < 6 → σ g = g) ∧ DK 12 σ fr' fl ∧ EJ 12 σ H' bl ∧ (∀ i j, i < 12 → j < 12 → σ i = σ j → i = j) ∧ ((e = Ex.ret ∨ e = .normal) ∧ hpL bl = hpL [(2, .cells true 7 1 (.fn fun _ => bQ 6 7 8 (m + 1) (gB nd z 4).length ((bif pR z then br ++ [z.n] else br)).length)), (3, .aJ true (ay 0 (nm ++ [z.n]))), (4, .aJ true (ay 0 (gB nd z 4))), (5, .aJ true (ay 0 ((bif pR z then br ++ [z.n] else br)))), (6, .cells true 8 ((m + 1)) (.fn fun j => aP (E j))), (7, .cells true 1 ((gB nd z 4).length) (.fn (aU (aA (gB nd z 4))))), (8, .cells true 1 (((bif pR z then br ++ [z.n] else br)).length) (.fn (aU (aA ((bif pR z then br ++ [z.n] else br))))))]) := by
  rintro hB e fr' H' ⟨rfl, rfl, rfl⟩
  rw [hB, cond_true]
  have len : (br ++ [z.n]).length = br.length + 1 := by simp
  exact ⟨sg 8 13, [(0, .ptr ⟨false, 2, 0, 0⟩)], [(2, .cells true 7 1 (.fn fun _ => bQ 6 7 8 (m + 1) (gB nd z 4).length (br ++ [z.n]).length)), (3, .aJ true (ay 0 (nm ++ [z.n]))), (4, .aJ true (ay 0 (gB nd z 4))), (5, .aJ true (ay 0 (br ++ [z.n]))), (6, .cells true 8 ((m + 1)) (.fn fun j => aP (E j))), (7, .cells true 1 ((gB nd z 4).length) (.fn (aU (aA (gB nd z 4))))), (8, .cells true 1 ((br ++ [z.n]).length) (.fn (aU (aA (br ++ [z.n])))))], mX (by omega), ⟨⟨_, rfl, AV.ge.refl _, rfl⟩, trivial⟩, ⟨JZ rfl (by rw [len]; rfl) rfl (by omega), lW rfl rfl (by omega), lW rfl rfl (by omega), lW rfl (y9 rfl hb) (by omega), dX rfl rfl (fun j _ => rfl) (fun j _ => rfl) (by omega), dX rfl rfl (fun j _ => rfl) (fun j _ => rfl) (by omega), dX rfl len.symm (fun j hj => J9 _ _ j hj) (fun j _ => rfl) (by omega), trivial⟩, mY (by omega), .inr rfl, rfl⟩
 refine (ptM 6 (by omega) z (m + 1) (gB nd z 4).length br.length E (ay 0 (nm ++ [z.n])) (ay 0 (gB nd z 4)) (ay 0 br) (aA (gB nd z 4)) (aA (br)) (by omega) (by omega)).renG fun e fr' H' h => ?_
 refine mG h (fun t h => big (aa1 t) _ _ _ h) (fun t1 h => ?_)
 refine mG h (fun t h => big (aa2 t) _ _ _ h) (fun t2 h => ?_)
 obtain ⟨rfl, rfl, rfl⟩ := h
 rw [aa3 t1 t2, cond_false]
 exact ⟨id, [(0, .ptr ⟨false, 2, 0, 0⟩)], [(2, .cells true 7 1 (.fn fun _ => bQ 6 7 8 (m + 1) (gB nd z 4).length (br).length)), (3, .aJ true (ay 0 (nm ++ [z.n]))), (4, .aJ true (ay 0 (gB nd z 4))), (5, .aJ true (ay 0 (br))), (6, .cells true 8 ((m + 1)) (.fn fun j => aP (E j))), (7, .cells true 1 ((gB nd z 4).length) (.fn (aU (aA (gB nd z 4))))), (8, .cells true 1 ((br).length) (.fn (aU (aA (br)))))], fun g hg => rfl, ⟨⟨_, rfl, AV.ge.refl _, rfl⟩, trivial⟩, ⟨JZ rfl rfl rfl (by omega), lW rfl rfl (by omega), lW rfl rfl (by omega), lW rfl rfl (by omega), dX rfl rfl (fun j _ => rfl) (fun j _ => rfl) (by omega), dX rfl rfl (fun j _ => rfl) (fun j _ => rfl) (by omega), dX rfl rfl (fun j _ => rfl) (fun j _ => rfl) (by omega), trivial⟩, fun i j _ _ h => h, .inr rfl, rfl⟩


noncomputable abbrev ZC (v0 : Nat) (v1 : tE) := (.cells false 8 v0 (.fn fun j => aP (v1 j)) : aF)
noncomputable abbrev ZP := (.cells true 2 1 (.fn fun _ => [.int false .i64 (0), .int false .i64 (0)]) : aF)
noncomputable def Xa (n m q r : Nat) (E : tE) (M1 M2 M3 : tM) (nd br : tX) : List (Nat × aF) := [(0, ZC n E), (1, ZP), (2, Z4 m q r), (3, .aJ true M1), (4, .aJ true M2), (5, .aJ true M3), (6, ZF m E), (7, ZY q nd), (8, ZY r br)]
noncomputable abbrev ZE (v0 : Nat) := (.slc true false ⟨false, 0, 0, 0⟩ v0 : AV)
noncomputable abbrev ZEc := (.cells true 2 1 (.lit [] (.n .e (some [Zg, Zg]) .e)) : aF)
theorem ofA (B : Nat) (hB : B ≤ 1) (n : Nat) (E : tE) : aj Try.prog ((aT [0] (ak Try.f12))) Try.f12.ntmps B 1 2 (bJ [ZE n] 0 .e) (hpL [(0, ZC n E)]) (pP .normal [(0, ZE n), (3, ZA 1)] [(0, ZC n E), (1, ZEc)]) := jW [] trivial hB
noncomputable abbrev Qq := (.cells true 2 1 (.fn fun x => [Zg, Zg]) : aF)
noncomputable abbrev ZEH := (.cells true 2 1 (.fn fun j => bif Nat.beq j 0 then [.int false .i64 3, .int false .i64 (-1 : Int)] else [Zg, Zg]) : aF)
theorem ofB (B : Nat) (hB : B ≤ 2) (n : Nat) (E : tE) : aj Try.prog ((aT [1,0] (ak Try.f12))) Try.f12.ntmps B 2 2 (aV [(0, ZE n), (3, ZA 1)]) (hpL [(0, ZC n E), (1, ZP)]) fun e fr' H' => (cond (decide (256 < (↑n : Int))) (pP .ret [(0, ZE n), (2, .iW), (3, ZA 1)] [(0, ZC n E), (1, ZEH)] e fr' H') (pP .normal [(0, ZE n), (3, ZA 1)] [(0, ZC n E), (1, Qq)] e fr' H')) := cD (fun q0 t0 => jW [tT] (I1 t0) hB) (fun q0 t0 => jW [fF] (I1 t0) hB)
theorem ofC (B : Nat) (hB : B ≤ 2) (n : Nat) (E : tE) : aj Try.prog ((aT [1,1,0] (ak Try.f12))) Try.f12.ntmps B 2 6 (aV [(0, ZE n), (3, ZA 1)]) (hpL [(0, ZC n E), (1, ZP)]) (pP .normal [(0, ZE n), (3, ZA 1), (4, ZA 5)] [(0, ZC n E), (1, Qq), (2, .aJ false []), (3, .aJ false []), (4, .aJ false []), (5, .cells true 7 1 (.lit [] (.n .e (some [.bool true, .dL, AV.mp 2, .dL, AV.mp 3, .dL, AV.mp 4]) .e)))]) := jW [] trivial hB
theorem ofD (B : Nat) (hB : B ≤ 9) (n m q r : Nat) (E : tE) (M1 M2 M3 : tM) (nd br : tX) : aj Try.prog ((aT [1,1,1,0,0] (ak Try.f12))) Try.f12.ntmps B 9 9 (aV [(0, ZE n), (3, ZA 1), (4, ZA 2)]) (hpL (Xa n m q r E M1 M2 M3 nd br)) (pP .normal [(3, ZA 1), (4, ZA 2), (19, ZE n), (20, iT (↑n : Int)), (21, Zg)] [(0, ZC n E), (1, Qq), (2, Z4 m q r), (3, .aJ true M1), (4, .aJ true M2), (5, .aJ true M3), (6, ZF m E), (7, ZY q nd), (8, ZY r br)]) := jW [] trivial hB
noncomputable abbrev ZCo := aT [1,1,1,0,1,0,0,0] (ak Try.f12)
noncomputable abbrev OC (v0 v1 : Nat) := ([(3, ZA 1), (4, ZA 2), (19, ZE v0), (20, iT v0), (21, iT (v1 : Int))] : jU)
theorem oeA (B : Nat) (hB : B ≤ 9) (n m q r i : Nat) (E : tE) (M1 M2 M3 : tM) (nd br : tX) : aj Try.prog (ZCo) Try.f12.ntmps B 9 9 (aV (OC n i)) (hpL (Xa n m q r E M1 M2 M3 nd br)) (pP .normal [(3, ZA 1), (4, ZA 2), (19, ZE n), (20, iT (↑n : Int)), (21, iT (↑i : Int)), (22, .bD (decide ((↑i : Int) < (↑n : Int))))] [(0, ZC n E), (1, Qq), (2, Z4 m q r), (3, .aJ true M1), (4, .aJ true M2), (5, .aJ true M3), (6, ZF m E), (7, ZY q nd), (8, ZY r br)]) := jW [] trivial hB
noncomputable abbrev ZCn := aT [1,1,1,0,1,0,0,1,0] (ak Try.f12)
noncomputable abbrev EM (v0 : Nat) := iT (↑v0 : Int)
noncomputable abbrev ZEq (v0 v1 : Nat) := ([(3, ZA 1), (4, ZA 2), (19, ZE v0), (20, EM v0), (21, EM v1)] : jU)
theorem oeB (B : Nat) (hB : B ≤ 9) (n m q r i : Nat) (E : tE) (M1 M2 M3 : tM) (nd br : tX) (t : Bool) : aj Try.prog (ZCn) Try.f12.ntmps B 9 9 (aV [(3, ZA 1), (4, ZA 2), (19, ZE n), (20, iT n), (21, iT (i : Int)), (22, .bD t)]) (hpL (Xa n m q r E M1 M2 M3 nd br)) fun e fr' H' => (cond (t) (pP .normal (ZEq n i) [(0, ZC n E), (1, Qq), (2, Z4 m q r), (3, .aJ true M1), (4, .aJ true M2), (5, .aJ true M3), (6, ZF m E), (7, ZY q nd), (8, ZY r br)] e fr' H') (pP (.exit 0) (ZEq n i) [(0, ZC n E), (1, Qq), (2, Z4 m q r), (3, .aJ true M1), (4, .aJ true M2), (5, .aJ true M3), (6, ZF m E), (7, ZY q nd), (8, ZY r br)] e fr' H')) := cI (fun t0 => jW [tT] (I1 t0) hB) (fun t0 => jW [fF] (I1 t0) hB)
noncomputable abbrev ZBP (v0 : tE) (v1 : Nat) := (.cells true 8 1 (.lit [] (T.n T.e (Option.some (aP (v0 (0 + v1)))) T.e)) : aF)
noncomputable abbrev ZBs := aT [1,1,1,0,1,0,0,1,1,0,0,0] (ak Try.f12)
noncomputable abbrev ZEQ (v0 v1 : Nat) := ([(3, ZA 1), (4, ZA 2), (5, EM v0), (6, ZA 9), (19, ZE v1), (20, EM v1), (21, EM v0)] : jU)
theorem oeC (B : Nat) (hB : B ≤ 9) (n m q r i : Nat) (E : tE) (M1 M2 M3 : tM) (nd br : tX) (x0 : ((↑i : Int) < (↑n : Int))) (x1 : (0 + i < n)) : aj Try.prog (ZBs) Try.f12.ntmps B 9 10 (aV (OC n i)) (hpL (Xa n m q r E M1 M2 M3 nd br)) (pP .normal (ZEQ i n) [(0, ZC n E), (1, Qq), (2, Z4 m q r), (3, .aJ true M1), (4, .aJ true M2), (5, .aJ true M3), (6, ZF m E), (7, ZY q nd), (8, ZY r br), (9, ZBP E i)]) := jW [] (I3 (ai (show 0 ≤ (↑i : Int) by omega) x0) x1 (show 8 ≤ 8 by omega)) hB
noncomputable abbrev ZBr := aT [1,1,1,0,1,0,0,1,1,0,0,1,0] (ak Try.f12)
noncomputable abbrev Xb (v0 v1 : Nat) := ([(3, ZA 1), (4, ZA 2), (19, ZE v0), (20, iT v0), (21, iT (v1 : Int)), (5, iT (v1 : Int)), (6, ZA 9)] : jU)
theorem oeD (B : Nat) (hB : B ≤ 10) (z : El) (n m q r i : Nat) (E : tE) (M1 M2 M3 : tM) (nd br : tX) : aj Try.prog (ZBr) Try.f12.ntmps B 10 10 (aV (Xb n i)) (hpL (Xa n m q r E M1 M2 M3 nd br ++ [(9, Zk z)])) fun e fr' H' => (cond (decide (sV (El.k z) (El.n z) (El.a z) (El.b z) (El.c z) (El.d z) (El.v z) (El.ph z) = (0 : Int))) (pP .normal (ZEQ i n) [(0, ZC n E), (1, Qq), (2, Z4 m q r), (3, .aJ true M1), (4, .aJ true M2), (5, .aJ true M3), (6, ZF m E), (7, ZY q nd), (8, ZY r br), (9, Zk z)] e fr' H') (pP .ret [(2, .iW), (3, ZA 1), (4, ZA 2), (5, iT (↑i : Int)), (6, ZA 9), (19, ZE n), (20, iT (↑n : Int)), (21, iT (↑i : Int))] [(0, ZC n E), (1, .cells true 2 1 (.fn fun j => bif Nat.beq j 0 then [iT (sV (El.k z) (El.n z) (El.a z) (El.b z) (El.c z) (El.d z) (El.v z) (El.ph z)), iT (↑i : Int)] else [Zg, Zg])), (2, Z4 m q r), (3, .aJ true M1), (4, .aJ true M2), (5, .aJ true M3), (6, ZF m E), (7, ZY q nd), (8, ZY r br), (9, Zk z)] e fr' H')) := cD (fun q0 t0 => jW [fF] (I1 (nt t0)) hB) (fun q0 t0 => jW [tT] (I1 (nf t0)) hB)
noncomputable abbrev ZBo := aT [1,1,1,0,1,0,0,1,1,0,0,1,1,0] (ak Try.f12)
theorem oeE (B : Nat) (hB : B ≤ 10) (z : El) (n m q r i : Nat) (E : tE) (M1 M2 M3 : tM) (nd br : tX) : aj Try.prog (ZBo) Try.f12.ntmps B 10 10 (aV (Xb n i)) (hpL (Xa n m q r E M1 M2 M3 nd br ++ [(9, Zk z)])) fun e fr' H' => (cond (Option.isSome (cZ seq (El.n z) M1)) (pP .ret [(2, .iW), (3, ZA 1), (4, ZA 2), (5, iT (↑i : Int)), (6, ZA 9), (19, ZE n), (20, iT (↑n : Int)), (21, iT (↑i : Int))] [(0, ZC n E), (1, .cells true 2 1 (.fn fun j => bif Nat.beq j 0 then [.int false .i64 9, iT (↑i : Int)] else [Zg, Zg])), (2, Z4 m q r), (3, .aJ true M1), (4, .aJ true M2), (5, .aJ true M3), (6, ZF m E), (7, ZY q nd), (8, ZY r br), (9, Zk z)] e fr' H') (pP .normal (ZEQ i n) [(0, ZC n E), (1, Qq), (2, Z4 m q r), (3, .aJ true M1), (4, .aJ true M2), (5, .aJ true M3), (6, ZF m E), (7, ZY q nd), (8, ZY r br), (9, Zk z)] e fr' H')) := cI (fun t0 => jW [tT] (I1 t0) hB) (fun t0 => jW [fF] (I1 t0) hB)
noncomputable abbrev ZCk := aT [1,1,1,0,1,0,0,1,1,1] (ak Try.f12)
theorem oeG (B : Nat) (hB : B ≤ 12) (n m q r i : Nat) (E : tE) (M1 M2 M3 : tM) (nd br : tX) (x0 : ((↑i : Int) + 1 ≤ (9223372036854775807 : Int))) : aj Try.prog (ZCk) Try.f12.ntmps B 12 12 (aV (OC n i)) (hpL (Xa n m q r E M1 M2 M3 nd br)) (pP .normal [(3, ZA 1), (4, ZA 2), (19, ZE n), (20, iT (↑n : Int)), (21, JJ i)] [(0, ZC n E), (1, Qq), (2, Z4 m q r), (3, .aJ true M1), (4, .aJ true M2), (5, .aJ true M3), (6, ZF m E), (7, ZY q nd), (8, ZY r br)]) := jW [] (I1 (ai (show -9223372036854775808 ≤ (↑i : Int) + 1 by omega) x0)) hB
noncomputable abbrev ZDF := aT [1,1,1,1,0] (ak Try.f12)
theorem ofG (B : Nat) (hB : B ≤ 9) (n m q r : Nat) (E : tE) (M1 M2 M3 : tM) (nd br : tX) (x0 : ((decide (32 < (↑q : Int))) = false → ((decide (64 < (↑q : Int) + (↑r : Int))) = true → ((↑q : Int) + (↑r : Int) ≤ 9223372036854775807)))) : aj Try.prog (ZDF) Try.f12.ntmps B 9 9 (aV (sQ 3 1 4 2)) (hpL (Xa n m q r E M1 M2 M3 nd br)) fun e fr' H' => (cond (decide (32 < (↑q : Int))) (pP .ret [(2, .iW), (3, ZA 1), (4, ZA 2)] [(0, ZC n E), (1, ZEH), (2, Z4 m q r), (3, .aJ true M1), (4, .aJ true M2), (5, .aJ true M3), (6, ZF m E), (7, ZY q nd), (8, ZY r br)] e fr' H') (cond (decide (64 < (↑q : Int) + (↑r : Int))) (pP .ret [(2, .iW), (3, ZA 1), (4, ZA 2)] [(0, ZC n E), (1, ZEH), (2, Z4 m q r), (3, .aJ true M1), (4, .aJ true M2), (5, .aJ true M3), (6, ZF m E), (7, ZY q nd), (8, ZY r br)] e fr' H') (pP .normal (sQ 3 1 4 2) [(0, ZC n E), (1, Qq), (2, Z4 m q r), (3, .aJ true M1), (4, .aJ true M2), (5, .aJ true M3), (6, ZF m E), (7, ZY q nd), (8, ZY r br)] e fr' H'))) := cD (fun q0 t0 => jW [tT] (I1 t0) hB) (fun q0 t0 => cD (fun q1 t1 => jW [fF, tT] (I3 t0 (ai (show -9223372036854775808 ≤ (↑q : Int) + (↑r : Int) by omega) (x0 t0 t1)) t1) hB) (fun q1 t1 => jW [fF, fF] (I3 t0 (ai (show -9223372036854775808 ≤ (↑q : Int) + (↑r : Int) by omega) (show (↑q : Int) + (↑r : Int) ≤ 9223372036854775807 by omega)) t1) hB))
theorem ofH (B : Nat) (hB : B ≤ 9) (n m q r : Nat) (E : tE) (M1 M2 M3 : tM) (nd br : tX) : aj Try.prog ((aT [1,1,1,1,1] (ak Try.f12))) Try.f12.ntmps B 9 9 (aV (sQ 3 1 4 2)) (hpL (Xa n m q r E M1 M2 M3 nd br)) (pP .ret (sQ 2 2 3 1) [(0, ZC n E), (1, .cells true 2 1 (.fn fun j => bif Nat.beq j 0 then [Zg, Zg] else [Zg, Zg])), (2, Z4 m q r), (3, .aJ true M1), (4, .aJ true M2), (5, .aJ true M3), (6, ZF m E), (7, ZY q nd), (8, ZY r br)]) := jW [] trivial hB
noncomputable abbrev ZQ (v0 : Nat) (v1 : tE) := (.cells true 8 v0 (.fn fun j => (aP (v1 j))) : aF)
noncomputable abbrev ZS (v0 : Nat) (v1 : tE) := (.cells false 8 v0 (.fn fun j => (aP (v1 j))) : aF)
noncomputable abbrev Xc := aT [1,1,1,0,1,0,0,1,1,0,0,1,1,1] (ak Try.f12)
theorem aa5 (z : El) (n m q r i : Nat) (E : tE) (M1 M2 M3 : tM) (nd br : tX) : cO 10 (Ex.normal) [(3, ZA 1), (4, ZA 2), (19, ZE n), (20, iT (↑n : Int)), (21, iT (↑i : Int)), (46, ZA 2), (47, .agg (aP z))] [(0, ZS n E), (1, Qq), (2, .cells true 7 1 (.fn fun x => (bQ 6 7 8 m q r))), (3, aF.aJ true M1), (4, aF.aJ true M2), (5, aF.aJ true M3), (6, ZQ m E), (7, ZY q nd), (8, ZY r br)] (jB Try.f12 (wZ 2 Xc) (aV (Xb n i)) (hpL [(0, ZC n E), (1, ZP), (2, Z4 m q r), (3, .aJ true M1), (4, .aJ true M2), (5, .aJ true M3), (6, Zf m E), (7, .cells true 1 (q) (.fn (aU nd))), (8, .cells true 1 (r) (.fn (aU br))), (9, Zk z)]) 10 []) := eN trivial
theorem aa6 (n m q r i : Nat) (E : tE) (M1 M2 M3 : tM) (nd br : tX) : cO 12 (Ex.normal) (ZEq n i) [(0, ZS n E), (1, Qq), (2, .cells true 7 1 (.fn fun x => (bQ 6 7 8 m q r))), (3, aF.aJ true M1), (4, aF.aJ true M2), (5, aF.aJ true M3), (6, ZQ m E), (7, ZY q nd), (8, ZY r br)] (jB Try.f12 (rY 3 Xc) ((aV (OC n i)).upd 48 (some (.lZ []))) (hpL [(0, ZC n E), (1, ZP), (2, Z4 m q r), (3, .aJ true M1), (4, .aJ true M2), (5, .aJ true M3), (6, Zf m E), (7, .cells true 1 (q) (.fn (aU nd))), (8, .cells true 1 (r) (.fn (aU br)))]) 12 []) := eN trivial
noncomputable def fG (e : El) : Int := sV e.k e.n e.a e.b e.c e.d e.v e.ph
noncomputable def QF (E : tE) (n : Nat) : Po := fun e fr' H' => e = .ret ∧ (((ofR fG E n).1 ≠ 0 ∧ ∃ s s' : Bool, fr' = aV [(2, .iW), (3, .ptr ⟨false, 1, 0, 0⟩)] ∧ H' = hpL [(1, .cells true 2 1 (.fn fun _ => [.int s .i64 (ofR fG E n).1, .int s' .i64 (ofR fG E n).2]))]) ∨ ((ofR fG E n).1 = 0 ∧ fr' = aV [(2, .ptr ⟨false, 2, 0, 0⟩), (3, .ptr ⟨false, 1, 0, 0⟩)] ∧ H' = hpL [(1, .cells true 2 1 (.fn fun _ => [.int false .i64 (0), .int false .i64 (0)])), (2, .cells true 7 1 (.fn fun _ => bQ 6 7 8 n (ND E n).length (BR E n).length)), (3, .aJ true (ay 0 (NM E n))), (4, .aJ true (ay 0 (ND E n))), (5, .aJ true (ay 0 (BR E n))), (6, .cells true 8 (n) (.fn fun j => aP (E j))), (7, .cells true 1 ((ND E n).length) (.fn (aU (aA (ND E n))))), (8, .cells true 1 ((BR E n).length) (.fn (aU (aA (BR E n)))))]))
theorem Hu {E : tE} {n : Nat} {x y : Int} (s s' : Bool) (h : ofR fG E n = (x, y)) (h0 : x ≠ 0) : QF E n .ret (aV [(2, .iW), (3, ZA 1)]) (hpL [(1, .cells true 2 1 (.fn fun _ => [.int s .i64 x, .int s' .i64 y]))]) :=
 ⟨rfl, .inl ⟨by rw [h]; exact h0, s, s', rfl, by rw [h]⟩⟩
noncomputable abbrev ZCw := aT [1,1,1,0,1,0,0] (ak Try.f12)
theorem adx : (ak Try.f12) = .seq (aT [0] (ak Try.f12)) (.seq (aT [1,0] (ak Try.f12)) (.seq (aT [1,1,0] (ak Try.f12)) (.seq (.seq (aT [1,1,1,0,0] (ak Try.f12)) (.block 0 (.loop ZCw))) (.seq ZDF (aT [1,1,1,1,1] (ak Try.f12)))))) := by kernel_rfl
theorem Xd : ZCw = .seq ZCo (.seq ZCn (.seq (.block 1 (.seq ZBs (.seq ZBr (.seq ZBo Xc)))) ZCk)) := by kernel_rfl
def clO : Call := ⟨.value (.func 36), #[.tmp 46, .tmp 47], #[24, 40]⟩
noncomputable def opO : Oper := ((jS Xc).drop 2).headD ⟨none, .move (.tmp 0), 0, "", #[], none⟩
theorem ady (E : tE) (i : Nat) (h : i ≤ 256) : (ND E i).length ≤ 1024 := by have := uK E i; omega
theorem adz (E : tE) (i : Nat) (h : i ≤ 256) : (BR E i).length ≤ 256 := by have := Ub E i; omega
noncomputable abbrev Zc (v0 : Nat) (v1 : tE) := (.cells true 7 1 (.fn fun _ => bQ 6 7 8 v0 (ND v1 v0).length (BR v1 v0).length) : aF)
noncomputable abbrev Zi (v0 : tE) (v1 : Nat) := (.cells true 1 ((ND v0 v1).length) (.fn (aU (aA (ND v0 v1)))) : aF)
noncomputable abbrev Zj (v0 : tE) (v1 : Nat) := (.cells true 1 ((BR v0 v1).length) (.fn (aU (aA (BR v0 v1)))) : aF)
noncomputable abbrev Zl (v0 : tE) (v1 : Nat) := (.cells true 8 1 (.fn fun _ => aP (v0 v1)) : aF)
noncomputable abbrev ZBR (v0 : Nat) (v1 : tE) := (.cells true 7 1 (.fn fun _ => bQ 6 7 8 (v0 + 1) (ND v1 (v0 + 1)).length (BR v1 (v0 + 1)).length) : aF)
noncomputable abbrev ZBh (v0 : tE) (v1 : Nat) := (.cells true 1 ((ND v0 (v1 + 1)).length) (.fn (aU (aA (ND v0 (v1 + 1))))) : aF)
noncomputable abbrev ZBi (v0 : tE) (v1 : Nat) := (.cells true 1 ((BR v0 (v1 + 1)).length) (.fn (aU (aA (BR v0 (v1 + 1))))) : aF)
noncomputable abbrev ZDU (v0 : Nat) (v1 : tE) (v2 : Nat) := ([(0, ZC v0 v1), (1, ZP), (2, ZBR v2 v1), (3, .aJ true (ay 0 (NM v1 (v2 + 1)))), (4, .aJ true (ay 0 (ND v1 (v2 + 1)))), (5, .aJ true (ay 0 (BR v1 (v2 + 1)))), (6, Z7 v2 v1), (7, ZBh v1 v2), (8, ZBi v1 v2)] : tH)
noncomputable abbrev ZDb (v0 : Nat) (v1 : tE) (v2 : Nat) := ([(0, ZC v0 v1), (1, ZP), (2, Zc v2 v1), (3, ZM v1 v2), (4, ZN v1 v2), (5, ZO v1 v2), (6, Zf v2 v1), (7, Zi v1 v2), (8, Zj v1 v2), (9, Zl v1 v2)] : tH)
theorem aa7 (n i : Nat) (E : tE) (hi : i < n) (hn : n ≤ 256) (hp : pos (E i).n (NM E i) = none) :
  aj Try.prog Xc Try.f12.ntmps 1 10 12 (aV (Xb n i)) (hpL (ZDb n E i)) (Nm (OC n i) (ZDU n E i)) := by
 refine aj.NZ (o := opO) (cl := clO) (Bg := .func 36) (f := 36) (fn := Try.f36) (body := (ak Try.f36)) (pre := []) (cap := []) (args := [ZA 2, .agg (aP (E i))]) y7 2 (by kernel_rfl) (by kernel_rfl) (by kernel_rfl) (by kernel_rfl) rfl (d := 48) (by kernel_rfl) (Nat.le_of_ble_eq_true (by kernel_rfl)) (K1 := 10) (K2 := 12) (by omega) (aa5 (E i) n i (ND E i).length (BR E i).length i E (ay 0 (NM E i)) (ay 0 (ND E i)) (ay 0 (BR E i)) (aA (ND E i)) (aA (BR E i))) Try.func36 (by kernel_rfl) (by kernel_rfl) rfl (B0 := 6) (by omega) (by omega) (by omega) (OC n i) rfl (iD rfl) rfl
  (V := fun v H' => v = .lZ [] ∧ H' = hpL (ZDU n E i)) ?_ (fun v H' hv => by
   obtain ⟨rfl, rfl⟩ := hv
   exact ⟨[], _, _, aa6 n (i + 1) (ND E (i + 1)).length (BR E (i + 1)).length i E (ay 0 (NM E (i + 1))) (ay 0 (ND E (i + 1))) (ay 0 (BR E (i + 1))) (aA (ND E (i + 1))) (aA (BR E (i + 1))), rfl, rfl, rfl⟩)
 refine aj.gK (fl := [(0, ZA 2), (1, .agg (aP (E i)))]) (bl := [(2, Zc i E), (3, ZM E i), (4, ZN E i), (5, ZO E i), (6, Zf i E), (7, Zi E i), (8, Zj E i), (0, ZC n E), (1, ZP)]) (iD rfl) (gq rfl) ?_
 refine aj.lM (xl := [(0, ZC n E), (1, ZP)]) (bl := [(2, Zc i E), (3, ZM E i), (4, ZN E i), (5, ZO E i), (6, Zf i E), (7, Zi E i), (8, Zj E i)]) (Ug (E i) i E (NM E i) (ND E i) (BR E i) rfl (by omega) (Ua E i).symm (ady E i (by omega)) (adz E i (by omega)) hp (aaY E hp)) (by omega) ⟨⟨by omega, fun j hj v hv => List.all_eq_true.1 (show (aP (E j)).all (fun v => v.low 6) = true from rfl) v hv⟩, ⟨by omega, fun j hj v hv => List.all_eq_true.1 (show ([KQ 0, Zg] : List AV).all (fun v => v.low 6) = true from rfl) v hv⟩, trivial⟩ rfl (fun e fr' H0' hh => ?_)
 obtain ⟨he, hH⟩ := hh
 exact ⟨_, hH, rfl, ⟨.inl rfl, .inl rfl, .inl rfl, .inl rfl, .inl rfl, .inl rfl, .inl rfl, trivial⟩, he, [], _, rfl, trivial, _, AV.ge.refl _, rfl, rfl⟩
theorem Hw {E : tE} {i : Nat} (h : fG (E i) ≠ 0) : jh fG E i = fG (E i) := by unfold jh; rw [decide_eq_false h, cond_false]
theorem FN {E : tE} {i : Nat} (h : fG (E i) = 0) (h2 : (pos (E i).n (NM E i)).isSome = true) : jh fG E i = 9 := by unfold jh; rw [decide_eq_true h, cond_true, h2]; rfl
theorem Uh {E : tE} {i : Nat} (h : fG (E i) = 0) (h2 : pos (E i).n (NM E i) = none) : jh fG E i = 0 := by unfold jh; rw [decide_eq_true h, cond_true, h2]; rfl
theorem Hy {E : tE} {n i : Nat} {x : Int} (hn : n ≤ 256) (hi : i < n) (hg : ∀ j, j < i → jh fG E j = 0) (h : jh fG E i = x) (h0 : x ≠ 0) : ofR fG E n = (x, (i : Int)) := by
 unfold ofR
 rw [decide_eq_false (by omega), cond_false, WW hi (by rw [h]; exact h0) (n - i) (by omega) (by omega) hg, h]
noncomputable abbrev ZDa (v0 : Nat) (v1 : tE) (v2 : Nat) := ([(0, ZC v0 v1), (1, ZP), (2, Zc v2 v1), (3, ZM v1 v2), (4, ZN v1 v2), (5, ZO v1 v2), (6, Zf v2 v1), (7, Zi v1 v2), (8, Zj v1 v2)] : tH)
theorem adA (n i : Nat) (E : tE) (hi : i < n) (hn : n ≤ 256) (hc : fG (E i) = 0) (hp : pos (E i).n (NM E i) = none) :
  aj Try.prog (.block 1 (.seq ZBs (.seq ZBr (.seq ZBo Xc)))) Try.f12.ntmps 1 9 12 (aV (OC n i)) (hpL (ZDa n E i)) (Nm (OC n i) (ZDU n E i)) := by
 refine aj.nV ?_
 refine aj.bn (K1 := 10) (F1 := (Xb n i)) (H1 := (ZDb n E i)) (aj.toN (oeC 1 (by omega) n i (ND E i).length (BR E i).length i E (ay 0 (NM E i)) (ay 0 (ND E i)) (ay 0 (BR E i)) (aA (ND E i)) (aA (BR E i)) (by omega) (by omega)) (iD rfl) ⟨hs rfl, hs rfl, hs rfl, hs rfl, hs rfl, hs rfl, hs rfl, hs rfl, hs rfl, Qk rfl (by show aP (E (0 + i)) = aP (E i); rw [Nat.zero_add]), trivial⟩) (by omega) ?_
 refine aj.bn (K1 := 10) (F1 := (Xb n i)) (H1 := (ZDb n E i)) ((oeD 1 (by omega) (E i) n i (ND E i).length (BR E i).length i E (ay 0 (NM E i)) (ay 0 (ND E i)) (ay 0 (BR E i)) (aA (ND E i)) (aA (BR E i))).mono fun e fr' H' h => ?_) (by omega) ?_
 ·rw [decide_eq_true (show sV _ _ _ _ _ _ _ _ = 0 from hc), cond_true] at h
  exact h
 refine aj.bn (K1 := 10) (F1 := (Xb n i)) (H1 := (ZDb n E i)) ((oeE 1 (by omega) (E i) n i (ND E i).length (BR E i).length i E (ay 0 (NM E i)) (ay 0 (ND E i)) (ay 0 (BR E i)) (aA (ND E i)) (aA (BR E i))).mono fun e fr' H' h => ?_) (by omega) (aa7 n i E hi hn hp)
 rw [Ht, hp] at h
 exact h
theorem aa9 (n i : Nat) (E : tE) (hi : i < n) (hn : n ≤ 256) (hg : ∀ j, j < i → jh fG E j = 0) (hb : jh fG E i ≠ 0) :
  aj Try.prog (.block 1 (.seq ZBs (.seq ZBr (.seq ZBo Xc)))) Try.f12.ntmps 1 9 12 (aV (OC n i)) (hpL (ZDa n E i)) (fun e fr' H' => e = .ret ∧ QF E n .ret fr' H') := by
 refine aaZ ?_
 refine aj.bn (K1 := 10) (F1 := (Xb n i)) (H1 := (ZDb n E i)) (aj.toN (oeC 1 (by omega) n i (ND E i).length (BR E i).length i E (ay 0 (NM E i)) (ay 0 (ND E i)) (ay 0 (BR E i)) (aA (ND E i)) (aA (BR E i)) (by omega) (by omega)) (iD rfl) ⟨hs rfl, hs rfl, hs rfl, hs rfl, hs rfl, hs rfl, hs rfl, hs rfl, hs rfl, Qk rfl (by show aP (E (0 + i)) = aP (E i); rw [Nat.zero_add]), trivial⟩) (by omega) ?_
 by_cases hc : fG (E i) = 0
 ·have hp : (pos (E i).n (NM E i)).isSome = true := by
   cases q : pos (E i).n (NM E i) with
   | none => exact absurd (Uh hc q) hb
   | some _ => rfl
  refine aj.bn (K1 := 10) (F1 := (Xb n i)) (H1 := (ZDb n E i)) ((oeD 1 (by omega) (E i) n i (ND E i).length (BR E i).length i E (ay 0 (NM E i)) (ay 0 (ND E i)) (ay 0 (BR E i)) (aA (ND E i)) (aA (BR E i))).mono fun e fr' H' h => ?_) (by omega) ?_
  ·rw [decide_eq_true (show sV _ _ _ _ _ _ _ _ = 0 from hc), cond_true] at h
   exact h
  refine Ud (K1 := 10) (by omega) ((oeE 1 (by omega) (E i) n i (ND E i).length (BR E i).length i E (ay 0 (NM E i)) (ay 0 (ND E i)) (ay 0 (BR E i)) (aA (ND E i)) (aA (BR E i))).post fun e fr' H' h => ?_)
  rw [Ht, hp, cond_true] at h
  obtain ⟨rfl, rfl, rfl⟩ := h
  exact ⟨[(2, .iW), (3, ZA 1)], [(1, .cells true 2 1 (.fn fun _ => [.int false .i64 9, iT (i : Int)]))], (iD rfl), ⟨⟨_, rfl, rfl, rfl, rfl, Vk (p := fun j => _ = _) rfl⟩, trivial⟩, rfl, Hu _ _ (Hy hn hi hg (FN hc hp) (by decide)) (by decide)⟩
 ·refine Ud (K1 := 10) (by omega) ((oeD 1 (by omega) (E i) n i (ND E i).length (BR E i).length i E (ay 0 (NM E i)) (ay 0 (ND E i)) (ay 0 (BR E i)) (aA (ND E i)) (aA (BR E i))).post fun e fr' H' h => ?_)
  rw [decide_eq_false (show ¬ sV _ _ _ _ _ _ _ _ = 0 from hc), cond_false] at h
  obtain ⟨rfl, rfl, rfl⟩ := h
  exact ⟨[(2, .iW), (3, ZA 1)], [(1, .cells true 2 1 (.fn fun _ => [iT (fG (E i)), iT (i : Int)]))], (iD rfl), ⟨⟨_, rfl, rfl, rfl, rfl, Vk (p := fun j => _ = _) rfl⟩, trivial⟩, rfl, Hu _ _ (Hy hn hi hg (Hw hc) hc) hc⟩
noncomputable abbrev Vl (v0 : Nat) := iT ((v0 + 1 : Nat) : Int)
noncomputable abbrev ZDd (v0 : Nat) (v1 : tE) := ([(0, ZC v0 v1), (1, ZP), (2, Zc v0 v1), (3, ZM v1 v0), (4, ZN v1 v0), (5, ZO v1 v0), (6, Zf v0 v1), (7, Zi v1 v0), (8, Zj v1 v0)] : tH)
theorem Xe (n i : Nat) (E : tE) (hi : i ≤ n) (hn : n ≤ 256) (hg : ∀ j, j < i → jh fG E j = 0) :
  aj Try.prog ZCw Try.f12.ntmps 1 9 9 (aV (OC n i)) (hpL (ZDa n E i)) (fun e fr H => (e = .normal ∧ i < n ∧ (∀ j, j < i + 1 → jh fG E j = 0) ∧ fr = aV [(3, ZA 1), (4, ZA 2), (19, ZE n), (20, iT n), (21, Vl i)] ∧ H = hpL (ZDU n E i)) ∨ (e = .exit 0 ∧ (∀ j, j < n → jh fG E j = 0) ∧ fr = aV (sQ 3 1 4 2) ∧ H = hpL (ZDd n E)) ∨ (e = .ret ∧ QF E n .ret fr H)) := by
 rw [Xd]
 by_cases hlt : i < n
 ·by_cases hb : jh fG E i = 0
  ·have hc : fG (E i) = 0 := by
    by_cases c : fG (E i) = 0
    ·exact c
    ·rw [Hw c] at hb; exact absurd hb c
   have hp : pos (E i).n (NM E i) = none := by
    cases q : pos (E i).n (NM E i) with
    | none => rfl
    | some y => rw [FN hc (by rw [q]; rfl)] at hb; exact absurd hb (by decide)
   have main : aj Try.prog (.seq ZCo (.seq ZCn (.seq (.block 1 (.seq ZBs (.seq ZBr (.seq ZBo Xc)))) ZCk))) Try.f12.ntmps 1 9 12 (aV (OC n i)) (hpL (ZDa n E i)) (Nm [(3, ZA 1), (4, ZA 2), (19, ZE n), (20, iT n), (21, iT ((i : Int) + 1 : Int))] (ZDU n E i)) := by
    refine aj.bn (K1 := 9) (oeA 1 (by omega) n i (ND E i).length (BR E i).length i E (ay 0 (NM E i)) (ay 0 (ND E i)) (ay 0 (BR E i)) (aA (ND E i)) (aA (BR E i))) (by omega) ?_
    refine aj.bn (K1 := 9) (F1 := (OC n i)) (H1 := (ZDa n E i)) ((oeB 1 (by omega) n i (ND E i).length (BR E i).length i E (ay 0 (NM E i)) (ay 0 (ND E i)) (ay 0 (BR E i)) (aA (ND E i)) (aA (BR E i)) (decide ((i : Int) < (n : Int)))).mono fun e fr' H' h => ?_) (by omega) ?_
    ·rw [decide_eq_true (by omega), cond_true] at h
     exact h
    exact aj.bn (K1 := 12) (adA n i E hlt hn hc hp) (by omega) (oeG 1 (by omega) n (i + 1) (ND E (i + 1)).length (BR E (i + 1)).length i E (ay 0 (NM E (i + 1))) (ay 0 (ND E (i + 1))) (ay 0 (BR E (i + 1))) (aA (ND E (i + 1))) (aA (BR E (i + 1))) (by omega))
   refine main.renG fun e fr' H' h => ?_
   obtain ⟨rfl, rfl, rfl⟩ := h
   exact ⟨id, [(3, ZA 1), (4, ZA 2), (19, ZE n), (20, iT n), (21, Vl i)], (ZDU n E i), fun g hg => rfl, (yX rfl), ⟨dX rfl rfl (fun j _ => rfl) (fun j _ => rfl) (by omega), JZ rfl rfl rfl (by omega), JZ rfl rfl rfl (by omega), lW rfl rfl (by omega), lW rfl rfl (by omega), lW rfl rfl (by omega), dX rfl rfl (fun j _ => rfl) (fun j _ => rfl) (by omega), dX rfl rfl (fun j _ => rfl) (fun j _ => rfl) (by omega), dX rfl rfl (fun j _ => rfl) (fun j _ => rfl) (by omega), trivial⟩, fun i j _ _ h => h, .inl ⟨rfl, hlt, fun j hj => by
    by_cases c : j < i
    ·exact hg j c
    ·obtain rfl : j = i := by omega
     exact hb, rfl, rfl⟩⟩
  ·have main : aj Try.prog (.seq ZCo (.seq ZCn (.seq (.block 1 (.seq ZBs (.seq ZBr (.seq ZBo Xc)))) ZCk))) Try.f12.ntmps 1 9 12 (aV (OC n i)) (hpL (ZDa n E i)) (fun e fr' H' => e = .ret ∧ QF E n .ret fr' H') := by
    refine aj.bn (K1 := 9) (oeA 1 (by omega) n i (ND E i).length (BR E i).length i E (ay 0 (NM E i)) (ay 0 (ND E i)) (ay 0 (BR E i)) (aA (ND E i)) (aA (BR E i))) (by omega) ?_
    refine aj.bn (K1 := 9) (F1 := (OC n i)) (H1 := (ZDa n E i)) ((oeB 1 (by omega) n i (ND E i).length (BR E i).length i E (ay 0 (NM E i)) (ay 0 (ND E i)) (ay 0 (BR E i)) (aA (ND E i)) (aA (BR E i)) (decide ((i : Int) < (n : Int)))).mono fun e fr' H' h => ?_) (by omega) ?_
    ·rw [decide_eq_true (by omega), cond_true] at h
     exact h
    exact Ud (K1 := 12) (by omega) (aa9 n i E hlt hn hg hb)
   refine main.renG fun e fr' H' h => ?_
   obtain ⟨rfl, h⟩ := h
   have hq := h
   obtain ⟨_, ⟨h0, s, s', rfl, rfl⟩ | ⟨h0, rfl, rfl⟩⟩ := h
   ·exact ⟨id, [(2, .iW), (3, ZA 1)], [(1, .cells true 2 1 (.fn fun _ => [.int s .i64 (ofR fG E n).1, .int s' .i64 (ofR fG E n).2]))], fun g hg => rfl, (yX rfl), ⟨JZ rfl rfl rfl (by omega), trivial⟩, fun i j _ _ h => h, .inr (.inr ⟨rfl, hq⟩)⟩
   ·exact absurd h0 (by rw [Hy hn hlt hg rfl hb]; exact hb)
 ·obtain rfl : i = n := by omega
  refine aj.bn (K1 := 9) (oeA 1 (by omega) i i (ND E i).length (BR E i).length i E (ay 0 (NM E i)) (ay 0 (ND E i)) (ay 0 (BR E i)) (aA (ND E i)) (aA (BR E i))) (by omega) ?_
  refine aj.seq (K1 := 9) (by omega) ((oeB 1 (by omega) i i (ND E i).length (BR E i).length i E (ay 0 (NM E i)) (ay 0 (ND E i)) (ay 0 (BR E i)) (aA (ND E i)) (aA (BR E i)) (decide ((i : Int) < (i : Int)))).post fun e fr' H' h => ?_)
  rw [decide_eq_false (by omega), cond_false] at h
  obtain ⟨rfl, rfl, rfl⟩ := h
  exact ⟨(sQ 3 1 4 2), (ZDd i E), (iD rfl), (gq rfl), .inr (.inl ⟨rfl, hg, rfl, rfl⟩)⟩
theorem Xf {E : tE} {n : Nat} (h : 256 < n) : ofR fG E n = (3, -1) := by unfold ofR; rw [decide_eq_true h]; rfl
theorem Xg {E : tE} {n : Nat} (hn : n ≤ 256) (hg : ∀ j, j < n → jh fG E j = 0) : ofR fG E n = bif decide (32 < (ND E n).length) || decide (64 < (ND E n).length + (BR E n).length) then (3, -1) else (0, 0) := by
 unfold ofR
 rw [decide_eq_false (by omega), cond_false, Uc hg]
 rfl
def sgC (x : Nat) : Nat := if x = 2 then 5 else if x = 3 then 2 else if x = 4 then 3 else if x = 5 then 4 else x
theorem Xh : ∀ i j, i < 6 → j < 6 → sgC i = sgC j → i = j := by
 intro i j hi hj e
 unfold sgC at e
 split at e <;> split at e <;> (try split at e) <;> (try split at e) <;> (try split at e) <;> (try split at e) <;> (try split at e) <;> (try split at e) <;> omega
noncomputable abbrev ZBz := ([(1, .cells true 2 1 (.fn fun _ => [.int false .i64 3, .int false .i64 (-1)]))] : tH)
noncomputable abbrev ZDn (v0 : Nat) (v1 : tE) := ([(0, ZC v0 v1), (1, ZP), (2, .cells true 7 1 (.fn fun _ => bQ 6 7 8 0 (ND v1 0).length (BR v1 0).length)), (3, .aJ true (ay 0 (NM v1 0))), (4, .aJ true (ay 0 (ND v1 0))), (5, .aJ true (ay 0 (BR v1 0))), (6, .cells true 8 (0) (.fn fun j => aP (v1 j))), (7, .cells true 1 ((ND v1 0).length) (.fn (aU (aA (ND v1 0))))), (8, .cells true 1 ((BR v1 0).length) (.fn (aU (aA (BR v1 0)))))] : tH)
theorem Xi (n : Nat) (E : tE) : aj Try.prog (ak Try.f12) Try.f12.ntmps 1 1 9 (bJ [ZE n] 0 .e) (hpL [(0, ZC n E)]) (QF E n) := by
 rw [adx]
 refine aj.bn (K1 := 2) (F1 := [(0, ZE n), (3, ZA 1)]) (H1 := [(0, ZC n E), (1, ZP)]) (aj.toN (ofA 1 (by omega) n E) (iD rfl) ⟨hs rfl, Qk rfl, trivial⟩) (by omega) ?_
 by_cases hn : 256 < n
 ·refine (Ud (R := QF E n .ret) (K1 := 2) (by omega) ((ofB 1 (by omega) n E).post fun e fr' H' h => ?_)).mono fun e fr' H' h => ?_
  ·rw [decide_eq_true (by omega), cond_true] at h
   obtain ⟨rfl, rfl, rfl⟩ := h
   exact ⟨[(2, .iW), (3, ZA 1)], ZBz, (iD rfl), ⟨⟨_, rfl, rfl, rfl, rfl, Vk (p := fun j => _ = _) rfl⟩, trivial⟩, rfl, Hu _ _ (Xf hn) (by decide)⟩
  ·obtain ⟨rfl, h⟩ := h
   exact h
 have hn : n ≤ 256 := by omega
 refine aj.bn (K1 := 2) (F1 := [(0, ZE n), (3, ZA 1)]) (H1 := [(0, ZC n E), (1, ZP)]) ((ofB 1 (by omega) n E).mono fun e fr' H' h => ?_) (by omega) ?_
 ·rw [decide_eq_false (by omega), cond_false] at h
  exact h
 refine aj.seq (K1 := 6) (by omega) ((ofC 1 (by omega) n E).renG (K'' := 6) fun e fr' H' h => ?_)
 obtain ⟨rfl, rfl, rfl⟩ := h
 refine ⟨sgC, [(0, ZE n), (3, ZA 1), (4, ZA 2)], [(0, ZC n E), (1, ZP), (2, .cells true 7 1 (.fn fun _ => [.bool true, .dL, .mp 3, .dL, .mp 4, .dL, .mp 5])), (3, .aJ false []), (4, .aJ false []), (5, .aJ false [])], fun g hg => by
  obtain rfl : g = 0 := by omega
  rfl, (yX rfl), ⟨dX rfl rfl (fun j _ => rfl) (fun j _ => rfl) (by omega), JZ rfl rfl rfl (by omega), ⟨_, rfl, ⟨rfl, rfl, rfl, Vk (p := fun j => _ = _) rfl⟩, fun j hj v hv => List.all_eq_true.1 (show ([.bool true, .dL, .mp 3, .dL, .mp 4, .dL, .mp 5] : List AV).all (fun v => v.low 6) = true from rfl) v hv, by omega⟩, lW rfl rfl (by omega), lW rfl rfl (by omega), lW rfl rfl (by omega), trivial⟩, Xh, ?_⟩
 refine aj.D5 2 8 (fun j => aP (E j)) 1 [.bool true, .dL, .mp 3, .dL, .mp 4, .dL, .mp 5] rfl rfl rfl (by omega) (by omega) ?_
 refine aj.D5 2 1 (aU (aA [])) 3 [.bool true, lK 6, .mp 3, .dL, .mp 4, .dL, .mp 5] rfl rfl rfl (by omega) (by omega) ?_
 refine aj.D5 2 1 (aU (aA [])) 5 [.bool true, lK 6, .mp 3, lK 7, .mp 4, .dL, .mp 5] rfl rfl rfl (by omega) (by omega) ?_
 refine aj.D6 (fl := [(0, ZE n), (3, ZA 1), (4, ZA 2)]) (bl := (ZDn n E)) (iD rfl) ⟨⟨_, rfl, .inl ⟨rfl, rfl, rfl, fun j _ => aQ _ rfl⟩⟩, ⟨_, rfl, .inl ⟨rfl, rfl, rfl, fun j _ => aQ _ rfl⟩⟩, ⟨_, rfl, .inl ⟨rfl, rfl, rfl, fun j _ => aQ _ rfl⟩⟩, ⟨_, rfl, .inr ⟨_, _, _, rfl, rfl⟩⟩, ⟨_, rfl, .inr ⟨_, _, _, rfl, rfl⟩⟩, ⟨_, rfl, .inr ⟨_, _, _, rfl, rfl⟩⟩, ⟨_, rfl, .inl ⟨rfl, rfl, rfl, fun j _ => aQ _ rfl⟩⟩, ⟨_, rfl, .inl ⟨rfl, rfl, rfl, fun j _ => aQ _ rfl⟩⟩, ⟨_, rfl, .inl ⟨rfl, rfl, rfl, fun j _ => aQ _ rfl⟩⟩, trivial⟩ ?_
 have loop := aj.count (P := Try.prog) (n := Try.f12.ntmps) (B := 1) (K := 9) (c := ZCw) (id := 0) n (fun i => [(3, ZA 1), (4, ZA 2), (19, ZE n), (20, iT n), (21, iT (i : Int))]) (fun i => [(0, ZC n E), (1, ZP), (2, .cells true 7 1 (.fn fun _ => bQ 6 7 8 i (ND E i).length (BR E i).length)), (3, .aJ true (ay 0 (NM E i))), (4, .aJ true (ay 0 (ND E i))), (5, .aJ true (ay 0 (BR E i))), (6, .cells true 8 (i) (.fn fun j => aP (E j))), (7, .cells true 1 ((ND E i).length) (.fn (aU (aA (ND E i))))), (8, .cells true 1 ((BR E i).length) (.fn (aU (aA (BR E i)))))]) (sQ 3 1 4 2) (ZDd n E) (fun i => ∀ j, j < i → jh fG E j = 0) (QF E n .ret) (fun j hj => absurd hj (Nat.not_lt_zero _)) (fun i hi hg => Xe n i E hi hn hg)
 refine aj.seq (K1 := 9) (by omega) (aj.bn (K1 := 9) (F1 := [(3, ZA 1), (4, ZA 2), (19, ZE n), (20, iT n), (21, FC)]) (H1 := (ZDn n E)) (aj.toN (ofD 1 (by omega) n 0 (ND E 0).length (BR E 0).length E (ay 0 (NM E 0)) (ay 0 (ND E 0)) (ay 0 (BR E 0)) (aA (ND E 0)) (aA (BR E 0))) ⟨re rfl, re rfl, re rfl, re rfl, ⟨_, rfl, AV.ge.int _ _ _ _⟩, trivial⟩ (gq rfl)) (by omega) (loop.mono fun e fr' H' h => ?_))
 rcases h with ⟨rfl, hg, rfl, rfl⟩ | ⟨rfl, h⟩
 ·have hend := Xg hn hg
  have lN := ady E n hn
  have lB := adz E n hn
  have hh := ofG 1 (by omega) n n (ND E n).length (BR E n).length E (ay 0 (NM E n)) (ay 0 (ND E n)) (ay 0 (BR E n)) (aA (ND E n)) (aA (BR E n)) (fun _ _ => by omega)
  have leaf : ofR fG E n = (3, -1) → aj Try.prog ZDF Try.f12.ntmps 1 9 9 (aV (sQ 3 1 4 2)) (hpL (ZDd n E)) (fun e fr' H' => e = .ret ∧ fr' = aV [(2, .iW), (3, ZA 1)] ∧ H' = hpL ZBz) → aj Try.prog (.seq ZDF (aT [1,1,1,1,1] (ak Try.f12))) Try.f12.ntmps 1 9 9 (aV (sQ 3 1 4 2)) (hpL (ZDd n E)) (QF E n) := fun q h => (Ud (R := QF E n .ret) (K1 := 9) (by omega) (h.mono fun e fr' H' h => by
    obtain ⟨rfl, rfl, rfl⟩ := h
    exact ⟨rfl, Hu _ _ q (by decide)⟩)).mono fun e fr' H' h => by
   obtain ⟨rfl, h⟩ := h
   exact h
  by_cases c1 : 32 < (ND E n).length
  ·refine leaf (by rw [hend, decide_eq_true c1]; rfl) (hh.post fun e fr' H' h => ?_)
   rw [decide_eq_true (by omega), cond_true] at h
   obtain ⟨rfl, rfl, rfl⟩ := h
   exact ⟨[(2, .iW), (3, ZA 1)], ZBz, (iD rfl), ⟨⟨_, rfl, rfl, rfl, rfl, Vk (p := fun j => _ = _) rfl⟩, trivial⟩, rfl, rfl, rfl⟩
  ·by_cases c2 : 64 < (ND E n).length + (BR E n).length
   ·refine leaf (by rw [hend, decide_eq_false c1, decide_eq_true c2]; rfl) (hh.post fun e fr' H' h => ?_)
    rw [decide_eq_false (by omega), cond_false, decide_eq_true (by omega), cond_true] at h
    obtain ⟨rfl, rfl, rfl⟩ := h
    exact ⟨[(2, .iW), (3, ZA 1)], ZBz, (iD rfl), ⟨⟨_, rfl, rfl, rfl, rfl, Vk (p := fun j => _ = _) rfl⟩, trivial⟩, rfl, rfl, rfl⟩
   ·have h0 : (ofR fG E n).1 = 0 := by rw [hend, decide_eq_false c1, decide_eq_false c2]; rfl
    refine aj.bn (K1 := 9) (F1 := (sQ 3 1 4 2)) (H1 := (ZDd n E)) (hh.mono fun e fr' H' h => ?_) (by omega) ?_
    ·rw [decide_eq_false (by omega), cond_false, decide_eq_false (by omega), cond_false] at h
     exact h
    refine (ofH 1 (by omega) n n (ND E n).length (BR E n).length E (ay 0 (NM E n)) (ay 0 (ND E n)) (ay 0 (BR E n)) (aA (ND E n)) (aA (BR E n))).post fun e fr' H' h => ?_
    obtain ⟨rfl, rfl, rfl⟩ := h
    exact ⟨(sQ 2 2 3 1), [(1, ZP), (2, Zc n E), (3, ZM E n), (4, ZN E n), (5, ZO E n), (6, Zf n E), (7, Zi E n), (8, Zj E n)], (iD rfl), ⟨⟨_, rfl, rfl, rfl, rfl, Vk (p := fun j => _ = _) rfl⟩, gq rfl⟩, rfl, .inr ⟨h0, rfl, rfl⟩⟩
 ·exact h


theorem Bq {S : Nat → Prop} {z : El} {o : Nat} {v : AV} (h : (aP z)[o]? = some v) : v.iy S := by
 match o, h with
 | 0, h => cases h; trivial
 | 1, h => cases h; trivial
 | 2, h => cases h; trivial
 | 3, h => cases h; trivial
 | 4, h => cases h; trivial
 | 5, h => cases h; trivial
 | 6, h => cases h; trivial
 | 7, h => cases h; trivial
theorem Ui {N n q r o : Nat} {v : AV} (h : (EN N (N + 1) (N + 2) (N + 3) (N + 4) (N + 5) n q r)[o]? = some v) : v.iy (fun i => N ≤ i) := by
 match o, h with
 | 0, h => cases h; trivial
 | 1, h => cases h; show N ≤ N + 3; omega
 | 2, h => cases h; show N ≤ N; omega
 | 3, h => cases h; show N ≤ N + 4; omega
 | 4, h => cases h; show N ≤ N + 1; omega
 | 5, h => cases h; show N ≤ N + 5; omega
 | 6, h => cases h; show N ≤ N + 2; omega
theorem Uj {N n q r K : Nat} {v : AV} (h : v ∈ EN N (N + 1) (N + 2) (N + 3) (N + 4) (N + 5) n q r) (hK : N + 6 ≤ K) : v.low K = true := by
 simp only [EN, List.mem_cons, List.not_mem_nil, or_false] at h
 rcases h with rfl | rfl | rfl | rfl | rfl | rfl | rfl <;> first | rfl | exact Nat.ble_eq_true_of_le (show Nat.succ N ≤ K by omega) | exact Nat.ble_eq_true_of_le (show Nat.succ (N + 1) ≤ K by omega) | exact Nat.ble_eq_true_of_le (show Nat.succ (N + 2) ≤ K by omega) | exact Nat.ble_eq_true_of_le (show Nat.succ (N + 3) ≤ K by omega) | exact Nat.ble_eq_true_of_le (show Nat.succ (N + 4) ≤ K by omega) | exact Nat.ble_eq_true_of_le (show Nat.succ (N + 5) ≤ K by omega)
theorem Xj {x y x' y' : AV} (h : AV.ge x x') (k : AV.ge y y') : AV.ge (.agg [x, y]) (.agg [x', y']) := fun N μ c hr => by
 simp only [Rep, aO] at hr ⊢
 obtain ⟨cs, e, c1, r1, e1, h1, c2, r2, e2, h2, e3⟩ := hr
 exact ⟨cs, e, c1, r1, e1, h _ _ _ h1, c2, r2, e2, k _ _ _ h2, e3⟩
/-- ofR, not to be unfolded by a run -/
noncomputable def yU : (Nat → El) → Nat → Int × Int := Classical.choose (⟨ofR fG, rfl⟩ : ∃ f, f = ofR fG)
theorem Na : yU = ofR fG := Classical.choose_spec (⟨ofR fG, rfl⟩ : ∃ f, f = ofR fG)
noncomputable def mP : List AV → M AV
 | [x] => (OB 8 x PEQ).andThen fun y => (M.dec (decide ((yU (aK y.2) y.1).1 = 0))).andThen fun d => bif d then (MX (aK y.2) y.1).andThen fun N => M.ret (.lZ [.ptr ⟨false, N, 0, 0⟩, .agg [Zg, Zg]]) else M.ret (.lZ [.iW, .agg [iT (yU (aK y.2) y.1).1, iT (yU (aK y.2) y.1).2]])
 | _ => M.no
theorem iR : ∀ args, aC (mP args) := by
 intro args
 unfold mP
 split
 ·exact (WZ _ _ _).andThen fun _ => (aC.dec _).andThen fun d => aC.cond ((MZ _ _).andThen fun _ => aC.ret _) (aC.ret _)
 ·exact aC.no
theorem Kq (l : List Nat) (N k : Nat) : l.getD (N + k - N) 0 = l.getD k 0 := by rw [Nat.add_sub_cancel_left]
theorem zW (l : List Nat) (N : Nat) : l.getD (N - N) 0 = l.getD 0 0 := by rw [Nat.sub_self]
theorem Uk (N n q r : Nat) : kQ (fun i => [3, 4, 5, 6, 7, 8, 2].getD (i - N) 0) (EN N (N + 1) (N + 2) (N + 3) (N + 4) (N + 5) n q r) = bQ 6 7 8 n q r := by
 simp only [EN, bQ, kQ, AV.ren, AA.ren, Kq, zW]
 rfl
theorem OD (n : Nat) (f : Nat → List AV) (h : PE n f) : aj Try.prog (ak Try.f12) Try.f12.ntmps 1 1 9 (bJ [ZE n] 0 .e) (hpL [(0, .cells false 8 n (.fn f))]) (QF (aK f) n) :=
 aj.SE (H0 := hpL [(0, .cells false 8 n (.fn fun j => aP (aK f j)))]) (fun t v ht => ⟨v, ht, AV.ge.refl _⟩) (fun i b hb => by
  have hm := aY hb
  simp only [List.mem_cons, List.not_mem_nil, or_false] at hm
  cases hm
  exact ⟨_, rfl, rfl, rfl, rfl, h.of⟩) (Xi n (aK f))
theorem jL : ∀ args v g g', mP args g = .done v g' → bZ Try.prog 12 args v g g' := by
 intro args v g g' h
 unfold mP at h
 simp only [Na] at h
 split at h
 case h_2 => exact (bC h).elim
 rename_i x
 obtain ⟨⟨n, f⟩, g1, a1, h1⟩ := au h
 clear h
 obtain ⟨qv, kv, fv0⟩ := Ue a1 (by omega) (fun h => h.low)
 have fv : qv → Vw.Ok ⟨x, 8, n, f⟩ g ∧ PE n f := fun h => ⟨(fv0 h).1, (fv0 h).2.of⟩
 obtain ⟨d, g2, a2, h2⟩ := au h1
 clear h1
 dsimp only at a2 h2
 have kk := kv.trans (nH a2)
 have hrep : qv → ∀ N μ (cs : List Value), aO N μ [x] cs → aO 1 (zN μ [⟨x, 8, n, f⟩]) [zM 0 n] cs := fun hp N μ cs hcs => by
  simp only [aO] at hcs ⊢
  obtain ⟨c, r, rfl, hc, rfl⟩ := hcs
  exact ⟨c, [], rfl, LW (l := [⟨x, 8, n, f⟩]) (fv hp).1 rfl hc, rfl⟩
 have hvs : qv → ∀ v ∈ [(⟨x, 8, n, f⟩ : Vw)], v.Ok g := fun hp v hv => by
  rw [List.mem_singleton.1 hv]; exact (fv hp).1
 cases d with
 | true =>
  rw [cond_true] at h2
  obtain ⟨N, g3, a3, h3⟩ := au h2
  obtain ⟨rfl, rfl⟩ := aB h3
  obtain ⟨rfl, e1, e2, e3⟩ := Ko a3
  rw [kk.1, kk.2.1] at e1
  rw [kk.2.1] at e2 ⊢
  refine G5 (c := (ak Try.f12)) Try.func12 (by kernel_rfl) (by kernel_rfl) kk [⟨x, 8, n, f⟩] (fun hp => hvs hp.1) (gG := [zM 0 n]) (fun hp => hrep hp.1) (nms := [3, 4, 5, 6, 7, 8, 2]) (bs := WY g.nx (aK f) n) (K' := 9) (fun hp => ?_) ?_ ?_ e1 e2 (fun hc => by rw [← e3]; exact hc)
  ·refine (OD n f (fv hp.1).2).mono fun e fr' H' h => ?_
   have he := of_decide_eq_true hp.2
   obtain ⟨rfl, ⟨c0, _⟩ | ⟨_, rfl, rfl⟩⟩ := h
   ·exact (c0 he).elim
   ·refine ⟨.inl rfl, [ZA 2, .agg [Zg, Zg]], _, rfl, trivial, ?_, rfl, ?_, by decide⟩
    ·simp only [AV.ren, kQ, AA.ren, Kq]
     exact AV.ge.refl _
    ·intro i b hb
     have G : ∀ j, j < 7 → [3, 4, 5, 6, 7, 8, 2][j]? = some ([3, 4, 5, 6, 7, 8, 2].getD j 0) := by decide
     have tx : ∀ (K : Nat) (l : List Tx) (j : Nat) (v : AV), v ∈ aU (aA l) j → v.low K = true := fun K l j v hv => by rw [List.mem_singleton.1 hv]; rfl
     have tx2 : ∀ (S : Nat → Prop) (l : List Tx) (j o : Nat) (v : AV), (aU (aA l) j)[o]? = some v → v.iy S := fun S l j o v hv => by
      match o, hv with
      | 0, hv => cases hv; trivial
     match i, hb with
     | 0, hb => cases hb; exact ⟨3, _, rfl, rfl, dD.refl _, rfl, trivial, trivial⟩
     | 1, hb => cases hb; exact ⟨4, _, rfl, rfl, dD.refl _, rfl, trivial, trivial⟩
     | 2, hb => cases hb; exact ⟨5, _, rfl, rfl, dD.refl _, rfl, trivial, trivial⟩
     | 3, hb => cases hb; exact ⟨6, _, rfl, rfl, ⟨rfl, rfl, rfl, fun j hj => rfl⟩, rfl, fun j hj v hv => List.all_eq_true.1 (sJ _ (aK f j)) v hv, fun j hj o v hv => Bq hv⟩
     | 4, hb => cases hb; exact ⟨7, _, rfl, rfl, ⟨rfl, rfl, rfl, fun j hj => rfl⟩, rfl, fun j hj v hv => tx _ _ _ v hv, fun j hj o v hv => tx2 _ _ _ o v hv⟩
     | 5, hb => cases hb; exact ⟨8, _, rfl, rfl, ⟨rfl, rfl, rfl, fun j hj => rfl⟩, rfl, fun j hj v hv => tx _ _ _ v hv, fun j hj o v hv => tx2 _ _ _ o v hv⟩
     | 6, hb => cases hb; exact ⟨2, _, rfl, rfl, ⟨rfl, rfl, rfl, fun j hj => (Uk _ _ _ _).symm⟩, rfl, fun j hj v hv => Uj hv (by simp only [WY, List.length_cons, List.length_nil]; omega), fun j hj o v hv => Ui hv⟩
  ·simp only [AV.low, mD, WY, List.length_cons, List.length_nil]
   simp
  ·simp only [AV.iy, lC]
   exact ⟨by omega, ⟨trivial, trivial, trivial⟩, trivial⟩
 | false =>
  rw [cond_false] at h2
  obtain ⟨rfl, rfl⟩ := aB h2
  refine G5 (c := (ak Try.f12)) Try.func12 (by kernel_rfl) (by kernel_rfl) kk [⟨x, 8, n, f⟩] (fun hp => hvs hp.1) (gG := [zM 0 n]) (fun hp => hrep hp.1) (nms := []) (bs := []) (K' := 9) (fun hp => ?_) ?_ ?_ (show g2.H = g.H from kk.1) (show g2.nx = g.nx from kk.2.1) id
  ·refine (OD n f (fv hp.1).2).mono fun e fr' H' h => ?_
   have he := of_decide_eq_false hp.2
   obtain ⟨rfl, ⟨c0, s, s', rfl, rfl⟩ | ⟨c0, _⟩⟩ := h
   ·refine ⟨.inl rfl, [.iW, .agg [.int s .i64 (ofR fG (aK f) n).1, .int s' .i64 (ofR fG (aK f) n).2]], _, rfl, trivial, ?_, rfl, fun i b hb => (by cases hb), List.nodup_nil⟩
    exact AV.ge.afJ (AV.ge.refl _) (Xj (AV.ge.int _ _ _ _) (AV.ge.int _ _ _ _))
   ·exact (he c0).elim
  ·simp [AV.low, mD]
  ·simp [AV.iy, lC]


/-- the row of an element that is handed in -/
def zR (e : El) : List AV := [AV.int true .u8 (e).k, .str true (e).n, .str true (e).a, .str true (e).b, .str true (e).c, .str true (e).d, .int true .u64 (((e).v : Nat) : Int), iT (e).ph]
def unZ : List AV → El
 | [.int _ _ k, .str _ n, .str _ a, .str _ b, .str _ c, .str _ d, .int _ _ v, .int _ _ ph] => ⟨k, n, a, b, c, d, v.toNat, ph⟩
 | _ => ⟨0, [], [], [], [], [], 0, 0⟩
def qp (f : Nat → List AV) (j : Nat) : El := unZ (f j)
def PZ (n : Nat) (f : Nat → List AV) : Prop := n * 104 ≤ 140737488355328 ∧ ∀ j, j < n → dQ (f j) (zR (qp f j)) ∧ (qp f j).v < 18446744073709551616


noncomputable abbrev Zd (v0 : Nat) (v1 : tE) := (.cells false 8 v0 (.fn fun j => [.int true .u8 (El.k (v1 j)), .str true (El.n (v1 j)), .str true (El.a (v1 j)), .str true (El.b (v1 j)), .str true (El.c (v1 j)), .str true (El.d (v1 j)), .int true .u64 (↑(El.v (v1 j)) : Int), iT (El.ph (v1 j))]) : aF)
noncomputable abbrev Zz (v0 : Nat) (v1 : tE) := (.cells false 8 v0 (.fn fun j => zR (v1 j)) : aF)
theorem eoA (B : Nat) (hB : B ≤ 1) (n : Nat) (G : tE) : aj Try.prog ((aT [0] (ak Try.f29))) Try.f29.ntmps B 1 1 (bJ [ZE n] 0 .e) (hpL [(0, Zz n G)]) (pP .normal [(0, ZE n)] [(0, Zd n G)]) := jW [] trivial hB
theorem eoB (B : Nat) (hB : B ≤ 1) (n : Nat) (G : tE) : aj Try.prog ((aT [1,0] (ak Try.f29))) Try.f29.ntmps B 1 1 (aV [(0, ZE n)]) (hpL [(0, Zz n G)]) (pP .normal [(0, ZE n), (3, .dL)] [(0, Zd n G)]) := jW [] trivial hB
theorem eoC (B : Nat) (hB : B ≤ 2) (n i : Nat) (G : tE) : aj Try.prog ((aT [1,1,0,0] (ak Try.f29))) Try.f29.ntmps B 2 2 (aV [(0, ZE n), (3, sL 1 i)]) (hpL [(0, Zz n G), (1, ZF i G)]) (pP .normal [(0, ZE n), (3, sL 1 i), (4, Zg)] [(0, Zd n G), (1, ZQ i G)]) := jW [] trivial hB
noncomputable abbrev ZC4 := aT [1,1,0,1,0,0] (ak Try.f29)
theorem eoL (B : Nat) (hB : B ≤ 2) (n i : Nat) (G : tE) (x0 : ((decide ((↑i : Int) < (↑n : Int))) = true → ((↑(El.v (G (0 + i))) : Int) < 18446744073709551616))) (x1 : ((decide ((↑i : Int) < (↑n : Int))) = true → ((i + 1) * 104 ≤ 140737488355328))) (x2 : ((decide ((↑i : Int) < (↑n : Int))) = true → (i + 1 ≤ 9223372036854775807))) (x3 : ((decide ((↑i : Int) < (↑n : Int))) = true → ((↑i : Int) + 1 ≤ (9223372036854775807 : Int)))) : aj Try.prog (ZC4) Try.f29.ntmps B 2 6 (aV [(0, ZE n), (3, sL 1 i), (4, iT (i : Int))]) (hpL [(0, Zz n G), (1, ZF i G)]) fun e fr' H' => (cond (decide ((↑i : Int) < (↑n : Int))) (pP .normal [(0, ZE n), (3, sL 5 (i + 1)), (4, JJ i)] [(0, Zd n G), (5, .cells true 8 (i + 1) (.fn fun j => bif decide (j < i) then (aP (G j)) else (aP (G (0 + i)))))] e fr' H') (pP (.exit 0) [(0, ZE n), (3, sL 1 i), (4, iT (↑i : Int))] [(0, Zd n G), (1, ZQ i G)] e fr' H')) := cD (fun q0 t0 => jW [tT] (I7 t0 (ai (show 0 ≤ (↑i : Int) by omega) (show (↑i : Int) < (↑n : Int) by omega)) (show 0 + i < n by omega) (show 8 ≤ 8 by omega) (ai (show 0 ≤ (↑(El.v (G (0 + i))) : Int) by omega) (x0 t0)) (ai (show i ≤ i by omega) (ai (x1 t0) (x2 t0))) (ai (show -9223372036854775808 ≤ (↑i : Int) + 1 by omega) (x3 t0))) hB) (fun q0 t0 => jW [fF] (I1 t0) hB)
theorem eoE (B : Nat) (hB : B ≤ 2) (n : Nat) (G : tE) : aj Try.prog ((aT [1,1,1] (ak Try.f29))) Try.f29.ntmps B 2 2 (aV [(0, ZE n), (3, sL 1 n)]) (hpL [(0, Zz n G), (1, ZF n G)]) (pP .ret [(2, sL 1 n)] [(1, ZQ n G)]) := jW [] trivial hB
theorem adB : (ak Try.f29) = .seq (aT [0] (ak Try.f29)) (.seq (aT [1,0] (ak Try.f29)) (.seq (.seq (aT [1,1,0,0] (ak Try.f29)) (.block 0 (.loop ZC4))) (aT [1,1,1] (ak Try.f29)))) := by kernel_rfl
theorem Xk (n i : Nat) (G : tE) (hi : i < n) (hn : n * 104 ≤ 140737488355328) (hv : ∀ j, j < n → (G j).v < 18446744073709551616) :
  aj Try.prog ZC4 Try.f29.ntmps 1 2 2 (aV [(0, ZE n), (3, sL 1 i), (4, iT (i : Int))]) (hpL [(0, Zz n G), (1, ZF i G)]) (Nm [(0, ZE n), (3, sL 1 (i + 1)), (4, iT ((i + 1) : Int))] [(0, Zz n G), (1, .cells true 8 (i + 1) (.fn fun j => aP (G j)))]) := by
 have w := hv i hi
 refine (eoL 1 (by omega) n i G (fun _ => by rw [Nat.zero_add]; omega) (fun _ => by omega) (fun _ => by omega) (fun _ => by omega)).renG fun e fr' H' h => ?_
 rw [decide_eq_true (by omega), cond_true] at h
 obtain ⟨rfl, rfl, rfl⟩ := h
 exact ⟨sg 1 5, [(0, ZE n), (3, sL 1 (i + 1)), (4, iT ((i + 1) : Int))], [(0, Zz n G), (1, .cells true 8 (i + 1) (.fn fun j => aP (G j)))], mX (by omega), ⟨⟨_, rfl, AV.ge.refl _, rfl⟩, ⟨_, rfl, AV.ge.refl _, rfl⟩, ⟨_, rfl, AV.ge.int' _ _ _ (by omega), rfl⟩, trivial⟩, ⟨dX rfl rfl (fun j _ => rfl) (fun j _ => rfl) (by omega), dX rfl rfl (fun j hj => by
  show (bif decide (j < i) then aP (G j) else _) = aP (G j)
  by_cases c : j < i
  ·rw [decide_eq_true c, cond_true]
  ·obtain rfl : j = i := by omega
   rw [decide_eq_false c, cond_false]
   simp only [Nat.zero_add]) (fun j _ => rfl) (by omega), trivial⟩, mY (by omega), rfl, rfl, rfl⟩
theorem abb (n : Nat) (G : tE) : aj Try.prog ZC4 Try.f29.ntmps 1 2 2 (aV [(0, ZE n), (3, sL 1 n), (4, iT (n : Int))]) (hpL [(0, Zz n G), (1, ZF n G)]) (Xm 0 [(0, ZE n), (3, sL 1 n)] [(0, Zz n G), (1, ZF n G)]) := by
 refine (eoL 1 (by omega) n n G (fun h => absurd (of_decide_eq_true h) (by omega)) (fun h => absurd (of_decide_eq_true h) (by omega)) (fun h => absurd (of_decide_eq_true h) (by omega)) (fun h => absurd (of_decide_eq_true h) (by omega))).renG fun e fr' H' h => ?_
 rw [decide_eq_false (by omega), cond_false] at h
 obtain ⟨rfl, rfl, rfl⟩ := h
 exact ⟨id, [(0, ZE n), (3, sL 1 n)], [(0, Zz n G), (1, ZF n G)], fun g hg => rfl, (yX rfl), ⟨dX rfl rfl (fun j _ => rfl) (fun j _ => rfl) (by omega), dX rfl rfl (fun j _ => rfl) (fun j _ => rfl) (by omega), trivial⟩, fun i j _ _ h => h, rfl, rfl, rfl⟩
noncomputable abbrev ZCT (v0 : tE) := (.cells true 8 0 (.fn fun j => aP (v0 j)) : aF)
theorem Xl (n : Nat) (G : tE) (hn : n * 104 ≤ 140737488355328) (hv : ∀ j, j < n → (G j).v < 18446744073709551616) :
  aj Try.prog (ak Try.f29) Try.f29.ntmps 1 1 2 (bJ [ZE n] 0 .e) (hpL [(0, Zz n G)]) (fun e fr' H' => e = .ret ∧ fr' = aV [(2, sL 1 n)] ∧ H' = hpL [(1, ZF n G)]) := by
 rw [adB]
 refine aj.bn (K1 := 1) (eoA 1 (by omega) n G) (by omega) ?_
 refine aj.bn (K1 := 1) (F1 := [(0, ZE n), (3, .dL)]) (H1 := [(0, Zz n G)]) (aj.toN (eoB 1 (by omega) n G) (iD rfl) ⟨hs rfl, trivial⟩) (by omega) ?_
 refine aj.phantom 3 8 (fun j => aP (G j)) rfl (by omega) (by omega) ?_
 refine aj.gK (fl := [(0, ZE n), (3, sL 1 0)]) (bl := [(0, Zz n G), (1, ZCT G)]) (iD rfl) (gq rfl) ?_
 refine aj.bn (K1 := 2) (F1 := [(0, ZE n), (3, sL 1 n)]) (H1 := [(0, Zz n G), (1, ZF n G)]) ?_ (by omega) ?_
 ·refine aj.bn (K1 := 2) (F1 := [(0, ZE n), (3, sL 1 0), (4, FC)]) (H1 := [(0, Zz n G), (1, ZCT G)]) (aj.toN (eoC 1 (by omega) n 0 G) ⟨re rfl, re rfl, ⟨_, rfl, AV.ge.int _ _ _ _⟩, trivial⟩ (gq rfl)) (by omega) ?_
  exact aj.rounds n (fun i => [(0, ZE n), (3, sL 1 i), (4, iT (i : Int))]) (fun i => [(0, Zz n G), (1, .cells true 8 i (.fn fun j => aP (G j)))]) (fun i hi => Xk n i G hi hn hv) (abb n G)
 exact (eoE 1 (by omega) n G).mono fun e fr' H' h => h
noncomputable def zT : List AV → M AV
 | [x] => (rd 8 x PZ).andThen fun y => newS 8 y.1 (fun j => aP (qp y.2 j))
 | _ => M.no
theorem lS : ∀ args, aC (zT args) := by
 intro args
 unfold zT
 split
 ·exact (aC.rd _ _ _).andThen fun _ => aC.newS _ _ _
 ·exact aC.no
theorem oG : ∀ args v g g', zT args g = .done v g' → bZ Try.prog 29 args v g g' := by
 intro args v g g' h
 unfold zT at h
 split at h
 case h_2 => exact (bC h).elim
 rename_i x
 obtain ⟨⟨n, f⟩, g1, a1, h1⟩ := au h
 clear h
 obtain ⟨qv, kv, fv⟩ := NW a1 (by omega)
 dsimp only at h1 fv
 obtain ⟨rfl, e1, e2, e3⟩ := Fg h1
 rw [kv.1, kv.2.1] at e1
 rw [kv.2.1] at e2 ⊢
 refine G5 (c := (ak Try.f29)) Try.func29 (by kernel_rfl) (by kernel_rfl) kv [⟨x, 8, n, f⟩] (fun hp v hv => by rw [List.mem_singleton.1 hv]; exact (fv hp).1) (gG := [zM 0 n]) (fun hp N μ cs hcs => by
  simp only [aO] at hcs ⊢
  obtain ⟨c, r, rfl, hc, rfl⟩ := hcs
  exact ⟨c, [], rfl, LW (l := [⟨x, 8, n, f⟩]) (fv hp).1 rfl hc, rfl⟩) (nms := [1]) (bs := [.cells true 8 n (.fn fun j => aP (qp f j))]) (K' := 2) (fun hp => ?_) ?_ ?_ e1 (by rw [e2]; rfl) (fun hc => by rw [← e3]; exact hc)
 ·obtain ⟨_, hn, hr⟩ := fv hp
  have hg := aj.SE (H0 := hpL [(0, .cells false 8 n (.fn fun j => zR (qp f j)))]) (H := hpL [(0, .cells false 8 n (.fn f))]) (fun t v ht => ⟨v, ht, AV.ge.refl _⟩) (fun i b hb => by
   have hm := aY hb
   simp only [List.mem_cons, List.not_mem_nil, or_false] at hm
   cases hm
   exact ⟨_, rfl, rfl, rfl, rfl, fun j hj => (hr j hj).1⟩) (Xl n (qp f) hn (fun j hj => (hr j hj).2))
  refine hg.mono fun e fr' H' h => ?_
  obtain ⟨rfl, rfl, rfl⟩ := h
  refine ⟨.inl rfl, [sL 1 n], _, rfl, trivial, ?_, rfl, ?_, by decide⟩
  ·simp only [AV.ren, AA.ren, zW]
   exact AV.ge.refl _
  ·intro i b hb
   match i, hb with
   | 0, hb => cases hb; exact ⟨1, _, rfl, rfl, ⟨rfl, rfl, rfl, fun j hj => rfl⟩, rfl, fun j hj v hv => List.all_eq_true.1 (sJ _ (qp f j)) v hv, fun j hj o v hv => Bq hv⟩
 ·exact Nat.ble_eq_true_of_le (show Nat.succ g.nx ≤ g.nx + 1 by omega)
 ·show g.nx ≤ g.nx; omega


noncomputable abbrev ZT (v0 : Nat) (v1 : Nat → List UInt8) := (.cells true 1 v0 (.fn (aU v1)) : aF)
noncomputable abbrev Zm (v0 : List UInt8) := (.cells true 1 1 (.fn fun x => [.str true v0]) : aF)
noncomputable abbrev Zw (v0 : List UInt8) := (.cells true 1 1 (.fn fun _ => [.str true v0]) : aF)
noncomputable abbrev Zy (v0 : Nat) := (.cells true 1 1 (.fn fun x => [sL 5 v0]) : aF)
noncomputable abbrev Z3 (v0 : Nat) := (.cells true 1 1 (.fn fun _ => [sL 5 v0]) : aF)
noncomputable abbrev Ic := (.cells true 1 1 (.fn fun _ => [.fn (.func 67) [] [ZA 2, ZA 1, ZA 3, ZA 4]]) : aF)
noncomputable abbrev Ie (v0 : Nat) := (.cells true 1 1 (.fn fun _ => [ZE v0]) : aF)
noncomputable abbrev Bf (v0 : Nat) := (.cells true 1 1 (.fn fun x => [ZE v0]) : aF)
noncomputable abbrev ZED (v0 : List UInt8) (v1 : Int) := ([(0, .str true v0), (1, iT v1), (2, ZA 2), (3, ZA 1), (4, ZA 3), (5, ZA 4)] : jU)
noncomputable abbrev OE (v0 : Nat) (v1 : tE) (v2 : List UInt8) (v3 v4 : Nat) (v5 : Nat → List UInt8) := hpL [(0, ZC v0 v1), (1, Ie v0), (2, Zw v2), (3, Z3 v3), (4, Ic), (5, ZT v4 v5)]
theorem waA (B : Nat) (hB : B ≤ 6) (k L m : Nat) (E : tE) (f : Nat → List UInt8) (x y : List UInt8) (cm : Int) : aj Try.prog ((aT [0] (ak Try.f67))) Try.f67.ntmps B 6 6 (aV (ZED x cm)) (OE k E y L m f) (pP .normal (ZED x cm) [(0, ZS k E), (1, Bf k), (2, Zm y), (3, Zy L), (4, .cells true 1 1 (.fn fun x => [.fn (Go.Fn.func (67 : Go.FuncId)) [] [ZA 2, ZA 1, ZA 3, ZA 4]])), (5, ZT m f)]) := jW [] trivial hB
theorem waB (B : Nat) (hB : B ≤ 6) (k L m : Nat) (E : tE) (f : Nat → List UInt8) (x y : List UInt8) (cm : Int) : aj Try.prog ((aT [1,0] (ak Try.f67))) Try.f67.ntmps B 6 6 (aV (ZED x cm)) (OE k E y L m f) fun e fr' H' => (cond (x == y) (pP .ret [(0, .str true x), (1, iT cm), (2, ZA 2), (3, ZA 1), (4, ZA 3), (5, ZA 4), (8, .bool true)] [(0, ZS k E), (1, Bf k), (2, Zm y), (3, Zy L), (4, .cells true 1 1 (.fn fun x => [.fn (Go.Fn.func (67 : Go.FuncId)) [] [ZA 2, ZA 1, ZA 3, ZA 4]])), (5, ZT m f)] e fr' H') (pP .normal (ZED x cm) [(0, ZS k E), (1, Bf k), (2, Zm y), (3, Zy L), (4, .cells true 1 1 (.fn fun x => [.fn (Go.Fn.func (67 : Go.FuncId)) [] [ZA 2, ZA 1, ZA 3, ZA 4]])), (5, ZT m f)] e fr' H')) := cI (fun t0 => jW [tT] (I1 t0) hB) (fun t0 => jW [fF] (I1 t0) hB)
theorem waC (B : Nat) (hB : B ≤ 6) (k L m : Nat) (E : tE) (f : Nat → List UInt8) (x y : List UInt8) (cm : Int) : aj Try.prog ((aT [1,1,0,0] (ak Try.f67))) Try.f67.ntmps B 6 6 (aV (ZED x cm)) (OE k E y L m f) (pP .normal [(0, .str true x), (1, iT cm), (2, ZA 2), (3, ZA 1), (4, ZA 3), (5, ZA 4), (15, ZE k), (16, iT (↑k : Int)), (17, Zg)] [(0, ZS k E), (1, Bf k), (2, Zm y), (3, Zy L), (4, .cells true 1 1 (.fn fun x => [.fn (Go.Fn.func (67 : Go.FuncId)) [] [ZA 2, ZA 1, ZA 3, ZA 4]])), (5, ZT m f)]) := jW [] trivial hB
noncomputable abbrev ZDg (v0 : List UInt8) (v1 : Int) (v2 v3 : Nat) := aV [(0, .str true v0), (1, iT v1), (2, ZA 2), (3, ZA 1), (4, ZA 3), (5, ZA 4), (15, ZE v2), (16, iT (v2 : Int)), (17, iT (v3 : Int))]
theorem waD (B : Nat) (hB : B ≤ 6) (i k L m : Nat) (E : tE) (f : Nat → List UInt8) (x y : List UInt8) (cm : Int) : aj Try.prog ((aT [1,1,0,1,0,0,0] (ak Try.f67))) Try.f67.ntmps B 6 6 (ZDg x cm k i) (OE k E y L m f) (pP .normal [(0, .str true x), (1, iT cm), (2, ZA 2), (3, ZA 1), (4, ZA 3), (5, ZA 4), (15, ZE k), (16, iT (↑k : Int)), (17, iT (↑i : Int)), (18, .bD (decide ((↑i : Int) < (↑k : Int))))] [(0, ZS k E), (1, Bf k), (2, Zm y), (3, Zy L), (4, .cells true 1 1 (.fn fun x => [.fn (Go.Fn.func (67 : Go.FuncId)) [] [ZA 2, ZA 1, ZA 3, ZA 4]])), (5, ZT m f)]) := jW [] trivial hB
theorem waF (B : Nat) (hB : B ≤ 6) (i k L m : Nat) (E : tE) (f : Nat → List UInt8) (x y : List UInt8) (cm : Int) (x0 : ((↑i : Int) < (↑k : Int))) (x1 : (0 + i < k)) : aj Try.prog ((aT [1,1,0,1,0,0,1,1,0,0,0] (ak Try.f67))) Try.f67.ntmps B 6 7 (ZDg x cm k i) (OE k E y L m f) (pP .normal [(0, .str true x), (1, iT cm), (2, ZA 2), (3, ZA 1), (4, ZA 3), (5, ZA 4), (9, iT (↑i : Int)), (10, ZA 6), (15, ZE k), (16, iT (↑k : Int)), (17, iT (↑i : Int))] [(0, ZS k E), (1, Bf k), (2, Zm y), (3, Zy L), (4, .cells true 1 1 (.fn fun x => [.fn (Go.Fn.func (67 : Go.FuncId)) [] [ZA 2, ZA 1, ZA 3, ZA 4]])), (5, ZT m f), (6, ZBP E i)]) := jW [] (I3 (ai (show 0 ≤ (↑i : Int) by omega) x0) x1 (show 8 ≤ 8 by omega)) hB
noncomputable abbrev Xn (v0 : tE) (v1 : Nat) := (.cells true 8 1 (.fn fun x => (aP (v0 v1))) : aF)
noncomputable abbrev ZEm (v0 : List UInt8) (v1 : Int) (v2 : Nat) (v3 : tE) (v4 : Nat) := ([(0, .str true v0), (1, iT v1), (2, ZA 2), (3, ZA 1), (4, ZA 3), (5, ZA 4), (9, EM v2), (10, ZA 6), (11, .str true (El.a (v3 v2))), (15, ZE v4), (16, EM v4), (17, EM v2)] : jU)
noncomputable abbrev ZE7 (v0 : Nat) (v1 : tE) (v2 : List UInt8) (v3 v4 : Nat) (v5 : Nat → List UInt8) (v6 : Nat) := hpL [(0, ZC v0 v1), (1, Ie v0), (2, Zw v2), (3, Z3 v3), (4, Ic), (5, ZT v4 v5), (6, Zl v1 v6)]
theorem waG (B : Nat) (hB : B ≤ 7) (i k L m : Nat) (E : tE) (f : Nat → List UInt8) (x y : List UInt8) (cm : Int) : aj Try.prog ((aT [1,1,0,1,0,0,1,1,0,0,1,0] (ak Try.f67))) Try.f67.ntmps B 7 7 (aV [(0, .str true x), (1, iT cm), (2, ZA 2), (3, ZA 1), (4, ZA 3), (5, ZA 4), (15, ZE k), (16, iT (k : Int)), (17, iT (i : Int)), (9, iT (i : Int)), (10, ZA 6)]) (ZE7 k E y L m f i) (pP .normal (ZEm x cm i E k) [(0, ZS k E), (1, Bf k), (2, Zm y), (3, Zy L), (4, .cells true 1 1 (.fn fun x => [.fn (Go.Fn.func (67 : Go.FuncId)) [] [ZA 2, ZA 1, ZA 3, ZA 4]])), (5, ZT m f), (6, Xn E i)]) := jW [] trivial hB
theorem waH (B : Nat) (hB : B ≤ 7) (i k L m : Nat) (E : tE) (f : Nat → List UInt8) (x y : List UInt8) (cm : Int) : aj Try.prog ((aT [1,1,0,1,0,0,1,1,0,0,1,1,0] (ak Try.f67))) Try.f67.ntmps B 7 7 (aV [(0, .str true x), (1, iT cm), (2, ZA 2), (3, ZA 1), (4, ZA 3), (5, ZA 4), (15, ZE k), (16, iT (k : Int)), (17, iT (i : Int)), (9, iT (i : Int)), (10, ZA 6), (11, .str true (E i).a)]) (ZE7 k E y L m f i) fun e fr' H' => (cond (El.a (E i) == x) (pP .normal [(0, .str true x), (1, iT cm), (2, ZA 2), (3, ZA 1), (4, ZA 3), (5, ZA 4), (9, iT (↑i : Int)), (10, ZA 6), (11, .str true (El.b (E i))), (15, ZE k), (16, iT (↑k : Int)), (17, iT (↑i : Int))] [(0, ZS k E), (1, Bf k), (2, Zm y), (3, Zy L), (4, .cells true 1 1 (.fn fun x => [.fn (Go.Fn.func (67 : Go.FuncId)) [] [ZA 2, ZA 1, ZA 3, ZA 4]])), (5, ZT m f), (6, Xn E i)] e fr' H') (pP .normal (ZEm x cm i E k) [(0, ZS k E), (1, Bf k), (2, Zm y), (3, Zy L), (4, .cells true 1 1 (.fn fun x => [.fn (Go.Fn.func (67 : Go.FuncId)) [] [ZA 2, ZA 1, ZA 3, ZA 4]])), (5, ZT m f), (6, Xn E i)] e fr' H')) := cI (fun t0 => jW [tT] (I1 t0) hB) (fun t0 => jW [fF] (I1 t0) hB)
noncomputable abbrev ZDi (v0 : List UInt8) (v1 : Int) (v2 : Nat) (v3 : List UInt8) (v4 : Nat) := ([(0, .str true v0), (1, iT v1), (2, ZA 2), (3, ZA 1), (4, ZA 3), (5, ZA 4), (9, EM v2), (10, ZA 6), (11, .str true v3), (15, ZE v4), (16, EM v4), (17, EM v2)] : jU)
noncomputable abbrev ZEr (v0 : List UInt8) (v1 : Int) (v2 v3 : Nat) (v4 : List UInt8) := aV [(0, .str true v0), (1, iT v1), (2, ZA 2), (3, ZA 1), (4, ZA 3), (5, ZA 4), (15, ZE v2), (16, iT (v2 : Int)), (17, iT (v3 : Int)), (9, iT (v3 : Int)), (10, ZA 6), (11, .str true v4)]
theorem waI (B : Nat) (hB : B ≤ 7) (i k L m : Nat) (E : tE) (f : Nat → List UInt8) (x y z : List UInt8) (cm : Int) : aj Try.prog ((aT [1,1,0,1,0,0,1,1,0,0,1,1,1,0] (ak Try.f67))) Try.f67.ntmps B 7 7 (ZEr x cm k i z) (ZE7 k E y L m f i) fun e fr' H' => (cond (decide ((↑i : Int) = cm)) (pP (.exit 1) (ZDi x cm i z k) [(0, ZS k E), (1, Bf k), (2, Zm y), (3, Zy L), (4, .cells true 1 1 (.fn fun x => [.fn (Go.Fn.func (67 : Go.FuncId)) [] [ZA 2, ZA 1, ZA 3, ZA 4]])), (5, ZT m f), (6, Xn E i)] e fr' H') (cond (El.a (E i) == x) (pP .normal (ZDi x cm i z k) [(0, ZS k E), (1, Bf k), (2, Zm y), (3, Zy L), (4, .cells true 1 1 (.fn fun x => [.fn (Go.Fn.func (67 : Go.FuncId)) [] [ZA 2, ZA 1, ZA 3, ZA 4]])), (5, ZT m f), (6, Xn E i)] e fr' H') (cond (El.b (E i) == x) (pP .normal (ZDi x cm i z k) [(0, ZS k E), (1, Bf k), (2, Zm y), (3, Zy L), (4, .cells true 1 1 (.fn fun x => [.fn (Go.Fn.func (67 : Go.FuncId)) [] [ZA 2, ZA 1, ZA 3, ZA 4]])), (5, ZT m f), (6, Xn E i)] e fr' H') (pP (.exit 1) (ZDi x cm i z k) [(0, ZS k E), (1, Bf k), (2, Zm y), (3, Zy L), (4, .cells true 1 1 (.fn fun x => [.fn (Go.Fn.func (67 : Go.FuncId)) [] [ZA 2, ZA 1, ZA 3, ZA 4]])), (5, ZT m f), (6, Xn E i)] e fr' H')))) := cD (fun q0 t0 => jW [tT] (I1 t0) hB) (fun q0 t0 => cI (fun t1 => jW [fF, fF] (I2 t0 (nt t1)) hB) (fun t1 => cI (fun t2 => jW [fF, tT, fF] (I3 t0 (nf t1) (nt t2)) hB) (fun t2 => jW [fF, tT, tT] (I3 t0 (nf t1) (nf t2)) hB)))
noncomputable abbrev ZDB := aT [1,1,0,1,0,0,1,1,0,0,1,1,1,1,0] (ak Try.f67)
theorem waJ (B : Nat) (hB : B ≤ 7) (i k L m : Nat) (E : tE) (f : Nat → List UInt8) (x y z : List UInt8) (cm : Int) (x0 : (L ≤ m)) (x1 : ((L + 1) * 16 ≤ 140737488355328)) (x2 : (L + 1 ≤ 9223372036854775807)) : aj Try.prog (ZDB) Try.f67.ntmps B 7 9 (ZEr x cm k i z) (ZE7 k E y L m f i) (pP .normal [(0, .str true x), (1, iT cm), (2, ZA 2), (3, ZA 1), (4, ZA 3), (5, ZA 4), (9, iT (↑i : Int)), (11, .str true z), (15, ZE k), (16, iT (↑k : Int)), (17, iT (↑i : Int))] [(0, ZS k E), (1, Bf k), (2, Zm y), (3, .cells true 1 1 (.fn fun j => bif Nat.beq j 0 then [sL 8 (L + 1)] else [sL 5 L])), (4, .cells true 1 1 (.fn fun x => [.fn (Go.Fn.func (67 : Go.FuncId)) [] [ZA 2, ZA 1, ZA 3, ZA 4]])), (8, .cells true 1 (L + 1) (.fn fun j => bif decide (j < L) then (aU f j) else [.str true (El.n (E i))]))]) := jW [] (I1 (ai x0 (ai x1 x2))) hB
noncomputable abbrev ZCH := aT [1,1,0,1,0,0,1,1,0,0,1,1,1,1,1,1] (ak Try.f67)
noncomputable abbrev ZDv (v0 : List UInt8) (v1 : Int) (v2 v3 : Nat) := ([(0, .str true v0), (1, iT v1), (2, ZA 2), (3, ZA 1), (4, ZA 3), (5, ZA 4), (15, ZE v2), (16, EM v2), (17, EM v3)] : jU)
theorem waM (B : Nat) (hB : B ≤ 6) (i k L m : Nat) (E : tE) (f : Nat → List UInt8) (x y : List UInt8) (cm : Int) (x0 : ((↑L : Int) - 1 ≤ (9223372036854775807 : Int))) (x1 : (0 ≤ (↑L : Int) - 1)) : aj Try.prog (ZCH) Try.f67.ntmps B 6 6 (ZDg x cm k i) (OE k E y L m f) (pP .normal (ZDv x cm k i) [(0, ZS k E), (1, Bf k), (2, Zm y), (3, .cells true 1 1 (.fn fun j => bif Nat.beq j 0 then [sL 5 (Int.toNat ((↑L : Int) - 1))] else [sL 5 L])), (4, .cells true 1 1 (.fn fun x => [.fn (Go.Fn.func (67 : Go.FuncId)) [] [ZA 2, ZA 1, ZA 3, ZA 4]])), (5, ZT m f)]) := jW [] (I2 (ai (show -9223372036854775808 ≤ (↑L : Int) - 1 by omega) x0) (ai (show (0 : Int) ≤ 0 by omega) (ai x1 (show (↑L : Int) - 1 ≤ (↑L : Int) by omega)))) hB
theorem waN (B : Nat) (hB : B ≤ 6) (i k L m : Nat) (E : tE) (f : Nat → List UInt8) (x y : List UInt8) (cm : Int) (x0 : ((↑i : Int) + 1 ≤ (9223372036854775807 : Int))) : aj Try.prog ((aT [1,1,0,1,0,0,1,1,1] (ak Try.f67))) Try.f67.ntmps B 6 6 (ZDg x cm k i) (OE k E y L m f) (pP .normal [(0, .str true x), (1, iT cm), (2, ZA 2), (3, ZA 1), (4, ZA 3), (5, ZA 4), (15, ZE k), (16, iT (↑k : Int)), (17, JJ i)] [(0, ZS k E), (1, Bf k), (2, Zm y), (3, Zy L), (4, .cells true 1 1 (.fn fun x => [.fn (Go.Fn.func (67 : Go.FuncId)) [] [ZA 2, ZA 1, ZA 3, ZA 4]])), (5, ZT m f)]) := jW [] (I1 (ai (show -9223372036854775808 ≤ (↑i : Int) + 1 by omega) x0)) hB
theorem waE (B : Nat) (hB : B ≤ 6) (i k L m : Nat) (E : tE) (f : Nat → List UInt8) (x y : List UInt8) (cm : Int) (b : Bool) : aj Try.prog ((aT [1,1,0,1,0,0,1,0] (ak Try.f67))) Try.f67.ntmps B 6 6 (aV [(0, .str true x), (1, iT cm), (2, ZA 2), (3, ZA 1), (4, ZA 3), (5, ZA 4), (15, ZE k), (16, iT (k : Int)), (17, iT (i : Int)), (18, .bD b)]) (OE k E y L m f) fun e fr' H' => (cond (b) (pP .normal (ZDv x cm k i) [(0, ZS k E), (1, Bf k), (2, Zm y), (3, Zy L), (4, .cells true 1 1 (.fn fun x => [.fn (Go.Fn.func (67 : Go.FuncId)) [] [ZA 2, ZA 1, ZA 3, ZA 4]])), (5, ZT m f)] e fr' H') (pP (.exit 0) (ZDv x cm k i) [(0, ZS k E), (1, Bf k), (2, Zm y), (3, Zy L), (4, .cells true 1 1 (.fn fun x => [.fn (Go.Fn.func (67 : Go.FuncId)) [] [ZA 2, ZA 1, ZA 3, ZA 4]])), (5, ZT m f)] e fr' H')) := cI (fun t0 => jW [tT] (I1 t0) hB) (fun t0 => jW [fF] (I1 t0) hB)
noncomputable abbrev ZBW := aT [1,1,0,1,0,0,1,1,0,0,1,1,1,1,1,0,0] (ak Try.f67)
theorem abe (i k L m : Nat) (E : tE) (f : Nat → List UInt8) (x y z : List UInt8) (cm : Int) : cO 6 (Ex.normal) [(0, .str true x), (1, iT cm), (2, ZA 2), (3, ZA 1), (4, ZA 3), (5, ZA 4), (15, ZE k), (16, iT (↑k : Int)), (17, iT (↑i : Int)), (50, .fn (Go.Fn.func (67 : Go.FuncId)) [] [ZA 2, ZA 1, ZA 3, ZA 4]), (51, .str true z), (52, iT (↑i : Int))] [(0, ZS k E), (1, Bf k), (2, Zm y), (3, Zy L), (4, .cells true 1 1 (.fn fun x => [.fn (Go.Fn.func (67 : Go.FuncId)) [] [ZA 2, ZA 1, ZA 3, ZA 4]])), (5, ZT m f)] (jB Try.f67 ((wZ 3 ZBW)) (aV [(0, .str true x), (1, iT cm), (2, ZA 2), (3, ZA 1), (4, ZA 3), (5, ZA 4), (15, ZE k), (16, iT (k : Int)), (17, iT (i : Int)), (9, iT (i : Int)), (11, .str true z)]) (OE k E y L m f) 6 []) := eN trivial
theorem abf (i k L m : Nat) (E : tE) (f : Nat → List UInt8) (x y : List UInt8) (cm : Int) (b : Bool) : cO 6 (Ex.normal) [(53, .bD b), (0, .str true x), (1, iT cm), (2, ZA 2), (3, ZA 1), (4, ZA 3), (5, ZA 4), (15, ZE k), (16, iT (↑k : Int)), (17, iT (↑i : Int))] [(0, ZS k E), (1, Bf k), (2, Zm y), (3, Zy L), (4, .cells true 1 1 (.fn fun x => [.fn (Go.Fn.func (67 : Go.FuncId)) [] [ZA 2, ZA 1, ZA 3, ZA 4]])), (5, ZT m f)] (jB Try.f67 ((rY 4 ZBW)) (aV [(53, .bD b), (0, .str true x), (1, iT cm), (2, ZA 2), (3, ZA 1), (4, ZA 3), (5, ZA 4), (15, ZE k), (16, iT (k : Int)), (17, iT (i : Int))]) (OE k E y L m f) 6 []) := eN trivial
noncomputable abbrev ZCF := aT [1,1,0,1,0,0,1,1,0,0,1,1,1,1,1,0,1] (ak Try.f67)
theorem waL (B : Nat) (hB : B ≤ 6) (i k L m : Nat) (E : tE) (f : Nat → List UInt8) (x y : List UInt8) (cm : Int) (b : Bool) : aj Try.prog (ZCF) Try.f67.ntmps B 6 6 (aV [(53, .bD b), (0, .str true x), (1, iT cm), (2, ZA 2), (3, ZA 1), (4, ZA 3), (5, ZA 4), (15, ZE k), (16, iT (k : Int)), (17, iT (i : Int))]) (OE k E y L m f) fun e fr' H' => (cond (b) (pP .ret [(0, .str true x), (1, iT cm), (2, ZA 2), (3, ZA 1), (4, ZA 3), (5, ZA 4), (15, ZE k), (16, iT (↑k : Int)), (17, iT (↑i : Int)), (8, .bool true)] [(0, ZS k E), (1, Bf k), (2, Zm y), (3, Zy L), (4, .cells true 1 1 (.fn fun x => [.fn (Go.Fn.func (67 : Go.FuncId)) [] [ZA 2, ZA 1, ZA 3, ZA 4]])), (5, ZT m f)] e fr' H') (pP .normal (ZDv x cm k i) [(0, ZS k E), (1, Bf k), (2, Zm y), (3, Zy L), (4, .cells true 1 1 (.fn fun x => [.fn (Go.Fn.func (67 : Go.FuncId)) [] [ZA 2, ZA 1, ZA 3, ZA 4]])), (5, ZT m f)] e fr' H')) := cI (fun t0 => jW [tT] (I1 t0) hB) (fun t0 => jW [fF] (I1 t0) hB)
theorem waO (B : Nat) (hB : B ≤ 6) (i k L m : Nat) (E : tE) (f : Nat → List UInt8) (x y : List UInt8) (cm : Int) : aj Try.prog ((aT [1,1,1] (ak Try.f67))) Try.f67.ntmps B 6 6 (ZDg x cm k i) (OE k E y L m f) (pP .ret [(8, .bool false)] [(0, ZS k E), (1, Bf k), (2, Zm y), (3, Zy L), (4, .cells true 1 1 (.fn fun x => [.fn (Go.Fn.func (67 : Go.FuncId)) [] [ZA 2, ZA 1, ZA 3, ZA 4]])), (5, ZT m f)]) := jW [] trivial hB
theorem List.Vm {α : Type} {P : List α → Prop} (l : List α) (nil : P []) (snoc : ∀ l p, P l → P (l ++ [p])) : P l := by
 have : ∀ l : List α, P l.reverse := by
  intro l
  induction l with
  | nil => exact nil
  | cons a l ih => rw [List.reverse_cons]; exact snoc _ _ ih
 simpa using this l.reverse
/-! ### sets of nodes: each knows a lesser one of its set -/
def rt (u : Nat → Nat) : Nat → Nat → Nat
 | 0, k => k
 | f + 1, k => if u k = k then k else rt u f (u k)
def root (u : Nat → Nat) (k : Nat) : Nat := rt u k k
theorem YA {u : Nat → Nat} (hu : ∀ j, u j ≤ j) : ∀ f k, rt u f k ≤ k
 | 0, k => Nat.le_refl _
 | f + 1, k => by
  unfold rt
  split
  ·exact Nat.le_refl _
  ·exact Nat.le_trans (YA hu f _) (hu k)
theorem Um {u : Nat → Nat} (hu : ∀ j, u j ≤ j) : ∀ f k, k ≤ f → u (rt u f k) = rt u f k
 | 0, k, h => by
  have := hu k
  show u k = k
  omega
 | f + 1, k, h => by
  unfold rt
  split
  ·assumption
  ·exact Um hu f _ (by have := hu k; omega)
theorem OG {u : Nat → Nat} (hu : ∀ j, u j ≤ j) : ∀ f f' k, k ≤ f → k ≤ f' → rt u f k = rt u f' k
 | 0, 0, k, h, h' => rfl
 | 0, f' + 1, k, h, h' => by
  unfold rt
  have := hu k
  rw [if_pos (by omega)]
 | f + 1, 0, k, h, h' => by
  unfold rt
  have := hu k
  rw [if_pos (by omega)]
 | f + 1, f' + 1, k, h, h' => by
  unfold rt
  split
  ·rfl
  ·exact OG hu f f' _ (by have := hu k; omega) (by have := hu k; omega)
theorem sH {u : Nat → Nat} (hu : ∀ j, u j ≤ j) (k : Nat) : root u k ≤ k := YA hu k k
theorem pI {u : Nat → Nat} (hu : ∀ j, u j ≤ j) (k : Nat) : u (root u k) = root u k := Um hu k k (Nat.le_refl _)
theorem kZ {u : Nat → Nat} {k : Nat} (h : u k = k) : root u k = k := by
 unfold root
 cases k with
 | zero => rfl
 | succ k => unfold rt; rw [if_pos h]
theorem vP {u : Nat → Nat} (hu : ∀ j, u j ≤ j) (k : Nat) : root u (u k) = root u k := by
 by_cases h : u k = k
 ·rw [h]
 ·have hk := hu k
  unfold root
  cases k with
  | zero => omega
  | succ k =>
   show rt u (u (k + 1)) (u (k + 1)) = rt u (k + 1) (k + 1)
   conv => rhs; unfold rt
   rw [if_neg h]
   exact OG hu _ _ _ (Nat.le_refl _) (by omega)
/-- the sets of two are joined -/
def jn (u : Nat → Nat) (x y : Nat) : Nat → Nat := fun j => if j = max (root u x) (root u y) then min (root u x) (root u y) else u j
theorem YB {u : Nat → Nat} (hu : ∀ j, u j ≤ j) (x y : Nat) : ∀ j, jn u x y j ≤ j := by
 intro j
 unfold jn
 split
 ·subst_vars; omega
 ·exact hu j
theorem Xo {u : Nat → Nat} (hu : ∀ j, u j ≤ j) (x y : Nat) : ∀ k, root (jn u x y) k = if root u k = max (root u x) (root u y) then min (root u x) (root u y) else root u k := by
 have hx := pI hu x
 have hy := pI hu y
 have hj := YB hu x y
 have hmin : jn u x y (min (root u x) (root u y)) = min (root u x) (root u y) := by
  unfold jn
  split
  ·rfl
  ·rcases Nat.le_total (root u x) (root u y) with h | h
   ·rw [Nat.min_eq_left h]; exact hx
   ·rw [Nat.min_eq_right h]; exact hy
 have adE : root u (max (root u x) (root u y)) = max (root u x) (root u y) := by
  rcases Nat.le_total (root u x) (root u y) with h | h
  ·rw [Nat.max_eq_right h]; exact kZ hy
  ·rw [Nat.max_eq_left h]; exact kZ hx
 intro k
 induction k using Nat.strongRecOn with
 | ind k ih =>
  by_cases hk : k = max (root u x) (root u y)
  ·have e1 : jn u x y k = min (root u x) (root u y) := by unfold jn; rw [if_pos hk]
   rw [← vP hj k, e1, kZ hmin]
   rw [if_pos (by rw [hk]; exact adE)]
  ·have e1 : jn u x y k = u k := by unfold jn; rw [if_neg hk]
   by_cases hf : u k = k
   ·rw [kZ (by rw [e1]; exact hf), kZ hf, if_neg hk]
   ·rw [← vP hj k, e1, ih (u k) (by have := hu k; omega), vP hu]
/-- joined one behind the other -/
def Ul {α : Type} (A : α → Nat) (l : List (α × α)) : Nat → Nat := l.foldl (fun u p => jn u (A p.1) (A p.2)) id
theorem vM {α : Type} (A : α → Nat) (l : List (α × α)) (p : α × α) : Ul A (l ++ [p]) = jn (Ul A l) (A p.1) (A p.2) := by
 unfold Ul; rw [List.foldl_append]; rfl
theorem AX {α : Type} (A : α → Nat) : ∀ (l : List (α × α)) j, Ul A l j ≤ j := by
 have key : ∀ (l : List (α × α)) (u : Nat → Nat), (∀ j, u j ≤ j) → ∀ j, l.foldl (fun u p => jn u (A p.1) (A p.2)) u j ≤ j := by
  intro l
  induction l with
  | nil => intro u hu j; exact hu j
  | cons p l ih => intro u hu j; exact ih _ (YB hu _ _) j
 exact fun l j => key l id (fun j => Nat.le_refl _) j
/-- the class of a node -/
def cls {α : Type} (A : α → Nat) (l : List (α × α)) (a : α) : Nat := root (Ul A l) (A a)
theorem Kr {α : Type} (A : α → Nat) (l : List (α × α)) (p : α × α) (a : α) : cls A (l ++ [p]) a = if cls A l a = max (cls A l p.1) (cls A l p.2) then min (cls A l p.1) (cls A l p.2) else cls A l a := by
 unfold cls; rw [vM, Xo (AX A l)]
theorem uP {α : Type} (A : α → Nat) (l : List (α × α)) (p : α × α) (a b : α) : cls A (l ++ [p]) a = cls A (l ++ [p]) b ↔ cls A l a = cls A l b ∨ ((cls A l a = cls A l p.1 ∨ cls A l a = cls A l p.2) ∧ (cls A l b = cls A l p.1 ∨ cls A l b = cls A l p.2)) := by
 rw [Kr, Kr]
 generalize cls A l a = x
 generalize cls A l b = y
 generalize cls A l p.1 = c
 generalize cls A l p.2 = d
 rcases Nat.le_total c d with h | h
 ·rw [Nat.max_eq_right h, Nat.min_eq_left h]
  split <;> split <;> omega
 ·rw [Nat.max_eq_left h, Nat.min_eq_right h]
  split <;> split <;> omega
/-- is one of them in a set already that it joins? -/
def shut {α : Type} (A : α → Nat) (l : List (α × α)) : Prop := ∃ i p, l[i]? = some p ∧ cls A (l.take i) p.1 = cls A (l.take i) p.2
section
variable {α : Type}
/-- edge i of the forest, and its ends -/
abbrev Ed (α : Type) := List (α × α)
/-- from a by edge i one comes to b -/
def wF (T : Ed α) (i : Nat) (a b : α) : Prop := ∃ p, T[i]? = some p ∧ ((a = p.1 ∧ b = p.2) ∨ (a = p.2 ∧ b = p.1))
/-- a way: the edges that are taken, from a to b, none twice at once -/
inductive Way (T : Ed α) : α → List Nat → α → Prop where
 | nil (a : α) : Way T a [] a
 | cons {a b c : α} {i : Nat} {l : List Nat} : wF T i a b → Way T b l c → (∀ j, l.head? = some j → j ≠ i) → Way T a (i :: l) c
variable {T : Ed α}
theorem wF.symm {i : Nat} {a b : α} (h : wF T i a b) : wF T i b a := by
 obtain ⟨p, h1, h2⟩ := h
 exact ⟨p, h1, h2.elim (fun h => .inr ⟨h.2, h.1⟩) (fun h => .inl ⟨h.2, h.1⟩)⟩
theorem Way.split : ∀ {l l' : List Nat} {a c : α}, Way T a (l ++ l') c → ∃ b, Way T a l b ∧ Way T b l' c
 | [], l', a, c, h => ⟨a, .nil a, h⟩
 | i :: l, l', a, c, h => by
  cases h with
  | cons h1 h2 h3 =>
   obtain ⟨b, k1, k2⟩ := Way.split h2
   refine ⟨b, .cons h1 k1 fun j hj => h3 j ?_, k2⟩
   cases l with
   | nil => simp at hj
   | cons x l => simpa using hj
/-- classes by the edges below M are the same along a way of such edges -/
theorem Way.cls {cl : α → Nat} {M : Nat} (h1 : ∀ i a b, i < M → wF T i a b → cl a = cl b) : ∀ {l : List Nat} {a c : α}, Way T a l c → (∀ i ∈ l, i < M) → cl a = cl c
 | [], a, c, h, _ => by cases h; rfl
 | i :: l, a, c, h, hl => by
  cases h with
  | cons k1 k2 k3 => exact (h1 _ _ _ (hl i (by simp)) k1).trans (Way.cls h1 k2 fun j hj => hl j (by simp [hj]))
/-- a forest: by classes at each stage -/
structure iq (T : Ed α) (cl : Nat → α → Nat) : Prop where
 same : ∀ M i a b, i < M → wF T i a b → cl M a = cl M b
 diff : ∀ M p, T[M]? = some p → cl M p.1 ≠ cl M p.2
theorem iq.ne {cl : Nat → α → Nat} (F : iq T cl) {M : Nat} {a b : α} (h : wF T M a b) : cl M a ≠ cl M b := by
 obtain ⟨p, h1, h2⟩ := h
 rcases h2 with ⟨rfl, rfl⟩ | ⟨rfl, rfl⟩
 ·exact F.diff M p h1
 ·exact Ne.symm (F.diff M p h1)
theorem zf {M : Nat} : ∀ {l : List Nat}, M ∈ l → ∃ l1 l2, l = l1 ++ M :: l2 ∧ M ∉ l1
 | x :: l, h => by
  by_cases e : x = M
  ·exact ⟨[], l, by rw [e]; rfl, by simp⟩
  ·have h' : M ∈ l := by simpa [Ne.symm e] using h
   obtain ⟨l1, l2, rfl, h2⟩ := zf h'
   exact ⟨x :: l1, l2, rfl, by simp [h2, Ne.symm e]⟩
/-- no way leads back -/
theorem iq.zh {cl : Nat → α → Nat} (F : iq T cl) : ∀ (M : Nat) {l : List Nat} {a : α}, (∀ i ∈ l, i < M) → Way T a l a → l = []
 | 0, l, a, hl, h => by
  cases l with
  | nil => rfl
  | cons i l => exact absurd (hl i (by simp)) (by omega)
 | M + 1, l, a, hl, h => by
  by_cases hM : M ∈ l
  ·exfalso
   obtain ⟨l1, l2, rfl, h1⟩ := zf hM
   obtain ⟨b, w1, w2⟩ := h.split
   have hl1 : ∀ i ∈ l1, i < M := fun i hi => by
    have := hl i (by simp [hi])
    have : i ≠ M := fun e => h1 (e ▸ hi)
    omega
   cases w2 with
   | cons g1 w3 nb =>
    rename_i c
    -- w3 : Way c l2 a
    by_cases h2 : M ∈ l2
    ·obtain ⟨l3, l4, rfl, h3⟩ := zf h2
     obtain ⟨d, w4, w5⟩ := w3.split
     have hl3 : ∀ i ∈ l3, i < M := fun i hi => by
      have := hl i (by simp [hi])
      have : i ≠ M := fun e => h3 (e ▸ hi)
      omega
     have hc : cl M c = cl M d := w4.cls (F.same M) hl3
     cases w5 with
     | cons g2 w6 nb2 =>
      rename_i e
      have e0 : l3 ≠ [] := fun e0 => by subst e0; exact nb M (by simp) rfl
      obtain ⟨p, q1, q2⟩ := g1
      obtain ⟨p', r1, r2⟩ := g2
      rw [q1] at r1
      cases r1
      have dne := F.diff M p q1
      have hcd : c = d := by
       rcases q2 with ⟨rfl, rfl⟩ | ⟨rfl, rfl⟩ <;> rcases r2 with ⟨rfl, rfl⟩ | ⟨rfl, rfl⟩
       ·exact absurd hc.symm dne
       ·rfl
       ·rfl
       ·exact absurd hc dne
      subst hcd
      exact e0 (iq.zh F M hl3 w4)
    ·have hl2 : ∀ i ∈ l2, i < M := fun i hi => by
      have := hl i (by simp [hi])
      have : i ≠ M := fun e => h2 (e ▸ hi)
      omega
     have e1 : cl M a = cl M b := w1.cls (F.same M) hl1
     have e2 : cl M c = cl M a := w3.cls (F.same M) hl2
     exact F.ne g1 (e1.symm.trans e2.symm)
  ·refine iq.zh F M (fun i hi => ?_) h
   have := hl i hi
   have : i ≠ M := fun e => hM (e ▸ hi)
   omega
theorem Way.lt : ∀ {l : List Nat} {a c : α}, Way T a l c → ∀ i ∈ l, i < T.length
 | [], a, c, _, i, hi => by cases hi
 | x :: l, a, c, h, i, hi => by
  cases h with
  | cons h1 h2 h3 =>
   rcases List.mem_cons.1 hi with rfl | hi
   ·obtain ⟨p, q, _⟩ := h1; exact (List.getElem?_eq_some_iff.1 q).1
   ·exact h2.lt i hi
/-- no edge is taken twice -/
theorem iq.nodup {cl : Nat → α → Nat} (F : iq T cl) : ∀ {l : List Nat} {a c : α}, Way T a l c → l.Nodup
 | [], a, c, _ => List.nodup_nil
 | i :: l, a, c, h => by
  cases h with
  | cons g1 w nb =>
   rename_i b
   refine List.nodup_cons.2 ⟨fun hi => ?_, iq.nodup F w⟩
   obtain ⟨l1, l2, rfl, h1⟩ := zf hi
   obtain ⟨d, w1, w2⟩ := w.split
   have e0 : l1 ≠ [] := fun e0 => by subst e0; exact nb i (by simp) rfl
   cases w2 with
   | cons g2 w3 nb2 =>
    obtain ⟨p, q1, q2⟩ := g1
    obtain ⟨p', r1, r2⟩ := g2
    rw [q1] at r1
    cases r1
    -- either the way between leads from b to b, or with edge i ahead from a to a
    have abg : b = d ∨ a = d := by
     rcases q2 with ⟨rfl, rfl⟩ | ⟨rfl, rfl⟩ <;> rcases r2 with ⟨rfl, _⟩ | ⟨rfl, _⟩
     ·exact .inr rfl
     ·exact .inl rfl
     ·exact .inl rfl
     ·exact .inr rfl
    rcases abg with rfl | rfl
    ·exact e0 (F.zh T.length (fun j hj => w1.lt j hj) w1)
    ·have w' : Way T a (i :: l1) a := .cons ⟨p, q1, q2⟩ w1 fun j hj => nb j (by cases l1 with | nil => simp at hj | cons x l1 => simpa using hj)
     have := F.zh T.length (fun j hj => w'.lt j hj) w'
     cases this
theorem zi {n : Nat} : ∀ {l : List Nat}, l.Nodup → l.length ≤ (l.filter (fun x => !Nat.beq x n)).length + 1
 | [], _ => by simp
 | x :: l, hn => by
  obtain ⟨k1, k2⟩ := List.nodup_cons.1 hn
  cases e : Nat.beq x n with
  | true =>
   have e' := Nat.eq_of_beq_eq_true e
   have : l.filter (fun y => !Nat.beq y n) = l := List.filter_eq_self.2 fun a ha => by
    cases q : Nat.beq a n with
    | false => rfl
    | true => exact absurd (by rw [e', ← Nat.eq_of_beq_eq_true q]; exact ha) k1
   rw [List.filter_cons, e, this]
   exact Nat.le_refl _
  | false =>
   have := zi (n := n) k2
   rw [List.filter_cons, e]
   simp only [Bool.not_false, if_true, List.length_cons]
   omega
theorem zk : ∀ {n : Nat} {l : List Nat}, l.Nodup → (∀ i ∈ l, i < n) → l.length ≤ n
 | 0, l, _, h => by
  cases l with
  | nil => simp
  | cons i l => exact absurd (h i (by simp)) (by omega)
 | n + 1, l, hn, h => by
  have h1 : (l.filter (fun x => !Nat.beq x n)).length ≤ n := zk (hn.filter _) fun i hi => by
   have := List.mem_filter.1 hi
   have h2 := h i this.1
   have h3 : Nat.beq i n = false := by simpa using this.2
   have := Nat.ne_of_beq_eq_false h3
   omega
  have h2 := zi (n := n) hn
  omega
theorem iq.short {cl : Nat → α → Nat} (F : iq T cl) {l : List Nat} {a c : α} (h : Way T a l c) : l.length ≤ T.length := zk (F.nodup h) (fun i hi => h.lt i hi)
end
theorem JV {α : Type} (A : α → Nat) (l : List (α × α)) (p : α × α) {a b : α} (h : cls A l a = cls A l b) : cls A (l ++ [p]) a = cls A (l ++ [p]) b := (uP A l p a b).2 (.inl h)
theorem JU {α : Type} (A : α → Nat) (l : List (α × α)) (p : α × α) : cls A (l ++ [p]) p.1 = cls A (l ++ [p]) p.2 := (uP A l p _ _).2 (.inr ⟨.inl rfl, .inr rfl⟩)
theorem Kt {α : Type} (A : α → Nat) (T : List (α × α)) {a b : α} : ∀ (M : Nat) {m : Nat}, m ≤ M → cls A (T.take m) a = cls A (T.take m) b → cls A (T.take M) a = cls A (T.take M) b
 | 0, m, h, k => by rw [show m = 0 by omega] at k; exact k
 | M + 1, m, h, k => by
  by_cases e : m = M + 1
  ·rw [← e]; exact k
  ·have ih := Kt A T M (m := m) (by omega) k
   cases q : T[M]? with
   | none =>
    have hl := List.getElem?_eq_none_iff.1 q
    rw [List.take_of_length_le (by omega)]
    rw [List.take_of_length_le hl] at ih
    exact ih
   | some p =>
    rw [List.take_add_one, q]
    exact JV A _ p ih
theorem Qr {α : Type} (A : α → Nat) (T : List (α × α)) (h : ∀ i p, T[i]? = some p → cls A (T.take i) p.1 ≠ cls A (T.take i) p.2) : iq T (fun M => cls A (T.take M)) where
 same := fun M i a b hi hg => by
  obtain ⟨p, h1, h2⟩ := hg
  have e : cls A (T.take (i + 1)) p.1 = cls A (T.take (i + 1)) p.2 := by
   rw [List.take_add_one, h1]
   exact JU A _ p
  have e' := Kt A T M (m := i + 1) (by omega) e
  rcases h2 with ⟨rfl, rfl⟩ | ⟨rfl, rfl⟩
  ·exact e'
  ·exact e'.symm
 diff := h
theorem Way.snoc {α : Type} {T : Ed α} : ∀ {l : List Nat} {a b c : α} {i : Nat}, Way T a l b → wF T i b c → l.getLast? ≠ some i → Way T a (l ++ [i]) c
 | [], a, b, c, i, h, g, _ => by
  cases h
  exact .cons g (.nil _) fun j hj => by simp at hj
 | x :: l, a, b, c, i, h, g, hn => by
  cases h with
  | cons g1 w nb =>
   refine .cons g1 (w.snoc g fun e => hn ?_) fun j hj => ?_
   ·cases l with
    | nil => simp at e
    | cons y l => rw [List.getLast?_cons_cons]; exact e
   ·cases l with
    | nil =>
     simp at hj
     subst hj
     intro e
     subst e
     exact hn (by simp)
    | cons y l => exact nb j (by simpa using hj)


def Ku (E : tE) (k : Nat) : List (Tx × Tx) := (List.range k).map fun j => ((E j).a, (E j).b)
theorem Hz (E : tE) (k : Nat) : (Ku E k).length = k := by simp [Ku]
theorem OH (E : tE) {k j : Nat} (h : j < k) : (Ku E k)[j]? = some ((E j).a, (E j).b) := by simp [Ku, h]
/-- the edge by which one came -/
def uQ (l : List Nat) : Int := match l.getLast? with
 | some j => (j : Int)
 | none => -1
theorem Qs (l : List Nat) (i : Nat) : uQ (l ++ [i]) = (i : Int) := by simp [uQ]
theorem Xp {l : List Nat} {i : Nat} (h : (i : Int) ≠ uQ l) : l.getLast? ≠ some i := fun e => h (by simp [uQ, e])
/-- the other end -/
def vU (E : tE) (i : Nat) (x : Tx) : Tx := bif (E i).a == x then (E i).b else (E i).a
/-- an edge that is passed over -/
def Ee (E : tE) (i : Nat) (x : Tx) (cm : Int) : Bool := decide ((i : Int) = cm) || !((E i).a == x || (E i).b == x)
def Bv (E : tE) (k : Nat) (rec : List Tx → Tx → Int → Bool × List Tx) (ps : List Tx) (x : Tx) (cm : Int) : Nat → Bool × List Tx
 | 0 => (false, ps)
 | r + 1 => bif Ee E (k - (r + 1)) x cm then Bv E k rec ps x cm r else
  bif (rec (ps ++ [(E (k - (r + 1))).n]) (vU E (k - (r + 1)) x) ((k - (r + 1) : Nat) : Int)).1 then rec (ps ++ [(E (k - (r + 1))).n]) (vU E (k - (r + 1)) x) ((k - (r + 1) : Nat) : Int) else Bv E k rec ps x cm r
/-- what a walk finds: the names on its way -/
def nZ (E : tE) (k : Nat) (y : Tx) : Nat → List Tx → Tx → Int → Bool × List Tx
 | 0, ps, _, _ => (false, ps)
 | d + 1, ps, x, cm => bif x == y then (true, ps) else Bv E k (nZ E k y d) ps x cm k
theorem zX {E : tE} {k : Nat} {rec : List Tx → Tx → Int → Bool × List Tx} {ps : List Tx} {x : Tx} {cm : Int} : ∀ r, (Bv E k rec ps x cm r).1 = false → (Bv E k rec ps x cm r).2 = ps
 | 0, _ => rfl
 | r + 1, h => by
  unfold Bv at h ⊢
  cases s : Ee E (k - (r + 1)) x cm with
  | true => rw [s, cond_true] at h; rw [cond_true]; exact zX r h
  | false =>
   rw [s, cond_false] at h
   rw [cond_false]
   cases q : (rec (ps ++ [(E (k - (r + 1))).n]) (vU E (k - (r + 1)) x) ((k - (r + 1) : Nat) : Int)).1 with
   | true => rw [q, cond_true] at h; rw [q] at h; cases h
   | false => rw [q, cond_false] at h; rw [cond_false]; exact zX r h
theorem Qu {E : tE} {k : Nat} {y : Tx} : ∀ {d : Nat} {ps : List Tx} {x : Tx} {cm : Int}, (nZ E k y d ps x cm).1 = false → (nZ E k y d ps x cm).2 = ps
 | 0, _, _, _, _ => rfl
 | d + 1, ps, x, cm, h => by
  unfold nZ at h ⊢
  cases q : x == y with
  | true => rw [q, cond_true] at h; cases h
  | false => rw [q, cond_false] at h; rw [cond_false]; exact zX _ h
theorem HY {E : tE} {k : Nat} {rec : List Tx → Tx → Int → Bool × List Tx} {ps : List Tx} {x : Tx} {cm : Int} {d : Nat} (hr : ∀ ps x cm, (rec ps x cm).2.length ≤ ps.length + d) : ∀ r, (Bv E k rec ps x cm r).2.length ≤ ps.length + (d + 1)
 | 0 => by show ps.length ≤ _; omega
 | r + 1 => by
  unfold Bv
  cases Ee E (k - (r + 1)) x cm with
  | true => rw [cond_true]; exact HY hr r
  | false =>
   rw [cond_false]
   cases q : (rec (ps ++ [(E (k - (r + 1))).n]) (vU E (k - (r + 1)) x) ((k - (r + 1) : Nat) : Int)).1 with
   | true =>
    rw [cond_true]
    have := hr (ps ++ [(E (k - (r + 1))).n]) (vU E (k - (r + 1)) x) ((k - (r + 1) : Nat) : Int)
    simp only [List.length_append, List.length_cons, List.length_nil] at this
    omega
   | false => rw [cond_false]; exact HY hr r
theorem OI (E : tE) (k : Nat) (y : Tx) : ∀ (d : Nat) (ps : List Tx) (x : Tx) (cm : Int), (nZ E k y d ps x cm).2.length ≤ ps.length + d
 | 0, ps, x, cm => Nat.le_refl _
 | d + 1, ps, x, cm => by
  unfold nZ
  cases x == y with
  | true => show ps.length ≤ _; omega
  | false => rw [cond_false]; exact HY (fun ps x cm => OI E k y d ps x cm) k
/-- what a walk gives -/
def QZ (k : Nat) (q : Bool × List Tx) (y : Tx) (E : tE) : Po := fun e fr' H' => e = .ret ∧ ∃ (m' : Nat) (f' : tX), fr'.get 8 = some (.bool q.1) ∧ H' = hpL [(0, .cells false 8 k (.fn fun j => aP (E j))), (1, .cells true 1 1 (.fn fun _ => [.slc true false ⟨false, 0, 0, 0⟩ k])), (2, .cells true 1 1 (.fn fun _ => [.str true y])), (3, .cells true 1 1 (.fn fun _ => [sL 5 q.2.length])), (4, .cells true 1 1 (.fn fun _ => [.fn (.func 67) [] [.ptr ⟨false, 2, 0, 0⟩, .ptr ⟨false, 1, 0, 0⟩, .ptr ⟨false, 3, 0, 0⟩, .ptr ⟨false, 4, 0, 0⟩]])), (5, .cells true 1 m' (.fn (aU f')))] ∧ (∀ j, j < q.2.length → f' j = q.2.getD j []) ∧ q.2.length ≤ m'
/-- the path of these names -/
def FP (ps : List Tx) (m : Nat) (f : tX) : Prop := ps.length ≤ m ∧ ∀ j, j < ps.length → f j = ps.getD j []
/-- behind a round: it goes on, or it was found -/
def RPo (k i : Nat) (ps : List Tx) (q : Bool × List Tx) (x y : Tx) (cm : Int) (E : tE) : Po := fun e fr' H' => (e = .normal ∧ q.1 = false ∧ ∃ (m' : Nat) (f' : tX), FP ps m' f' ∧ fr' = aV [(0, .str true x), (1, iT cm), (2, .ptr ⟨false, 2, 0, 0⟩), (3, .ptr ⟨false, 1, 0, 0⟩), (4, .ptr ⟨false, 3, 0, 0⟩), (5, .ptr ⟨false, 4, 0, 0⟩), (15, .slc true false ⟨false, 0, 0, 0⟩ k), (16, iT (k : Int)), (17, iT (i : Int))] ∧ H' = hpL [(0, .cells false 8 k (.fn fun j => aP (E j))), (1, .cells true 1 1 (.fn fun _ => [.slc true false ⟨false, 0, 0, 0⟩ k])), (2, .cells true 1 1 (.fn fun _ => [.str true y])), (3, .cells true 1 1 (.fn fun _ => [sL 5 ps.length])), (4, .cells true 1 1 (.fn fun _ => [.fn (.func 67) [] [.ptr ⟨false, 2, 0, 0⟩, .ptr ⟨false, 1, 0, 0⟩, .ptr ⟨false, 3, 0, 0⟩, .ptr ⟨false, 4, 0, 0⟩]])), (5, .cells true 1 m' (.fn (aU f')))]) ∨ (q.1 = true ∧ QZ k q y E e fr' H')
noncomputable abbrev ZC5 := aT [1,1,0,1,0,0] (ak Try.f67)
theorem adF : (ak Try.f67) = .seq (aT [0] (ak Try.f67)) (.seq (aT [1,0] (ak Try.f67)) (.seq (.seq (aT [1,1,0,0] (ak Try.f67)) (.block 0 (.loop ZC5))) (aT [1,1,1] (ak Try.f67)))) := by kernel_rfl
noncomputable abbrev ZCC := aT [1,1,0,1,0,0,1,1,0,0] (ak Try.f67)
theorem Xq : ZC5 = .seq (aT [1,1,0,1,0,0,0] (ak Try.f67)) (.seq (aT [1,1,0,1,0,0,1,0] (ak Try.f67)) (.seq (.block 1 ZCC) (aT [1,1,0,1,0,0,1,1,1] (ak Try.f67)))) := by kernel_rfl
theorem abh : ZCC = .seq (aT [1,1,0,1,0,0,1,1,0,0,0] (ak Try.f67)) (.seq (aT [1,1,0,1,0,0,1,1,0,0,1,0] (ak Try.f67)) (.seq (aT [1,1,0,1,0,0,1,1,0,0,1,1,0] (ak Try.f67)) (.seq (aT [1,1,0,1,0,0,1,1,0,0,1,1,1,0] (ak Try.f67)) (.seq ZDB (.seq (.seq ZBW ZCF) ZCH))))) := by kernel_rfl
noncomputable def opW : Oper := ((jS ZBW).drop 3).headD ⟨none, .move (.tmp 0), 0, "", #[], none⟩
def clW : Call := ⟨.value (.tmp 50), #[.tmp 51, .tmp 52], #[9, 3]⟩
theorem wG {g sz : Nat} {own : Bool} {d : List AV} {t : T (List AV)} {H : T aF} {rows' : Nat → List AV} (h : H.get g = some (.cells own sz 1 (.lit d t))) (e : (Cont.lit d t).row 0 = rows' 0) : ∃ b', H.get g = some b' ∧ dD b' (.cells own sz 1 (.fn rows')) :=
 ⟨_, h, rfl, rfl, rfl, fun j hj => by
  obtain rfl : j = 0 := by omega
  exact e⟩
noncomputable abbrev ZX (v0 : Tx) := (.cells true 1 1 (.fn fun _ => [.str true v0]) : aF)
noncomputable abbrev Xr (v0 v1) := (.cells true 1 v0 (.fn (aU v1)) : aF)
noncomputable abbrev ZDK (v0 : Bool × List Tx) := (.cells true 1 1 (.fn fun _ => [sL 5 v0.2.length]) : aF)
noncomputable abbrev Vo (v0 : Tx) (v1 : Int) (v2 v3 : Nat) := ([(0, .str true v0), (1, iT v1), (2, ZA 2), (3, ZA 1), (4, ZA 3), (5, ZA 4), (15, ZE v2), (16, iT (v2 : Int)), (17, iT (v3 : Int))] : jU)
noncomputable abbrev ZEn (v0 : Tx) (v1 : Int) (v2 v3 : Nat) (v4 : Tx) := aV [(0, .str true v0), (1, iT v1), (2, ZA 2), (3, ZA 1), (4, ZA 3), (5, ZA 4), (15, ZE v2), (16, iT (v2 : Int)), (17, iT (v3 : Int)), (9, iT (v3 : Int)), (11, .str true v4)]
end Go.Proofs.Ytgjdeclenlgaeaa
