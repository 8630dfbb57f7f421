/- SourceRights: a part: summaries of functions that the statement reaches, printed by program, checked by the kernel. -/
import Derived.ProofKit
import Derived.OpenShut
import Derived.KernelRfl
import Derived.SizedLaws
import Derived.Test.YtdagokpedjfepaaProg
import Derived.Test.YtdagokpedjfepaaSm3
namespace Go.Proofs.Ytdagokpedjfepaa
open Go.ChangeShapes Go.WideShapes Go.ChangeAt Go.RowKit Go.Sx
set_option linter.unusedVariables false
set_option linter.unusedSimpArgs false
set_option maxRecDepth 100000

abbrev tP := Nat → Nat × Nat
abbrev tF := List (Nat × AV)
abbrev tH := List (Nat × aF)
theorem dJ {fr : Fr} : ∀ {F : tF}, F.map (fun p => fr.get p.1) = F.map (fun p => some p.2) → Ge fr F
 | [], _ => trivial
 | p :: l, h => by
  simp only [List.map_cons, List.cons.injEq] at h
  exact ⟨re h.1, dJ h.2⟩
theorem fG {H : T aF} : ∀ {F : tH}, F.map (fun p => H.get p.1) = F.map (fun p => some p.2) → Vd H F
 | [], _ => trivial
 | p :: l, h => by
  simp only [List.map_cons, List.cons.injEq] at h
  exact ⟨hs h.1, fG h.2⟩
theorem vk {K : Nat} {σ : Nat → Nat} {fr : Fr} : ∀ {F : tF}, F.map (fun p => (fr.get p.1, p.2.low K)) = F.map (fun p => (some (p.2.ren σ), true)) → Ah K σ fr F
 | [], _ => trivial
 | p :: l, h => by
  simp only [List.map_cons, List.cons.injEq, Prod.mk.injEq] at h
  exact ⟨⟨_, h.1.1, AV.ge.refl _, h.1.2⟩, vk h.2⟩
abbrev pP (x : Ex) (F : tF) (Hl : tH) : Po := fun e fr' H' => e = x ∧ fr' = aQ F ∧ H' = hpL Hl
theorem eN {K' : Nat} {e : Ex} {fl : tF} {bl : tH} {r : BU (Ex × Fr)} {q : Prop} (hq : q) (h : jP K' e fl bl r = (e = e ∧ uh fl ∧ uj bl ∧ true = true ∧ q) := by kernel_rfl) : bV K' e fl bl r := eqn h hq
theorem cI {P : Program} {c : Code} {n B K K' : Nat} {fr : Fr} {H : T aF} {p : Bool} {X Y : Po} (h1 : p = true → aj P c n B K K' fr H X) (h2 : p = false → aj P c n B K K' fr H Y) : aj P c n B K K' fr H fun e fr' H' => cond p (X e fr' H') (Y e fr' H') := by
 cases p
 ·exact h2 rfl
 ·exact h1 rfl
theorem cD {P : Program} {c : Code} {n B K K' : Nat} {fr : Fr} {H : T aF} {p : Prop} {i : Decidable p} {X Y : Po} (h1 : p → decide p = true → aj P c n B K K' fr H X) (h2 : ¬p → decide p = false → aj P c n B K K' fr H Y) : aj P c n B K K' fr H fun e fr' H' => cond (decide p) (X e fr' H') (Y e fr' H') :=
 cI (fun t => h1 (of_decide_eq_true t) t) (fun t => h2 (of_decide_eq_false t) t)
abbrev sL (g n : Nat) : AV := .slc true true ⟨false, g, 0, 0⟩ n
abbrev sF (g n : Nat) : AV := .slc false false ⟨false, g, 0, 0⟩ n
abbrev iT (x : Int) : AV := .int true .i64 x
abbrev cK (o : Bool) (n : Nat) (p q : Nat → Nat) : aF := .cells o 1 n (.fn fun j => [.dD true (p j) (q j)])
theorem dT {p : Prop} {i : Decidable p} : (decide p = true) = p := decide_eq_true_eq
theorem dF {p : Prop} {i : Decidable p} : decide p = false ↔ ¬p := decide_eq_false_iff_not
theorem nt {a : Bool} (h : a = true) : (!a) = false := by rw [h]; rfl
theorem nf {a : Bool} (h : a = false) : (!a) = true := by rw [h]; rfl
abbrev tT : Bool := true
abbrev fF : Bool := false
def er0 : AV → AV
 | .bool b => .aP b
 | .int _ k n => .int true k n
 | .flt _ x => .flt true x
 | .raw _ x => .raw true x
 | .dD _ x y => .dD true x y
 | .str _ l => .str true l
 | v => v
def er1 : AV → AV
 | .agg l => .agg (l.map er0)
 | v => er0 v
def er2 : AV → AV
 | .iD l => .iD (l.map er1)
 | v => er1 v
theorem QG {N : Nat} {μ : MM} {v : AV} {c : Value} (h : Rep N μ v c) : Rep N μ (er0 v) c := by
 cases v <;> first | exact h | (simp only [er0, Rep] at h ⊢; exact h)
theorem Jt {N : Nat} {μ : MM} {f : AV → AV} (hf : ∀ {v c}, Rep N μ v c → Rep N μ (f v) c) : ∀ {l : List AV} {cs : List Value}, aI N μ l cs → aI N μ (l.map f) cs
 | [], cs, h => by simpa only [List.map_nil, aI] using h
 | v :: l, cs, h => by
  simp only [aI] at h
  obtain ⟨c, r, rfl, h1, h2⟩ := h
  simp only [List.map_cons, aI]
  exact ⟨c, r, rfl, hf h1, Jt hf h2⟩
theorem QI {N : Nat} {μ : MM} {v : AV} {c : Value} (h : Rep N μ v c) : Rep N μ (er1 v) c := by
 cases v with
 | agg l =>
  simp only [er1, Rep] at h ⊢
  obtain ⟨cs, rfl, h1⟩ := h
  exact ⟨cs, rfl, Jt QG h1⟩
 | _ => exact QG h
theorem YT {N : Nat} {μ : MM} {v : AV} {c : Value} (h : Rep N μ v c) : Rep N μ (er2 v) c := by
 cases v with
 | iD l =>
  simp only [er2, Rep] at h ⊢
  obtain ⟨cs, rfl, h1⟩ := h
  exact ⟨cs, rfl, Jt QI h1⟩
 | _ => exact QI h
def QJ (R : AV) : BU AV → Prop
 | .done v g => er2 v = R ∧ v.low 0 = true ∧ g.cs
 | _ => False
structure LY (R : AV) (r : BU AV) : Prop where
 of : QJ R r
theorem lE {R : AV} {r : BU AV} {q : Prop} (e : QJ R r = (R = R ∧ true = true ∧ q)) (h : q) : LY R r := ⟨by rw [e]; exact ⟨rfl, rfl, h⟩⟩
theorem lF {R : AV} {r : BU AV} {q : Prop} (h : q) (e : QJ R r = (R = R ∧ true = true ∧ q) := by kernel_rfl) : LY R r := lE e h
theorem agc {call : Calls'} {f : FuncId} {args a' : List AV} {v R : AV} {g : G} (T : ∃ p, LY R (call f a' (G.on p))) (ha : ∀ N μ l, aI N μ args l → aI 0 MM.none a' l) (hr : ∀ N μ c, Rep N μ R c → Rep N μ v c) : ∀ μ (bT : Array Value), aI g.nx μ args bT.toList → ∃ args' path lv, aI 0 MM.none args' bT.toList ∧ gX lv (call f args' (G.on path)) ∧ lv.low 0 = true ∧ ∀ c, (∀ N μ, Rep N μ lv c) → Rep g.nx μ v c := by
 intro μ bT h
 obtain ⟨p, hp⟩ := T
 have k := hp.of
 unfold QJ at k
 split at k
 ·rename_i v' g' e
  obtain ⟨k1, k2, k3⟩ := k
  exact ⟨a', p, v', ha _ _ _ h, ⟨by rw [e]; exact ⟨rfl, k3⟩⟩, k2, fun c hc => hr _ _ _ (by rw [← k1]; exact YT (hc g.nx μ))⟩
 ·exact k.elim
theorem LZ {call : Calls'} (hc : cO Try.prog call) {f : FuncId} {args a' : List AV} {v R : AV} {g : G} (T : ∃ p, LY R (call f a' (G.on p))) (ha : ∀ N μ l, aI N μ args l → aI 0 MM.none a' l) (hr : ∀ N μ c, Rep N μ R c → Rep N μ v c) : bf Try.prog f args v g g :=
 Ld hc (agc T ha hr)
theorem SY {call : Calls'} (hc : cO Try.prog call) {f : FuncId} {args a' : List AV} {v R : AV} {g g' : G} {p : Prop} (k : Keep g g' p) (T : p → ∃ p, LY R (call f a' (G.on p))) (ha : ∀ N μ l, aI N μ args l → aI 0 MM.none a' l) (hr : ∀ N μ c, Rep N μ R c → Rep N μ v c) : bf Try.prog f args v g g' :=
 abK hc k fun hp => agc (T hp) ha hr
theorem ai {p q : Prop} (h : p) (k : q) : p ∧ q := ⟨h, k⟩
theorem I1 {p0 : Prop} (h0 : p0) : True ∧ p0 := ⟨trivial, h0⟩
theorem I2 {p0 p1 : Prop} (h0 : p0) (h1 : p1) : (True ∧ p0) ∧ p1 := ⟨⟨trivial, h0⟩, h1⟩
theorem I3 {p0 p1 p2 : Prop} (h0 : p0) (h1 : p1) (h2 : p2) : ((True ∧ p0) ∧ p1) ∧ p2 := ⟨⟨⟨trivial, h0⟩, h1⟩, h2⟩
theorem I4 {p0 p1 p2 p3 : Prop} (h0 : p0) (h1 : p1) (h2 : p2) (h3 : p3) : (((True ∧ p0) ∧ p1) ∧ p2) ∧ p3 := ⟨⟨⟨⟨trivial, h0⟩, h1⟩, h2⟩, h3⟩
theorem I5 {p0 p1 p2 p3 p4 : Prop} (h0 : p0) (h1 : p1) (h2 : p2) (h3 : p3) (h4 : p4) : ((((True ∧ p0) ∧ p1) ∧ p2) ∧ p3) ∧ p4 := ⟨⟨⟨⟨⟨trivial, h0⟩, h1⟩, h2⟩, h3⟩, h4⟩
theorem I6 {p0 p1 p2 p3 p4 p5 : Prop} (h0 : p0) (h1 : p1) (h2 : p2) (h3 : p3) (h4 : p4) (h5 : p5) : (((((True ∧ p0) ∧ p1) ∧ p2) ∧ p3) ∧ p4) ∧ p5 := ⟨⟨⟨⟨⟨⟨trivial, h0⟩, h1⟩, h2⟩, h3⟩, h4⟩, h5⟩
theorem I7 {p0 p1 p2 p3 p4 p5 p6 : Prop} (h0 : p0) (h1 : p1) (h2 : p2) (h3 : p3) (h4 : p4) (h5 : p5) (h6 : p6) : ((((((True ∧ p0) ∧ p1) ∧ p2) ∧ p3) ∧ p4) ∧ p5) ∧ p6 := ⟨⟨⟨⟨⟨⟨⟨trivial, h0⟩, h1⟩, h2⟩, h3⟩, h4⟩, h5⟩, h6⟩
theorem I8 {p0 p1 p2 p3 p4 p5 p6 p7 : Prop} (h0 : p0) (h1 : p1) (h2 : p2) (h3 : p3) (h4 : p4) (h5 : p5) (h6 : p6) (h7 : p7) : (((((((True ∧ p0) ∧ p1) ∧ p2) ∧ p3) ∧ p4) ∧ p5) ∧ p6) ∧ p7 := ⟨⟨⟨⟨⟨⟨⟨⟨trivial, h0⟩, h1⟩, h2⟩, h3⟩, h4⟩, h5⟩, h6⟩, h7⟩
theorem I9 {p0 p1 p2 p3 p4 p5 p6 p7 p8 : Prop} (h0 : p0) (h1 : p1) (h2 : p2) (h3 : p3) (h4 : p4) (h5 : p5) (h6 : p6) (h7 : p7) (h8 : p8) : ((((((((True ∧ p0) ∧ p1) ∧ p2) ∧ p3) ∧ p4) ∧ p5) ∧ p6) ∧ p7) ∧ p8 := ⟨⟨⟨⟨⟨⟨⟨⟨⟨trivial, h0⟩, h1⟩, h2⟩, h3⟩, h4⟩, h5⟩, h6⟩, h7⟩, h8⟩
theorem I10 {p0 p1 p2 p3 p4 p5 p6 p7 p8 p9 : Prop} (h0 : p0) (h1 : p1) (h2 : p2) (h3 : p3) (h4 : p4) (h5 : p5) (h6 : p6) (h7 : p7) (h8 : p8) (h9 : p9) : (((((((((True ∧ p0) ∧ p1) ∧ p2) ∧ p3) ∧ p4) ∧ p5) ∧ p6) ∧ p7) ∧ p8) ∧ p9 := ⟨⟨⟨⟨⟨⟨⟨⟨⟨⟨trivial, h0⟩, h1⟩, h2⟩, h3⟩, h4⟩, h5⟩, h6⟩, h7⟩, h8⟩, h9⟩
theorem I11 {p0 p1 p2 p3 p4 p5 p6 p7 p8 p9 p10 : Prop} (h0 : p0) (h1 : p1) (h2 : p2) (h3 : p3) (h4 : p4) (h5 : p5) (h6 : p6) (h7 : p7) (h8 : p8) (h9 : p9) (h10 : p10) : ((((((((((True ∧ p0) ∧ p1) ∧ p2) ∧ p3) ∧ p4) ∧ p5) ∧ p6) ∧ p7) ∧ p8) ∧ p9) ∧ p10 := ⟨⟨⟨⟨⟨⟨⟨⟨⟨⟨⟨trivial, h0⟩, h1⟩, h2⟩, h3⟩, h4⟩, h5⟩, h6⟩, h7⟩, h8⟩, h9⟩, h10⟩
theorem I12 {p0 p1 p2 p3 p4 p5 p6 p7 p8 p9 p10 p11 : Prop} (h0 : p0) (h1 : p1) (h2 : p2) (h3 : p3) (h4 : p4) (h5 : p5) (h6 : p6) (h7 : p7) (h8 : p8) (h9 : p9) (h10 : p10) (h11 : p11) : (((((((((((True ∧ p0) ∧ p1) ∧ p2) ∧ p3) ∧ p4) ∧ p5) ∧ p6) ∧ p7) ∧ p8) ∧ p9) ∧ p10) ∧ p11 := ⟨⟨⟨⟨⟨⟨⟨⟨⟨⟨⟨⟨trivial, h0⟩, h1⟩, h2⟩, h3⟩, h4⟩, h5⟩, h6⟩, h7⟩, h8⟩, h9⟩, h10⟩, h11⟩
theorem I13 {p0 p1 p2 p3 p4 p5 p6 p7 p8 p9 p10 p11 p12 : Prop} (h0 : p0) (h1 : p1) (h2 : p2) (h3 : p3) (h4 : p4) (h5 : p5) (h6 : p6) (h7 : p7) (h8 : p8) (h9 : p9) (h10 : p10) (h11 : p11) (h12 : p12) : ((((((((((((True ∧ p0) ∧ p1) ∧ p2) ∧ p3) ∧ p4) ∧ p5) ∧ p6) ∧ p7) ∧ p8) ∧ p9) ∧ p10) ∧ p11) ∧ p12 := ⟨⟨⟨⟨⟨⟨⟨⟨⟨⟨⟨⟨⟨trivial, h0⟩, h1⟩, h2⟩, h3⟩, h4⟩, h5⟩, h6⟩, h7⟩, h8⟩, h9⟩, h10⟩, h11⟩, h12⟩
theorem OQ {p0 p1 p2 p3 p4 p5 p6 p7 p8 p9 p10 p11 p12 p13 : Prop} (h0 : p0) (h1 : p1) (h2 : p2) (h3 : p3) (h4 : p4) (h5 : p5) (h6 : p6) (h7 : p7) (h8 : p8) (h9 : p9) (h10 : p10) (h11 : p11) (h12 : p12) (h13 : p13) : (((((((((((((True ∧ p0) ∧ p1) ∧ p2) ∧ p3) ∧ p4) ∧ p5) ∧ p6) ∧ p7) ∧ p8) ∧ p9) ∧ p10) ∧ p11) ∧ p12) ∧ p13 := ⟨⟨⟨⟨⟨⟨⟨⟨⟨⟨⟨⟨⟨⟨trivial, h0⟩, h1⟩, h2⟩, h3⟩, h4⟩, h5⟩, h6⟩, h7⟩, h8⟩, h9⟩, h10⟩, h11⟩, h12⟩, h13⟩
theorem I15 {p0 p1 p2 p3 p4 p5 p6 p7 p8 p9 p10 p11 p12 p13 p14 : Prop} (h0 : p0) (h1 : p1) (h2 : p2) (h3 : p3) (h4 : p4) (h5 : p5) (h6 : p6) (h7 : p7) (h8 : p8) (h9 : p9) (h10 : p10) (h11 : p11) (h12 : p12) (h13 : p13) (h14 : p14) : ((((((((((((((True ∧ p0) ∧ p1) ∧ p2) ∧ p3) ∧ p4) ∧ p5) ∧ p6) ∧ p7) ∧ p8) ∧ p9) ∧ p10) ∧ p11) ∧ p12) ∧ p13) ∧ p14 := ⟨⟨⟨⟨⟨⟨⟨⟨⟨⟨⟨⟨⟨⟨⟨trivial, h0⟩, h1⟩, h2⟩, h3⟩, h4⟩, h5⟩, h6⟩, h7⟩, h8⟩, h9⟩, h10⟩, h11⟩, h12⟩, h13⟩, h14⟩
theorem I18 {p0 p1 p2 p3 p4 p5 p6 p7 p8 p9 p10 p11 p12 p13 p14 p15 p16 p17 : Prop} (h0 : p0) (h1 : p1) (h2 : p2) (h3 : p3) (h4 : p4) (h5 : p5) (h6 : p6) (h7 : p7) (h8 : p8) (h9 : p9) (h10 : p10) (h11 : p11) (h12 : p12) (h13 : p13) (h14 : p14) (h15 : p15) (h16 : p16) (h17 : p17) : (((((((((((((((((True ∧ p0) ∧ p1) ∧ p2) ∧ p3) ∧ p4) ∧ p5) ∧ p6) ∧ p7) ∧ p8) ∧ p9) ∧ p10) ∧ p11) ∧ p12) ∧ p13) ∧ p14) ∧ p15) ∧ p16) ∧ p17 := ⟨⟨⟨⟨⟨⟨⟨⟨⟨⟨⟨⟨⟨⟨⟨⟨⟨⟨trivial, h0⟩, h1⟩, h2⟩, h3⟩, h4⟩, h5⟩, h6⟩, h7⟩, h8⟩, h9⟩, h10⟩, h11⟩, h12⟩, h13⟩, h14⟩, h15⟩, h16⟩, h17⟩
theorem I23 {p0 p1 p2 p3 p4 p5 p6 p7 p8 p9 p10 p11 p12 p13 p14 p15 p16 p17 p18 p19 p20 p21 p22 : Prop} (h0 : p0) (h1 : p1) (h2 : p2) (h3 : p3) (h4 : p4) (h5 : p5) (h6 : p6) (h7 : p7) (h8 : p8) (h9 : p9) (h10 : p10) (h11 : p11) (h12 : p12) (h13 : p13) (h14 : p14) (h15 : p15) (h16 : p16) (h17 : p17) (h18 : p18) (h19 : p19) (h20 : p20) (h21 : p21) (h22 : p22) : ((((((((((((((((((((((True ∧ p0) ∧ p1) ∧ p2) ∧ p3) ∧ p4) ∧ p5) ∧ p6) ∧ p7) ∧ p8) ∧ p9) ∧ p10) ∧ p11) ∧ p12) ∧ p13) ∧ p14) ∧ p15) ∧ p16) ∧ p17) ∧ p18) ∧ p19) ∧ p20) ∧ p21) ∧ p22 := ⟨⟨⟨⟨⟨⟨⟨⟨⟨⟨⟨⟨⟨⟨⟨⟨⟨⟨⟨⟨⟨⟨⟨trivial, h0⟩, h1⟩, h2⟩, h3⟩, h4⟩, h5⟩, h6⟩, h7⟩, h8⟩, h9⟩, h10⟩, h11⟩, h12⟩, h13⟩, h14⟩, h15⟩, h16⟩, h17⟩, h18⟩, h19⟩, h20⟩, h21⟩, h22⟩
noncomputable def adv : Known := kc 36 ofBits (kc 62 toBits (kn))
theorem QK : eY Try.prog adv := aO ((jf Try.prog).iw Try.func36 (by kernel_rfl) (by kernel_rfl) (by kernel_rfl) (by kernel_rfl)) (aO ((je Try.prog).iw Try.func62 (by kernel_rfl) (by kernel_rfl) (by kernel_rfl) (by kernel_rfl)) (mJ))
theorem EK : gG adv := aG aC.ofBits (aG aC.toBits (jH))
noncomputable def lY : Calls' := Sx.runN Try.prog adv (bY Try.prog) 1000 50
theorem pW : cO Try.prog lY := gK QK EK (by kernel_rfl) (by kernel_rfl) 1000 50
theorem Am : iq lY := jO EK (fun _ _ _ h => by cases h) (fun call hc n l fr => gV hc n l fr) 50
theorem S9 (n : Nat) : gq Try.prog (bY Try.prog lY n) n := gQ QK EK (by kernel_rfl) (by kernel_rfl) 1000 50 n
noncomputable abbrev bQ (f : Func) (c : Code) (fr : Fr) (H : T aF) (K : Nat) (path : List Bool) : BU (Ex × Fr) :=
 cu Try.prog lY (bY Try.prog lY f.ntmps) lQ f.ntmps 1000 c fr ⟨H, K, [], path, True⟩
theorem yx {fn : Func} {K K' B : Nat} {e : Ex} {F : tF} {Hl : tH} {c : Code} {fr : Fr} {H : T aF} {path : List Bool} (h : bV K' e F Hl (bQ fn c fr H K path)) (hB : B ≤ K) : aj Try.prog c fn.ntmps B K K' fr H fun e' fr' H' => e' = e ∧ fr' = aQ F ∧ H' = hpL Hl := aj.runN pW (S9 _) (iI.none _ _ _) h hB
theorem adw (l : List UInt8) : bV 0 (Ex.normal) [(0, .str true l)] [] (bQ Try.f81 (aT [0] (ak Try.f81)) (bJ [.str true l] 0 .e) (.e) 0 []) := eN trivial
theorem smA (B : Nat) (hB : B ≤ 0) (l : List UInt8) : aj Try.prog (aT [0] (ak Try.f81)) Try.f81.ntmps B 0 0 (bJ [.str true l] 0 .e) (.e) fun e fr' H' => (e = .normal ∧ fr' = aQ [(0, .str true l)] ∧ H' = hpL []) := yx (adw l) hB
noncomputable abbrev ZA (w0) := (.ptr ⟨false, w0, 0, 0⟩ : AV)
theorem adx (l : List UInt8) : bV 1 (Ex.normal) [(6, ZA 0)] [(0, aF.sit true l 0)] (bQ Try.f81 (aT [1,0,0] (ak Try.f81)) (aQ [(0, .str true l)]) (hpL []) 0 []) := eN trivial
theorem smR (B : Nat) (hB : B ≤ 0) (l : List UInt8) : aj Try.prog (aT [1,0,0] (ak Try.f81)) Try.f81.ntmps B 0 1 (aQ [(0, .str true l)]) (hpL []) fun e fr' H' => (e = .normal ∧ fr' = aQ [(6, ZA 0)] ∧ H' = hpL [(0, aF.sit true l 0)]) := yx (adx l) hB
noncomputable abbrev OT := aT [1,0,1,0,0] (ak Try.f81)
noncomputable abbrev Tc (v0 : List UInt8) (v1 : Nat) := hpL [(0, .sit true v0 v1)]
noncomputable abbrev QL := aQ [(6, ZA 0)]
theorem ady (l : List UInt8) (pos : Nat) (c0 : decide (pos < List.length l) = true) (c1 : decide ((↑(Prod.fst (Go.Utf8.decode (ByteArray.mk (List.toArray l)) pos)) : Int) < 97) = true) (c2 : decide ((↑(Prod.fst (Go.Utf8.decode (ByteArray.mk (List.toArray l)) pos)) : Int) < 48) = true) (c3 : (!decide ((↑(Prod.fst (Go.Utf8.decode (ByteArray.mk (List.toArray l)) pos)) : Int) = 95)) = false) : bV 1 (Ex.normal) [(6, ZA 0)] [(0, aF.sit true l (pos + Prod.snd (Go.Utf8.decode (ByteArray.mk (List.toArray l)) pos)))] (bQ Try.f81 OT QL (Tc l pos) 1 [true, true, true, false]) := eN (I4 c0 c1 c2 c3)
noncomputable abbrev ZEb := ([(2, .bool false), (6, ZA 0)] : tF)
theorem adz (l : List UInt8) (pos : Nat) (c0 : decide (pos < List.length l) = true) (c1 : decide ((↑(Prod.fst (Go.Utf8.decode (ByteArray.mk (List.toArray l)) pos)) : Int) < 97) = true) (c2 : decide ((↑(Prod.fst (Go.Utf8.decode (ByteArray.mk (List.toArray l)) pos)) : Int) < 48) = true) (c3 : (!decide ((↑(Prod.fst (Go.Utf8.decode (ByteArray.mk (List.toArray l)) pos)) : Int) = 95)) = true) : bV 1 (Ex.ret) ZEb [(0, aF.sit true l (pos + Prod.snd (Go.Utf8.decode (ByteArray.mk (List.toArray l)) pos)))] (bQ Try.f81 OT QL (Tc l pos) 1 [true, true, true, true]) := eN (I4 c0 c1 c2 c3)
theorem adA (l : List UInt8) (pos : Nat) (c0 : decide (pos < List.length l) = true) (c1 : decide ((↑(Prod.fst (Go.Utf8.decode (ByteArray.mk (List.toArray l)) pos)) : Int) < 97) = true) (c2 : decide ((↑(Prod.fst (Go.Utf8.decode (ByteArray.mk (List.toArray l)) pos)) : Int) < 48) = false) (c3 : decide (57 < (↑(Prod.fst (Go.Utf8.decode (ByteArray.mk (List.toArray l)) pos)) : Int)) = true) (c4 : (!decide ((↑(Prod.fst (Go.Utf8.decode (ByteArray.mk (List.toArray l)) pos)) : Int) = 95)) = false) : bV 1 (Ex.normal) [(6, ZA 0)] [(0, aF.sit true l (pos + Prod.snd (Go.Utf8.decode (ByteArray.mk (List.toArray l)) pos)))] (bQ Try.f81 OT QL (Tc l pos) 1 [true, true, false, true, false]) := eN (I5 c0 c1 c2 c3 c4)
theorem adB (l : List UInt8) (pos : Nat) (c0 : decide (pos < List.length l) = true) (c1 : decide ((↑(Prod.fst (Go.Utf8.decode (ByteArray.mk (List.toArray l)) pos)) : Int) < 97) = true) (c2 : decide ((↑(Prod.fst (Go.Utf8.decode (ByteArray.mk (List.toArray l)) pos)) : Int) < 48) = false) (c3 : decide (57 < (↑(Prod.fst (Go.Utf8.decode (ByteArray.mk (List.toArray l)) pos)) : Int)) = true) (c4 : (!decide ((↑(Prod.fst (Go.Utf8.decode (ByteArray.mk (List.toArray l)) pos)) : Int) = 95)) = true) : bV 1 (Ex.ret) ZEb [(0, aF.sit true l (pos + Prod.snd (Go.Utf8.decode (ByteArray.mk (List.toArray l)) pos)))] (bQ Try.f81 OT QL (Tc l pos) 1 [true, true, false, true, true]) := eN (I5 c0 c1 c2 c3 c4)
theorem adC (l : List UInt8) (pos : Nat) (c0 : decide (pos < List.length l) = true) (c1 : decide ((↑(Prod.fst (Go.Utf8.decode (ByteArray.mk (List.toArray l)) pos)) : Int) < 97) = true) (c2 : decide ((↑(Prod.fst (Go.Utf8.decode (ByteArray.mk (List.toArray l)) pos)) : Int) < 48) = false) (c3 : decide (57 < (↑(Prod.fst (Go.Utf8.decode (ByteArray.mk (List.toArray l)) pos)) : Int)) = false) : bV 1 (Ex.normal) [(6, ZA 0)] [(0, aF.sit true l (pos + Prod.snd (Go.Utf8.decode (ByteArray.mk (List.toArray l)) pos)))] (bQ Try.f81 OT QL (Tc l pos) 1 [true, true, false, false]) := eN (I4 c0 c1 c2 c3)
theorem adD (l : List UInt8) (pos : Nat) (c0 : decide (pos < List.length l) = true) (c1 : decide ((↑(Prod.fst (Go.Utf8.decode (ByteArray.mk (List.toArray l)) pos)) : Int) < 97) = false) (c2 : decide (122 < (↑(Prod.fst (Go.Utf8.decode (ByteArray.mk (List.toArray l)) pos)) : Int)) = true) (c3 : decide ((↑(Prod.fst (Go.Utf8.decode (ByteArray.mk (List.toArray l)) pos)) : Int) < 48) = true) (c4 : (!decide ((↑(Prod.fst (Go.Utf8.decode (ByteArray.mk (List.toArray l)) pos)) : Int) = 95)) = false) : bV 1 (Ex.normal) [(6, ZA 0)] [(0, aF.sit true l (pos + Prod.snd (Go.Utf8.decode (ByteArray.mk (List.toArray l)) pos)))] (bQ Try.f81 OT QL (Tc l pos) 1 [true, false, true, true, false]) := eN (I5 c0 c1 c2 c3 c4)
theorem adE (l : List UInt8) (pos : Nat) (c0 : decide (pos < List.length l) = true) (c1 : decide ((↑(Prod.fst (Go.Utf8.decode (ByteArray.mk (List.toArray l)) pos)) : Int) < 97) = false) (c2 : decide (122 < (↑(Prod.fst (Go.Utf8.decode (ByteArray.mk (List.toArray l)) pos)) : Int)) = true) (c3 : decide ((↑(Prod.fst (Go.Utf8.decode (ByteArray.mk (List.toArray l)) pos)) : Int) < 48) = true) (c4 : (!decide ((↑(Prod.fst (Go.Utf8.decode (ByteArray.mk (List.toArray l)) pos)) : Int) = 95)) = true) : bV 1 (Ex.ret) ZEb [(0, aF.sit true l (pos + Prod.snd (Go.Utf8.decode (ByteArray.mk (List.toArray l)) pos)))] (bQ Try.f81 OT QL (Tc l pos) 1 [true, false, true, true, true]) := eN (I5 c0 c1 c2 c3 c4)
theorem adF (l : List UInt8) (pos : Nat) (c0 : decide (pos < List.length l) = true) (c1 : decide ((↑(Prod.fst (Go.Utf8.decode (ByteArray.mk (List.toArray l)) pos)) : Int) < 97) = false) (c2 : decide (122 < (↑(Prod.fst (Go.Utf8.decode (ByteArray.mk (List.toArray l)) pos)) : Int)) = true) (c3 : decide ((↑(Prod.fst (Go.Utf8.decode (ByteArray.mk (List.toArray l)) pos)) : Int) < 48) = false) (c4 : decide (57 < (↑(Prod.fst (Go.Utf8.decode (ByteArray.mk (List.toArray l)) pos)) : Int)) = true) (c5 : (!decide ((↑(Prod.fst (Go.Utf8.decode (ByteArray.mk (List.toArray l)) pos)) : Int) = 95)) = false) : bV 1 (Ex.normal) [(6, ZA 0)] [(0, aF.sit true l (pos + Prod.snd (Go.Utf8.decode (ByteArray.mk (List.toArray l)) pos)))] (bQ Try.f81 OT QL (Tc l pos) 1 [true, false, true, false, true, false]) := eN (I6 c0 c1 c2 c3 c4 c5)
theorem adG (l : List UInt8) (pos : Nat) (c0 : decide (pos < List.length l) = true) (c1 : decide ((↑(Prod.fst (Go.Utf8.decode (ByteArray.mk (List.toArray l)) pos)) : Int) < 97) = false) (c2 : decide (122 < (↑(Prod.fst (Go.Utf8.decode (ByteArray.mk (List.toArray l)) pos)) : Int)) = true) (c3 : decide ((↑(Prod.fst (Go.Utf8.decode (ByteArray.mk (List.toArray l)) pos)) : Int) < 48) = false) (c4 : decide (57 < (↑(Prod.fst (Go.Utf8.decode (ByteArray.mk (List.toArray l)) pos)) : Int)) = true) (c5 : (!decide ((↑(Prod.fst (Go.Utf8.decode (ByteArray.mk (List.toArray l)) pos)) : Int) = 95)) = true) : bV 1 (Ex.ret) ZEb [(0, aF.sit true l (pos + Prod.snd (Go.Utf8.decode (ByteArray.mk (List.toArray l)) pos)))] (bQ Try.f81 OT QL (Tc l pos) 1 [true, false, true, false, true, true]) := eN (I6 c0 c1 c2 c3 c4 c5)
theorem adH (l : List UInt8) (pos : Nat) (c0 : decide (pos < List.length l) = true) (c1 : decide ((↑(Prod.fst (Go.Utf8.decode (ByteArray.mk (List.toArray l)) pos)) : Int) < 97) = false) (c2 : decide (122 < (↑(Prod.fst (Go.Utf8.decode (ByteArray.mk (List.toArray l)) pos)) : Int)) = true) (c3 : decide ((↑(Prod.fst (Go.Utf8.decode (ByteArray.mk (List.toArray l)) pos)) : Int) < 48) = false) (c4 : decide (57 < (↑(Prod.fst (Go.Utf8.decode (ByteArray.mk (List.toArray l)) pos)) : Int)) = false) : bV 1 (Ex.normal) [(6, ZA 0)] [(0, aF.sit true l (pos + Prod.snd (Go.Utf8.decode (ByteArray.mk (List.toArray l)) pos)))] (bQ Try.f81 OT QL (Tc l pos) 1 [true, false, true, false, false]) := eN (I5 c0 c1 c2 c3 c4)
theorem YU (l : List UInt8) (pos : Nat) (c0 : decide (pos < List.length l) = true) (c1 : decide ((↑(Prod.fst (Go.Utf8.decode (ByteArray.mk (List.toArray l)) pos)) : Int) < 97) = false) (c2 : decide (122 < (↑(Prod.fst (Go.Utf8.decode (ByteArray.mk (List.toArray l)) pos)) : Int)) = false) : bV 1 (Ex.normal) [(6, ZA 0)] [(0, aF.sit true l (pos + Prod.snd (Go.Utf8.decode (ByteArray.mk (List.toArray l)) pos)))] (bQ Try.f81 OT QL (Tc l pos) 1 [true, false, false]) := eN (I3 c0 c1 c2)
theorem YV (l : List UInt8) (pos : Nat) (c0 : decide (pos < List.length l) = false) : bV 1 (Ex.exit 0) [(6, ZA 0)] [(0, aF.sit true l pos)] (bQ Try.f81 OT QL (Tc l pos) 1 [false]) := eN (I1 c0)
theorem smB (B : Nat) (hB : B ≤ 1) (l : List UInt8) (pos : Nat) : aj Try.prog OT Try.f81.ntmps B 1 1 QL (Tc l pos) fun e fr' H' => (cond (decide (pos < List.length l)) (cond (decide ((↑(Prod.fst (Go.Utf8.decode (ByteArray.mk (List.toArray l)) pos)) : Int) < 97)) (cond (decide ((↑(Prod.fst (Go.Utf8.decode (ByteArray.mk (List.toArray l)) pos)) : Int) < 48)) (cond (decide ((↑(Prod.fst (Go.Utf8.decode (ByteArray.mk (List.toArray l)) pos)) : Int) = 95)) (pP .normal [(6, ZA 0)] [(0, aF.sit true l (pos + Prod.snd (Go.Utf8.decode (ByteArray.mk (List.toArray l)) pos)))] e fr' H') (pP .ret ZEb [(0, aF.sit true l (pos + Prod.snd (Go.Utf8.decode (ByteArray.mk (List.toArray l)) pos)))] e fr' H')) (cond (decide (57 < (↑(Prod.fst (Go.Utf8.decode (ByteArray.mk (List.toArray l)) pos)) : Int))) (cond (decide ((↑(Prod.fst (Go.Utf8.decode (ByteArray.mk (List.toArray l)) pos)) : Int) = 95)) (pP .normal [(6, ZA 0)] [(0, aF.sit true l (pos + Prod.snd (Go.Utf8.decode (ByteArray.mk (List.toArray l)) pos)))] e fr' H') (pP .ret ZEb [(0, aF.sit true l (pos + Prod.snd (Go.Utf8.decode (ByteArray.mk (List.toArray l)) pos)))] e fr' H')) (pP .normal [(6, ZA 0)] [(0, aF.sit true l (pos + Prod.snd (Go.Utf8.decode (ByteArray.mk (List.toArray l)) pos)))] e fr' H'))) (cond (decide (122 < (↑(Prod.fst (Go.Utf8.decode (ByteArray.mk (List.toArray l)) pos)) : Int))) (cond (decide ((↑(Prod.fst (Go.Utf8.decode (ByteArray.mk (List.toArray l)) pos)) : Int) < 48)) (cond (decide ((↑(Prod.fst (Go.Utf8.decode (ByteArray.mk (List.toArray l)) pos)) : Int) = 95)) (pP .normal [(6, ZA 0)] [(0, aF.sit true l (pos + Prod.snd (Go.Utf8.decode (ByteArray.mk (List.toArray l)) pos)))] e fr' H') (pP .ret ZEb [(0, aF.sit true l (pos + Prod.snd (Go.Utf8.decode (ByteArray.mk (List.toArray l)) pos)))] e fr' H')) (cond (decide (57 < (↑(Prod.fst (Go.Utf8.decode (ByteArray.mk (List.toArray l)) pos)) : Int))) (cond (decide ((↑(Prod.fst (Go.Utf8.decode (ByteArray.mk (List.toArray l)) pos)) : Int) = 95)) (pP .normal [(6, ZA 0)] [(0, aF.sit true l (pos + Prod.snd (Go.Utf8.decode (ByteArray.mk (List.toArray l)) pos)))] e fr' H') (pP .ret ZEb [(0, aF.sit true l (pos + Prod.snd (Go.Utf8.decode (ByteArray.mk (List.toArray l)) pos)))] e fr' H')) (pP .normal [(6, ZA 0)] [(0, aF.sit true l (pos + Prod.snd (Go.Utf8.decode (ByteArray.mk (List.toArray l)) pos)))] e fr' H'))) (pP .normal [(6, ZA 0)] [(0, aF.sit true l (pos + Prod.snd (Go.Utf8.decode (ByteArray.mk (List.toArray l)) pos)))] e fr' H'))) (pP (.exit 0) [(6, ZA 0)] [(0, aF.sit true l pos)] e fr' H')) := cD (fun q0 t0 => cD (fun q1 t1 => cD (fun q2 t2 => cD (fun q3 t3 => yx (ady l pos t0 t1 t2 (by rw [t3]; rfl)) hB) (fun q3 t3 => yx (adz l pos t0 t1 t2 (by rw [t3]; rfl)) hB)) (fun q2 t2 => cD (fun q3 t3 => cD (fun q4 t4 => yx (adA l pos t0 t1 t2 t3 (by rw [t4]; rfl)) hB) (fun q4 t4 => yx (adB l pos t0 t1 t2 t3 (by rw [t4]; rfl)) hB)) (fun q3 t3 => yx (adC l pos t0 t1 t2 t3) hB))) (fun q1 t1 => cD (fun q2 t2 => cD (fun q3 t3 => cD (fun q4 t4 => yx (adD l pos t0 t1 t2 t3 (by rw [t4]; rfl)) hB) (fun q4 t4 => yx (adE l pos t0 t1 t2 t3 (by rw [t4]; rfl)) hB)) (fun q3 t3 => cD (fun q4 t4 => cD (fun q5 t5 => yx (adF l pos t0 t1 t2 t3 t4 (by rw [t5]; rfl)) hB) (fun q5 t5 => yx (adG l pos t0 t1 t2 t3 t4 (by rw [t5]; rfl)) hB)) (fun q4 t4 => yx (adH l pos t0 t1 t2 t3 t4) hB))) (fun q2 t2 => yx (YU l pos t0 t1 t2) hB))) (fun q0 t0 => yx (YV l pos t0) hB)
theorem adI  : bV 1 (Ex.ret) [(2, .bool true)] [] (bQ Try.f81 (aT [1,1] (ak Try.f81)) (aQ []) (hpL []) 1 []) := eN trivial
theorem smZ (B : Nat) (hB : B ≤ 1)  : aj Try.prog (aT [1,1] (ak Try.f81)) Try.f81.ntmps B 1 1 (aQ []) (hpL []) fun e fr' H' => (e = .ret ∧ fr' = aQ [(2, .bool true)] ∧ H' = hpL []) := yx (adI ) hB
theorem adJ (l : List UInt8) : bV 0 (Ex.normal) [(0, .str true l)] [] (bQ Try.f85 (aT [0] (ak Try.f85)) (bJ [.str true l] 0 .e) (.e) 0 []) := eN trivial
theorem byA (B : Nat) (hB : B ≤ 0) (l : List UInt8) : aj Try.prog (aT [0] (ak Try.f85)) Try.f85.ntmps B 0 0 (bJ [.str true l] 0 .e) (.e) fun e fr' H' => (e = .normal ∧ fr' = aQ [(0, .str true l)] ∧ H' = hpL []) := yx (adJ l) hB
noncomputable abbrev ZC (w0) := (.int false .i64 w0 : AV)
theorem adK (l : List UInt8) : bV 0 (Ex.normal) [(0, .str true l), (3, ZC 0)] [] (bQ Try.f85 (aT [1,0,0] (ak Try.f85)) (aQ [(0, .str true l)]) (hpL []) 0 []) := eN trivial
theorem byR (B : Nat) (hB : B ≤ 0) (l : List UInt8) : aj Try.prog (aT [1,0,0] (ak Try.f85)) Try.f85.ntmps B 0 0 (aQ [(0, .str true l)]) (hpL []) fun e fr' H' => (e = .normal ∧ fr' = aQ [(0, .str true l), (3, ZC 0)] ∧ H' = hpL []) := yx (adK l) hB
noncomputable abbrev Ap (v0 : Nat) := iT ((↑v0 : Int) + 1)
noncomputable abbrev OU := aT [1,0,1,0,0] (ak Try.f85)
noncomputable abbrev Td (v0 : List UInt8) (v1 : Nat) := aQ [(0, .str true v0), (3, iT v1)]
noncomputable abbrev QM (v0 : List UInt8) (v1 : Nat) := ([(0, .str true v0), (3, Ap v1)] : tF)
theorem adL (l : List UInt8) (i : Nat) (c0 : decide ((↑i : Int) < (↑(List.length l) : Int)) = true) (c1 : 0 ≤ (↑i : Int)) (c2 : (↑i : Int) < (↑(List.length l) : Int)) (c3 : decide (97 ≤ (↑(UInt8.toNat (List.getD l i (0 : UInt8))) : Int)) = true) (c4 : decide ((↑(UInt8.toNat (List.getD l i (0 : UInt8))) : Int) ≤ 122) = true) (c5 : -9223372036854775808 ≤ (↑i : Int) + 1) (c6 : (↑i : Int) + 1 ≤ (9223372036854775807 : Int)) : bV 0 (Ex.normal) (QM l i) [] (bQ Try.f85 OU (Td l i) (hpL []) 0 [true, true, true]) := eN (I5 c0 (ai c1 c2) c3 c4 (ai c5 c6))
theorem adM (l : List UInt8) (i : Nat) (c0 : decide ((↑i : Int) < (↑(List.length l) : Int)) = true) (c1 : 0 ≤ (↑i : Int)) (c2 : (↑i : Int) < (↑(List.length l) : Int)) (c3 : decide (97 ≤ (↑(UInt8.toNat (List.getD l i (0 : UInt8))) : Int)) = true) (c4 : decide ((↑(UInt8.toNat (List.getD l i (0 : UInt8))) : Int) ≤ 122) = false) (c5 : decide (48 ≤ (↑(UInt8.toNat (List.getD l i (0 : UInt8))) : Int)) = true) (c6 : decide ((↑(UInt8.toNat (List.getD l i (0 : UInt8))) : Int) ≤ 57) = true) (c7 : -9223372036854775808 ≤ (↑i : Int) + 1) (c8 : (↑i : Int) + 1 ≤ (9223372036854775807 : Int)) : bV 0 (Ex.normal) (QM l i) [] (bQ Try.f85 OU (Td l i) (hpL []) 0 [true, true, false, true, true]) := eN (I7 c0 (ai c1 c2) c3 c4 c5 c6 (ai c7 c8))
theorem adN (l : List UInt8) (i : Nat) (c0 : decide ((↑i : Int) < (↑(List.length l) : Int)) = true) (c1 : 0 ≤ (↑i : Int)) (c2 : (↑i : Int) < (↑(List.length l) : Int)) (c3 : decide (97 ≤ (↑(UInt8.toNat (List.getD l i (0 : UInt8))) : Int)) = true) (c4 : decide ((↑(UInt8.toNat (List.getD l i (0 : UInt8))) : Int) ≤ 122) = false) (c5 : decide (48 ≤ (↑(UInt8.toNat (List.getD l i (0 : UInt8))) : Int)) = true) (c6 : decide ((↑(UInt8.toNat (List.getD l i (0 : UInt8))) : Int) ≤ 57) = false) (c7 : (!decide ((↑(UInt8.toNat (List.getD l i (0 : UInt8))) : Int) = 95)) = false) (c8 : -9223372036854775808 ≤ (↑i : Int) + 1) (c9 : (↑i : Int) + 1 ≤ (9223372036854775807 : Int)) : bV 0 (Ex.normal) (QM l i) [] (bQ Try.f85 OU (Td l i) (hpL []) 0 [true, true, false, true, false, false]) := eN (I8 c0 (ai c1 c2) c3 c4 c5 c6 c7 (ai c8 c9))
noncomputable abbrev ZBy (v0 : List UInt8) (v1 : Nat) := ([(0, .str true v0), (2, .bool false), (3, iT (↑v1 : Int))] : tF)
theorem adO (l : List UInt8) (i : Nat) (c0 : decide ((↑i : Int) < (↑(List.length l) : Int)) = true) (c1 : 0 ≤ (↑i : Int)) (c2 : (↑i : Int) < (↑(List.length l) : Int)) (c3 : decide (97 ≤ (↑(UInt8.toNat (List.getD l i (0 : UInt8))) : Int)) = true) (c4 : decide ((↑(UInt8.toNat (List.getD l i (0 : UInt8))) : Int) ≤ 122) = false) (c5 : decide (48 ≤ (↑(UInt8.toNat (List.getD l i (0 : UInt8))) : Int)) = true) (c6 : decide ((↑(UInt8.toNat (List.getD l i (0 : UInt8))) : Int) ≤ 57) = false) (c7 : (!decide ((↑(UInt8.toNat (List.getD l i (0 : UInt8))) : Int) = 95)) = true) : bV 0 (Ex.ret) (ZBy l i) [] (bQ Try.f85 OU (Td l i) (hpL []) 0 [true, true, false, true, false, true]) := eN (I7 c0 (ai c1 c2) c3 c4 c5 c6 c7)
theorem adP (l : List UInt8) (i : Nat) (c0 : decide ((↑i : Int) < (↑(List.length l) : Int)) = true) (c1 : 0 ≤ (↑i : Int)) (c2 : (↑i : Int) < (↑(List.length l) : Int)) (c3 : decide (97 ≤ (↑(UInt8.toNat (List.getD l i (0 : UInt8))) : Int)) = true) (c4 : decide ((↑(UInt8.toNat (List.getD l i (0 : UInt8))) : Int) ≤ 122) = false) (c5 : decide (48 ≤ (↑(UInt8.toNat (List.getD l i (0 : UInt8))) : Int)) = false) (c6 : (!decide ((↑(UInt8.toNat (List.getD l i (0 : UInt8))) : Int) = 95)) = false) (c7 : -9223372036854775808 ≤ (↑i : Int) + 1) (c8 : (↑i : Int) + 1 ≤ (9223372036854775807 : Int)) : bV 0 (Ex.normal) (QM l i) [] (bQ Try.f85 OU (Td l i) (hpL []) 0 [true, true, false, false, false]) := eN (I7 c0 (ai c1 c2) c3 c4 c5 c6 (ai c7 c8))
theorem adQ (l : List UInt8) (i : Nat) (c0 : decide ((↑i : Int) < (↑(List.length l) : Int)) = true) (c1 : 0 ≤ (↑i : Int)) (c2 : (↑i : Int) < (↑(List.length l) : Int)) (c3 : decide (97 ≤ (↑(UInt8.toNat (List.getD l i (0 : UInt8))) : Int)) = true) (c4 : decide ((↑(UInt8.toNat (List.getD l i (0 : UInt8))) : Int) ≤ 122) = false) (c5 : decide (48 ≤ (↑(UInt8.toNat (List.getD l i (0 : UInt8))) : Int)) = false) (c6 : (!decide ((↑(UInt8.toNat (List.getD l i (0 : UInt8))) : Int) = 95)) = true) : bV 0 (Ex.ret) (ZBy l i) [] (bQ Try.f85 OU (Td l i) (hpL []) 0 [true, true, false, false, true]) := eN (I6 c0 (ai c1 c2) c3 c4 c5 c6)
theorem adR (l : List UInt8) (i : Nat) (c0 : decide ((↑i : Int) < (↑(List.length l) : Int)) = true) (c1 : 0 ≤ (↑i : Int)) (c2 : (↑i : Int) < (↑(List.length l) : Int)) (c3 : decide (97 ≤ (↑(UInt8.toNat (List.getD l i (0 : UInt8))) : Int)) = false) (c4 : decide (48 ≤ (↑(UInt8.toNat (List.getD l i (0 : UInt8))) : Int)) = true) (c5 : decide ((↑(UInt8.toNat (List.getD l i (0 : UInt8))) : Int) ≤ 57) = true) (c6 : -9223372036854775808 ≤ (↑i : Int) + 1) (c7 : (↑i : Int) + 1 ≤ (9223372036854775807 : Int)) : bV 0 (Ex.normal) (QM l i) [] (bQ Try.f85 OU (Td l i) (hpL []) 0 [true, false, true, true]) := eN (I6 c0 (ai c1 c2) c3 c4 c5 (ai c6 c7))
theorem adS (l : List UInt8) (i : Nat) (c0 : decide ((↑i : Int) < (↑(List.length l) : Int)) = true) (c1 : 0 ≤ (↑i : Int)) (c2 : (↑i : Int) < (↑(List.length l) : Int)) (c3 : decide (97 ≤ (↑(UInt8.toNat (List.getD l i (0 : UInt8))) : Int)) = false) (c4 : decide (48 ≤ (↑(UInt8.toNat (List.getD l i (0 : UInt8))) : Int)) = true) (c5 : decide ((↑(UInt8.toNat (List.getD l i (0 : UInt8))) : Int) ≤ 57) = false) (c6 : (!decide ((↑(UInt8.toNat (List.getD l i (0 : UInt8))) : Int) = 95)) = false) (c7 : -9223372036854775808 ≤ (↑i : Int) + 1) (c8 : (↑i : Int) + 1 ≤ (9223372036854775807 : Int)) : bV 0 (Ex.normal) (QM l i) [] (bQ Try.f85 OU (Td l i) (hpL []) 0 [true, false, true, false, false]) := eN (I7 c0 (ai c1 c2) c3 c4 c5 c6 (ai c7 c8))
theorem adT (l : List UInt8) (i : Nat) (c0 : decide ((↑i : Int) < (↑(List.length l) : Int)) = true) (c1 : 0 ≤ (↑i : Int)) (c2 : (↑i : Int) < (↑(List.length l) : Int)) (c3 : decide (97 ≤ (↑(UInt8.toNat (List.getD l i (0 : UInt8))) : Int)) = false) (c4 : decide (48 ≤ (↑(UInt8.toNat (List.getD l i (0 : UInt8))) : Int)) = true) (c5 : decide ((↑(UInt8.toNat (List.getD l i (0 : UInt8))) : Int) ≤ 57) = false) (c6 : (!decide ((↑(UInt8.toNat (List.getD l i (0 : UInt8))) : Int) = 95)) = true) : bV 0 (Ex.ret) (ZBy l i) [] (bQ Try.f85 OU (Td l i) (hpL []) 0 [true, false, true, false, true]) := eN (I6 c0 (ai c1 c2) c3 c4 c5 c6)
theorem adU (l : List UInt8) (i : Nat) (c0 : decide ((↑i : Int) < (↑(List.length l) : Int)) = true) (c1 : 0 ≤ (↑i : Int)) (c2 : (↑i : Int) < (↑(List.length l) : Int)) (c3 : decide (97 ≤ (↑(UInt8.toNat (List.getD l i (0 : UInt8))) : Int)) = false) (c4 : decide (48 ≤ (↑(UInt8.toNat (List.getD l i (0 : UInt8))) : Int)) = false) (c5 : (!decide ((↑(UInt8.toNat (List.getD l i (0 : UInt8))) : Int) = 95)) = false) (c6 : -9223372036854775808 ≤ (↑i : Int) + 1) (c7 : (↑i : Int) + 1 ≤ (9223372036854775807 : Int)) : bV 0 (Ex.normal) (QM l i) [] (bQ Try.f85 OU (Td l i) (hpL []) 0 [true, false, false, false]) := eN (I6 c0 (ai c1 c2) c3 c4 c5 (ai c6 c7))
theorem YW (l : List UInt8) (i : Nat) (c0 : decide ((↑i : Int) < (↑(List.length l) : Int)) = true) (c1 : 0 ≤ (↑i : Int)) (c2 : (↑i : Int) < (↑(List.length l) : Int)) (c3 : decide (97 ≤ (↑(UInt8.toNat (List.getD l i (0 : UInt8))) : Int)) = false) (c4 : decide (48 ≤ (↑(UInt8.toNat (List.getD l i (0 : UInt8))) : Int)) = false) (c5 : (!decide ((↑(UInt8.toNat (List.getD l i (0 : UInt8))) : Int) = 95)) = true) : bV 0 (Ex.ret) (ZBy l i) [] (bQ Try.f85 OU (Td l i) (hpL []) 0 [true, false, false, true]) := eN (I5 c0 (ai c1 c2) c3 c4 c5)
theorem YX (l : List UInt8) (i : Nat) (c0 : decide ((↑i : Int) < (↑(List.length l) : Int)) = false) : bV 0 (Ex.exit 0) [(0, .str true l), (3, iT (↑i : Int))] [] (bQ Try.f85 OU (Td l i) (hpL []) 0 [false]) := eN (I1 c0)
theorem byB (B : Nat) (hB : B ≤ 0) (l : List UInt8) (i : Nat) (x0 : ((decide ((↑i : Int) < (↑(List.length l) : Int))) = true → ((↑i : Int) + 1 ≤ (9223372036854775807 : Int)))) : aj Try.prog OU Try.f85.ntmps B 0 0 (Td l i) (hpL []) fun e fr' H' => (cond (decide ((↑i : Int) < (↑(List.length l) : Int))) (cond (decide (97 ≤ (↑(UInt8.toNat (List.getD l i (0 : UInt8))) : Int))) (cond (decide ((↑(UInt8.toNat (List.getD l i (0 : UInt8))) : Int) ≤ 122)) (pP .normal (QM l i) [] e fr' H') (cond (decide (48 ≤ (↑(UInt8.toNat (List.getD l i (0 : UInt8))) : Int))) (cond (decide ((↑(UInt8.toNat (List.getD l i (0 : UInt8))) : Int) ≤ 57)) (pP .normal (QM l i) [] e fr' H') (cond (decide ((↑(UInt8.toNat (List.getD l i (0 : UInt8))) : Int) = 95)) (pP .normal (QM l i) [] e fr' H') (pP .ret (ZBy l i) [] e fr' H'))) (cond (decide ((↑(UInt8.toNat (List.getD l i (0 : UInt8))) : Int) = 95)) (pP .normal (QM l i) [] e fr' H') (pP .ret (ZBy l i) [] e fr' H')))) (cond (decide (48 ≤ (↑(UInt8.toNat (List.getD l i (0 : UInt8))) : Int))) (cond (decide ((↑(UInt8.toNat (List.getD l i (0 : UInt8))) : Int) ≤ 57)) (pP .normal (QM l i) [] e fr' H') (cond (decide ((↑(UInt8.toNat (List.getD l i (0 : UInt8))) : Int) = 95)) (pP .normal (QM l i) [] e fr' H') (pP .ret (ZBy l i) [] e fr' H'))) (cond (decide ((↑(UInt8.toNat (List.getD l i (0 : UInt8))) : Int) = 95)) (pP .normal (QM l i) [] e fr' H') (pP .ret (ZBy l i) [] e fr' H')))) (pP (.exit 0) [(0, .str true l), (3, iT (↑i : Int))] [] e fr' H')) := cD (fun q0 t0 => cD (fun q1 t1 => cD (fun q2 t2 => yx (adL l i t0 (by omega) (by omega) t1 t2 (by omega) (x0 t0)) hB) (fun q2 t2 => cD (fun q3 t3 => cD (fun q4 t4 => yx (adM l i t0 (by omega) (by omega) t1 t2 t3 t4 (by omega) (x0 t0)) hB) (fun q4 t4 => cD (fun q5 t5 => yx (adN l i t0 (by omega) (by omega) t1 t2 t3 t4 (by rw [t5]; rfl) (by omega) (x0 t0)) hB) (fun q5 t5 => yx (adO l i t0 (by omega) (by omega) t1 t2 t3 t4 (by rw [t5]; rfl)) hB))) (fun q3 t3 => cD (fun q4 t4 => yx (adP l i t0 (by omega) (by omega) t1 t2 t3 (by rw [t4]; rfl) (by omega) (x0 t0)) hB) (fun q4 t4 => yx (adQ l i t0 (by omega) (by omega) t1 t2 t3 (by rw [t4]; rfl)) hB)))) (fun q1 t1 => cD (fun q2 t2 => cD (fun q3 t3 => yx (adR l i t0 (by omega) (by omega) t1 t2 t3 (by omega) (x0 t0)) hB) (fun q3 t3 => cD (fun q4 t4 => yx (adS l i t0 (by omega) (by omega) t1 t2 t3 (by rw [t4]; rfl) (by omega) (x0 t0)) hB) (fun q4 t4 => yx (adT l i t0 (by omega) (by omega) t1 t2 t3 (by rw [t4]; rfl)) hB))) (fun q2 t2 => cD (fun q3 t3 => yx (adU l i t0 (by omega) (by omega) t1 t2 (by rw [t3]; rfl) (by omega) (x0 t0)) hB) (fun q3 t3 => yx (YW l i t0 (by omega) (by omega) t1 t2 (by rw [t3]; rfl)) hB)))) (fun q0 t0 => yx (YX l i t0) hB)
theorem adV  : bV 0 (Ex.ret) [(2, .bool true)] [] (bQ Try.f85 (aT [1,1] (ak Try.f85)) (aQ []) (hpL []) 0 []) := eN trivial
theorem byZ (B : Nat) (hB : B ≤ 0)  : aj Try.prog (aT [1,1] (ak Try.f85)) Try.f85.ntmps B 0 0 (aQ []) (hpL []) fun e fr' H' => (e = .ret ∧ fr' = aQ [(2, .bool true)] ∧ H' = hpL []) := yx (adV ) hB
def okB (b : UInt8) : Bool := (decide (97 ≤ b.toNat) && decide (b.toNat ≤ 122)) || (decide (48 ≤ b.toNat) && decide (b.toNat ≤ 57)) || decide (b.toNat = 95)
theorem YZ (l : List UInt8) (pos : Nat) (h : pos < l.length) : (l[pos].toNat < 128 ∧ Utf8.decode ⟨l.toArray⟩ pos = (l[pos].toNat, 1)) ∨ (128 ≤ l[pos].toNat ∧ 128 ≤ (Utf8.decode ⟨l.toArray⟩ pos).1) := by
 have hs : pos < (⟨l.toArray⟩ : ByteArray).size := by rw [rQ]; exact h
 have e : (⟨l.toArray⟩ : ByteArray)[pos]'hs = l[pos] := rfl
 by_cases hb : l[pos].toNat < 128
 ·exact .inl ⟨hb, decode_ascii _ pos hs hb⟩
 ·exact .inr ⟨by omega, (decode_high _ pos hs (by rw [e]; omega)).1⟩
theorem L6 (l : List UInt8) (pos : Nat) (h : pos < l.length) (hp : (l.take pos).all okB = true) (hk : okB l[pos] = true) : (l.take (pos + 1)).all okB = true := by
 rw [List.take_succ_eq_append_getElem h, List.all_append, hp]; simp [hk]
theorem all_false (l : List UInt8) (pos : Nat) (h : pos < l.length) (hk : okB l[pos] = false) : l.all okB = false := by
 rw [List.all_eq_false]; exact ⟨l[pos], List.getElem_mem h, by simp [hk]⟩
theorem Ju (b : UInt8) : okB b = true ↔ ((97 ≤ b.toNat ∧ b.toNat ≤ 122) ∨ (48 ≤ b.toNat ∧ b.toNat ≤ 57) ∨ b.toNat = 95) := by
 unfold okB; simp only [Bool.or_eq_true, Bool.and_eq_true, decide_eq_true_eq]; omega
theorem QN (b : UInt8) : okB b = false ↔ ¬ ((97 ≤ b.toNat ∧ b.toNat ≤ 122) ∨ (48 ≤ b.toNat ∧ b.toNat ≤ 57) ∨ b.toNat = 95) := by
 rw [← Ju]; simp
def smI (l : List UInt8) (k : Nat) (fr : Fr) (H : T aF) : Prop :=
 ∃ pos, k = l.length - pos ∧ (l.take pos).all okB = true ∧ fr = aQ [(6, .ptr ⟨false, 0, 0, 0⟩)] ∧ H = hpL [(0, .sit true l pos)]
def VJ (l : List UInt8) : Po := fun e fr H => (e = .exit 0 ∧ l.all okB = true) ∨ (e = .ret ∧ l.all okB = false ∧ fr.get 2 = some (.bool false))
theorem Y0 (l : List UInt8) (k : Nat) (fr : Fr) (H : T aF) (hI : smI l k fr H) : aj Try.prog OT Try.f81.ntmps 0 1 1 fr H fun e fr' H' => match e with
   | .normal => ∃ k', k' < k ∧ smI l k' fr' H'
   | e => VJ l e fr' H' := by
 obtain ⟨pos, rfl, hp, rfl, rfl⟩ := hI
 refine (smB 0 (by omega) l pos).mono fun e fr' H' h => ?_
 refine bD h (fun t0 h => ?_) (fun t0 h => ?_)
 ·have hlt := of_decide_eq_true t0
  have ru := YZ l pos hlt
  have hok := Ju l[pos]
  have hno := QN l[pos]
  have go : okB l[pos] = true → (Utf8.decode ⟨l.toArray⟩ pos).2 = 1 → ∃ k', k' < l.length - pos ∧ smI l k' QL (hpL [(0, .sit true l (pos + (Utf8.decode ⟨l.toArray⟩ pos).2))]) := fun hk hw => by
   rw [hw]
   exact ⟨l.length - (pos + 1), by omega, pos + 1, rfl, L6 l pos hlt hp hk, rfl, rfl⟩
  obtain ⟨r, hr⟩ : ∃ r : Nat × Nat, Utf8.decode ⟨l.toArray⟩ pos = r := ⟨_, rfl⟩
  rw [hr] at ru h go
  have ru' : (l[pos].toNat < 128 ∧ r.1 = l[pos].toNat ∧ r.2 = 1) ∨ (128 ≤ l[pos].toNat ∧ 128 ≤ r.1) := by
   rcases ru with ⟨h1, h2⟩ | h
   ·exact .inl ⟨h1, by rw [h2], by rw [h2]⟩
   ·exact .inr h
  repeat' (refine bD h (fun t1 h => ?_) (fun t1 h => ?_) <;> first | replace t1 := of_decide_eq_true t1 | replace t1 := of_decide_eq_false t1)
  all_goals (obtain ⟨rfl, rfl, rfl⟩ := h)
  all_goals (first | (exact go (hok.2 (by omega)) (by omega)) | (exact .inr ⟨rfl, all_false l pos hlt (hno.2 (by omega)), rfl⟩))
 ·obtain ⟨rfl, rfl, rfl⟩ := h
  refine .inl ⟨rfl, ?_⟩
  rw [List.take_of_length_le (by have := of_decide_eq_false t0; omega)] at hp
  exact hp
theorem agh : ak Try.f81 = .seq (aT [0] (ak Try.f81)) (.seq (.seq (aT [1,0,0] (ak Try.f81)) (.block 0 (.loop OT))) (aT [1,1] (ak Try.f81))) := by kernel_rfl
theorem Y1 (l : List UInt8) : aj Try.prog (ak Try.f81) Try.f81.ntmps 0 0 1 (bJ [.str true l] 0 .e) (hpL []) fun e fr' H' => (e = .ret ∨ e = .normal) ∧ fr'.get 2 = some (.bool (l.all okB)) := by
 rw [agh]
 refine aj.seq (K1 := 0) (by omega) ((smA 0 (by omega) l).mono fun e fr' H' ⟨e1, e2, e3⟩ => ?_)
 subst e1 e2 e3
 refine aj.seq (K1 := 1) (by omega) (aj.seq (K1 := 1) (by omega) ((smR 0 (by omega) l).mono fun e fr' H' ⟨e1, e2, e3⟩ => ?_))
 subst e1 e2 e3
 refine aj.block ((aj.loop (smI l) (Post := VJ l) (Y0 l) _ _ _ ⟨0, rfl, by simp, rfl, rfl⟩).mono fun e fr' H' hp => ?_)
 rcases hp with ⟨rfl, h1⟩ | ⟨rfl, h1, h2⟩
 ·simp only [if_true]
  refine aj.dW (fl := []) (bl := []) trivial trivial ((smZ 0 (by omega)).mono fun e fr' H' ⟨e1, e2, e3⟩ => ?_)
  subst e1 e2 e3
  exact ⟨.inl rfl, by rw [h1]; rfl⟩
 ·exact ⟨.inl rfl, by rw [h1]; exact h2⟩
noncomputable def lZ : List AV → M AV
 | [.str s l] => M.ret (dH s (l.all okB))
 | args => lY 81 args
theorem jC : ∀ args v g g', lZ args g = .done v g' → bf Try.prog 81 args v g g' := by
 intro args v g g' h
 unfold lZ at h
 split at h
 ·rename_i s l
  obtain ⟨rfl, rfl⟩ := aA h
  refine reads (c := ak Try.f81) Try.func81 (by kernel_rfl) (by kernel_rfl) (g1 := g) (p := True) (Keep.refl g) [] (fun _ v hv => by cases hv) (dY := [.str true l]) (fun _ N μ cs h => by simpa only [aI, Rep] using h) (nms := []) (bs := []) (K' := 1) (fun _ => (Y1 l).mono fun e fr' H' ⟨h1, h2⟩ => ⟨h1, [.bool (l.all okB)], ⟨H', 1, [], [], True⟩, ?_, trivial, ?_, ⟨rfl, fun i b h => by simp at h, List.nodup_nil⟩⟩) (by cases s <;> rfl) (by cases s <;> trivial) rfl rfl id
  ·have e : Try.f81.results.toList = [.tmp 2] := by kernel_rfl
   rw [e]
   simp only [dA, lS, h2, Option.getD_some]
   rfl
  ·cases s
   ·exact AV.ge.refl _
   ·exact AV.ge.bool _
 ·exact pW _ _ _ _ _ h
theorem iV : ∀ args, aC (lZ args) := by
 intro args
 unfold lZ
 split
 ·exact aC.ret _
 ·exact Am _ _
def byI (l : List UInt8) (k : Nat) (fr : Fr) (H : T aF) : Prop :=
 ∃ i : Nat, k = l.length - i ∧ i ≤ l.length ∧ (l.take i).all okB = true ∧ fr = aQ [(0, .str true l), (3, iT i)] ∧ H = hpL []
def VK (l : List UInt8) : Po := fun e fr H => (e = .exit 0 ∧ l.all okB = true) ∨ (e = .ret ∧ l.all okB = false ∧ fr.get 2 = some (.bool false))
theorem Y2 (l : List UInt8) (hl : l.length ≤ 9223372036854775807) (k : Nat) (fr : Fr) (H : T aF) (hI : byI l k fr H) : aj Try.prog OU Try.f85.ntmps 0 0 0 fr H fun e fr' H' => match e with
   | .normal => ∃ k', k' < k ∧ byI l k' fr' H'
   | e => VK l e fr' H' := by
 obtain ⟨i, rfl, hi, hp, rfl, rfl⟩ := hI
 refine (byB 0 (by omega) l i (fun t => by have := of_decide_eq_true t; omega)).mono fun e fr' H' h => ?_
 refine bD h (fun t0 h => ?_) (fun t0 h => ?_)
 ·have hlt : i < l.length := by have := of_decide_eq_true t0; omega
  have hok := Ju l[i]
  have hno := QN l[i]
  have e : l.getD (Int.toNat (i : Int)) 0 = l[i] := by simp [hlt]
  have e' : l.getD i 0 = l[i] := by simp [hlt]
  have go : okB l[i] = true → ∃ k', k' < l.length - i ∧ byI l k' (aQ [(0, .str true l), (3, iT ((i : Int) + 1))]) (hpL []) := fun hk =>
   ⟨l.length - (i + 1), by omega, i + 1, rfl, by omega, L6 l i hlt hp hk, by simp, rfl⟩
  first | rw [e] at h | rw [e'] at h
  repeat' (refine bD h (fun t1 h => ?_) (fun t1 h => ?_) <;> first | replace t1 := of_decide_eq_true t1 | replace t1 := of_decide_eq_false t1)
  all_goals (obtain ⟨rfl, rfl, rfl⟩ := h)
  all_goals (first | (exact go (hok.2 (by omega))) | (exact .inr ⟨rfl, all_false l i hlt (hno.2 (by omega)), rfl⟩))
 ·obtain ⟨rfl, rfl, rfl⟩ := h
  refine .inl ⟨rfl, ?_⟩
  rw [List.take_of_length_le (by have := of_decide_eq_false t0; omega)] at hp
  exact hp
theorem by_is : ak Try.f85 = .seq (aT [0] (ak Try.f85)) (.seq (.seq (aT [1,0,0] (ak Try.f85)) (.block 0 (.loop OU))) (aT [1,1] (ak Try.f85))) := by kernel_rfl
theorem Y3 (l : List UInt8) (hl : l.length ≤ 9223372036854775807) : aj Try.prog (ak Try.f85) Try.f85.ntmps 0 0 0 (bJ [.str true l] 0 .e) (hpL []) fun e fr' H' => (e = .ret ∨ e = .normal) ∧ fr'.get 2 = some (.bool (l.all okB)) := by
 rw [by_is]
 refine aj.seq (K1 := 0) (by omega) ((byA 0 (by omega) l).mono fun e fr' H' ⟨e1, e2, e3⟩ => ?_)
 subst e1 e2 e3
 refine aj.seq (K1 := 0) (by omega) (aj.seq (K1 := 0) (by omega) ((byR 0 (by omega) l).mono fun e fr' H' ⟨e1, e2, e3⟩ => ?_))
 subst e1 e2 e3
 refine aj.dW (fl := [(0, .str true l), (3, iT 0)]) (bl := []) ⟨re rfl, ⟨_, rfl, AV.ge.int _ _ _ _⟩, trivial⟩ trivial ?_
 refine aj.block ((aj.loop (byI l) (Post := VK l) (Y2 l hl) _ _ _ ⟨0, rfl, by omega, by simp, rfl, rfl⟩).mono fun e fr' H' hp => ?_)
 rcases hp with ⟨rfl, h1⟩ | ⟨rfl, h1, h2⟩
 ·simp only [if_true]
  refine aj.dW (fl := []) (bl := []) trivial trivial ((byZ 0 (by omega)).mono fun e fr' H' ⟨e1, e2, e3⟩ => ?_)
  subst e1 e2 e3
  exact ⟨.inl rfl, by rw [h1]; rfl⟩
 ·exact ⟨.inl rfl, by rw [h1]; exact h2⟩
noncomputable def vw : List AV → M AV
 | [.str s l] => (Yf s (l.length ≤ 9223372036854775807)).andThen fun _ => (M.dn (s || Nat.ble l.length 9223372036854775807)).andThen fun _ => M.ret (dH s (l.all okB))
 | args => lY 85 args
theorem wE : ∀ args v g g', vw args g = .done v g' → bf Try.prog 85 args v g g' := by
 intro args v g g' h
 unfold vw at h
 split at h
 ·rename_i s l
  obtain ⟨_, g1, a1, h1⟩ := au h
  obtain ⟨_, g2, a2, h2⟩ := au h1
  obtain ⟨rfl, rfl⟩ := aA h2
  obtain ⟨hq, rfl⟩ := aU a2
  have k : ∃ p, Keep g g1 p ∧ (p → l.length ≤ 9223372036854775807) := by
   cases s with
   | true => exact ⟨_, dR a1, id⟩
   | false =>
    obtain ⟨_, rfl⟩ := aA a1
    exact ⟨True, Keep.refl _, fun _ => Nat.le_of_ble_eq_true (by simpa using hq)⟩
  obtain ⟨p, k, hp⟩ := k
  refine reads (c := ak Try.f85) Try.func85 (by kernel_rfl) (by kernel_rfl) k [] (fun _ v hv => by cases hv) (dY := [.str true l]) (fun _ N μ cs h => by simpa only [aI, Rep] using h) (nms := []) (bs := []) (K' := 0) (fun hp' => (Y3 l (hp hp')).mono fun e fr' H' ⟨h1, h2⟩ => ⟨h1, [.bool (l.all okB)], ⟨H', 0, [], [], True⟩, ?_, trivial, ?_, ⟨rfl, fun i b h => by simp at h, List.nodup_nil⟩⟩) (by cases s <;> rfl) (by cases s <;> trivial) (by rw [k.1]; rfl) (by rw [k.2.1]; rfl) id
  ·have e : Try.f85.results.toList = [.tmp 2] := by kernel_rfl
   rw [e]
   simp only [dA, lS, h2, Option.getD_some]
   rfl
  ·cases s
   ·exact AV.ge.refl _
   ·exact AV.ge.bool _
 ·exact pW _ _ _ _ _ h
theorem sQ : ∀ args, aC (vw args) := by
 intro args
 unfold vw
 split
 ·exact (aC.Yf _ _).andThen fun _ => (aC.dn _).andThen fun _ => aC.ret _
 ·exact Am _ _
noncomputable abbrev Uz (w0) := AV.int false .i64 w0
theorem adW (n : Nat) (hE : decide (kE n = 0) = true) (hR : decide (kR n = 0) = true) : gX (Uz 0) (lY 66 [.raw true n] (G.on [true, true])) := by
 have e : BI (Uz 0) (lY 66 [.raw true n] (G.on [true, true])) = (AV.int false .i64 0 = AV.int false .i64 0 ∧ ((((True ∧ (0 : Int) ≤ 52) ∧ (0 : Int) ≤ 12) ∧ decide (kE n = 0) = true) ∧ decide (kR n = 0) = true)) := by kernel_rfl
 exact ⟨by rw [e]; exact ⟨rfl, ⟨⟨⟨⟨trivial, by decide⟩, by decide⟩, hE⟩, hR⟩⟩⟩
theorem adX (n : Nat) (hE : decide (kE n = 0) = true) (hR : decide (kR n = 0) = false) : gX (Uz 1) (lY 66 [.raw true n] (G.on [true, false, true])) := by
 have e : BI (Uz 1) (lY 66 [.raw true n] (G.on [true, false, true])) = (AV.int false .i64 1 = AV.int false .i64 1 ∧ (((((True ∧ (0 : Int) ≤ 52) ∧ (0 : Int) ≤ 12) ∧ decide (kE n = 0) = true) ∧ decide (kR n = 0) = false) ∧ decide (kE n = 0) = true)) := by kernel_rfl
 exact ⟨by rw [e]; exact ⟨rfl, ⟨⟨⟨⟨⟨trivial, by decide⟩, by decide⟩, hE⟩, hR⟩, hE⟩⟩⟩
theorem adY (n : Nat) (hE : decide (kE n = 0) = false) (hL : decide (kE n < 2047) = true) : gX (Uz 2) (lY 66 [.raw true n] (G.on [false, false, true])) := by
 have e : BI (Uz 2) (lY 66 [.raw true n] (G.on [false, false, true])) = (AV.int false .i64 2 = AV.int false .i64 2 ∧ (((((True ∧ (0 : Int) ≤ 52) ∧ (0 : Int) ≤ 12) ∧ decide (kE n = 0) = false) ∧ decide (kE n = 0) = false) ∧ decide (kE n < 2047) = true)) := by kernel_rfl
 exact ⟨by rw [e]; exact ⟨rfl, ⟨⟨⟨⟨⟨trivial, by decide⟩, by decide⟩, hE⟩, hE⟩, hL⟩⟩⟩
theorem adZ (n : Nat) (hE : decide (kE n = 0) = false) (hL : decide (kE n < 2047) = false) (hR : decide (kR n = 0) = true) : gX (Uz 3) (lY 66 [.raw true n] (G.on [false, false, false, true])) := by
 have e : BI (Uz 3) (lY 66 [.raw true n] (G.on [false, false, false, true])) = (AV.int false .i64 3 = AV.int false .i64 3 ∧ ((((((True ∧ (0 : Int) ≤ 52) ∧ (0 : Int) ≤ 12) ∧ decide (kE n = 0) = false) ∧ decide (kE n = 0) = false) ∧ decide (kE n < 2047) = false) ∧ decide (kR n = 0) = true)) := by kernel_rfl
 exact ⟨by rw [e]; exact ⟨rfl, ⟨⟨⟨⟨⟨⟨trivial, by decide⟩, by decide⟩, hE⟩, hE⟩, hL⟩, hR⟩⟩⟩
theorem ad1 (n : Nat) (hE : decide (kE n = 0) = false) (hL : decide (kE n < 2047) = false) (hR : decide (kR n = 0) = false) : gX (Uz 4) (lY 66 [.raw true n] (G.on [false, false, false, false])) := by
 have e : BI (Uz 4) (lY 66 [.raw true n] (G.on [false, false, false, false])) = (AV.int false .i64 4 = AV.int false .i64 4 ∧ ((((((True ∧ (0 : Int) ≤ 52) ∧ (0 : Int) ≤ 12) ∧ decide (kE n = 0) = false) ∧ decide (kE n = 0) = false) ∧ decide (kE n < 2047) = false) ∧ decide (kR n = 0) = false)) := by kernel_rfl
 exact ⟨by rw [e]; exact ⟨rfl, ⟨⟨⟨⟨⟨⟨trivial, by decide⟩, by decide⟩, hE⟩, hE⟩, hL⟩, hR⟩⟩⟩
noncomputable def qF : List AV → M AV
 | [.flt s n] => M.ret (.int s .i64 (fQ n))
 | [.raw s n] => M.ret (.int s .i64 (fQ n))
 | _ => M.no
theorem Hf (n : Nat) : ∃ path lv, gX lv (lY 66 [.raw true n] (G.on path)) ∧ lv = AV.int false .i64 (fQ n) := by
 cases hE : decide (kE n = 0) with
 | true =>
  cases hR : decide (kR n = 0) with
  | true => exact ⟨_, _, adW n hE hR, by simp only [fQ, hE, hR, cond_true]⟩
  | false => exact ⟨_, _, adX n hE hR, by simp only [fQ, hE, hR, cond_true, cond_false]⟩
 | false =>
  cases hL : decide (kE n < 2047) with
  | true => exact ⟨_, _, adY n hE hL, by simp only [fQ, hE, hL, cond_true, cond_false]⟩
  | false =>
   cases hR : decide (kR n = 0) with
   | true => exact ⟨_, _, adZ n hE hL hR, by simp only [fQ, hE, hL, hR, cond_true, cond_false]⟩
   | false => exact ⟨_, _, ad1 n hE hL hR, by simp only [fQ, hE, hL, hR, cond_true, cond_false]⟩
theorem kQ : ∀ args v g g', qF args g = .done v g' → bf Try.prog 66 args v g g' := by
 intro args v g g' h
 unfold qF at h
 split at h
 ·rename_i s n
  obtain ⟨rfl, rfl⟩ := aA h
  refine Ld pW fun μ bT ha => ?_
  obtain ⟨c, rfl, hx⟩ := ha.one
  simp only [Rep] at hx
  obtain ⟨b, rfl, hb⟩ := hx
  obtain ⟨path, lv, h1, rfl⟩ := Hf b
  refine ⟨[.raw true b], path, _, ?_, h1, rfl, fun c hc => ?_⟩
  ·simp only [aI, Rep]; exact ⟨_, _, rfl, ⟨rfl, hb.2⟩, rfl⟩
  ·have := hc 0 MM.none
   simp only [Rep] at this ⊢
   rw [this, ← hb.1, Yv hb.2]
 ·rename_i s n
  obtain ⟨rfl, rfl⟩ := aA h
  refine Ld pW fun μ bT ha => ?_
  obtain ⟨c, rfl, hx⟩ := ha.one
  simp only [Rep] at hx
  obtain ⟨rfl, hb⟩ := hx
  obtain ⟨path, lv, h1, rfl⟩ := Hf n
  refine ⟨[.raw true n], path, _, ?_, h1, rfl, fun c hc => ?_⟩
  ·simp only [aI, Rep]; exact ⟨_, _, rfl, ⟨rfl, hb⟩, rfl⟩
  ·have := hc 0 MM.none
   simpa only [Rep] using this
 ·exact (aY h).elim
theorem jD : ∀ args, aC (qF args) := by
 intro args
 unfold qF
 split
 ·exact aC.ret _
 ·exact aC.ret _
 ·exact aC.no
noncomputable def jZ (n : Nat) : Int := (bif decide (Int.tmod (↑n : Int) (9223372036854775808 : Int) = 0) then ((0 : Int)) else (bif decide (Int.tmod (↑n : Int) (9223372036854775808 : Int) < 4503599627370496) then ((1 : Int)) else (bif decide (Int.tmod (↑n : Int) (9223372036854775808 : Int) < 9218868437227405312) then ((2 : Int)) else (bif decide (Int.tmod (↑n : Int) (9223372036854775808 : Int) = 9218868437227405312) then ((3 : Int)) else ((4 : Int))))))
noncomputable def vC : List AV → M AV
 | [.raw s0 n] => M.ret (AV.int s0 (IntKind.i64) (jZ n))
 | args => lY 72 args
theorem wF : ∀ args v g g', vC args g = .done v g' → bf Try.prog 72 args v g g' := by
  intro args v g g' h
  unfold vC at h
  split at h
  · rename_i s0 n
    obtain ⟨rfl, rfl⟩ := aA h
    refine LZ pW (a' := [.raw true n]) (R := AV.int true (IntKind.i64) (jZ n)) ?_ (fun N μ l ha => by simpa only [aI, Rep] using ha) (fun N μ c hc => by simpa only [Rep, aI, cZ] using hc)
    unfold jZ
    cases t0 : decide (Int.tmod (↑n : Int) (9223372036854775808 : Int) = 0)
    ·cases t1 : decide (Int.tmod (↑n : Int) (9223372036854775808 : Int) < 4503599627370496)
     ·cases t2 : decide (Int.tmod (↑n : Int) (9223372036854775808 : Int) < 9218868437227405312)
      ·cases t3 : decide (Int.tmod (↑n : Int) (9223372036854775808 : Int) = 9218868437227405312)
       ·exact ⟨[fF, fF, fF, fF], lF (I5 (show (9223372036854775808 : Int) ≠ (0 : Int) by decide) t0 t1 t2 t3)⟩
       ·exact ⟨[fF, fF, fF, tT], lF (I5 (show (9223372036854775808 : Int) ≠ (0 : Int) by decide) t0 t1 t2 t3)⟩
      ·exact ⟨[fF, fF, tT], lF (I4 (show (9223372036854775808 : Int) ≠ (0 : Int) by decide) t0 t1 t2)⟩
     ·exact ⟨[fF, tT], lF (I3 (show (9223372036854775808 : Int) ≠ (0 : Int) by decide) t0 t1)⟩
    ·exact ⟨[tT], lF (I2 (show (9223372036854775808 : Int) ≠ (0 : Int) by decide) t0)⟩
  · exact pW _ _ _ _ _ h
theorem sS : ∀ args, aC (vC args) := by
 intro args
 unfold vC
 split
 ·exact aC.ret _
 ·exact Am _ _
noncomputable def ad2 : Known := kc 36 ofBits (kc 62 toBits (kc 81 lZ (kc 85 vw (kc 66 qF (kc 72 vC (kn))))))
theorem Y4 : eY Try.prog ad2 := aO ((jf Try.prog).iw Try.func36 (by kernel_rfl) (by kernel_rfl) (by kernel_rfl) (by kernel_rfl)) (aO ((je Try.prog).iw Try.func62 (by kernel_rfl) (by kernel_rfl) (by kernel_rfl) (by kernel_rfl)) (aO jC (aO wE (aO kQ (aO wF (mJ))))))
theorem L8 : gG ad2 := aG aC.ofBits (aG aC.toBits (aG iV (aG sQ (aG jD (aG sS (jH))))))
noncomputable def Hg : Calls' := Sx.runN Try.prog ad2 (bY Try.prog) 1000 50
theorem nV : cO Try.prog Hg := gK Y4 L8 (by kernel_rfl) (by kernel_rfl) 1000 50
theorem wG : iq Hg := jO L8 (fun _ _ _ h => by cases h) (fun call hc n l fr => gV hc n l fr) 50
noncomputable def Jv (k : Int) : Int := (bif decide (k = (1 : Int)) then ((82 : Int)) else (bif decide (k = (2 : Int)) then ((76 : Int)) else (bif decide (k = (3 : Int)) then ((67 : Int)) else (bif decide (k = (4 : Int)) then ((73 : Int)) else (bif decide (k = (5 : Int)) then ((86 : Int)) else (bif decide (k = (6 : Int)) then ((71 : Int)) else (bif decide (k = (7 : Int)) then ((69 : Int)) else (bif decide (k = (8 : Int)) then ((80 : Int)) else ((0 : Int))))))))))
noncomputable def Jw (k : Int) : List UInt8 := (bif decide (k = (1 : Int)) then ([(111 : UInt8), (104 : UInt8), (109 : UInt8)]) else (bif decide (k = (2 : Int)) then ([(104 : UInt8), (101 : UInt8), (110 : UInt8), (114 : UInt8), (121 : UInt8)]) else (bif decide (k = (3 : Int)) then ([(102 : UInt8), (97 : UInt8), (114 : UInt8), (97 : UInt8), (100 : UInt8)]) else (bif decide (k = (4 : Int)) then ([(97 : UInt8), (109 : UInt8), (112 : UInt8), (101 : UInt8), (114 : UInt8), (101 : UInt8)]) else (bif decide (k = (5 : Int)) then ([(118 : UInt8), (111 : UInt8), (108 : UInt8), (116 : UInt8)]) else (bif decide (k = (6 : Int)) then ([(115 : UInt8), (105 : UInt8), (101 : UInt8), (109 : UInt8), (101 : UInt8), (110 : UInt8), (115 : UInt8)]) else (bif decide (k = (7 : Int)) then ([]) else (bif decide (k = (8 : Int)) then ([(111 : UInt8), (104 : UInt8), (109 : UInt8)]) else ([])))))))))
noncomputable def ku (k : Int) : Bool := (bif decide (k = (1 : Int)) then (true) else (bif decide (k = (2 : Int)) then (true) else (bif decide (k = (3 : Int)) then (true) else (bif decide (k = (4 : Int)) then (false) else (bif decide (k = (5 : Int)) then (false) else (bif decide (k = (6 : Int)) then (false) else (bif decide (k = (7 : Int)) then (false) else (bif decide (k = (8 : Int)) then (true) else (false)))))))))
noncomputable def sU (k : Int) : Bool := (bif decide (k = (1 : Int)) then (false) else (bif decide (k = (2 : Int)) then (false) else (bif decide (k = (3 : Int)) then (false) else (bif decide (k = (4 : Int)) then (false) else (bif decide (k = (5 : Int)) then (false) else (bif decide (k = (6 : Int)) then (true) else (bif decide (k = (7 : Int)) then (true) else (bif decide (k = (8 : Int)) then (false) else (false)))))))))
noncomputable def oP (k : Int) : Bool := (bif decide (k = (1 : Int)) then (false) else (bif decide (k = (2 : Int)) then (false) else (bif decide (k = (3 : Int)) then (false) else (bif decide (k = (4 : Int)) then (true) else (bif decide (k = (5 : Int)) then (true) else (bif decide (k = (6 : Int)) then (false) else (bif decide (k = (7 : Int)) then (false) else (bif decide (k = (8 : Int)) then (false) else (false)))))))))
noncomputable def sV (k : Int) : Bool := (bif decide (k = (1 : Int)) then (true) else (bif decide (k = (2 : Int)) then (true) else (bif decide (k = (3 : Int)) then (true) else (bif decide (k = (4 : Int)) then (true) else (bif decide (k = (5 : Int)) then (true) else (bif decide (k = (6 : Int)) then (true) else (bif decide (k = (7 : Int)) then (true) else (bif decide (k = (8 : Int)) then (true) else (false)))))))))
noncomputable def mW : List AV → M AV
 | [.int s0 .u8 k] => M.ret (AV.iD [AV.agg [AV.int s0 (IntKind.u8) (Jv k), AV.str s0 (Jw k), dH s0 (ku k), dH s0 (sU k), dH s0 (oP k)], dH s0 (sV k)])
 | args => Hg 63 args
theorem kC : ∀ args v g g', mW args g = .done v g' → bf Try.prog 63 args v g g' := by
  intro args v g g' h
  unfold mW at h
  split at h
  · rename_i s0 k
    obtain ⟨rfl, rfl⟩ := aA h
    refine LZ nV (a' := [.int true .u8 k]) (R := AV.iD [AV.agg [AV.int true (IntKind.u8) (Jv k), AV.str true (Jw k), dH true (ku k), dH true (sU k), dH true (oP k)], dH true (sV k)]) ?_ (fun N μ l ha => by simpa only [aI, Rep] using ha) (fun N μ c hc => by simpa only [Rep, aI, cZ] using hc)
    unfold Jv Jw ku sU oP sV
    cases t0 : decide (k = (1 : Int))
    ·cases t1 : decide (k = (2 : Int))
     ·cases t2 : decide (k = (3 : Int))
      ·cases t3 : decide (k = (4 : Int))
       ·cases t4 : decide (k = (5 : Int))
        ·cases t5 : decide (k = (6 : Int))
         ·cases t6 : decide (k = (7 : Int))
          ·cases t7 : decide (k = (8 : Int))
           ·exact ⟨[fF, fF, fF, fF, fF, fF, fF, fF], lF (I8 t0 t1 t2 t3 t4 t5 t6 t7)⟩
           ·exact ⟨[fF, fF, fF, fF, fF, fF, fF, tT], lF (I8 t0 t1 t2 t3 t4 t5 t6 t7)⟩
          ·exact ⟨[fF, fF, fF, fF, fF, fF, tT], lF (I7 t0 t1 t2 t3 t4 t5 t6)⟩
         ·exact ⟨[fF, fF, fF, fF, fF, tT], lF (I6 t0 t1 t2 t3 t4 t5)⟩
        ·exact ⟨[fF, fF, fF, fF, tT], lF (I5 t0 t1 t2 t3 t4)⟩
       ·exact ⟨[fF, fF, fF, tT], lF (I4 t0 t1 t2 t3)⟩
      ·exact ⟨[fF, fF, tT], lF (I3 t0 t1 t2)⟩
     ·exact ⟨[fF, tT], lF (I2 t0 t1)⟩
    ·exact ⟨[tT], lF (I1 t0)⟩
  · exact nV _ _ _ _ _ h
theorem jr : ∀ args, aC (mW args) := by
 intro args
 unfold mW
 split
 ·exact aC.ret _
 ·exact wG _ _
noncomputable def OV (k : Int) : Int := (bif decide ((1 : Int) = k) then ((1 : Int)) else (bif decide ((2 : Int) = k) then ((2 : Int)) else (bif decide ((3 : Int) = k) then ((3 : Int)) else (bif decide ((4 : Int) = k) then ((4 : Int)) else (bif decide ((5 : Int) = k) then ((5 : Int)) else (bif decide ((6 : Int) = k) then ((6 : Int)) else (bif decide ((7 : Int) = k) then ((7 : Int)) else (bif decide ((8 : Int) = k) then ((8 : Int)) else ((0 : Int))))))))))
noncomputable def OW (k : Int) : Int := (bif decide ((1 : Int) = k) then ((82 : Int)) else (bif decide ((2 : Int) = k) then ((76 : Int)) else (bif decide ((3 : Int) = k) then ((67 : Int)) else (bif decide ((4 : Int) = k) then ((73 : Int)) else (bif decide ((5 : Int) = k) then ((86 : Int)) else (bif decide ((6 : Int) = k) then ((71 : Int)) else (bif decide ((7 : Int) = k) then ((69 : Int)) else (bif decide ((8 : Int) = k) then ((80 : Int)) else ((0 : Int))))))))))
noncomputable def OX (k : Int) : List UInt8 := (bif decide ((1 : Int) = k) then ([(111 : UInt8), (104 : UInt8), (109 : UInt8)]) else (bif decide ((2 : Int) = k) then ([(104 : UInt8), (101 : UInt8), (110 : UInt8), (114 : UInt8), (121 : UInt8)]) else (bif decide ((3 : Int) = k) then ([(102 : UInt8), (97 : UInt8), (114 : UInt8), (97 : UInt8), (100 : UInt8)]) else (bif decide ((4 : Int) = k) then ([(97 : UInt8), (109 : UInt8), (112 : UInt8), (101 : UInt8), (114 : UInt8), (101 : UInt8)]) else (bif decide ((5 : Int) = k) then ([(118 : UInt8), (111 : UInt8), (108 : UInt8), (116 : UInt8)]) else (bif decide ((6 : Int) = k) then ([(115 : UInt8), (105 : UInt8), (101 : UInt8), (109 : UInt8), (101 : UInt8), (110 : UInt8), (115 : UInt8)]) else (bif decide ((7 : Int) = k) then ([]) else (bif decide ((8 : Int) = k) then ([(111 : UInt8), (104 : UInt8), (109 : UInt8)]) else ([])))))))))
noncomputable def mX (k : Int) : Bool := (bif decide ((1 : Int) = k) then (true) else (bif decide ((2 : Int) = k) then (true) else (bif decide ((3 : Int) = k) then (true) else (bif decide ((4 : Int) = k) then (false) else (bif decide ((5 : Int) = k) then (false) else (bif decide ((6 : Int) = k) then (false) else (bif decide ((7 : Int) = k) then (false) else (bif decide ((8 : Int) = k) then (true) else (false)))))))))
noncomputable def sW (k : Int) : Bool := (bif decide ((1 : Int) = k) then (false) else (bif decide ((2 : Int) = k) then (false) else (bif decide ((3 : Int) = k) then (false) else (bif decide ((4 : Int) = k) then (true) else (bif decide ((5 : Int) = k) then (true) else (bif decide ((6 : Int) = k) then (false) else (bif decide ((7 : Int) = k) then (false) else (bif decide ((8 : Int) = k) then (false) else (false)))))))))
noncomputable def xY (k : Int) : Bool := (bif decide ((1 : Int) = k) then (false) else (bif decide ((2 : Int) = k) then (false) else (bif decide ((3 : Int) = k) then (false) else (bif decide ((4 : Int) = k) then (false) else (bif decide ((5 : Int) = k) then (false) else (bif decide ((6 : Int) = k) then (true) else (bif decide ((7 : Int) = k) then (true) else (bif decide ((8 : Int) = k) then (false) else (false)))))))))
noncomputable def xZ (k : Int) : Bool := (bif decide ((1 : Int) = k) then (true) else (bif decide ((2 : Int) = k) then (true) else (bif decide ((3 : Int) = k) then (true) else (bif decide ((4 : Int) = k) then (true) else (bif decide ((5 : Int) = k) then (true) else (bif decide ((6 : Int) = k) then (true) else (bif decide ((7 : Int) = k) then (true) else (bif decide ((8 : Int) = k) then (true) else (false)))))))))
noncomputable def EL : List AV → M AV
 | [.int s0 .u8 k] => M.ret (AV.iD [AV.agg [AV.int s0 (IntKind.u8) (OV k), AV.int s0 (IntKind.u8) (OW k), AV.str s0 (OX k), dH s0 (mX k), dH s0 (sW k), dH s0 (xY k)], dH s0 (xZ k)])
 | args => Hg 69 args
theorem EM : ∀ args v g g', EL args g = .done v g' → bf Try.prog 69 args v g g' := by
  intro args v g g' h
  unfold EL at h
  split at h
  · rename_i s0 k
    obtain ⟨rfl, rfl⟩ := aA h
    refine LZ nV (a' := [.int true .u8 k]) (R := AV.iD [AV.agg [AV.int true (IntKind.u8) (OV k), AV.int true (IntKind.u8) (OW k), AV.str true (OX k), dH true (mX k), dH true (sW k), dH true (xY k)], dH true (xZ k)]) ?_ (fun N μ l ha => by simpa only [aI, Rep] using ha) (fun N μ c hc => by simpa only [Rep, aI, cZ] using hc)
    unfold OV OW OX mX sW xY xZ
    cases t0 : decide ((1 : Int) = k)
    ·cases t1 : decide ((2 : Int) = k)
     ·cases t2 : decide ((3 : Int) = k)
      ·cases t3 : decide ((4 : Int) = k)
       ·cases t4 : decide ((5 : Int) = k)
        ·cases t5 : decide ((6 : Int) = k)
         ·cases t6 : decide ((7 : Int) = k)
          ·cases t7 : decide ((8 : Int) = k)
           ·exact ⟨[fF, fF, fF, fF, fF, fF, fF, fF], lF (I8 t0 t1 t2 t3 t4 t5 t6 t7)⟩
           ·exact ⟨[fF, fF, fF, fF, fF, fF, fF, tT], lF (I8 t0 t1 t2 t3 t4 t5 t6 t7)⟩
          ·exact ⟨[fF, fF, fF, fF, fF, fF, tT], lF (I7 t0 t1 t2 t3 t4 t5 t6)⟩
         ·exact ⟨[fF, fF, fF, fF, fF, tT], lF (I6 t0 t1 t2 t3 t4 t5)⟩
        ·exact ⟨[fF, fF, fF, fF, tT], lF (I5 t0 t1 t2 t3 t4)⟩
       ·exact ⟨[fF, fF, fF, tT], lF (I4 t0 t1 t2 t3)⟩
      ·exact ⟨[fF, fF, tT], lF (I3 t0 t1 t2)⟩
     ·exact ⟨[fF, tT], lF (I2 t0 t1)⟩
    ·exact ⟨[tT], lF (I1 t0)⟩
  · exact nV _ _ _ _ _ h
theorem Aq : ∀ args, aC (EL args) := by
 intro args
 unfold EL
 split
 ·exact aC.ret _
 ·exact wG _ _
noncomputable def Tf (k : Int) : Int := (bif decide ((82 : Int) = k) then ((1 : Int)) else (bif decide ((76 : Int) = k) then ((2 : Int)) else (bif decide ((67 : Int) = k) then ((3 : Int)) else (bif decide ((73 : Int) = k) then ((4 : Int)) else (bif decide ((86 : Int) = k) then ((5 : Int)) else (bif decide ((71 : Int) = k) then ((6 : Int)) else (bif decide ((69 : Int) = k) then ((7 : Int)) else (bif decide ((80 : Int) = k) then ((8 : Int)) else ((0 : Int))))))))))
noncomputable def Ti (k : Int) : Bool := (bif decide ((82 : Int) = k) then (true) else (bif decide ((76 : Int) = k) then (true) else (bif decide ((67 : Int) = k) then (true) else (bif decide ((73 : Int) = k) then (true) else (bif decide ((86 : Int) = k) then (true) else (bif decide ((71 : Int) = k) then (true) else (bif decide ((69 : Int) = k) then (true) else (bif decide ((80 : Int) = k) then (true) else (false)))))))))
noncomputable def Tj : List AV → M AV
 | [.int s0 .u8 k] => M.ret (AV.iD [AV.int s0 (IntKind.u8) (Tf k), dH s0 (Ti k)])
 | args => Hg 82 args
theorem sZ : ∀ args v g g', Tj args g = .done v g' → bf Try.prog 82 args v g g' := by
  intro args v g g' h
  unfold Tj at h
  split at h
  · rename_i s0 k
    obtain ⟨rfl, rfl⟩ := aA h
    refine LZ nV (a' := [.int true .u8 k]) (R := AV.iD [AV.int true (IntKind.u8) (Tf k), dH true (Ti k)]) ?_ (fun N μ l ha => by simpa only [aI, Rep] using ha) (fun N μ c hc => by simpa only [Rep, aI, cZ] using hc)
    unfold Tf Ti
    cases t0 : decide ((82 : Int) = k)
    ·cases t1 : decide ((76 : Int) = k)
     ·cases t2 : decide ((67 : Int) = k)
      ·cases t3 : decide ((73 : Int) = k)
       ·cases t4 : decide ((86 : Int) = k)
        ·cases t5 : decide ((71 : Int) = k)
         ·cases t6 : decide ((69 : Int) = k)
          ·cases t7 : decide ((80 : Int) = k)
           ·exact ⟨[fF, fF, fF, fF, fF, fF, fF, fF], lF (I8 t0 t1 t2 t3 t4 t5 t6 t7)⟩
           ·exact ⟨[fF, fF, fF, fF, fF, fF, fF, tT], lF (I8 t0 t1 t2 t3 t4 t5 t6 t7)⟩
          ·exact ⟨[fF, fF, fF, fF, fF, fF, tT], lF (I7 t0 t1 t2 t3 t4 t5 t6)⟩
         ·exact ⟨[fF, fF, fF, fF, fF, tT], lF (I6 t0 t1 t2 t3 t4 t5)⟩
        ·exact ⟨[fF, fF, fF, fF, tT], lF (I5 t0 t1 t2 t3 t4)⟩
       ·exact ⟨[fF, fF, fF, tT], lF (I4 t0 t1 t2 t3)⟩
      ·exact ⟨[fF, fF, tT], lF (I3 t0 t1 t2)⟩
     ·exact ⟨[fF, tT], lF (I2 t0 t1)⟩
    ·exact ⟨[tT], lF (I1 t0)⟩
  · exact nV _ _ _ _ _ h
theorem oQ : ∀ args, aC (Tj args) := by
 intro args
 unfold Tj
 split
 ·exact aC.ret _
 ·exact wG _ _
noncomputable def Ho (k : Int) : Int := (bif decide ((82 : Int) = k) then ((1 : Int)) else (bif decide ((76 : Int) = k) then ((2 : Int)) else (bif decide ((67 : Int) = k) then ((3 : Int)) else (bif decide ((73 : Int) = k) then ((4 : Int)) else (bif decide ((86 : Int) = k) then ((5 : Int)) else (bif decide ((71 : Int) = k) then ((6 : Int)) else (bif decide ((69 : Int) = k) then ((7 : Int)) else (bif decide ((80 : Int) = k) then ((8 : Int)) else ((0 : Int))))))))))
noncomputable def Hq (k : Int) : Bool := (bif decide ((82 : Int) = k) then (true) else (bif decide ((76 : Int) = k) then (true) else (bif decide ((67 : Int) = k) then (true) else (bif decide ((73 : Int) = k) then (true) else (bif decide ((86 : Int) = k) then (true) else (bif decide ((71 : Int) = k) then (true) else (bif decide ((69 : Int) = k) then (true) else (bif decide ((80 : Int) = k) then (true) else (false)))))))))
noncomputable def OY : List AV → M AV
 | [.int s0 .u8 k] => M.ret (AV.iD [AV.int s0 (IntKind.u8) (Ho k), dH s0 (Hq k)])
 | args => Hg 86 args
theorem Jy : ∀ args v g g', OY args g = .done v g' → bf Try.prog 86 args v g g' := by
  intro args v g g' h
  unfold OY at h
  split at h
  · rename_i s0 k
    obtain ⟨rfl, rfl⟩ := aA h
    refine LZ nV (a' := [.int true .u8 k]) (R := AV.iD [AV.int true (IntKind.u8) (Ho k), dH true (Hq k)]) ?_ (fun N μ l ha => by simpa only [aI, Rep] using ha) (fun N μ c hc => by simpa only [Rep, aI, cZ] using hc)
    unfold Ho Hq
    cases t0 : decide ((82 : Int) = k)
    ·cases t1 : decide ((76 : Int) = k)
     ·cases t2 : decide ((67 : Int) = k)
      ·cases t3 : decide ((73 : Int) = k)
       ·cases t4 : decide ((86 : Int) = k)
        ·cases t5 : decide ((71 : Int) = k)
         ·cases t6 : decide ((69 : Int) = k)
          ·cases t7 : decide ((80 : Int) = k)
           ·exact ⟨[fF, fF, fF, fF, fF, fF, fF, fF], lF (I8 t0 t1 t2 t3 t4 t5 t6 t7)⟩
           ·exact ⟨[fF, fF, fF, fF, fF, fF, fF, tT], lF (I8 t0 t1 t2 t3 t4 t5 t6 t7)⟩
          ·exact ⟨[fF, fF, fF, fF, fF, fF, tT], lF (I7 t0 t1 t2 t3 t4 t5 t6)⟩
         ·exact ⟨[fF, fF, fF, fF, fF, tT], lF (I6 t0 t1 t2 t3 t4 t5)⟩
        ·exact ⟨[fF, fF, fF, fF, tT], lF (I5 t0 t1 t2 t3 t4)⟩
       ·exact ⟨[fF, fF, fF, tT], lF (I4 t0 t1 t2 t3)⟩
      ·exact ⟨[fF, fF, tT], lF (I3 t0 t1 t2)⟩
     ·exact ⟨[fF, tT], lF (I2 t0 t1)⟩
    ·exact ⟨[tT], lF (I1 t0)⟩
  · exact nV _ _ _ _ _ h
theorem EN : ∀ args, aC (OY args) := by
 intro args
 unfold OY
 split
 ·exact aC.ret _
 ·exact wG _ _
noncomputable def ad3 : Known := kc 36 ofBits (kc 62 toBits (kc 81 lZ (kc 85 vw (kc 66 qF (kc 72 vC (kc 63 mW (kc 69 EL (kc 82 Tj (kc 86 OY (kn))))))))))
theorem Y5 : eY Try.prog ad3 := aO ((jf Try.prog).iw Try.func36 (by kernel_rfl) (by kernel_rfl) (by kernel_rfl) (by kernel_rfl)) (aO ((je Try.prog).iw Try.func62 (by kernel_rfl) (by kernel_rfl) (by kernel_rfl) (by kernel_rfl)) (aO jC (aO wE (aO kQ (aO wF (aO kC (aO EM (aO sZ (aO Jy (mJ))))))))))
theorem L9 : gG ad3 := aG aC.ofBits (aG aC.toBits (aG iV (aG sQ (aG jD (aG sS (aG jr (aG Aq (aG oQ (aG EN (jH))))))))))
noncomputable def Hr : Calls' := Sx.runN Try.prog ad3 (bY Try.prog) 1000 50
theorem nX : cO Try.prog Hr := gK Y5 L9 (by kernel_rfl) (by kernel_rfl) 1000 50
theorem wH : iq Hr := jO L9 (fun _ _ _ h => by cases h) (fun call hc n l fr => gV hc n l fr) 50
noncomputable def yc (l : List UInt8) : Int := (bif decide ((↑(List.length l) : Int) < 2) then ((0 : Int)) else (bif decide (16 < (↑(List.length l) : Int)) then ((0 : Int)) else (bif List.all (List.take (List.length l - 1) (List.drop 1 l)) okB then (Tf (↑(UInt8.toNat (List.getD l 0 (0 : UInt8))) : Int)) else ((0 : Int)))))
noncomputable def yg (l : List UInt8) : Bool := (bif decide ((↑(List.length l) : Int) < 2) then (false) else (bif decide (16 < (↑(List.length l) : Int)) then (false) else (bif List.all (List.take (List.length l - 1) (List.drop 1 l)) okB then (Ti (↑(UInt8.toNat (List.getD l 0 (0 : UInt8))) : Int)) else (false))))
noncomputable def uo : List AV → M AV
 | [.str s0 l] => M.ret (AV.iD [AV.int s0 (IntKind.u8) (yc l), dH s0 (yg l)])
 | args => Hr 64 args
theorem nY : ∀ args v g g', uo args g = .done v g' → bf Try.prog 64 args v g g' := by
  intro args v g g' h
  unfold uo at h
  split at h
  · rename_i s0 l
    obtain ⟨rfl, rfl⟩ := aA h
    refine LZ nX (a' := [.str true l]) (R := AV.iD [AV.int true (IntKind.u8) (yc l), dH true (yg l)]) ?_ (fun N μ l ha => by simpa only [aI, Rep] using ha) (fun N μ c hc => by simpa only [Rep, aI, cZ] using hc)
    unfold yc yg
    cases t0 : decide ((↑(List.length l) : Int) < 2)
    ·cases t1 : decide (16 < (↑(List.length l) : Int))
     ·cases t2 : List.all (List.take (List.length l - 1) (List.drop 1 l)) okB
      ·exact ⟨[fF, fF, tT], lF (I4 t0 t1 (ai (show (0 : Int) ≤ 1 by decide) (ai (show 1 ≤ (↑(List.length l) : Int) by simp only [dT, dF, List.length_take, List.length_drop] at *; omega) (show (↑(List.length l) : Int) ≤ (↑(List.length l) : Int) by simp only [dT, dF, List.length_take, List.length_drop] at *; omega))) (nf t2))⟩
      ·exact ⟨[fF, fF, fF], lF (I5 t0 t1 (ai (show (0 : Int) ≤ 1 by decide) (ai (show 1 ≤ (↑(List.length l) : Int) by simp only [dT, dF, List.length_take, List.length_drop] at *; omega) (show (↑(List.length l) : Int) ≤ (↑(List.length l) : Int) by simp only [dT, dF, List.length_take, List.length_drop] at *; omega))) (nt t2) (ai (show (0 : Int) ≤ 0 by decide) (show 0 < (↑(List.length l) : Int) by simp only [dT, dF, List.length_take, List.length_drop] at *; omega)))⟩
     ·exact ⟨[fF, tT], lF (I2 t0 t1)⟩
    ·exact ⟨[tT], lF (I1 t0)⟩
  · exact nX _ _ _ _ _ h
theorem lJ : ∀ args, aC (uo args) := by
 intro args
 unfold uo
 split
 ·exact aC.ret _
 ·exact wH _ _
noncomputable def tq (l : List UInt8) : Int := (bif decide ((↑(List.length l) : Int) < 2) then ((0 : Int)) else (bif decide (16 < (↑(List.length l) : Int)) then ((0 : Int)) else (bif List.all (List.take (List.length l - 1) (List.drop 1 l)) okB then (Ho (↑(UInt8.toNat (List.getD l 0 (0 : UInt8))) : Int)) else ((0 : Int)))))
noncomputable def tu (l : List UInt8) : Bool := (bif decide ((↑(List.length l) : Int) < 2) then (false) else (bif decide (16 < (↑(List.length l) : Int)) then (false) else (bif List.all (List.take (List.length l - 1) (List.drop 1 l)) okB then (Hq (↑(UInt8.toNat (List.getD l 0 (0 : UInt8))) : Int)) else (false))))
noncomputable def Ar : List AV → M AV
 | [.str s0 l] => M.ret (AV.iD [AV.int s0 (IntKind.u8) (tq l), dH s0 (tu l)])
 | args => Hr 70 args
theorem Ht : ∀ args v g g', Ar args g = .done v g' → bf Try.prog 70 args v g g' := by
  intro args v g g' h
  unfold Ar at h
  split at h
  · rename_i s0 l
    obtain ⟨rfl, rfl⟩ := aA h
    refine LZ nX (a' := [.str true l]) (R := AV.iD [AV.int true (IntKind.u8) (tq l), dH true (tu l)]) ?_ (fun N μ l ha => by simpa only [aI, Rep] using ha) (fun N μ c hc => by simpa only [Rep, aI, cZ] using hc)
    unfold tq tu
    cases t0 : decide ((↑(List.length l) : Int) < 2)
    ·cases t1 : decide (16 < (↑(List.length l) : Int))
     ·cases t2 : List.all (List.take (List.length l - 1) (List.drop 1 l)) okB
      ·exact ⟨[fF, fF, tT], lF (I5 t0 t1 (ai (show (0 : Int) ≤ 1 by decide) (ai (show 1 ≤ (↑(List.length l) : Int) by simp only [dT, dF, List.length_take, List.length_drop] at *; omega) (show (↑(List.length l) : Int) ≤ (↑(List.length l) : Int) by simp only [dT, dF, List.length_take, List.length_drop] at *; omega))) (show List.length (List.take (List.length l - 1) (List.drop 1 l)) ≤ 9223372036854775807 by simp only [dT, dF, List.length_take, List.length_drop] at *; omega) (nf t2))⟩
      ·exact ⟨[fF, fF, fF], lF (I6 t0 t1 (ai (show (0 : Int) ≤ 1 by decide) (ai (show 1 ≤ (↑(List.length l) : Int) by simp only [dT, dF, List.length_take, List.length_drop] at *; omega) (show (↑(List.length l) : Int) ≤ (↑(List.length l) : Int) by simp only [dT, dF, List.length_take, List.length_drop] at *; omega))) (show List.length (List.take (List.length l - 1) (List.drop 1 l)) ≤ 9223372036854775807 by simp only [dT, dF, List.length_take, List.length_drop] at *; omega) (nt t2) (ai (show (0 : Int) ≤ 0 by decide) (show 0 < (↑(List.length l) : Int) by simp only [dT, dF, List.length_take, List.length_drop] at *; omega)))⟩
     ·exact ⟨[fF, tT], lF (I2 t0 t1)⟩
    ·exact ⟨[tT], lF (I1 t0)⟩
  · exact nX _ _ _ _ _ h
theorem EO : ∀ args, aC (Ar args) := by
 intro args
 unfold Ar
 split
 ·exact aC.ret _
 ·exact wH _ _
noncomputable def mY (l : List UInt8) : Bool := (bif decide (0 < (↑(List.length l) : Int)) then (bif decide ((↑(List.length l) : Int) ≤ 16) then (List.all l okB) else (false)) else (false))
noncomputable def uq : List AV → M AV
 | [.str s0 l] => M.ret (dH s0 (mY l))
 | args => Hr 65 args
theorem nZ : ∀ args v g g', uq args g = .done v g' → bf Try.prog 65 args v g g' := by
  intro args v g g' h
  unfold uq at h
  split at h
  · rename_i s0 l
    obtain ⟨rfl, rfl⟩ := aA h
    refine LZ nX (a' := [.str true l]) (R := dH true (mY l)) ?_ (fun N μ l ha => by simpa only [aI, Rep] using ha) (fun N μ c hc => by simpa only [Rep, aI, cZ] using hc)
    unfold mY
    cases t0 : decide (0 < (↑(List.length l) : Int))
    ·exact ⟨[fF], lF (I1 t0)⟩
    ·cases t1 : decide ((↑(List.length l) : Int) ≤ 16)
     ·exact ⟨[tT, fF], lF (I2 t0 t1)⟩
     ·exact ⟨[tT, tT], lF (I2 t0 t1)⟩
  · exact nX _ _ _ _ _ h
theorem lK : ∀ args, aC (uq args) := by
 intro args
 unfold uq
 split
 ·exact aC.ret _
 ·exact wH _ _
noncomputable def kD (l : List UInt8) : Bool := (bif decide (1 ≤ (↑(List.length l) : Int)) then (bif decide ((↑(List.length l) : Int) ≤ 16) then (List.all l okB) else (false)) else (false))
noncomputable def Au : List AV → M AV
 | [.str s0 l] => M.ret (dH s0 (kD l))
 | args => Hr 71 args
theorem Hu : ∀ args v g g', Au args g = .done v g' → bf Try.prog 71 args v g g' := by
  intro args v g g' h
  unfold Au at h
  split at h
  · rename_i s0 l
    obtain ⟨rfl, rfl⟩ := aA h
    refine LZ nX (a' := [.str true l]) (R := dH true (kD l)) ?_ (fun N μ l ha => by simpa only [aI, Rep] using ha) (fun N μ c hc => by simpa only [Rep, aI, cZ] using hc)
    unfold kD
    cases t0 : decide (1 ≤ (↑(List.length l) : Int))
    ·exact ⟨[fF], lF (I1 t0)⟩
    ·cases t1 : decide ((↑(List.length l) : Int) ≤ 16)
     ·exact ⟨[tT, fF], lF (I2 t0 t1)⟩
     ·exact ⟨[tT, tT], lF (I3 t0 t1 (show List.length l ≤ 9223372036854775807 by simp only [dT, dF, List.length_take, List.length_drop] at *; omega))⟩
  · exact nX _ _ _ _ _ h
theorem EP : ∀ args, aC (Au args) := by
 intro args
 unfold Au
 split
 ·exact aC.ret _
 ·exact wH _ _
noncomputable def ad4 : Known := kc 36 ofBits (kc 62 toBits (kc 81 lZ (kc 85 vw (kc 66 qF (kc 72 vC (kc 63 mW (kc 69 EL (kc 82 Tj (kc 86 OY (kc 64 uo (kc 70 Ar (kc 65 uq (kc 71 Au (kn))))))))))))))
theorem Y6 : eY Try.prog ad4 := aO ((jf Try.prog).iw Try.func36 (by kernel_rfl) (by kernel_rfl) (by kernel_rfl) (by kernel_rfl)) (aO ((je Try.prog).iw Try.func62 (by kernel_rfl) (by kernel_rfl) (by kernel_rfl) (by kernel_rfl)) (aO jC (aO wE (aO kQ (aO wF (aO kC (aO EM (aO sZ (aO Jy (aO nY (aO Ht (aO nZ (aO Hu (mJ))))))))))))))
theorem Mc : gG ad4 := aG aC.ofBits (aG aC.toBits (aG iV (aG sQ (aG jD (aG sS (aG jr (aG Aq (aG oQ (aG EN (aG lJ (aG EO (aG lK (aG EP (jH))))))))))))))
noncomputable def QO : Calls' := Sx.runN Try.prog ad4 (bY Try.prog) 1000 50
theorem zI : cO Try.prog QO := gK Y6 Mc (by kernel_rfl) (by kernel_rfl) 1000 50
theorem Hw : iq QO := jO Mc (fun _ _ _ h => by cases h) (fun call hc n l fr => gV hc n l fr) 50
noncomputable def gJ (k : Int) (n a b c d : List UInt8) (v : Nat) (ph : Int) : Int := (bif sV k then (bif yg n then (bif decide (yc n = k) then (bif mY a then (bif mY b then (bif sU k then (bif mY c then (bif mY d then (bif a == b then ((2 : Int)) else (bif oP k then (bif decide ((2 : Int) < fQ v) then ((5 : Int)) else (bif ku k then (bif Us (cn v) 0 then ((2 : Int)) else ((0 : Int))) else ((0 : Int)))) else (bif decide (ph = (0 : Int)) then (bif decide ((2 : Int) < fQ v) then ((5 : Int)) else (bif ku k then (bif Us (cn v) 0 then ((2 : Int)) else ((0 : Int))) else ((0 : Int)))) else ((2 : Int))))) else ((8 : Int))) else ((8 : Int))) else (bif a == b then ((2 : Int)) else (bif c == [] then (bif d == [] then (bif oP k then (bif decide ((2 : Int) < fQ v) then ((5 : Int)) else (bif ku k then (bif Us (cn v) 0 then ((2 : Int)) else ((0 : Int))) else ((0 : Int)))) else (bif decide (ph = (0 : Int)) then (bif decide ((2 : Int) < fQ v) then ((5 : Int)) else (bif ku k then (bif Us (cn v) 0 then ((2 : Int)) else ((0 : Int))) else ((0 : Int)))) else ((2 : Int)))) else ((2 : Int))) else ((2 : Int))))) else ((8 : Int))) else ((8 : Int))) else ((8 : Int))) else ((8 : Int))) else ((2 : Int)))
noncomputable def ER : List AV → M AV
 | [.agg [.int s0 .u8 k, .str s1 n, .str s2 a, .str s3 b, .str s4 c, .str s5 d, .raw s6 v, .int s7 .i64 ph]] => M.ret (AV.int (Bool.or s0 (Bool.or s1 (Bool.or s2 (Bool.or s3 (Bool.or s4 (Bool.or s5 (Bool.or s6 s7))))))) (IntKind.i64) (gJ k n a b c d v ph))
 | args => QO 37 args
noncomputable abbrev ZCU (v0 v1 v2 v3 v4 v5 v6 v7) := (.agg [.int true .u8 v0, .str true v1, .str true v2, .str true v3, .str true v4, .str true v5, .raw true v6, iT v7] : AV)
theorem tC : ∀ args v g g', ER args g = .done v g' → bf Try.prog 37 args v g g' := by
  intro args v g g' h
  unfold ER at h
  split at h
  · rename_i s0 k s1 n s2 a s3 b s4 c s5 d s6 v s7 ph
    obtain ⟨rfl, rfl⟩ := aA h
    refine LZ zI (a' := [ZCU k n a b c d v ph]) (R := AV.int (Bool.or true (Bool.or true (Bool.or true (Bool.or true (Bool.or true (Bool.or true (Bool.or true true))))))) (IntKind.i64) (gJ k n a b c d v ph)) ?_ (fun N μ l ha => by simpa only [aI, Rep] using ha) (fun N μ c hc => by simpa only [Rep, aI, cZ] using hc)
    unfold gJ
    cases t0 : sV k
    ·exact ⟨[tT], lF (I1 (nf t0))⟩
    ·cases t1 : yg n
     ·exact ⟨[fF, tT], lF (I2 (nt t0) (nf t1))⟩
     ·cases t2 : decide (yc n = k)
      ·exact ⟨[fF, fF, tT], lF (I3 (nt t0) (nt t1) (nf t2))⟩
      ·cases t3 : mY a
       ·exact ⟨[fF, fF, fF, tT], lF (I4 (nt t0) (nt t1) (nt t2) (nf t3))⟩
       ·cases t4 : mY b
        ·exact ⟨[fF, fF, fF, fF, tT], lF (I5 (nt t0) (nt t1) (nt t2) (nt t3) (nf t4))⟩
        ·cases t5 : sU k
         ·cases t6 : a == b
          ·cases t7 : c == []
           ·exact ⟨[fF, fF, fF, fF, fF, fF, fF, tT, tT], lF (I9 (nt t0) (nt t1) (nt t2) (nt t3) (nt t4) t5 t6 (nf t5) (nf t7))⟩
           ·cases t8 : d == []
            ·exact ⟨[fF, fF, fF, fF, fF, fF, fF, tT, fF, tT], lF (I10 (nt t0) (nt t1) (nt t2) (nt t3) (nt t4) t5 t6 (nf t5) (nt t7) (nf t8))⟩
            ·cases t9 : oP k
             ·cases t10 : decide (ph = (0 : Int))
              ·exact ⟨[fF, fF, fF, fF, fF, fF, fF, tT, fF, fF, tT, tT], lF (I12 (nt t0) (nt t1) (nt t2) (nt t3) (nt t4) t5 t6 (nf t5) (nt t7) (nt t8) (nf t9) (nf t10))⟩
              ·cases t11 : decide ((2 : Int) < fQ v)
               ·cases t12 : ku k
                ·exact ⟨[fF, fF, fF, fF, fF, fF, fF, tT, fF, fF, tT, fF, fF, fF], lF (OQ (nt t0) (nt t1) (nt t2) (nt t3) (nt t4) t5 t6 (nf t5) (nt t7) (nt t8) (nf t9) (nt t10) t11 t12)⟩
                ·cases t13 : Us (cn v) 0
                 ·exact ⟨[fF, fF, fF, fF, fF, fF, fF, tT, fF, fF, tT, fF, fF, tT, fF], lF (I15 (nt t0) (nt t1) (nt t2) (nt t3) (nt t4) t5 t6 (nf t5) (nt t7) (nt t8) (nf t9) (nt t10) t11 t12 t13)⟩
                 ·exact ⟨[fF, fF, fF, fF, fF, fF, fF, tT, fF, fF, tT, fF, fF, tT, tT], lF (I15 (nt t0) (nt t1) (nt t2) (nt t3) (nt t4) t5 t6 (nf t5) (nt t7) (nt t8) (nf t9) (nt t10) t11 t12 t13)⟩
               ·exact ⟨[fF, fF, fF, fF, fF, fF, fF, tT, fF, fF, tT, fF, tT], lF (I13 (nt t0) (nt t1) (nt t2) (nt t3) (nt t4) t5 t6 (nf t5) (nt t7) (nt t8) (nf t9) (nt t10) t11)⟩
             ·cases t10 : decide ((2 : Int) < fQ v)
              ·cases t11 : ku k
               ·exact ⟨[fF, fF, fF, fF, fF, fF, fF, tT, fF, fF, fF, fF, fF], lF (I13 (nt t0) (nt t1) (nt t2) (nt t3) (nt t4) t5 t6 (nf t5) (nt t7) (nt t8) (nt t9) t10 t11)⟩
               ·cases t12 : Us (cn v) 0
                ·exact ⟨[fF, fF, fF, fF, fF, fF, fF, tT, fF, fF, fF, fF, tT, fF], lF (OQ (nt t0) (nt t1) (nt t2) (nt t3) (nt t4) t5 t6 (nf t5) (nt t7) (nt t8) (nt t9) t10 t11 t12)⟩
                ·exact ⟨[fF, fF, fF, fF, fF, fF, fF, tT, fF, fF, fF, fF, tT, tT], lF (OQ (nt t0) (nt t1) (nt t2) (nt t3) (nt t4) t5 t6 (nf t5) (nt t7) (nt t8) (nt t9) t10 t11 t12)⟩
              ·exact ⟨[fF, fF, fF, fF, fF, fF, fF, tT, fF, fF, fF, tT], lF (I12 (nt t0) (nt t1) (nt t2) (nt t3) (nt t4) t5 t6 (nf t5) (nt t7) (nt t8) (nt t9) t10)⟩
          ·exact ⟨[fF, fF, fF, fF, fF, fF, tT], lF (I7 (nt t0) (nt t1) (nt t2) (nt t3) (nt t4) t5 t6)⟩
         ·cases t6 : mY c
          ·exact ⟨[fF, fF, fF, fF, fF, tT, tT], lF (I7 (nt t0) (nt t1) (nt t2) (nt t3) (nt t4) t5 (nf t6))⟩
          ·cases t7 : mY d
           ·exact ⟨[fF, fF, fF, fF, fF, tT, fF, tT], lF (I8 (nt t0) (nt t1) (nt t2) (nt t3) (nt t4) t5 (nt t6) (nf t7))⟩
           ·cases t8 : a == b
            ·cases t9 : oP k
             ·cases t10 : decide (ph = (0 : Int))
              ·exact ⟨[fF, fF, fF, fF, fF, tT, fF, fF, fF, fF, tT, tT], lF (I12 (nt t0) (nt t1) (nt t2) (nt t3) (nt t4) t5 (nt t6) (nt t7) t8 (nt t5) (nf t9) (nf t10))⟩
              ·cases t11 : decide ((2 : Int) < fQ v)
               ·cases t12 : ku k
                ·exact ⟨[fF, fF, fF, fF, fF, tT, fF, fF, fF, fF, tT, fF, fF, fF], lF (OQ (nt t0) (nt t1) (nt t2) (nt t3) (nt t4) t5 (nt t6) (nt t7) t8 (nt t5) (nf t9) (nt t10) t11 t12)⟩
                ·cases t13 : Us (cn v) 0
                 ·exact ⟨[fF, fF, fF, fF, fF, tT, fF, fF, fF, fF, tT, fF, fF, tT, fF], lF (I15 (nt t0) (nt t1) (nt t2) (nt t3) (nt t4) t5 (nt t6) (nt t7) t8 (nt t5) (nf t9) (nt t10) t11 t12 t13)⟩
                 ·exact ⟨[fF, fF, fF, fF, fF, tT, fF, fF, fF, fF, tT, fF, fF, tT, tT], lF (I15 (nt t0) (nt t1) (nt t2) (nt t3) (nt t4) t5 (nt t6) (nt t7) t8 (nt t5) (nf t9) (nt t10) t11 t12 t13)⟩
               ·exact ⟨[fF, fF, fF, fF, fF, tT, fF, fF, fF, fF, tT, fF, tT], lF (I13 (nt t0) (nt t1) (nt t2) (nt t3) (nt t4) t5 (nt t6) (nt t7) t8 (nt t5) (nf t9) (nt t10) t11)⟩
             ·cases t10 : decide ((2 : Int) < fQ v)
              ·cases t11 : ku k
               ·exact ⟨[fF, fF, fF, fF, fF, tT, fF, fF, fF, fF, fF, fF, fF], lF (I13 (nt t0) (nt t1) (nt t2) (nt t3) (nt t4) t5 (nt t6) (nt t7) t8 (nt t5) (nt t9) t10 t11)⟩
               ·cases t12 : Us (cn v) 0
                ·exact ⟨[fF, fF, fF, fF, fF, tT, fF, fF, fF, fF, fF, fF, tT, fF], lF (OQ (nt t0) (nt t1) (nt t2) (nt t3) (nt t4) t5 (nt t6) (nt t7) t8 (nt t5) (nt t9) t10 t11 t12)⟩
                ·exact ⟨[fF, fF, fF, fF, fF, tT, fF, fF, fF, fF, fF, fF, tT, tT], lF (OQ (nt t0) (nt t1) (nt t2) (nt t3) (nt t4) t5 (nt t6) (nt t7) t8 (nt t5) (nt t9) t10 t11 t12)⟩
              ·exact ⟨[fF, fF, fF, fF, fF, tT, fF, fF, fF, fF, fF, tT], lF (I12 (nt t0) (nt t1) (nt t2) (nt t3) (nt t4) t5 (nt t6) (nt t7) t8 (nt t5) (nt t9) t10)⟩
            ·exact ⟨[fF, fF, fF, fF, fF, tT, fF, fF, tT], lF (I9 (nt t0) (nt t1) (nt t2) (nt t3) (nt t4) t5 (nt t6) (nt t7) t8)⟩
  · exact zI _ _ _ _ _ h
theorem pX : ∀ args, aC (ER args) := by
 intro args
 unfold ER
 split
 ·exact aC.ret _
 ·exact Hw _ _
noncomputable def Aw (k : Int) (n a b c d : List UInt8) (v : Nat) (ph : Int) : Int := (bif xZ k then (bif tu n then (bif decide (tq n = k) then (bif kD a then (bif kD b then (bif xY k then (bif kD c then (bif kD d then (bif a == b then ((2 : Int)) else (bif sW k then (bif decide ((2 : Int) < jZ v) then ((5 : Int)) else (bif mX k then (bif Ut (cn v) 0 then ((0 : Int)) else ((2 : Int))) else ((0 : Int)))) else (bif decide (ph = (0 : Int)) then (bif decide ((2 : Int) < jZ v) then ((5 : Int)) else (bif mX k then (bif Ut (cn v) 0 then ((0 : Int)) else ((2 : Int))) else ((0 : Int)))) else ((2 : Int))))) else ((8 : Int))) else ((8 : Int))) else (bif a == b then ((2 : Int)) else (bif c == [] then (bif d == [] then (bif sW k then (bif decide ((2 : Int) < jZ v) then ((5 : Int)) else (bif mX k then (bif Ut (cn v) 0 then ((0 : Int)) else ((2 : Int))) else ((0 : Int)))) else (bif decide (ph = (0 : Int)) then (bif decide ((2 : Int) < jZ v) then ((5 : Int)) else (bif mX k then (bif Ut (cn v) 0 then ((0 : Int)) else ((2 : Int))) else ((0 : Int)))) else ((2 : Int)))) else ((2 : Int))) else ((2 : Int))))) else ((8 : Int))) else ((8 : Int))) else ((8 : Int))) else ((8 : Int))) else ((2 : Int)))
noncomputable def Md : List AV → M AV
 | [.agg [.int s0 .u8 k, .str s1 n, .str s2 a, .str s3 b, .str s4 c, .str s5 d, .raw s6 v, .int s7 .i64 ph]] => M.ret (AV.int (Bool.or s0 (Bool.or s1 (Bool.or s2 (Bool.or s3 (Bool.or s4 (Bool.or s5 (Bool.or s6 s7))))))) (IntKind.i64) (Aw k n a b c d v ph))
 | args => QO 39 args
theorem Me : ∀ args v g g', Md args g = .done v g' → bf Try.prog 39 args v g g' := by
  intro args v g g' h
  unfold Md at h
  split at h
  · rename_i s0 k s1 n s2 a s3 b s4 c s5 d s6 v s7 ph
    obtain ⟨rfl, rfl⟩ := aA h
    refine LZ zI (a' := [ZCU k n a b c d v ph]) (R := AV.int (Bool.or true (Bool.or true (Bool.or true (Bool.or true (Bool.or true (Bool.or true (Bool.or true true))))))) (IntKind.i64) (Aw k n a b c d v ph)) ?_ (fun N μ l ha => by simpa only [aI, Rep] using ha) (fun N μ c hc => by simpa only [Rep, aI, cZ] using hc)
    unfold Aw
    cases t0 : xZ k
    ·exact ⟨[tT], lF (I1 (nf t0))⟩
    ·cases t1 : tu n
     ·exact ⟨[fF, tT], lF (I2 (nt t0) (nf t1))⟩
     ·cases t2 : decide (tq n = k)
      ·exact ⟨[fF, fF, tT], lF (I3 (nt t0) (nt t1) (nf t2))⟩
      ·cases t3 : kD a
       ·exact ⟨[fF, fF, fF, tT], lF (I4 (nt t0) (nt t1) (nt t2) (nf t3))⟩
       ·cases t4 : kD b
        ·exact ⟨[fF, fF, fF, fF, tT], lF (I5 (nt t0) (nt t1) (nt t2) (nt t3) (nf t4))⟩
        ·cases t5 : xY k
         ·cases t6 : a == b
          ·cases t7 : c == []
           ·exact ⟨[fF, fF, fF, fF, fF, fF, fF, tT, tT], lF (I9 (nt t0) (nt t1) (nt t2) (nt t3) (nt t4) t5 t6 (nf t5) (nf t7))⟩
           ·cases t8 : d == []
            ·exact ⟨[fF, fF, fF, fF, fF, fF, fF, tT, fF, tT], lF (I10 (nt t0) (nt t1) (nt t2) (nt t3) (nt t4) t5 t6 (nf t5) (nt t7) (nf t8))⟩
            ·cases t9 : sW k
             ·cases t10 : decide (ph = (0 : Int))
              ·exact ⟨[fF, fF, fF, fF, fF, fF, fF, tT, fF, fF, tT, tT], lF (I12 (nt t0) (nt t1) (nt t2) (nt t3) (nt t4) t5 t6 (nf t5) (nt t7) (nt t8) (nf t9) (nf t10))⟩
              ·cases t11 : decide ((2 : Int) < jZ v)
               ·cases t12 : mX k
                ·exact ⟨[fF, fF, fF, fF, fF, fF, fF, tT, fF, fF, tT, fF, fF, fF], lF (OQ (nt t0) (nt t1) (nt t2) (nt t3) (nt t4) t5 t6 (nf t5) (nt t7) (nt t8) (nf t9) (nt t10) t11 t12)⟩
                ·cases t13 : Ut (cn v) 0
                 ·exact ⟨[fF, fF, fF, fF, fF, fF, fF, tT, fF, fF, tT, fF, fF, tT, tT], lF (I15 (nt t0) (nt t1) (nt t2) (nt t3) (nt t4) t5 t6 (nf t5) (nt t7) (nt t8) (nf t9) (nt t10) t11 t12 (nf t13))⟩
                 ·exact ⟨[fF, fF, fF, fF, fF, fF, fF, tT, fF, fF, tT, fF, fF, tT, fF], lF (I15 (nt t0) (nt t1) (nt t2) (nt t3) (nt t4) t5 t6 (nf t5) (nt t7) (nt t8) (nf t9) (nt t10) t11 t12 (nt t13))⟩
               ·exact ⟨[fF, fF, fF, fF, fF, fF, fF, tT, fF, fF, tT, fF, tT], lF (I13 (nt t0) (nt t1) (nt t2) (nt t3) (nt t4) t5 t6 (nf t5) (nt t7) (nt t8) (nf t9) (nt t10) t11)⟩
             ·cases t10 : decide ((2 : Int) < jZ v)
              ·cases t11 : mX k
               ·exact ⟨[fF, fF, fF, fF, fF, fF, fF, tT, fF, fF, fF, fF, fF], lF (I13 (nt t0) (nt t1) (nt t2) (nt t3) (nt t4) t5 t6 (nf t5) (nt t7) (nt t8) (nt t9) t10 t11)⟩
               ·cases t12 : Ut (cn v) 0
                ·exact ⟨[fF, fF, fF, fF, fF, fF, fF, tT, fF, fF, fF, fF, tT, tT], lF (OQ (nt t0) (nt t1) (nt t2) (nt t3) (nt t4) t5 t6 (nf t5) (nt t7) (nt t8) (nt t9) t10 t11 (nf t12))⟩
                ·exact ⟨[fF, fF, fF, fF, fF, fF, fF, tT, fF, fF, fF, fF, tT, fF], lF (OQ (nt t0) (nt t1) (nt t2) (nt t3) (nt t4) t5 t6 (nf t5) (nt t7) (nt t8) (nt t9) t10 t11 (nt t12))⟩
              ·exact ⟨[fF, fF, fF, fF, fF, fF, fF, tT, fF, fF, fF, tT], lF (I12 (nt t0) (nt t1) (nt t2) (nt t3) (nt t4) t5 t6 (nf t5) (nt t7) (nt t8) (nt t9) t10)⟩
          ·exact ⟨[fF, fF, fF, fF, fF, fF, tT], lF (I7 (nt t0) (nt t1) (nt t2) (nt t3) (nt t4) t5 t6)⟩
         ·cases t6 : kD c
          ·exact ⟨[fF, fF, fF, fF, fF, tT, tT], lF (I7 (nt t0) (nt t1) (nt t2) (nt t3) (nt t4) t5 (nf t6))⟩
          ·cases t7 : kD d
           ·exact ⟨[fF, fF, fF, fF, fF, tT, fF, tT], lF (I8 (nt t0) (nt t1) (nt t2) (nt t3) (nt t4) t5 (nt t6) (nf t7))⟩
           ·cases t8 : a == b
            ·cases t9 : sW k
             ·cases t10 : decide (ph = (0 : Int))
              ·exact ⟨[fF, fF, fF, fF, fF, tT, fF, fF, fF, fF, tT, tT], lF (I12 (nt t0) (nt t1) (nt t2) (nt t3) (nt t4) t5 (nt t6) (nt t7) t8 (nt t5) (nf t9) (nf t10))⟩
              ·cases t11 : decide ((2 : Int) < jZ v)
               ·cases t12 : mX k
                ·exact ⟨[fF, fF, fF, fF, fF, tT, fF, fF, fF, fF, tT, fF, fF, fF], lF (OQ (nt t0) (nt t1) (nt t2) (nt t3) (nt t4) t5 (nt t6) (nt t7) t8 (nt t5) (nf t9) (nt t10) t11 t12)⟩
                ·cases t13 : Ut (cn v) 0
                 ·exact ⟨[fF, fF, fF, fF, fF, tT, fF, fF, fF, fF, tT, fF, fF, tT, tT], lF (I15 (nt t0) (nt t1) (nt t2) (nt t3) (nt t4) t5 (nt t6) (nt t7) t8 (nt t5) (nf t9) (nt t10) t11 t12 (nf t13))⟩
                 ·exact ⟨[fF, fF, fF, fF, fF, tT, fF, fF, fF, fF, tT, fF, fF, tT, fF], lF (I15 (nt t0) (nt t1) (nt t2) (nt t3) (nt t4) t5 (nt t6) (nt t7) t8 (nt t5) (nf t9) (nt t10) t11 t12 (nt t13))⟩
               ·exact ⟨[fF, fF, fF, fF, fF, tT, fF, fF, fF, fF, tT, fF, tT], lF (I13 (nt t0) (nt t1) (nt t2) (nt t3) (nt t4) t5 (nt t6) (nt t7) t8 (nt t5) (nf t9) (nt t10) t11)⟩
             ·cases t10 : decide ((2 : Int) < jZ v)
              ·cases t11 : mX k
               ·exact ⟨[fF, fF, fF, fF, fF, tT, fF, fF, fF, fF, fF, fF, fF], lF (I13 (nt t0) (nt t1) (nt t2) (nt t3) (nt t4) t5 (nt t6) (nt t7) t8 (nt t5) (nt t9) t10 t11)⟩
               ·cases t12 : Ut (cn v) 0
                ·exact ⟨[fF, fF, fF, fF, fF, tT, fF, fF, fF, fF, fF, fF, tT, tT], lF (OQ (nt t0) (nt t1) (nt t2) (nt t3) (nt t4) t5 (nt t6) (nt t7) t8 (nt t5) (nt t9) t10 t11 (nf t12))⟩
                ·exact ⟨[fF, fF, fF, fF, fF, tT, fF, fF, fF, fF, fF, fF, tT, fF], lF (OQ (nt t0) (nt t1) (nt t2) (nt t3) (nt t4) t5 (nt t6) (nt t7) t8 (nt t5) (nt t9) t10 t11 (nt t12))⟩
              ·exact ⟨[fF, fF, fF, fF, fF, tT, fF, fF, fF, fF, fF, tT], lF (I12 (nt t0) (nt t1) (nt t2) (nt t3) (nt t4) t5 (nt t6) (nt t7) t8 (nt t5) (nt t9) t10)⟩
            ·exact ⟨[fF, fF, fF, fF, fF, tT, fF, fF, tT], lF (I9 (nt t0) (nt t1) (nt t2) (nt t3) (nt t4) t5 (nt t6) (nt t7) t8)⟩
  · exact zI _ _ _ _ _ h
theorem Tn : ∀ args, aC (Md args) := by
 intro args
 unfold Md
 split
 ·exact aC.ret _
 ·exact Hw _ _
noncomputable def ad5 : Known := kc 36 ofBits (kc 62 toBits (kc 81 lZ (kc 85 vw (kc 66 qF (kc 72 vC (kc 63 mW (kc 69 EL (kc 82 Tj (kc 86 OY (kc 64 uo (kc 70 Ar (kc 65 uq (kc 71 Au (kc 37 ER (kc 39 Md (kn))))))))))))))))
theorem QS : eY Try.prog ad5 := aO ((jf Try.prog).iw Try.func36 (by kernel_rfl) (by kernel_rfl) (by kernel_rfl) (by kernel_rfl)) (aO ((je Try.prog).iw Try.func62 (by kernel_rfl) (by kernel_rfl) (by kernel_rfl) (by kernel_rfl)) (aO jC (aO wE (aO kQ (aO wF (aO kC (aO EM (aO sZ (aO Jy (aO nY (aO Ht (aO nZ (aO Hu (aO tC (aO Me (mJ))))))))))))))))
theorem ES : gG ad5 := aG aC.ofBits (aG aC.toBits (aG iV (aG sQ (aG jD (aG sS (aG jr (aG Aq (aG oQ (aG EN (aG lJ (aG EO (aG lK (aG EP (aG pX (aG Tn (jH))))))))))))))))
noncomputable def iM : Calls' := Sx.runN Try.prog ad5 (bY Try.prog) 1000 50
theorem iO : cO Try.prog iM := gK QS ES (by kernel_rfl) (by kernel_rfl) 1000 50
theorem Az : iq iM := jO ES (fun _ _ _ h => by cases h) (fun call hc n l fr => gV hc n l fr) 50
theorem Tq (n : Nat) : gq Try.prog (bY Try.prog iM n) n := gQ QS ES (by kernel_rfl) (by kernel_rfl) 1000 50 n
noncomputable abbrev tJ (f : Func) (c : Code) (fr : Fr) (H : T aF) (K : Nat) (path : List Bool) : BU (Ex × Fr) :=
 cu Try.prog iM (bY Try.prog iM f.ntmps) lQ f.ntmps 1000 c fr ⟨H, K, [], path, True⟩


theorem rcE {fn : Func} {K K' B : Nat} {e : Ex} {F : tF} {Hl : tH} {c : Code} {fr : Fr} {H : T aF} {path : List Bool} (h : bV K' e F Hl (tJ fn c fr H K path)) (hB : B ≤ K) : aj Try.prog c fn.ntmps B K K' fr H fun e' fr' H' => e' = e ∧ fr' = aQ F ∧ H' = hpL Hl := aj.runN iO (Tq _) (iI.none _ _ _) h hB
theorem jJ {fn : Func} {K K' B : Nat} {e : Ex} {F : tF} {Hl : tH} {c : Code} {fr : Fr} {H : T aF} (path : List Bool) {q : Prop} (hq : q) (hB : B ≤ K) (h : jP K' e F Hl (tJ fn c fr H K path) = (e = e ∧ uh F ∧ uj Hl ∧ true = true ∧ q) := by kernel_rfl) : aj Try.prog c fn.ntmps B K K' fr H fun e' fr' H' => e' = e ∧ fr' = aQ F ∧ H' = hpL Hl := rcE (eqn h hq) hB
/-- an element -/
structure El where
 k : Int
 n : List UInt8
 a : List UInt8
 b : List UInt8
 c : List UInt8
 d : List UInt8
 v : Nat
 ph : Int
abbrev tE := Nat → El
abbrev Tx := List UInt8
abbrev tX := Nat → Tx
abbrev tM := List (Tx × Int)
/-- the first place of a text -/
def pos (x : Tx) : List Tx → Option Nat
 | [] => none
 | y :: l => bif x == y then some 0 else (pos x l).map (· + 1)
theorem tK {x : Tx} : ∀ {l : List Tx} {i : Nat}, pos x l = some i → i < l.length ∧ l.getD i [] = x
 | y :: l, i, h => by
  unfold pos at h
  cases e : x == y with
  | true =>
   rw [e, cond_true] at h
   cases h
   exact ⟨by simp, by simpa using (eq_of_beq e).symm⟩
  | false =>
   rw [e, cond_false] at h
   cases q : pos x l with
   | none => rw [q] at h; cases h
   | some j =>
    rw [q] at h
    cases h
    obtain ⟨h1, h2⟩ := tK q
    exact ⟨by simpa using h1, by simpa using h2⟩
theorem vF {x : Tx} : ∀ {l : List Tx}, pos x l = none ↔ x ∉ l
 | [] => by simp [pos]
 | y :: l => by
  unfold pos
  cases e : x == y with
  | true => simp [eq_of_beq e]
  | false =>
   have : x ≠ y := fun c => by rw [c] at e; simp at e
   simp [vF (x := x) (l := l), this]
theorem MB {x : Tx} {l : List Tx} (h : x ∈ l) : ∃ i, pos x l = some i := by
 cases e : pos x l with
 | none => exact absurd h (vF.1 e)
 | some i => exact ⟨i, rfl⟩
/-- texts with their places: what a map of them holds -/
def aB (s : Nat) : List Tx → List (Tx × Int)
 | [] => []
 | x :: l => (x, (s : Int)) :: aB (s + 1) l
theorem qY (x : Tx) : ∀ (s : Nat) (l : List Tx), dG seq x (aB s l) = (pos x l).map fun i => ((s + i : Nat) : Int)
 | s, [] => rfl
 | s, y :: l => by
  show (bif x == y then some (s : Int) else dG seq x (aB (s + 1) l)) = (bif x == y then some 0 else (pos x l).map (· + 1)).map _
  cases e : x == y with
  | true => rfl
  | false =>
   rw [cond_false, cond_false, qY x (s + 1) l]
   cases pos x l with
   | none => rfl
   | some i => simp only [Option.map]; congr 1; omega
theorem QT (x : Tx) : ∀ (s : Nat) (l : List Tx), pos x l = none → rH seq x ((s + l.length : Nat) : Int) (aB s l) = aB s (l ++ [x])
 | s, [], _ => rfl
 | s, y :: l, h => by
  unfold pos at h
  cases e : x == y with
  | true => rw [e] at h; cases h
  | false =>
   rw [e, cond_false] at h
   have h' : pos x l = none := by
    cases q : pos x l with
    | none => rfl
    | some j => rw [q] at h; cases h
   show rH seq x _ ((y, (s : Int)) :: aB (s + 1) l) = (y, (s : Int)) :: aB (s + 1) (l ++ [x])
   unfold rH seq
   rw [e, cond_false]
   congr 1
   have := QT x (s + 1) l h'
   rw [← this]
   congr 1
   simp; omega
/-- a node more -/
def addN (l : List Tx) (x : Tx) : List Tx := bif (pos x l).isSome || x == [] || x == [48] then l else l ++ [x]
def iY (e : El) : Bool := decide (e.k = 5) || decide (e.k = 7)
/-- names, nodes, branches of the first m elements -/
def NM (E : tE) : Nat → List Tx
 | 0 => []
 | m + 1 => NM E m ++ [(E m).n]
def ND (E : tE) : Nat → List Tx
 | 0 => []
 | m + 1 => addN (addN (addN (addN (ND E m) (E m).a) (E m).b) (E m).c) (E m).d
def BR (E : tE) : Nat → List Tx
 | 0 => []
 | m + 1 => bif iY (E m) then BR E m ++ [(E m).n] else BR E m
theorem yj (E : tE) : ∀ m, (NM E m).length = m
 | 0 => rfl
 | m + 1 => by unfold NM; simp [yj E m]
theorem AB (E : tE) : ∀ {m i : Nat}, i < m → (NM E m).getD i [] = (E i).n
 | m + 1, i, h => by
  unfold NM
  have l := yj E m
  by_cases q : i < m
  ·rw [List.getD_eq_getElem?_getD, List.getElem?_append_left (by omega), ← List.getD_eq_getElem?_getD, AB E q]
  ·obtain rfl : i = m := by omega
   rw [List.getD_eq_getElem?_getD, List.getElem?_append_right (by omega), l, Nat.sub_self]; rfl
theorem mV (E : tE) : ∀ m, (BR E m).length ≤ m
 | 0 => Nat.le_refl _
 | m + 1 => by
  have := mV E m
  unfold BR
  cases iY (E m) <;> simp <;> omega
theorem OZ (E : tE) {x : Tx} : ∀ {m : Nat}, x ∈ BR E m → x ∈ NM E m
 | m + 1, h => by
  unfold BR at h
  unfold NM
  cases q : iY (E m) with
  | true =>
   rw [q, cond_true, List.mem_append] at h
   exact List.mem_append.2 (h.imp (OZ E) id)
  | false =>
   rw [q, cond_false] at h
   exact List.mem_append.2 (.inl (OZ E h))
theorem VL (E : tE) {m : Nat} (h : pos (E m).n (NM E m) = none) : pos (E m).n (BR E m) = none :=
 vF.2 fun c => vF.1 h (OZ E c)
theorem vG (l : List Tx) (x : Tx) : l.length ≤ (addN l x).length ∧ (addN l x).length ≤ l.length + 1 := by
 unfold addN
 cases (pos x l).isSome || x == [] || x == [48] <;> simp
theorem Jz (E : tE) : ∀ m, (ND E m).length ≤ 4 * m
 | 0 => Nat.le_refl _
 | m + 1 => by
  have := Jz E m
  have h1 := vG (ND E m) (E m).a
  have h2 := vG (addN (ND E m) (E m).a) (E m).b
  have h3 := vG (addN (addN (ND E m) (E m).a) (E m).b) (E m).c
  have h4 := vG (addN (addN (addN (ND E m) (E m).a) (E m).b) (E m).c) (E m).d
  unfold ND
  omega
/-- what refuses element i, those ahead of it being taken -/
def eU (chk : El → Int) (E : tE) (i : Nat) : Int := bif decide (chk (E i) = 0) then (bif (pos (E i).n (NM E i)).isSome then 9 else 0) else chk (E i)
/-- what Of tells of n elements: the error and its place -/
def O1 (chk : El → Int) (E : tE) (n : Nat) : Nat → Int × Int
 | 0 => bif decide (32 < (ND E n).length) || decide (64 < (ND E n).length + (BR E n).length) then (3, -1) else (0, 0)
 | m + 1 => bif decide (eU chk E (n - (m + 1)) = 0) then O1 chk E n m else (eU chk E (n - (m + 1)), ((n - (m + 1) : Nat) : Int))
def ofR (chk : El → Int) (E : tE) (n : Nat) : Int × Int := bif decide (256 < n) then (3, -1) else O1 chk E n n
theorem QU {chk : El → Int} {E : tE} {n i : Nat} (hi : i < n) (hb : eU chk E i ≠ 0) : ∀ m, i + m ≤ n → n ≤ i + m → (∀ j, j < i → eU chk E j = 0) → O1 chk E n n = (eU chk E i, (i : Int)) := by
 have step : ∀ m, m ≤ n → n - m ≤ i → (∀ j, n - m ≤ j → j < i → eU chk E j = 0) → O1 chk E n m = (eU chk E i, (i : Int)) := by
  intro m
  induction m with
  | zero => intro _ h; omega
  | succ m ih =>
   intro hm h1 h2
   unfold O1
   by_cases q : n - (m + 1) = i
   ·rw [q, decide_eq_false hb, cond_false]
   ·rw [decide_eq_true (h2 _ (Nat.le_refl _) (by omega)), cond_true]
    exact ih (by omega) (by omega) fun j a b => h2 j (by omega) b
 intro m _ _ h
 exact step n (Nat.le_refl _) (by omega) fun j _ b => h j b
theorem MC {chk : El → Int} {E : tE} {n : Nat} (h : ∀ j, j < n → eU chk E j = 0) : O1 chk E n n = O1 chk E n 0 := by
 have step : ∀ m, m ≤ n → O1 chk E n m = O1 chk E n 0 := by
  intro m
  induction m with
  | zero => intro _; rfl
  | succ m ih =>
   intro hm
   show (bif decide (eU chk E (n - (m + 1)) = 0) then O1 chk E n m else (eU chk E (n - (m + 1)), ((n - (m + 1) : Nat) : Int))) = _
   rw [decide_eq_true (h _ (by omega)), cond_true]
   exact ih (by omega)
 exact step n (Nat.le_refl _)
/-- rows in memory: an element; a net; a text -/
def bI (e : El) : List AV := [.int true .u8 e.k, .str true e.n, .str true e.a, .str true e.b, .str true e.c, .str true e.d, .raw true e.v, iT e.ph]
noncomputable abbrev ZCp (v0 v1 : Nat) := (.slc true true ⟨false, v0, 0, 0⟩ v1 : AV)
noncomputable def dO (l nd bg m q r : Nat) : List AV := [.bool true, ZCp l m, .mp 3, ZCp nd q, .mp 4, ZCp bg r, .mp 5]
def dh (f : tX) (j : Nat) : List AV := [.str true (f j)]
theorem zO {p : Nat → Prop} (h : p 0) (j : Nat) (hj : j < 1) : p j := by
 obtain rfl : j = 0 := by omega
 exact h
theorem jI {g sz : Nat} {own : Bool} {d : List AV} {t : T (List AV)} {H : T aF} {rows' : Nat → List AV} (h : H.get g = some (.cells own sz 1 (.lit d t))) (e : (Cont.lit d t).row 0 = rows' 0 := by rfl) : ∃ b', H.get g = some b' ∧ dN b' (.cells own sz 1 (.fn rows')) :=
 ⟨_, h, rfl, rfl, rfl, zO (p := fun j => (Cont.lit d t).row j = rows' j) e⟩
theorem gM {H : T aF} {g : Nat} {s : Bool} {l l' : tM} (h : H.get g = some (.aW s l)) (e : l = l') : ∃ b', H.get g = some b' ∧ dN b' (.aW s l') := ⟨_, h, by rw [e]; exact dN.refl _⟩
theorem gR {H : T aF} {g sz n n' : Nat} {own : Bool} {rows rows' : Nat → List AV} (h : H.get g = some (.cells own sz n (.fn rows))) (e : n = n') (hr : ∀ j, j < n → rows j = rows' j) : ∃ b', H.get g = some b' ∧ dN b' (.cells own sz n' (.fn rows')) := ⟨_, h, rfl, rfl, e, hr⟩
def sg (a b x : Nat) : Nat := if x = a then b else x
theorem pY {K a b : Nat} (h : K ≤ b) : ∀ i j, i < K → j < K → sg a b i = sg a b j → i = j := by
 intro i j hi hj e
 unfold sg at e
 split at e <;> split at e <;> omega
theorem qc {B a b : Nat} (h : B ≤ a) : ∀ g, g < B → sg a b g = g := by
 intro g hg
 unfold sg
 rw [if_neg (by omega)]
theorem lG {σ : Nat → Nat} {K' : Nat} {H : T aF} {g : Nat} {s : Bool} {l l' : tM} (h : H.get (σ g) = some (.aW s l)) (e : l = l') (hlt : g < K') : ∃ b, H.get (σ g) = some b ∧ dN b ((aF.aW s l').ren σ) ∧ (aF.aW s l').kM K' ∧ g < K' := ⟨_, h, by rw [e]; exact dN.refl _, trivial, hlt⟩
theorem fD {σ : Nat → Nat} {K' : Nat} {H : T aF} {g sz n n' : Nat} {own : Bool} {rows rows' : Nat → List AV} (hg : H.get (σ g) = some (.cells own sz n (.fn rows))) (e : n = n') (hr : ∀ j, j < n → rows j = lD σ (rows' j)) (hl : ∀ j, j < n → (rows' j).all (fun v => v.low K') = true) (hlt : g < K') :
  ∃ b, H.get (σ g) = some b ∧ dN b ((aF.cells own sz n' (.fn rows')).ren σ) ∧ (aF.cells own sz n' (.fn rows')).kM K' ∧ g < K' := by
 subst e
 exact ⟨_, hg, ⟨rfl, rfl, rfl, hr⟩, fun j hj v hv => List.all_eq_true.1 (hl j hj) v hv, hlt⟩
theorem jk {σ : Nat → Nat} {K' : Nat} {H : T aF} {g sz : Nat} {own : Bool} {rows rows' : Nat → List AV} (hg : H.get (σ g) = some (.cells own sz 1 (.fn rows))) (hr : rows 0 = lD σ (rows' 0)) (hl : (rows' 0).all (fun v => v.low K') = true) (hlt : g < K') :
  ∃ b, H.get (σ g) = some b ∧ dN b ((aF.cells own sz 1 (.fn rows')).ren σ) ∧ (aF.cells own sz 1 (.fn rows')).kM K' ∧ g < K' :=
 fD hg rfl (zO (p := fun j => rows j = lD σ (rows' j)) hr) (zO (p := fun j => (rows' j).all (fun v => v.low K') = true) hl) hlt
/-- nodes after the first i of an element's four -/
def four (z : El) (j : Nat) : Tx := bif Nat.beq j 0 then z.a else bif Nat.beq j 1 then z.b else bif Nat.beq j 2 then z.c else z.d
def dP (l : List Tx) (z : El) : Nat → List Tx
 | 0 => l
 | i + 1 => addN (dP l z i) (four z i)
theorem CO (l : List Tx) (z : El) : ∀ i, (dP l z i).length ≤ l.length + i
 | 0 => Nat.le_refl _
 | i + 1 => by
  have h1 := CO l z i
  have h2 := (vG (dP l z i) (four z i)).2
  unfold dP; omega
theorem JA (x : Tx) (l : List Tx) : (dG seq x (aB 0 l)).isSome = (pos x l).isSome := by
 rw [qY]; cases pos x l <;> rfl
theorem ET {x : Tx} {l : List Tx} {m : Nat} (hm : m = l.length) (h : pos x l = none) : rH seq x (m : Int) (aB 0 l) = aB 0 (l ++ [x]) := by
 subst hm
 have := QT x 0 l h
 rwa [Nat.zero_add] at this
theorem Y7 {o : Option Nat} (h : o.isSome = false) : o = none := by cases o with
 | none => rfl
 | some _ => cases h
def aH (l : List Tx) (j : Nat) : Tx := l.getD j []
theorem vH (l : List Tx) (x : Tx) (j : Nat) (h : j < l.length + 1) : (bif decide (j < l.length) then dh (aH l) j else [.str true x]) = dh (aH (l ++ [x])) j := by
 unfold dh aH
 by_cases c : j < l.length
 ·rw [decide_eq_true c, cond_true, List.getD_eq_getElem?_getD, List.getD_eq_getElem?_getD, List.getElem?_append_left c]
 ·obtain rfl : j = l.length := by omega
  rw [decide_eq_false c, cond_false, List.getD_eq_getElem?_getD, List.getElem?_append_right (Nat.le_refl _), Nat.sub_self]
  rfl
section
variable {P : Program} {n B K K' : Nat}
theorem MF {K1 : Nat} {x y : Code} {fr : Fr} {H : T aF} {R : Fr → T aF → Prop} (hK : K1 ≤ K') (h : aj P x n B K K1 fr H fun e fr' H' => e = .ret ∧ R fr' H') : aj P (.seq x y) n B K K' fr H fun e fr' H' => e = .ret ∧ R fr' H' :=
 aj.seq hK (h.mono fun e fr' H' q => by obtain ⟨rfl, q⟩ := q; exact ⟨rfl, q⟩)
theorem VN {id : Nat} {x : Code} {fr : Fr} {H : T aF} {R : Fr → T aF → Prop} (h : aj P x n B K K' fr H fun e fr' H' => e = .ret ∧ R fr' H') : aj P (.block id x) n B K K' fr H fun e fr' H' => e = .ret ∧ R fr' H' :=
 aj.block (h.mono fun e fr' H' q => by obtain ⟨rfl, q⟩ := q; exact ⟨rfl, q⟩)
end
theorem ay : ∀ (l : List AV), l.all AV.one = true → gy l l
 | [], _ => trivial
 | v :: l, h => by
  rw [List.all_cons, Bool.and_eq_true] at h
  exact ⟨AV.ge.refl v, h.1, ay l h.2⟩
/-- a row as an element -/
def unE : List AV → El
 | [.int _ _ k, .str _ n, .str _ a, .str _ b, .str _ c, .str _ d, .raw _ v, .int _ _ ph] => ⟨k, n, a, b, c, d, v, ph⟩
 | [.int _ _ k, .str _ n, .str _ a, .str _ b, .str _ c, .str _ d, .flt _ v, .int _ _ ph] => ⟨k, n, a, b, c, d, v, ph⟩
 | _ => ⟨0, [], [], [], [], [], 0, 0⟩
def bW (f : Nat → List AV) (j : Nat) : El := unE (f j)
structure PE (n : Nat) (f : Nat → List AV) : Prop where
 of : ∀ j, j < n → gy (f j) (bI (bW f j))
theorem jY (K : Nat) (z : El) : (bI z).all (fun v => v.low K) = true := rfl
/-- a net's row, anywhere -/
noncomputable def zH (m1 m2 m3 l nd bg m q r : Nat) : List AV := [.bool true, ZCp l m, .mp m1, ZCp nd q, .mp m2, ZCp bg r, .mp m3]
/-- a net's blocks: the maps, elements, nodes, branches, and the net -/
noncomputable abbrev ZD (v0 : Nat) (v1 : tE) := (.cells true 8 v0 (.fn fun j => bI (v1 j)) : aF)
noncomputable abbrev ZU (v0 : tE) (v1 : Nat) := (.aW true (aB 0 (NM v0 v1)) : aF)
noncomputable abbrev ZV (v0 : tE) (v1 : Nat) := (.aW true (aB 0 (ND v0 v1)) : aF)
noncomputable abbrev ZW (v0 : tE) (v1 : Nat) := (.aW true (aB 0 (BR v0 v1)) : aF)
noncomputable abbrev Y8 (v0 : tE) (v1 : Nat) := (.cells true 1 (ND v0 v1).length (.fn (dh (aH (ND v0 v1)))) : aF)
noncomputable abbrev ZB5 (v0 : tE) (v1 : Nat) := (.cells true 1 (BR v0 v1).length (.fn (dh (aH (BR v0 v1)))) : aF)
noncomputable def Y9 (N : Nat) (E : tE) (n : Nat) : List aF :=
 [ZU E n, ZV E n, ZW E n, ZD n E, Y8 E n, ZB5 E n, .cells true 7 1 (.fn fun _ => zH N (N + 1) (N + 2) (N + 3) (N + 4) (N + 5) n (ND E n).length (BR E n).length)]
/-- a net more in memory; its name -/
noncomputable def O4 (E : tE) (n : Nat) : M Nat :=
 (M.iR (ZU E n)).andThen fun N => (M.iR (ZV E n)).andThen fun _ => (M.iR (ZW E n)).andThen fun _ => (M.iR (ZD n E)).andThen fun _ => (M.iR (Y8 E n)).andThen fun _ => (M.iR (ZB5 E n)).andThen fun _ => (M.iR (.cells true 7 1 (.fn fun _ => zH N (N + 1) (N + 2) (N + 3) (N + 4) (N + 5) n (ND E n).length (BR E n).length)))
theorem O5 (E : tE) (n : Nat) : aC (O4 E n) :=
 (aC.iR _).andThen fun _ => (aC.iR _).andThen fun _ => (aC.iR _).andThen fun _ => (aC.iR _).andThen fun _ => (aC.iR _).andThen fun _ => (aC.iR _).andThen fun _ => aC.iR _
theorem MG {E : tE} {n : Nat} {N : Nat} {g g' : G} (h : O4 E n g = .done N g') : N = g.nx + 6 ∧ g'.H = oq g.H g.nx (Y9 g.nx E n) ∧ g'.nx = g.nx + 7 ∧ g'.cs = g.cs := by
 cases h
 exact ⟨rfl, rfl, rfl, rfl⟩
/-- a slice of elements that are read: told by its arguments alone -/
structure PEQ (n : Nat) (f : Nat → List AV) : Prop where
 of : PE n f
 low : ∀ j, j < n → ∀ u, u ∈ f j → u.low 0 = true
noncomputable def rdQ (dL : Nat) (x : AV) (Q : Nat → (Nat → List AV) → Prop) : M (Nat × (Nat → List AV)) :=
 (pz dL x).andThen fun y => (M.req (Q y.2.1 y.2.2)).andThen fun _ => M.ret (y.2.1, y.2.2)
theorem MH {dL : Nat} {x : AV} {Q : Nat → (Nat → List AV) → Prop} {y : Nat × (Nat → List AV)} {g g' : G} (h : rdQ dL x Q g = .done y g') (he : 0 < dL) (hQ : Q y.1 y.2 → ∀ j, j < y.1 → ∀ u, u ∈ y.2 j → u.low 0 = true) :
  ∃ q, Keep g g' q ∧ (q → Vw.Ok ⟨x, dL, y.1, y.2⟩ g ∧ Q y.1 y.2) := by
 unfold rdQ at h
 obtain ⟨z, g1, a1, h1⟩ := au h
 obtain ⟨_, g2, a2, h2⟩ := au h1
 obtain ⟨rfl, rfl⟩ := aA h2
 obtain ⟨q1, k1, f1⟩ := Vw.Ok.of a1 he
 have k2 := dR a2
 exact ⟨_, k1.trans k2, fun ⟨e1, e2⟩ => ⟨f1 e1 (hQ e2), e2⟩⟩
theorem QV (dL : Nat) (x : AV) (Q : Nat → (Nat → List AV) → Prop) : aC (rdQ dL x Q) := (aC.pz _ _).andThen fun _ => (aC.req _).andThen fun _ => aC.ret _


noncomputable abbrev Ze (v0 : Nat) (v1 : tX) := (.cells true 1 v0 (.fn (dh v1)) : aF)
noncomputable abbrev JB (v0 v1 v2 : Nat) := (.cells true 7 1 (.fn fun _ => dO 6 7 8 v0 v1 v2) : aF)
noncomputable def Tt (m q r : Nat) (E : tE) (M1 M2 M3 : tM) (nd br : tX) : List (Nat × aF) := [(2, JB m q r), (3, .aW true M1), (4, .aW true M2), (5, .aW true M3), (6, ZD m E), (7, Ze q nd), (8, Ze r br)]
noncomputable abbrev uw (w0 w1 w2 w3) := ([(w0, ZA w1), (w2, ZA w3)] : tF)
theorem ptA (B : Nat) (hB : B ≤ 10) (z : El) (m q r : Nat) (E : tE) (M1 M2 M3 : tM) (nd br : tX) : aj Try.prog ((aT [0] (ak Try.f43))) Try.f43.ntmps B 10 11 (bJ [ZA 2, .agg (bI z)] 0 .e) (hpL (Tt m q r E M1 M2 M3 nd br)) (pP .normal (uw 0 2 3 10) (Tt m q r E M1 M2 M3 nd br ++ [(10, .cells true 8 1 (.lit [] (T.n T.e (Option.some (bI z)) T.e)))])) := jJ [] trivial hB
noncomputable abbrev Zh (v0 : El) := (.cells true 8 1 (.fn fun _ => bI v0) : aF)
theorem ptB (B : Nat) (hB : B ≤ 11) (z : El) (m q r : Nat) (E : tE) (M1 M2 M3 : tM) (nd br : tX) : aj Try.prog ((aT [1,0] (ak Try.f43))) Try.f43.ntmps B 11 11 (aQ (uw 0 2 3 10)) (hpL (Tt m q r E M1 M2 M3 nd br ++ [(10, Zh z)])) (pP .normal (uw 0 2 3 10) [(2, JB m q r), (3, .aW true (rH seq (El.n z) (↑m : Int) M1)), (4, .aW true M2), (5, .aW true M3), (6, ZD m E), (7, Ze q nd), (8, Ze r br), (10, Zh z)]) := jJ [] trivial hB
theorem ptC (B : Nat) (hB : B ≤ 11) (z : El) (m q r : Nat) (E : tE) (M1 M2 M3 : tM) (nd br : tX) (x0 : ((m + 1) * 104 ≤ 140737488355328)) (x1 : (m + 1 ≤ 9223372036854775807)) : aj Try.prog ((aT [1,1,0] (ak Try.f43))) Try.f43.ntmps B 11 13 (aQ (uw 0 2 3 10)) (hpL (Tt m q r E M1 M2 M3 nd br ++ [(10, Zh z)])) (pP .normal (uw 0 2 3 10) [(2, .cells true 7 1 (.fn fun j => bif Nat.beq j 0 then (dO 12 7 8 (m + 1) q r) else (dO 6 7 8 m q r))), (3, .aW true M1), (4, .aW true M2), (5, .aW true M3), (7, Ze q nd), (8, Ze r br), (10, Zh z), (12, .cells true 8 (m + 1) (.fn fun j => bif decide (j < m) then (bI (E j)) else (bI z)))]) := jJ [] (I1 (ai (show m ≤ m by omega) (ai x0 x1))) hB
noncomputable abbrev ZE7 (w0 w1) := (.slc false true ⟨false, w0, 0, 0⟩ w1 : AV)
theorem ptD (B : Nat) (hB : B ≤ 11) (z : El) (m q r : Nat) (E : tE) (M1 M2 M3 : tM) (nd br : tX) : aj Try.prog ((aT [1,1,1,0,0] (ak Try.f43))) Try.f43.ntmps B 11 12 (aQ (uw 0 2 3 10)) (hpL (Tt m q r E M1 M2 M3 nd br ++ [(10, Zh z)])) (pP .normal [(0, ZA 2), (3, ZA 10), (37, ZE7 11 4), (38, ZC 4), (39, ZC 0)] (Tt m q r E M1 M2 M3 nd br ++ [(10, Zh z), (11, .cells true 1 4 (.lit [.str false []] (T.n (T.n (.n .e (some [.str true (El.d z)]) T.e) (Option.some [.str true (El.b z)]) T.e) (Option.some [.str true (El.a z)]) (.n .e (some [.str true (El.c z)]) .e))))])) := jJ [] trivial hB
noncomputable abbrev Yi (v0 : tX) (w0) := (.cells true 1 w0 (.fn (dh v0)) : aF)
noncomputable abbrev ZC5 := aT [1,1,1,0,1,0,0] (ak Try.f43)
noncomputable abbrev ZEn (v0 : Nat) := ([(0, ZA 2), (3, ZA 10), (37, sL 11 4), (38, iT 4), (39, Ap v0)] : tF)
theorem ptL (B : Nat) (hB : B ≤ 12) (z : El) (m q r i : Nat) (E : tE) (M1 M2 M3 : tM) (nd br four : tX) (x0 : ((decide ((↑i : Int) < 4)) = true → ((Option.isSome (dG seq (four (0 + i)) M2)) = false → ((four (0 + i) == []) = false → ((four (0 + i) == [(48 : UInt8)]) = false → ((q + 1) * 16 ≤ 140737488355328)))))) (x1 : ((decide ((↑i : Int) < 4)) = true → ((Option.isSome (dG seq (four (0 + i)) M2)) = false → ((four (0 + i) == []) = false → ((four (0 + i) == [(48 : UInt8)]) = false → (q + 1 ≤ 9223372036854775807)))))) : aj Try.prog (ZC5) Try.f43.ntmps B 12 14 (aQ [(0, ZA 2), (3, ZA 10), (37, sL 11 4), (38, iT 4), (39, iT (i : Int))]) (hpL (Tt m q r E M1 M2 M3 nd br ++ [(10, Zh z), (11, Yi four 4)])) fun e fr' H' => (cond (decide ((↑i : Int) < 4)) (cond (Option.isSome (dG seq (four (0 + i)) M2)) (pP .normal (ZEn i) (Tt m q r E M1 M2 M3 nd br ++ [(10, Zh z), (11, Yi four 4)]) e fr' H') (cond (four (0 + i) == []) (pP .normal (ZEn i) (Tt m q r E M1 M2 M3 nd br ++ [(10, Zh z), (11, Yi four 4)]) e fr' H') (cond (four (0 + i) == [(48 : UInt8)]) (pP .normal (ZEn i) (Tt m q r E M1 M2 M3 nd br ++ [(10, Zh z), (11, Yi four 4)]) e fr' H') (pP .normal (ZEn i) [(2, .cells true 7 1 (.fn fun j => bif Nat.beq j 0 then (dO 6 13 8 m (q + 1) r) else (dO 6 7 8 m q r))), (3, .aW true M1), (4, .aW true (rH seq (four (0 + i)) (↑q : Int) M2)), (5, .aW true M3), (6, ZD m E), (8, Ze r br), (10, Zh z), (11, Yi four 4), (13, .cells true 1 (q + 1) (.fn fun j => bif decide (j < q) then (dh nd j) else [.str true (four (0 + i))]))] e fr' H')))) (pP (.exit 0) [(0, ZA 2), (3, ZA 10), (37, sL 11 4), (38, iT 4), (39, iT (↑i : Int))] (Tt m q r E M1 M2 M3 nd br ++ [(10, Zh z), (11, Yi four 4)]) e fr' H')) := cD (fun q0 t0 => cI (fun t1 => jJ [tT, fF] (I5 t0 (ai (show 0 ≤ (↑i : Int) by omega) (show (↑i : Int) < 4 by omega)) (show 0 + i < 4 by omega) (nt t1) (ai (show -9223372036854775808 ≤ (↑i : Int) + 1 by omega) (show (↑i : Int) + 1 ≤ (9223372036854775807 : Int) by omega))) hB) (fun t1 => cI (fun t2 => jJ [tT, tT, fF] (I6 t0 (ai (show 0 ≤ (↑i : Int) by omega) (show (↑i : Int) < 4 by omega)) (show 0 + i < 4 by omega) (nf t1) (nt t2) (ai (show -9223372036854775808 ≤ (↑i : Int) + 1 by omega) (show (↑i : Int) + 1 ≤ (9223372036854775807 : Int) by omega))) hB) (fun t2 => cI (fun t3 => jJ [tT, tT, tT, fF] (I7 t0 (ai (show 0 ≤ (↑i : Int) by omega) (show (↑i : Int) < 4 by omega)) (show 0 + i < 4 by omega) (nf t1) (nf t2) (nt t3) (ai (show -9223372036854775808 ≤ (↑i : Int) + 1 by omega) (show (↑i : Int) + 1 ≤ (9223372036854775807 : Int) by omega))) hB) (fun t3 => jJ [tT, tT, tT, tT] (I8 t0 (ai (show 0 ≤ (↑i : Int) by omega) (show (↑i : Int) < 4 by omega)) (show 0 + i < 4 by omega) (nf t1) (nf t2) (nf t3) (ai (show q ≤ q by omega) (ai (x0 t0 t1 t2 t3) (x1 t0 t1 t2 t3))) (ai (show -9223372036854775808 ≤ (↑i : Int) + 1 by omega) (show (↑i : Int) + 1 ≤ (9223372036854775807 : Int) by omega))) hB)))) (fun q0 t0 => jJ [fF] (I1 t0) hB)
theorem ptM (B : Nat) (hB : B ≤ 12) (z : El) (m q r : Nat) (E : tE) (M1 M2 M3 : tM) (nd br : tX) (x0 : ((r + 1) * 16 ≤ 140737488355328)) (x1 : (r + 1 ≤ 9223372036854775807)) : aj Try.prog ((aT [1,1,1,1] (ak Try.f43))) Try.f43.ntmps B 12 14 (aQ (uw 0 2 3 10)) (hpL (Tt m q r E M1 M2 M3 nd br ++ [(10, Zh z)])) fun e fr' H' => (cond (decide (El.k z = (5 : Int))) (pP .normal (uw 0 2 3 10) [(2, .cells true 7 1 (.fn fun j => bif Nat.beq j 0 then (dO 6 7 13 m q (r + 1)) else (dO 6 7 8 m q r))), (3, .aW true M1), (4, .aW true M2), (5, .aW true (rH seq (El.n z) (↑r : Int) M3)), (6, ZD m E), (7, Ze q nd), (13, .cells true 1 (r + 1) (.fn fun j => bif decide (j < r) then (dh br j) else [.str true (El.n z)]))] e fr' H') (cond (decide (El.k z = (7 : Int))) (pP .normal (uw 0 2 3 10) [(2, .cells true 7 1 (.fn fun j => bif Nat.beq j 0 then (dO 6 7 13 m q (r + 1)) else (dO 6 7 8 m q r))), (3, .aW true M1), (4, .aW true M2), (5, .aW true (rH seq (El.n z) (↑r : Int) M3)), (6, ZD m E), (7, Ze q nd), (13, .cells true 1 (r + 1) (.fn fun j => bif decide (j < r) then (dh br j) else [.str true (El.n z)]))] e fr' H') (pP .normal (uw 0 2 3 10) (Tt m q r E M1 M2 M3 nd br) e fr' H'))) := cD (fun q0 t0 => jJ [tT] (I2 t0 (ai (show r ≤ r by omega) (ai x0 x1))) hB) (fun q0 t0 => cD (fun q1 t1 => jJ [fF, tT] (I3 t0 t1 (ai (show r ≤ r by omega) (ai x0 x1))) hB) (fun q1 t1 => jJ [fF, fF] (I2 t0 t1) hB))
theorem ad7 : (ak Try.f43) = .seq (aT [0] (ak Try.f43)) (.seq (aT [1,0] (ak Try.f43)) (.seq (aT [1,1,0] (ak Try.f43)) (.seq (.seq (aT [1,1,1,0,0] (ak Try.f43)) (.block 0 (.loop ZC5))) (aT [1,1,1,1] (ak Try.f43))))) := by kernel_rfl
noncomputable abbrev ZI (v0 : Nat) (v1 : tE) := (.cells true 8 (v0) (.fn fun j => bI (v1 j)) : aF)
noncomputable abbrev ZS (v0 : Nat) := iT ((v0 : Nat) : Int)
noncomputable abbrev Zv (v0 : List Tx) := (.cells true 1 ((v0).length) (.fn (dh (aH (v0)))) : aF)
noncomputable abbrev Yj (v0 : List Tx) := (.aW true (aB 0 (v0)) : aF)
noncomputable abbrev ZCJ (v0 : El) := (.cells true 1 4 (.fn (dh (four v0))) : aF)
noncomputable abbrev ZDC (v0 : List Tx) (v1 : El) (v2 : Nat) := (.cells true 1 ((dP v0 v1 (v2 + 1)).length) (.fn (dh (aH (dP v0 v1 (v2 + 1))))) : aF)
noncomputable abbrev ZDl (v0 : Nat) (v1 : List Tx) (v2 : El) (v3 : Nat) (v4 v5 : List Tx) (v6 : tE) := ([(2, .cells true 7 1 (.fn fun _ => dO 6 7 8 v0 ((dP v1 v2 v3)).length (v4).length)), (3, Yj v5), (4, .aW true (aB 0 ((dP v1 v2 v3)))), (5, Yj v4), (6, ZI v0 v6), (7, .cells true 1 (((dP v1 v2 v3)).length) (.fn (dh (aH ((dP v1 v2 v3)))))), (8, Zv v4), (10, Zh v2), (11, ZCJ v2)] : tH)
noncomputable abbrev ZD1 (v0 : Nat) (v1 : List Tx) (v2 : El) (v3 : Nat) (v4 v5 : List Tx) (v6 : tE) := ([(2, .cells true 7 1 (.fn fun _ => dO 6 7 8 v0 (dP v1 v2 (v3 + 1)).length (v4).length)), (3, Yj v5), (4, .aW true (aB 0 (dP v1 v2 (v3 + 1)))), (5, Yj v4), (6, ZI v0 v6), (7, ZDC v1 v2 v3), (8, Zv v4), (10, Zh v2), (11, ZCJ v2)] : tH)
noncomputable abbrev ZEO (v0 : Nat) := ([(0, ZA 2), (3, ZA 10), (37, sL 11 4), (38, iT 4), (39, iT (((v0 + 1 : Nat)) : Int))] : tF)
theorem VO (z : El) (m : Nat) (E : tE) (nm nd br : List Tx) (hq : nd.length ≤ 1100) (i : Nat) (hi : i < 4) :
  aj Try.prog ZC5 Try.f43.ntmps 6 12 12 (aQ [(0, .ptr ⟨false, 2, 0, 0⟩), (3, .ptr ⟨false, 10, 0, 0⟩), (37, sL 11 4), (38, iT 4), (39, iT ((i : Nat) : Int))]) (hpL [(2, .cells true 7 1 (.fn fun _ => dO 6 7 8 m ((dP nd z i)).length (br).length)), (3, .aW true (aB 0 (nm))), (4, .aW true (aB 0 ((dP nd z i)))), (5, .aW true (aB 0 (br))), (6, .cells true 8 (m) (.fn fun j => bI (E j))), (7, .cells true 1 (((dP nd z i)).length) (.fn (dh (aH ((dP nd z i)))))), (8, .cells true 1 ((br).length) (.fn (dh (aH (br))))), (10, .cells true 8 1 (.fn fun _ => bI z)), (11, .cells true 1 4 (.fn (dh (four z))))]) (Nm [(0, .ptr ⟨false, 2, 0, 0⟩), (3, .ptr ⟨false, 10, 0, 0⟩), (37, sL 11 4), (38, iT 4), (39, iT (((i + 1 : Nat)) : Int))] [(2, .cells true 7 1 (.fn fun _ => dO 6 7 8 m (dP nd z (i + 1)).length (br).length)), (3, .aW true (aB 0 (nm))), (4, .aW true (aB 0 (dP nd z (i + 1)))), (5, .aW true (aB 0 (br))), (6, .cells true 8 (m) (.fn fun j => bI (E j))), (7, .cells true 1 ((dP nd z (i + 1)).length) (.fn (dh (aH (dP nd z (i + 1)))))), (8, .cells true 1 ((br).length) (.fn (dh (aH (br))))), (10, .cells true 8 1 (.fn fun _ => bI z)), (11, .cells true 1 4 (.fn (dh (four z))))]) := by
 have l4 := CO nd z i
 refine (ptL 6 (by omega) z m (dP nd z i).length br.length i E (aB 0 nm) (aB 0 (dP nd z i)) (aB 0 br) (aH ((dP nd z i))) (aH (br)) (four z) (fun _ _ _ _ => by omega) (fun _ _ _ _ => by omega)).renG fun e fr' H' h => ?_
 rw [decide_eq_true (show (i : Int) < 4 by omega), cond_true, Nat.zero_add, JA] at h
 have same : addN (dP nd z i) (four z i) = (dP nd z i) → (e = .normal ∧ fr' = aQ [(0, .ptr ⟨false, 2, 0, 0⟩), (3, .ptr ⟨false, 10, 0, 0⟩), (37, sL 11 4), (38, iT 4), (39, iT ((i : Int) + 1 : Int))] ∧ H' = hpL [(2, .cells true 7 1 (.fn fun _ => dO 6 7 8 m ((dP nd z i)).length (br).length)), (3, .aW true (aB 0 (nm))), (4, .aW true (aB 0 ((dP nd z i)))), (5, .aW true (aB 0 (br))), (6, .cells true 8 (m) (.fn fun j => bI (E j))), (7, .cells true 1 (((dP nd z i)).length) (.fn (dh (aH ((dP nd z i)))))), (8, .cells true 1 ((br).length) (.fn (dh (aH (br))))), (10, .cells true 8 1 (.fn fun _ => bI z)), (11, .cells true 1 4 (.fn (dh (four z))))]) → ∃ σ fl bl, (∀ g, g < 6 → σ g = g) ∧ Ah 12 σ fr' fl ∧ EF 12 σ H' bl ∧ (∀ i j, i < 12 → j < 12 → σ i = σ j → i = j) ∧ Nm [(0, .ptr ⟨false, 2, 0, 0⟩), (3, .ptr ⟨false, 10, 0, 0⟩), (37, sL 11 4), (38, iT 4), (39, iT (((i + 1 : Nat)) : Int))] [(2, .cells true 7 1 (.fn fun _ => dO 6 7 8 m (dP nd z (i + 1)).length (br).length)), (3, .aW true (aB 0 (nm))), (4, .aW true (aB 0 (dP nd z (i + 1)))), (5, .aW true (aB 0 (br))), (6, .cells true 8 (m) (.fn fun j => bI (E j))), (7, .cells true 1 ((dP nd z (i + 1)).length) (.fn (dh (aH (dP nd z (i + 1)))))), (8, .cells true 1 ((br).length) (.fn (dh (aH (br))))), (10, .cells true 8 1 (.fn fun _ => bI z)), (11, .cells true 1 4 (.fn (dh (four z))))] e (aQ fl) (hpL bl) := by
  rintro q ⟨rfl, rfl, rfl⟩
  have q2 : dP nd z (i + 1) = (dP nd z i) := q
  rw [q2]
  exact ⟨id, [(0, .ptr ⟨false, 2, 0, 0⟩), (3, .ptr ⟨false, 10, 0, 0⟩), (37, sL 11 4), (38, iT 4), (39, iT (((i + 1 : Nat)) : Int))], [(2, .cells true 7 1 (.fn fun _ => dO 6 7 8 m ((dP nd z i)).length (br).length)), (3, .aW true (aB 0 (nm))), (4, .aW true (aB 0 ((dP nd z i)))), (5, .aW true (aB 0 (br))), (6, .cells true 8 (m) (.fn fun j => bI (E j))), (7, .cells true 1 (((dP nd z i)).length) (.fn (dh (aH ((dP nd z i)))))), (8, .cells true 1 ((br).length) (.fn (dh (aH (br))))), (10, .cells true 8 1 (.fn fun _ => bI z)), (11, .cells true 1 4 (.fn (dh (four z))))], fun g hg => rfl, (vk rfl), ⟨jk rfl rfl rfl (by omega), lG rfl rfl (by omega), lG rfl rfl (by omega), lG rfl rfl (by omega), fD rfl rfl (fun j _ => rfl) (fun j _ => rfl) (by omega), fD rfl rfl (fun j _ => rfl) (fun j _ => rfl) (by omega), fD rfl rfl (fun j _ => rfl) (fun j _ => rfl) (by omega), jk rfl rfl rfl (by omega), fD rfl rfl (fun j _ => rfl) (fun j _ => rfl) (by omega), trivial⟩, fun i j _ _ h => h, rfl, rfl, rfl⟩
 refine bD h (fun t h => same (by unfold addN; rw [t]; rfl) h) (fun t1 h => ?_)
 refine bD h (fun t h => same (by unfold addN; rw [t1, t]; rfl) h) (fun t2 h => ?_)
 refine bD h (fun t h => same (by unfold addN; rw [t1, t2, t]; rfl) h) (fun t3 h => ?_)
 obtain ⟨rfl, rfl, rfl⟩ := h
 have q2 : dP nd z (i + 1) = (dP nd z i) ++ [four z i] := by
  show addN (dP nd z i) (four z i) = _
  unfold addN; rw [t1, t2, t3]; rfl
 have len : (dP nd z (i + 1)).length = (dP nd z i).length + 1 := by rw [q2]; simp
 refine ⟨sg 7 13, [(0, .ptr ⟨false, 2, 0, 0⟩), (3, .ptr ⟨false, 10, 0, 0⟩), (37, sL 11 4), (38, iT 4), (39, iT (((i + 1 : Nat)) : Int))], [(2, .cells true 7 1 (.fn fun _ => dO 6 7 8 m (dP nd z (i + 1)).length (br).length)), (3, .aW true (aB 0 (nm))), (4, .aW true (aB 0 (dP nd z (i + 1)))), (5, .aW true (aB 0 (br))), (6, .cells true 8 (m) (.fn fun j => bI (E j))), (7, .cells true 1 ((dP nd z (i + 1)).length) (.fn (dh (aH (dP nd z (i + 1)))))), (8, .cells true 1 ((br).length) (.fn (dh (aH (br))))), (10, .cells true 8 1 (.fn fun _ => bI z)), (11, .cells true 1 4 (.fn (dh (four z))))], qc (by omega), (vk rfl), ⟨jk rfl (by rw [len]; rfl) rfl (by omega), lG rfl rfl (by omega), lG rfl (by rw [q2]; exact ET rfl (Y7 t1)) (by omega), lG rfl rfl (by omega), fD rfl rfl (fun j _ => rfl) (fun j _ => rfl) (by omega), fD rfl len.symm (fun j hj => by rw [q2]; exact vH _ _ j hj) (fun j _ => rfl) (by omega), fD rfl rfl (fun j _ => rfl) (fun j _ => rfl) (by omega), jk rfl rfl rfl (by omega), fD rfl rfl (fun j _ => rfl) (fun j _ => rfl) (by omega), trivial⟩, pY (by omega), rfl, rfl, rfl⟩
noncomputable abbrev Zc (w0) := iT ((w0 : Nat) : Int)
noncomputable abbrev ZBO (v0 : List Tx) (v1 : El) (w0) := (.cells true 1 ((dP v0 v1 w0).length) (.fn (dh (aH (dP v0 v1 w0)))) : aF)
noncomputable abbrev ZCs (v0 : List Tx) (v1 : El) := (.aW true (aB 0 (dP v0 v1 4)) : aF)
theorem aac (z : El) (m : Nat) (E : tE) (nm nd br : List Tx) (hq : nd.length ≤ 1100) :
  aj Try.prog ZC5 Try.f43.ntmps 6 12 12 (aQ [(0, ZA 2), (3, ZA 10), (37, sL 11 4), (38, iT 4), (39, Zc 4)]) (hpL [(2, .cells true 7 1 (.fn fun _ => dO 6 7 8 m (dP nd z 4).length (br).length)), (3, Yj nm), (4, ZCs nd z), (5, Yj br), (6, ZI m E), (7, ZBO nd z 4), (8, Zv br), (10, Zh z), (11, ZCJ z)]) (Xm 0 (uw 0 2 3 10) [(2, .cells true 7 1 (.fn fun _ => dO 6 7 8 m (dP nd z 4).length (br).length)), (3, Yj nm), (4, ZCs nd z), (5, Yj br), (6, ZI m E), (7, ZBO nd z 4), (8, Zv br), (10, Zh z)]) := by
 have l4 := CO nd z 4
 refine (ptL 6 (by omega) z m (dP nd z 4).length br.length 4 E (aB 0 nm) (aB 0 (dP nd z 4)) (aB 0 br) (aH (dP nd z 4)) (aH (br)) (four z) (fun _ _ _ _ => by omega) (fun _ _ _ _ => by omega)).renG fun e fr' H' h => ?_
 rw [decide_eq_false (show ¬ ((4 : Nat) : Int) < 4 by omega), cond_false] at h
 obtain ⟨rfl, rfl, rfl⟩ := h
 exact ⟨id, (uw 0 2 3 10), [(2, .cells true 7 1 (.fn fun _ => dO 6 7 8 m (dP nd z 4).length (br).length)), (3, Yj nm), (4, ZCs nd z), (5, Yj br), (6, ZI m E), (7, ZBO nd z 4), (8, Zv br), (10, Zh z)], fun g hg => rfl, (vk rfl), ⟨jk rfl rfl rfl (by omega), lG rfl rfl (by omega), lG rfl rfl (by omega), lG rfl rfl (by omega), fD rfl rfl (fun j _ => rfl) (fun j _ => rfl) (by omega), fD rfl rfl (fun j _ => rfl) (fun j _ => rfl) (by omega), fD rfl rfl (fun j _ => rfl) (fun j _ => rfl) (by omega), jk rfl rfl rfl (by omega), trivial⟩, fun i j _ _ h => h, rfl, rfl, rfl⟩
theorem EU {z : El} (h : decide (z.k = 5) = true) : iY z = true := by unfold iY; rw [h]; rfl
theorem ad8 {z : El} (h : decide (z.k = 7) = true) : iY z = true := by unfold iY; rw [h]; simp
theorem ad9 {z : El} (h : decide (z.k = 5) = false) (h2 : decide (z.k = 7) = false) : iY z = false := by unfold iY; rw [h, h2]; rfl
noncomputable abbrev ZBD (v0 : Nat) (v1 : tE) := (.cells true 8 ((v0 + 1)) (.fn fun j => bI (v1 j)) : aF)
noncomputable abbrev ZCK (v0 : List Tx) (v1 : El) := (.aW true (aB 0 (v0 ++ [v1.n])) : aF)
noncomputable abbrev ZCw (v0 : Nat) (v1 : List Tx) (v2 : El) (v3 : List Tx) (w0) := (.cells true 7 1 (.fn fun _ => dO 6 7 8 (v0 + 1) (dP v1 v2 w0).length (v3).length) : aF)
noncomputable abbrev ZD9 (v0 : Nat) (v1 : List Tx) (v2 : El) (v3 v4 : List Tx) (v5 : tE) := ([(2, .cells true 7 1 (.fn fun _ => dO 6 7 8 (v0 + 1) (dP v1 v2 4).length ((bif iY v2 then v3 ++ [v2.n] else v3)).length)), (3, ZCK v4 v2), (4, ZCs v1 v2), (5, .aW true (aB 0 ((bif iY v2 then v3 ++ [v2.n] else v3)))), (6, ZBD v0 v5), (7, ZBO v1 v2 4), (8, .cells true 1 (((bif iY v2 then v3 ++ [v2.n] else v3)).length) (.fn (dh (aH ((bif iY v2 then v3 ++ [v2.n] else v3))))))] : tH)
theorem VP (z : El) (m : Nat) (E : tE) (nm nd br : List Tx) (hE : E m = z) (hm : m ≤ 256) (hl : m = nm.length) (hq : nd.length ≤ 1024) (hr : br.length ≤ 256) (hn : pos z.n nm = none) (hb : pos z.n br = none) :
  aj Try.prog (ak Try.f43) Try.f43.ntmps 6 10 12 (bJ [.ptr ⟨false, 2, 0, 0⟩, .agg (bI z)] 0 .e) (hpL [(2, .cells true 7 1 (.fn fun _ => dO 6 7 8 m (nd).length (br).length)), (3, .aW true (aB 0 (nm))), (4, .aW true (aB 0 (nd))), (5, .aW true (aB 0 (br))), (6, .cells true 8 (m) (.fn fun j => bI (E j))), (7, .cells true 1 ((nd).length) (.fn (dh (aH (nd))))), (8, .cells true 1 ((br).length) (.fn (dh (aH (br)))))]) (fun e fr' H' => (e = .ret ∨ e = .normal) ∧ H' = hpL [(2, .cells true 7 1 (.fn fun _ => dO 6 7 8 (m + 1) (dP nd z 4).length ((bif iY z then br ++ [z.n] else br)).length)), (3, .aW true (aB 0 (nm ++ [z.n]))), (4, .aW true (aB 0 (dP nd z 4))), (5, .aW true (aB 0 ((bif iY z then br ++ [z.n] else br)))), (6, .cells true 8 ((m + 1)) (.fn fun j => bI (E j))), (7, .cells true 1 ((dP nd z 4).length) (.fn (dh (aH (dP nd z 4))))), (8, .cells true 1 (((bif iY z then br ++ [z.n] else br)).length) (.fn (dh (aH ((bif iY z then br ++ [z.n] else br))))))]) := by
 rw [ad7]
 refine aj.aV (K1 := 11) (F1 := [(0, .ptr ⟨false, 2, 0, 0⟩), (3, .ptr ⟨false, 10, 0, 0⟩)]) (H1 := [(2, .cells true 7 1 (.fn fun _ => dO 6 7 8 m (nd).length (br).length)), (3, .aW true (aB 0 (nm))), (4, .aW true (aB 0 (nd))), (5, .aW true (aB 0 (br))), (6, .cells true 8 (m) (.fn fun j => bI (E j))), (7, .cells true 1 ((nd).length) (.fn (dh (aH (nd))))), (8, .cells true 1 ((br).length) (.fn (dh (aH (br))))), (10, .cells true 8 1 (.fn fun _ => bI z))]) (aj.toN (ptA 6 (by omega) z m nd.length br.length E (aB 0 nm) (aB 0 nd) (aB 0 br) (aH (nd)) (aH (br))) (dJ rfl) ⟨hs rfl, hs rfl, hs rfl, hs rfl, hs rfl, hs rfl, hs rfl, jI rfl, trivial⟩) (by omega) ?_
 refine aj.aV (K1 := 11) (F1 := [(0, .ptr ⟨false, 2, 0, 0⟩), (3, .ptr ⟨false, 10, 0, 0⟩)]) (H1 := [(2, .cells true 7 1 (.fn fun _ => dO 6 7 8 m (nd).length (br).length)), (3, .aW true (aB 0 (nm ++ [z.n]))), (4, .aW true (aB 0 (nd))), (5, .aW true (aB 0 (br))), (6, .cells true 8 (m) (.fn fun j => bI (E j))), (7, .cells true 1 ((nd).length) (.fn (dh (aH (nd))))), (8, .cells true 1 ((br).length) (.fn (dh (aH (br))))), (10, .cells true 8 1 (.fn fun _ => bI z))]) (aj.toN (ptB 6 (by omega) z m nd.length br.length E (aB 0 nm) (aB 0 nd) (aB 0 br) (aH (nd)) (aH (br))) (dJ rfl) ⟨hs rfl, gM rfl (ET hl hn), fG rfl⟩) (by omega) ?_
 refine aj.aV (K1 := 11) (F1 := [(0, .ptr ⟨false, 2, 0, 0⟩), (3, .ptr ⟨false, 10, 0, 0⟩)]) (H1 := [(2, .cells true 7 1 (.fn fun _ => dO 6 7 8 (m + 1) (nd).length (br).length)), (3, .aW true (aB 0 (nm ++ [z.n]))), (4, .aW true (aB 0 (nd))), (5, .aW true (aB 0 (br))), (6, .cells true 8 ((m + 1)) (.fn fun j => bI (E j))), (7, .cells true 1 ((nd).length) (.fn (dh (aH (nd))))), (8, .cells true 1 ((br).length) (.fn (dh (aH (br))))), (10, .cells true 8 1 (.fn fun _ => bI z))]) ?_ (by omega) ?_
 ·refine (ptC 6 (by omega) z m nd.length br.length E (aB 0 (nm ++ [z.n])) (aB 0 nd) (aB 0 br) (aH (nd)) (aH (br)) (by omega) (by omega)).renG fun e fr' H' h => ?_
  obtain ⟨rfl, rfl, rfl⟩ := h
  exact ⟨sg 6 12, [(0, .ptr ⟨false, 2, 0, 0⟩), (3, .ptr ⟨false, 10, 0, 0⟩)], [(2, .cells true 7 1 (.fn fun _ => dO 6 7 8 (m + 1) (nd).length (br).length)), (3, .aW true (aB 0 (nm ++ [z.n]))), (4, .aW true (aB 0 (nd))), (5, .aW true (aB 0 (br))), (6, .cells true 8 ((m + 1)) (.fn fun j => bI (E j))), (7, .cells true 1 ((nd).length) (.fn (dh (aH (nd))))), (8, .cells true 1 ((br).length) (.fn (dh (aH (br))))), (10, .cells true 8 1 (.fn fun _ => bI z))], qc (by omega), (vk rfl), ⟨jk rfl rfl rfl (by omega), lG rfl rfl (by omega), lG rfl rfl (by omega), lG rfl rfl (by omega), fD rfl rfl (fun j hj => by
   show (bif decide (j < m) then bI (E j) else bI z) = bI (E j)
   by_cases c : j < m
   ·rw [decide_eq_true c, cond_true]
   ·rw [decide_eq_false c, cond_false, ← hE]; congr 2; omega) (fun j _ => rfl) (by omega), fD rfl rfl (fun j _ => rfl) (fun j _ => rfl) (by omega), fD rfl rfl (fun j _ => rfl) (fun j _ => rfl) (by omega), jk rfl rfl rfl (by omega), trivial⟩, pY (by omega), rfl, rfl, rfl⟩
 refine aj.aV (K1 := 12) (F1 := [(0, .ptr ⟨false, 2, 0, 0⟩), (3, .ptr ⟨false, 10, 0, 0⟩)]) (H1 := [(2, .cells true 7 1 (.fn fun _ => dO 6 7 8 (m + 1) (dP nd z 4).length (br).length)), (3, .aW true (aB 0 (nm ++ [z.n]))), (4, .aW true (aB 0 (dP nd z 4))), (5, .aW true (aB 0 (br))), (6, .cells true 8 ((m + 1)) (.fn fun j => bI (E j))), (7, .cells true 1 ((dP nd z 4).length) (.fn (dh (aH (dP nd z 4))))), (8, .cells true 1 ((br).length) (.fn (dh (aH (br))))), (10, .cells true 8 1 (.fn fun _ => bI z))]) ?_ (by omega) ?_
 ·refine aj.aV (K1 := 12) (F1 := [(0, .ptr ⟨false, 2, 0, 0⟩), (3, .ptr ⟨false, 10, 0, 0⟩), (37, sL 11 4), (38, iT 4), (39, iT ((0 : Nat) : Int))]) (H1 := [(2, .cells true 7 1 (.fn fun _ => dO 6 7 8 (m + 1) (dP nd z 0).length (br).length)), (3, .aW true (aB 0 (nm ++ [z.n]))), (4, .aW true (aB 0 (dP nd z 0))), (5, .aW true (aB 0 (br))), (6, .cells true 8 ((m + 1)) (.fn fun j => bI (E j))), (7, .cells true 1 ((dP nd z 0).length) (.fn (dh (aH (dP nd z 0))))), (8, .cells true 1 ((br).length) (.fn (dh (aH (br))))), (10, .cells true 8 1 (.fn fun _ => bI z)), (11, .cells true 1 4 (.fn (dh (four z))))]) (aj.toN (ptD 6 (by omega) z (m + 1) nd.length br.length E (aB 0 (nm ++ [z.n])) (aB 0 nd) (aB 0 br) (aH (nd)) (aH (br))) ⟨re rfl, re rfl, ⟨_, rfl, AV.ge.slc _ _ _ rfl⟩, ⟨_, rfl, AV.ge.int _ _ _ _⟩, ⟨_, rfl, AV.ge.int _ _ _ _⟩, trivial⟩ ⟨hs rfl, hs rfl, hs rfl, hs rfl, hs rfl, hs rfl, hs rfl, hs rfl, ⟨_, rfl, rfl, rfl, rfl, fun j hj => by
   have : j = 0 ∨ j = 1 ∨ j = 2 ∨ j = 3 := by omega
   rcases this with rfl | rfl | rfl | rfl <;> rfl⟩, trivial⟩) (by omega) ?_
  refine (aj.rounds 4 (fun i => [(0, .ptr ⟨false, 2, 0, 0⟩), (3, .ptr ⟨false, 10, 0, 0⟩), (37, sL 11 4), (38, iT 4), (39, iT ((i : Nat) : Int))]) (fun i => [(2, .cells true 7 1 (.fn fun _ => dO 6 7 8 (m + 1) ((dP nd z i)).length (br).length)), (3, .aW true (aB 0 (nm ++ [z.n]))), (4, .aW true (aB 0 ((dP nd z i)))), (5, .aW true (aB 0 (br))), (6, .cells true 8 ((m + 1)) (.fn fun j => bI (E j))), (7, .cells true 1 (((dP nd z i)).length) (.fn (dh (aH ((dP nd z i)))))), (8, .cells true 1 ((br).length) (.fn (dh (aH (br))))), (10, .cells true 8 1 (.fn fun _ => bI z)), (11, .cells true 1 4 (.fn (dh (four z))))]) (fun i hi => VO z (m + 1) E (nm ++ [z.n]) nd br (by omega) i hi) (aac z (m + 1) E (nm ++ [z.n]) nd br (by omega))).renG fun e fr' H' h => ?_
  obtain ⟨rfl, rfl, rfl⟩ := h
  exact ⟨id, [(0, .ptr ⟨false, 2, 0, 0⟩), (3, .ptr ⟨false, 10, 0, 0⟩)], [(2, .cells true 7 1 (.fn fun _ => dO 6 7 8 (m + 1) (dP nd z 4).length (br).length)), (3, .aW true (aB 0 (nm ++ [z.n]))), (4, .aW true (aB 0 (dP nd z 4))), (5, .aW true (aB 0 (br))), (6, .cells true 8 ((m + 1)) (.fn fun j => bI (E j))), (7, .cells true 1 ((dP nd z 4).length) (.fn (dh (aH (dP nd z 4))))), (8, .cells true 1 ((br).length) (.fn (dh (aH (br))))), (10, .cells true 8 1 (.fn fun _ => bI z))], fun g hg => rfl, (vk rfl), ⟨jk rfl rfl rfl (by omega), lG rfl rfl (by omega), lG rfl rfl (by omega), lG rfl rfl (by omega), fD rfl rfl (fun j _ => rfl) (fun j _ => rfl) (by omega), fD rfl rfl (fun j _ => rfl) (fun j _ => rfl) (by omega), fD rfl rfl (fun j _ => rfl) (fun j _ => rfl) (by omega), jk rfl rfl rfl (by omega), trivial⟩, fun i j _ _ h => h, rfl, rfl, rfl⟩
 have big : iY z = true → ∀ e fr' H', (e = .normal ∧ fr' = aQ [(0, .ptr ⟨false, 2, 0, 0⟩), (3, .ptr ⟨false, 10, 0, 0⟩)] ∧ H' = hpL [(2, .cells true 7 1 (.fn fun j => bif Nat.beq j 0 then (dO 6 7 13 (m + 1) (dP nd z 4).length (br.length + 1)) else (dO 6 7 8 (m + 1) (dP nd z 4).length br.length))), (3, aF.aW true (aB 0 (nm ++ [z.n]))), (4, aF.aW true (aB 0 (dP nd z 4))), (5, aF.aW true (rH seq (El.n z) (↑br.length : Int) (aB 0 br))), (6, .cells true 8 (m + 1) (.fn fun j => (bI (E j)))), (7, .cells true 1 (dP nd z 4).length (.fn (dh (aH (dP nd z 4))))), (13, .cells true 1 (br.length + 1) (.fn fun j => bif decide (j < br.length) then (dh (aH (br)) j) else [AV.str true (El.n z)]))]) → ∃ σ fl bl, (∀ g, g < 6 → σ g = g) ∧ Ah 12 σ fr' fl ∧ EF 12 σ H' bl ∧ (∀ i j, i < 12 → j < 12 → σ i = σ j → i = j) ∧ ((e = Ex.ret ∨ e = .normal) ∧ hpL bl = hpL [(2, .cells true 7 1 (.fn fun _ => dO 6 7 8 (m + 1) (dP nd z 4).length ((bif iY z then br ++ [z.n] else br)).length)), (3, .aW true (aB 0 (nm ++ [z.n]))), (4, .aW true (aB 0 (dP nd z 4))), (5, .aW true (aB 0 ((bif iY z then br ++ [z.n] else br)))), (6, .cells true 8 ((m + 1)) (.fn fun j => bI (E j))), (7, .cells true 1 ((dP nd z 4).length) (.fn (dh (aH (dP nd z 4))))), (8, .cells true 1 (((bif iY z then br ++ [z.n] else br)).length) (.fn (dh (aH ((bif iY z then br ++ [z.n] else br))))))]) := by
  rintro hB e fr' H' ⟨rfl, rfl, rfl⟩
  rw [hB, cond_true]
  have len : (br ++ [z.n]).length = br.length + 1 := by simp
  exact ⟨sg 8 13, [(0, .ptr ⟨false, 2, 0, 0⟩)], [(2, .cells true 7 1 (.fn fun _ => dO 6 7 8 (m + 1) (dP nd z 4).length (br ++ [z.n]).length)), (3, .aW true (aB 0 (nm ++ [z.n]))), (4, .aW true (aB 0 (dP nd z 4))), (5, .aW true (aB 0 (br ++ [z.n]))), (6, .cells true 8 ((m + 1)) (.fn fun j => bI (E j))), (7, .cells true 1 ((dP nd z 4).length) (.fn (dh (aH (dP nd z 4))))), (8, .cells true 1 ((br ++ [z.n]).length) (.fn (dh (aH (br ++ [z.n])))))], qc (by omega), ⟨⟨_, rfl, AV.ge.refl _, rfl⟩, trivial⟩, ⟨jk rfl (by rw [len]; rfl) rfl (by omega), lG rfl rfl (by omega), lG rfl rfl (by omega), lG rfl (ET rfl hb) (by omega), fD rfl rfl (fun j _ => rfl) (fun j _ => rfl) (by omega), fD rfl rfl (fun j _ => rfl) (fun j _ => rfl) (by omega), fD rfl len.symm (fun j hj => vH _ _ j hj) (fun j _ => rfl) (by omega), trivial⟩, pY (by omega), .inr rfl, rfl⟩
 refine (ptM 6 (by omega) z (m + 1) (dP nd z 4).length br.length E (aB 0 (nm ++ [z.n])) (aB 0 (dP nd z 4)) (aB 0 br) (aH (dP nd z 4)) (aH (br)) (by omega) (by omega)).renG fun e fr' H' h => ?_
 refine bD h (fun t h => big (EU t) _ _ _ h) (fun t1 h => ?_)
 refine bD h (fun t h => big (ad8 t) _ _ _ h) (fun t2 h => ?_)
 obtain ⟨rfl, rfl, rfl⟩ := h
 rw [ad9 t1 t2, cond_false]
 exact ⟨id, [(0, .ptr ⟨false, 2, 0, 0⟩)], [(2, .cells true 7 1 (.fn fun _ => dO 6 7 8 (m + 1) (dP nd z 4).length (br).length)), (3, .aW true (aB 0 (nm ++ [z.n]))), (4, .aW true (aB 0 (dP nd z 4))), (5, .aW true (aB 0 (br))), (6, .cells true 8 ((m + 1)) (.fn fun j => bI (E j))), (7, .cells true 1 ((dP nd z 4).length) (.fn (dh (aH (dP nd z 4))))), (8, .cells true 1 ((br).length) (.fn (dh (aH (br)))))], fun g hg => rfl, ⟨⟨_, rfl, AV.ge.refl _, rfl⟩, trivial⟩, ⟨jk rfl rfl rfl (by omega), lG rfl rfl (by omega), lG rfl rfl (by omega), lG rfl rfl (by omega), fD rfl rfl (fun j _ => rfl) (fun j _ => rfl) (by omega), fD rfl rfl (fun j _ => rfl) (fun j _ => rfl) (by omega), fD rfl rfl (fun j _ => rfl) (fun j _ => rfl) (by omega), trivial⟩, fun i j _ _ h => h, .inr rfl, rfl⟩


noncomputable abbrev ZE := (.cells true 2 1 (.fn fun _ => [.int false .i64 (0), .int false .i64 (0)]) : aF)
noncomputable abbrev ZF (v0 : Nat) (v1 : tE) := (.cells false 8 v0 (.fn fun j => bI (v1 j)) : aF)
noncomputable def hoL (n m q r : Nat) (E : tE) (M1 M2 M3 : tM) (nd br : tX) : List (Nat × aF) := [(0, ZF n E), (1, ZE), (2, JB m q r), (3, .aW true M1), (4, .aW true M2), (5, .aW true M3), (6, ZD m E), (7, Ze q nd), (8, Ze r br)]
noncomputable abbrev ZG (v0 : Nat) := (.slc true false ⟨false, 0, 0, 0⟩ v0 : AV)
noncomputable abbrev VQ := (.cells true 2 1 (.lit [] (.n .e (some [ZC 0, ZC 0]) .e)) : aF)
noncomputable abbrev ZEY (v0 : Nat) := ([(0, ZG v0), (3, ZA 1)] : tF)
theorem ofA (B : Nat) (hB : B ≤ 1) (n : Nat) (E : tE) : aj Try.prog ((aT [0] (ak Try.f14))) Try.f14.ntmps B 1 2 (bJ [ZG n] 0 .e) (hpL [(0, ZF n E)]) (pP .normal (ZEY n) [(0, ZF n E), (1, VQ)]) := jJ [] trivial hB
noncomputable abbrev ZBi := (.int false .i64 (-1 : Int) : AV)
noncomputable abbrev l9 := (.cells true 2 1 (.fn fun x => [ZC 0, ZC 0]) : aF)
noncomputable abbrev Yk (w0) := (.cells true 2 1 (.fn fun j => bif Nat.beq j 0 then [ZC w0, ZBi] else [ZC 0, ZC 0]) : aF)
theorem ofB (B : Nat) (hB : B ≤ 2) (n : Nat) (E : tE) : aj Try.prog ((aT [1,0] (ak Try.f14))) Try.f14.ntmps B 2 2 (aQ (ZEY n)) (hpL [(0, ZF n E), (1, ZE)]) fun e fr' H' => (cond (decide (256 < (↑n : Int))) (pP .ret [(0, ZG n), (2, .bG), (3, ZA 1)] [(0, ZF n E), (1, Yk 3)] e fr' H') (pP .normal (ZEY n) [(0, ZF n E), (1, l9)] e fr' H')) := cD (fun q0 t0 => jJ [tT] (I1 t0) hB) (fun q0 t0 => jJ [fF] (I1 t0) hB)
theorem ofC (B : Nat) (hB : B ≤ 2) (n : Nat) (E : tE) : aj Try.prog ((aT [1,1,0] (ak Try.f14))) Try.f14.ntmps B 2 6 (aQ (ZEY n)) (hpL [(0, ZF n E), (1, ZE)]) (pP .normal [(0, ZG n), (3, ZA 1), (4, ZA 5)] [(0, ZF n E), (1, l9), (2, .aW false []), (3, .aW false []), (4, .aW false []), (5, .cells true 7 1 (.lit [] (.n .e (some [.bool true, .aX, AV.mp 2, .aX, AV.mp 3, .aX, AV.mp 4]) .e)))]) := jJ [] trivial hB
theorem ofD (B : Nat) (hB : B ≤ 9) (n m q r : Nat) (E : tE) (M1 M2 M3 : tM) (nd br : tX) : aj Try.prog ((aT [1,1,1,0,0] (ak Try.f14))) Try.f14.ntmps B 9 9 (aQ [(0, ZG n), (3, ZA 1), (4, ZA 2)]) (hpL (hoL n m q r E M1 M2 M3 nd br)) (pP .normal [(3, ZA 1), (4, ZA 2), (19, ZG n), (20, iT (↑n : Int)), (21, ZC 0)] [(0, ZF n E), (1, l9), (2, JB m q r), (3, .aW true M1), (4, .aW true M2), (5, .aW true M3), (6, ZD m E), (7, Ze q nd), (8, Ze r br)]) := jJ [] trivial hB
noncomputable abbrev ZC1 := aT [1,1,1,0,1,0,0,0] (ak Try.f14)
noncomputable abbrev QW (v0 v1 : Nat) := ([(3, ZA 1), (4, ZA 2), (19, ZG v0), (20, iT v0), (21, iT (v1 : Int))] : tF)
theorem oeA (B : Nat) (hB : B ≤ 9) (n m q r i : Nat) (E : tE) (M1 M2 M3 : tM) (nd br : tX) : aj Try.prog (ZC1) Try.f14.ntmps B 9 9 (aQ (QW n i)) (hpL (hoL n m q r E M1 M2 M3 nd br)) (pP .normal [(3, ZA 1), (4, ZA 2), (19, ZG n), (20, iT (↑n : Int)), (21, iT (↑i : Int)), (22, .aP (decide ((↑i : Int) < (↑n : Int))))] [(0, ZF n E), (1, l9), (2, JB m q r), (3, .aW true M1), (4, .aW true M2), (5, .aW true M3), (6, ZD m E), (7, Ze q nd), (8, Ze r br)]) := jJ [] trivial hB
noncomputable abbrev ZCz := aT [1,1,1,0,1,0,0,1,0] (ak Try.f14)
noncomputable abbrev ZFC (v0 v1 : Nat) := ([(3, ZA 1), (4, ZA 2), (19, ZG v0), (20, iT (↑v0 : Int)), (21, iT (↑v1 : Int))] : tF)
theorem oeB (B : Nat) (hB : B ≤ 9) (n m q r i : Nat) (E : tE) (M1 M2 M3 : tM) (nd br : tX) (t : Bool) : aj Try.prog (ZCz) Try.f14.ntmps B 9 9 (aQ [(3, ZA 1), (4, ZA 2), (19, ZG n), (20, iT n), (21, iT (i : Int)), (22, .aP t)]) (hpL (hoL n m q r E M1 M2 M3 nd br)) fun e fr' H' => (cond (t) (pP .normal (ZFC n i) [(0, ZF n E), (1, l9), (2, JB m q r), (3, .aW true M1), (4, .aW true M2), (5, .aW true M3), (6, ZD m E), (7, Ze q nd), (8, Ze r br)] e fr' H') (pP (.exit 0) (ZFC n i) [(0, ZF n E), (1, l9), (2, JB m q r), (3, .aW true M1), (4, .aW true M2), (5, .aW true M3), (6, ZD m E), (7, Ze q nd), (8, Ze r br)] e fr' H')) := cI (fun t0 => jJ [tT] (I1 t0) hB) (fun t0 => jJ [fF] (I1 t0) hB)
noncomputable abbrev ZCE := aT [1,1,1,0,1,0,0,1,1,0,0,0] (ak Try.f14)
noncomputable abbrev ZEa (v0 v1 : Nat) := ([(3, ZA 1), (4, ZA 2), (5, iT (↑v0 : Int)), (6, ZA 9), (19, ZG v1), (20, iT (↑v1 : Int)), (21, iT (↑v0 : Int))] : tF)
theorem oeC (B : Nat) (hB : B ≤ 9) (n m q r i : Nat) (E : tE) (M1 M2 M3 : tM) (nd br : tX) (x0 : ((↑i : Int) < (↑n : Int))) (x1 : (0 + i < n)) : aj Try.prog (ZCE) Try.f14.ntmps B 9 10 (aQ (QW n i)) (hpL (hoL n m q r E M1 M2 M3 nd br)) (pP .normal (ZEa i n) [(0, ZF n E), (1, l9), (2, JB m q r), (3, .aW true M1), (4, .aW true M2), (5, .aW true M3), (6, ZD m E), (7, Ze q nd), (8, Ze r br), (9, .cells true 8 1 (.lit [] (T.n T.e (Option.some (bI (E (0 + i)))) T.e)))]) := jJ [] (I3 (ai (show 0 ≤ (↑i : Int) by omega) x0) x1 (show 8 ≤ 8 by omega)) hB
noncomputable abbrev ZB9 := aT [1,1,1,0,1,0,0,1,1,0,0,1,0] (ak Try.f14)
noncomputable abbrev ZDS (v0 v1 : Nat) := ([(3, ZA 1), (4, ZA 2), (19, ZG v0), (20, iT v0), (21, iT (v1 : Int)), (5, iT (v1 : Int)), (6, ZA 9)] : tF)
theorem oeD (B : Nat) (hB : B ≤ 10) (z : El) (n m q r i : Nat) (E : tE) (M1 M2 M3 : tM) (nd br : tX) : aj Try.prog (ZB9) Try.f14.ntmps B 10 10 (aQ (ZDS n i)) (hpL (hoL n m q r E M1 M2 M3 nd br ++ [(9, Zh z)])) fun e fr' H' => (cond (decide (gJ (El.k z) (El.n z) (El.a z) (El.b z) (El.c z) (El.d z) (El.v z) (El.ph z) = (0 : Int))) (pP .normal (ZEa i n) [(0, ZF n E), (1, l9), (2, JB m q r), (3, .aW true M1), (4, .aW true M2), (5, .aW true M3), (6, ZD m E), (7, Ze q nd), (8, Ze r br), (9, Zh z)] e fr' H') (pP .ret [(2, .bG), (3, ZA 1), (4, ZA 2), (5, iT (↑i : Int)), (6, ZA 9), (19, ZG n), (20, iT (↑n : Int)), (21, iT (↑i : Int))] [(0, ZF n E), (1, .cells true 2 1 (.fn fun j => bif Nat.beq j 0 then [iT (gJ (El.k z) (El.n z) (El.a z) (El.b z) (El.c z) (El.d z) (El.v z) (El.ph z)), iT (↑i : Int)] else [ZC 0, ZC 0])), (2, JB m q r), (3, .aW true M1), (4, .aW true M2), (5, .aW true M3), (6, ZD m E), (7, Ze q nd), (8, Ze r br), (9, Zh z)] e fr' H')) := cD (fun q0 t0 => jJ [fF] (I1 (nt t0)) hB) (fun q0 t0 => jJ [tT] (I1 (nf t0)) hB)
noncomputable abbrev ZB6 := aT [1,1,1,0,1,0,0,1,1,0,0,1,1,0] (ak Try.f14)
noncomputable abbrev ZD2 (v0 : Nat) (w0) := (.cells true 2 1 (.fn fun j => bif Nat.beq j 0 then [ZC w0, iT (↑v0 : Int)] else [ZC 0, ZC 0]) : aF)
theorem oeE (B : Nat) (hB : B ≤ 10) (z : El) (n m q r i : Nat) (E : tE) (M1 M2 M3 : tM) (nd br : tX) : aj Try.prog (ZB6) Try.f14.ntmps B 10 10 (aQ (ZDS n i)) (hpL (hoL n m q r E M1 M2 M3 nd br ++ [(9, Zh z)])) fun e fr' H' => (cond (Option.isSome (dG seq (El.n z) M1)) (pP .ret [(2, .bG), (3, ZA 1), (4, ZA 2), (5, iT (↑i : Int)), (6, ZA 9), (19, ZG n), (20, iT (↑n : Int)), (21, iT (↑i : Int))] [(0, ZF n E), (1, ZD2 i 9), (2, JB m q r), (3, .aW true M1), (4, .aW true M2), (5, .aW true M3), (6, ZD m E), (7, Ze q nd), (8, Ze r br), (9, Zh z)] e fr' H') (pP .normal (ZEa i n) [(0, ZF n E), (1, l9), (2, JB m q r), (3, .aW true M1), (4, .aW true M2), (5, .aW true M3), (6, ZD m E), (7, Ze q nd), (8, Ze r br), (9, Zh z)] e fr' H')) := cI (fun t0 => jJ [tT] (I1 t0) hB) (fun t0 => jJ [fF] (I1 t0) hB)
noncomputable abbrev ZCy := aT [1,1,1,0,1,0,0,1,1,1] (ak Try.f14)
theorem oeG (B : Nat) (hB : B ≤ 12) (n m q r i : Nat) (E : tE) (M1 M2 M3 : tM) (nd br : tX) (x0 : ((↑i : Int) + 1 ≤ (9223372036854775807 : Int))) : aj Try.prog (ZCy) Try.f14.ntmps B 12 12 (aQ (QW n i)) (hpL (hoL n m q r E M1 M2 M3 nd br)) (pP .normal [(3, ZA 1), (4, ZA 2), (19, ZG n), (20, iT (↑n : Int)), (21, Ap i)] [(0, ZF n E), (1, l9), (2, JB m q r), (3, .aW true M1), (4, .aW true M2), (5, .aW true M3), (6, ZD m E), (7, Ze q nd), (8, Ze r br)]) := jJ [] (I1 (ai (show -9223372036854775808 ≤ (↑i : Int) + 1 by omega) x0)) hB
noncomputable abbrev ZDA := aT [1,1,1,1,0] (ak Try.f14)
theorem ofG (B : Nat) (hB : B ≤ 9) (n m q r : Nat) (E : tE) (M1 M2 M3 : tM) (nd br : tX) (x0 : ((decide (32 < (↑q : Int))) = false → ((decide (64 < (↑q : Int) + (↑r : Int))) = true → ((↑q : Int) + (↑r : Int) ≤ 9223372036854775807)))) : aj Try.prog (ZDA) Try.f14.ntmps B 9 9 (aQ (uw 3 1 4 2)) (hpL (hoL n m q r E M1 M2 M3 nd br)) fun e fr' H' => (cond (decide (32 < (↑q : Int))) (pP .ret [(2, .bG), (3, ZA 1), (4, ZA 2)] [(0, ZF n E), (1, Yk 3), (2, JB m q r), (3, .aW true M1), (4, .aW true M2), (5, .aW true M3), (6, ZD m E), (7, Ze q nd), (8, Ze r br)] e fr' H') (cond (decide (64 < (↑q : Int) + (↑r : Int))) (pP .ret [(2, .bG), (3, ZA 1), (4, ZA 2)] [(0, ZF n E), (1, Yk 3), (2, JB m q r), (3, .aW true M1), (4, .aW true M2), (5, .aW true M3), (6, ZD m E), (7, Ze q nd), (8, Ze r br)] e fr' H') (pP .normal (uw 3 1 4 2) [(0, ZF n E), (1, l9), (2, JB m q r), (3, .aW true M1), (4, .aW true M2), (5, .aW true M3), (6, ZD m E), (7, Ze q nd), (8, Ze r br)] e fr' H'))) := cD (fun q0 t0 => jJ [tT] (I1 t0) hB) (fun q0 t0 => cD (fun q1 t1 => jJ [fF, tT] (I3 t0 (ai (show -9223372036854775808 ≤ (↑q : Int) + (↑r : Int) by omega) (x0 t0 t1)) t1) hB) (fun q1 t1 => jJ [fF, fF] (I3 t0 (ai (show -9223372036854775808 ≤ (↑q : Int) + (↑r : Int) by omega) (show (↑q : Int) + (↑r : Int) ≤ 9223372036854775807 by omega)) t1) hB))
noncomputable abbrev ZDq := (.cells true 2 1 (.fn fun j => bif Nat.beq j 0 then [ZC 0, ZC 0] else [ZC 0, ZC 0]) : aF)
theorem ofH (B : Nat) (hB : B ≤ 9) (n m q r : Nat) (E : tE) (M1 M2 M3 : tM) (nd br : tX) : aj Try.prog ((aT [1,1,1,1,1] (ak Try.f14))) Try.f14.ntmps B 9 9 (aQ (uw 3 1 4 2)) (hpL (hoL n m q r E M1 M2 M3 nd br)) (pP .ret (uw 2 2 3 1) [(0, ZF n E), (1, ZDq), (2, JB m q r), (3, .aW true M1), (4, .aW true M2), (5, .aW true M3), (6, ZD m E), (7, Ze q nd), (8, Ze r br)]) := jJ [] trivial hB
noncomputable abbrev Zg (v0 : Nat) (v1 : tE) := (.cells true 8 v0 (.fn fun j => (bI (v1 j))) : aF)
noncomputable abbrev Zn (v0 : Nat) (v1 : tE) := (.cells false 8 v0 (.fn fun j => (bI (v1 j))) : aF)
noncomputable abbrev oI (v0 : tM) := aF.aW true v0
noncomputable abbrev ZBU := aT [1,1,1,0,1,0,0,1,1,0,0,1,1,1] (ak Try.f14)
noncomputable abbrev ZCc (v0 : Nat) (v1 : tX) := (.cells true 1 (v0) (.fn (dh v1)) : aF)
theorem aea (z : El) (n m q r i : Nat) (E : tE) (M1 M2 M3 : tM) (nd br : tX) : bV 10 (Ex.normal) [(3, ZA 1), (4, ZA 2), (19, ZG n), (20, iT (↑n : Int)), (21, iT (↑i : Int)), (46, ZA 2), (47, .agg (bI z))] [(0, Zn n E), (1, l9), (2, .cells true 7 1 (.fn fun x => (dO 6 7 8 m q r))), (3, oI M1), (4, oI M2), (5, oI M3), (6, Zg m E), (7, Ze q nd), (8, Ze r br)] (tJ Try.f14 (sK 2 ZBU) (aQ (ZDS n i)) (hpL [(0, ZF n E), (1, ZE), (2, JB m q r), (3, .aW true M1), (4, .aW true M2), (5, .aW true M3), (6, ZI m E), (7, ZCc q nd), (8, ZCc r br), (9, Zh z)]) 10 []) := eN trivial
theorem aeb (n m q r i : Nat) (E : tE) (M1 M2 M3 : tM) (nd br : tX) : bV 12 (Ex.normal) (ZFC n i) [(0, Zn n E), (1, l9), (2, .cells true 7 1 (.fn fun x => (dO 6 7 8 m q r))), (3, oI M1), (4, oI M2), (5, oI M3), (6, Zg m E), (7, Ze q nd), (8, Ze r br)] (tJ Try.f14 (CG 3 ZBU) ((aQ (QW n i)).upd 48 (some (.iD []))) (hpL [(0, ZF n E), (1, ZE), (2, JB m q r), (3, .aW true M1), (4, .aW true M2), (5, .aW true M3), (6, ZI m E), (7, ZCc q nd), (8, ZCc r br)]) 12 []) := eN trivial
noncomputable def bU (e : El) : Int := gJ e.k e.n e.a e.b e.c e.d e.v e.ph
noncomputable def QF (E : tE) (n : Nat) : Po := fun e fr' H' => e = .ret ∧ (((ofR bU E n).1 ≠ 0 ∧ ∃ s s' : Bool, fr' = aQ [(2, .bG), (3, .ptr ⟨false, 1, 0, 0⟩)] ∧ H' = hpL [(1, .cells true 2 1 (.fn fun _ => [.int s .i64 (ofR bU E n).1, .int s' .i64 (ofR bU E n).2]))]) ∨ ((ofR bU E n).1 = 0 ∧ fr' = aQ [(2, .ptr ⟨false, 2, 0, 0⟩), (3, .ptr ⟨false, 1, 0, 0⟩)] ∧ H' = hpL [(1, .cells true 2 1 (.fn fun _ => [.int false .i64 (0), .int false .i64 (0)])), (2, .cells true 7 1 (.fn fun _ => dO 6 7 8 n (ND E n).length (BR E n).length)), (3, .aW true (aB 0 (NM E n))), (4, .aW true (aB 0 (ND E n))), (5, .aW true (aB 0 (BR E n))), (6, .cells true 8 (n) (.fn fun j => bI (E j))), (7, .cells true 1 ((ND E n).length) (.fn (dh (aH (ND E n))))), (8, .cells true 1 ((BR E n).length) (.fn (dh (aH (BR E n)))))]))
theorem JC {E : tE} {n : Nat} {x y : Int} (s s' : Bool) (h : ofR bU E n = (x, y)) (h0 : x ≠ 0) : QF E n .ret (aQ [(2, .bG), (3, ZA 1)]) (hpL [(1, .cells true 2 1 (.fn fun _ => [.int s .i64 x, .int s' .i64 y]))]) :=
 ⟨rfl, .inl ⟨by rw [h]; exact h0, s, s', rfl, by rw [h]⟩⟩
noncomputable abbrev ZC6 := aT [1,1,1,0,1,0,0] (ak Try.f14)
theorem agk : (ak Try.f14) = .seq (aT [0] (ak Try.f14)) (.seq (aT [1,0] (ak Try.f14)) (.seq (aT [1,1,0] (ak Try.f14)) (.seq (.seq (aT [1,1,1,0,0] (ak Try.f14)) (.block 0 (.loop ZC6))) (.seq ZDA (aT [1,1,1,1,1] (ak Try.f14)))))) := by kernel_rfl
theorem aag : ZC6 = .seq ZC1 (.seq ZCz (.seq (.block 1 (.seq ZCE (.seq ZB9 (.seq ZB6 ZBU)))) ZCy)) := by kernel_rfl
def clO : Call := ⟨.value (.func 43), #[.tmp 46, .tmp 47], #[38, 28]⟩
noncomputable def opO : Oper := ((iy ZBU).drop 2).headD ⟨none, .move (.tmp 0), 0, "", #[], none⟩
theorem VR (E : tE) (i : Nat) (h : i ≤ 256) : (ND E i).length ≤ 1024 := by have := Jz E i; omega
theorem VT (E : tE) (i : Nat) (h : i ≤ 256) : (BR E i).length ≤ 256 := by have := mV E i; omega
noncomputable abbrev ZJ (v0 : tE) (v1 : Nat) := (.cells true 1 ((ND v0 v1).length) (.fn (dh (aH (ND v0 v1)))) : aF)
noncomputable abbrev ZK (v0 : tE) (v1 : Nat) := (.cells true 1 ((BR v0 v1).length) (.fn (dh (aH (BR v0 v1)))) : aF)
noncomputable abbrev Zk (v0 : Nat) (v1 : tE) := (.cells true 7 1 (.fn fun _ => dO 6 7 8 v0 (ND v1 v0).length (BR v1 v0).length) : aF)
noncomputable abbrev ZBX (v0 : Nat) (v1 : tE) := (.cells true 7 1 (.fn fun _ => dO 6 7 8 (v0 + 1) (ND v1 (v0 + 1)).length (BR v1 (v0 + 1)).length) : aF)
noncomputable abbrev ZBY (v0 : tE) (v1 : Nat) := (.cells true 8 1 (.fn fun _ => bI (v0 v1)) : aF)
noncomputable abbrev ZBz (v0 : tE) (v1 : Nat) := (.cells true 1 ((ND v0 (v1 + 1)).length) (.fn (dh (aH (ND v0 (v1 + 1))))) : aF)
noncomputable abbrev ZB0 (v0 : tE) (v1 : Nat) := (.cells true 1 ((BR v0 (v1 + 1)).length) (.fn (dh (aH (BR v0 (v1 + 1))))) : aF)
noncomputable abbrev ZDL (v0 : Nat) (v1 : tE) (v2 : Nat) := ([(0, ZF v0 v1), (1, ZE), (2, ZBX v2 v1), (3, .aW true (aB 0 (NM v1 (v2 + 1)))), (4, .aW true (aB 0 (ND v1 (v2 + 1)))), (5, .aW true (aB 0 (BR v1 (v2 + 1)))), (6, ZBD v2 v1), (7, ZBz v1 v2), (8, ZB0 v1 v2)] : tH)
noncomputable abbrev ZDX (v0 : Nat) (v1 : tE) (v2 : Nat) := ([(0, ZF v0 v1), (1, ZE), (2, Zk v2 v1), (3, ZU v1 v2), (4, ZV v1 v2), (5, ZW v1 v2), (6, ZI v2 v1), (7, ZJ v1 v2), (8, ZK v1 v2), (9, ZBY v1 v2)] : tH)
theorem aec (n i : Nat) (E : tE) (hi : i < n) (hn : n ≤ 256) (hp : pos (E i).n (NM E i) = none) :
  aj Try.prog ZBU Try.f14.ntmps 1 10 12 (aQ (ZDS n i)) (hpL (ZDX n E i)) (Nm (QW n i) (ZDL n E i)) := by
 refine aj.G9 (o := opO) (cl := clO) (FY := .func 43) (f := 43) (fn := Try.f43) (body := (ak Try.f43)) (pre := []) (cap := []) (args := [ZA 2, .agg (bI (E i))]) iO 2 (by kernel_rfl) (by kernel_rfl) (by kernel_rfl) (by kernel_rfl) rfl (d := 48) (by kernel_rfl) (Nat.le_of_ble_eq_true (by kernel_rfl)) (K1 := 10) (K2 := 12) (by omega) (aea (E i) n i (ND E i).length (BR E i).length i E (aB 0 (NM E i)) (aB 0 (ND E i)) (aB 0 (BR E i)) (aH (ND E i)) (aH (BR E i))) Try.func43 (by kernel_rfl) (by kernel_rfl) rfl (B0 := 6) (by omega) (by omega) (by omega) (QW n i) rfl (dJ rfl) rfl
  (V := fun v H' => v = .iD [] ∧ H' = hpL (ZDL n E i)) ?_ (fun v H' hv => by
   obtain ⟨rfl, rfl⟩ := hv
   exact ⟨[], _, _, aeb n (i + 1) (ND E (i + 1)).length (BR E (i + 1)).length i E (aB 0 (NM E (i + 1))) (aB 0 (ND E (i + 1))) (aB 0 (BR E (i + 1))) (aH (ND E (i + 1))) (aH (BR E (i + 1))), rfl, rfl, rfl⟩)
 refine aj.dW (fl := [(0, ZA 2), (1, .agg (bI (E i)))]) (bl := [(2, Zk i E), (3, ZU E i), (4, ZV E i), (5, ZW E i), (6, ZI i E), (7, ZJ E i), (8, ZK E i), (0, ZF n E), (1, ZE)]) (dJ rfl) (fG rfl) ?_
 refine aj.xR (xl := [(0, ZF n E), (1, ZE)]) (bl := [(2, Zk i E), (3, ZU E i), (4, ZV E i), (5, ZW E i), (6, ZI i E), (7, ZJ E i), (8, ZK E i)]) (VP (E i) i E (NM E i) (ND E i) (BR E i) rfl (by omega) (yj E i).symm (VR E i (by omega)) (VT E i (by omega)) hp (VL E hp)) (by omega) ⟨⟨by omega, fun j hj v hv => List.all_eq_true.1 (show (bI (E j)).all (fun v => v.low 6) = true from rfl) v hv⟩, ⟨by omega, fun j hj v hv => List.all_eq_true.1 (show ([Uz 0, ZC 0] : List AV).all (fun v => v.low 6) = true from rfl) v hv⟩, trivial⟩ rfl (fun e fr' H0' hh => ?_)
 obtain ⟨he, hH⟩ := hh
 exact ⟨_, hH, rfl, ⟨.inl rfl, .inl rfl, .inl rfl, .inl rfl, .inl rfl, .inl rfl, .inl rfl, trivial⟩, he, [], _, rfl, trivial, _, AV.ge.refl _, rfl, rfl⟩
theorem JD {E : tE} {i : Nat} (h : bU (E i) ≠ 0) : eU bU E i = bU (E i) := by unfold eU; rw [decide_eq_false h, cond_false]
theorem Hy {E : tE} {i : Nat} (h : bU (E i) = 0) (h2 : (pos (E i).n (NM E i)).isSome = true) : eU bU E i = 9 := by unfold eU; rw [decide_eq_true h, cond_true, h2]; rfl
theorem VU {E : tE} {i : Nat} (h : bU (E i) = 0) (h2 : pos (E i).n (NM E i) = none) : eU bU E i = 0 := by unfold eU; rw [decide_eq_true h, cond_true, h2]; rfl
theorem JE {E : tE} {n i : Nat} {x : Int} (hn : n ≤ 256) (hi : i < n) (hg : ∀ j, j < i → eU bU E j = 0) (h : eU bU E i = x) (h0 : x ≠ 0) : ofR bU E n = (x, (i : Int)) := by
 unfold ofR
 rw [decide_eq_false (by omega), cond_false, QU hi (by rw [h]; exact h0) (n - i) (by omega) (by omega) hg, h]
noncomputable abbrev ZDW (v0 : Nat) (v1 : tE) (v2 : Nat) := ([(0, ZF v0 v1), (1, ZE), (2, Zk v2 v1), (3, ZU v1 v2), (4, ZV v1 v2), (5, ZW v1 v2), (6, ZI v2 v1), (7, ZJ v1 v2), (8, ZK v1 v2)] : tH)
theorem agl (n i : Nat) (E : tE) (hi : i < n) (hn : n ≤ 256) (hc : bU (E i) = 0) (hp : pos (E i).n (NM E i) = none) :
  aj Try.prog (.block 1 (.seq ZCE (.seq ZB9 (.seq ZB6 ZBU)))) Try.f14.ntmps 1 9 12 (aQ (QW n i)) (hpL (ZDW n E i)) (Nm (QW n i) (ZDL n E i)) := by
 refine aj.jQ ?_
 refine aj.aV (K1 := 10) (F1 := (ZDS n i)) (H1 := (ZDX n E i)) (aj.toN (oeC 1 (by omega) n i (ND E i).length (BR E i).length i E (aB 0 (NM E i)) (aB 0 (ND E i)) (aB 0 (BR E i)) (aH (ND E i)) (aH (BR E i)) (by omega) (by omega)) (dJ rfl) ⟨hs rfl, hs rfl, hs rfl, hs rfl, hs rfl, hs rfl, hs rfl, hs rfl, hs rfl, jI rfl (by show bI (E (0 + i)) = bI (E i); rw [Nat.zero_add]), trivial⟩) (by omega) ?_
 refine aj.aV (K1 := 10) (F1 := (ZDS n i)) (H1 := (ZDX n E i)) ((oeD 1 (by omega) (E i) n i (ND E i).length (BR E i).length i E (aB 0 (NM E i)) (aB 0 (ND E i)) (aB 0 (BR E i)) (aH (ND E i)) (aH (BR E i))).mono fun e fr' H' h => ?_) (by omega) ?_
 ·rw [decide_eq_true (show gJ _ _ _ _ _ _ _ _ = 0 from hc), cond_true] at h
  exact h
 refine aj.aV (K1 := 10) (F1 := (ZDS n i)) (H1 := (ZDX n E i)) ((oeE 1 (by omega) (E i) n i (ND E i).length (BR E i).length i E (aB 0 (NM E i)) (aB 0 (ND E i)) (aB 0 (BR E i)) (aH (ND E i)) (aH (BR E i))).mono fun e fr' H' h => ?_) (by omega) (aec n i E hi hn hp)
 rw [JA, hp] at h
 exact h
theorem aee (n i : Nat) (E : tE) (hi : i < n) (hn : n ≤ 256) (hg : ∀ j, j < i → eU bU E j = 0) (hb : eU bU E i ≠ 0) :
  aj Try.prog (.block 1 (.seq ZCE (.seq ZB9 (.seq ZB6 ZBU)))) Try.f14.ntmps 1 9 12 (aQ (QW n i)) (hpL (ZDW n E i)) (fun e fr' H' => e = .ret ∧ QF E n .ret fr' H') := by
 refine VN ?_
 refine aj.aV (K1 := 10) (F1 := (ZDS n i)) (H1 := (ZDX n E i)) (aj.toN (oeC 1 (by omega) n i (ND E i).length (BR E i).length i E (aB 0 (NM E i)) (aB 0 (ND E i)) (aB 0 (BR E i)) (aH (ND E i)) (aH (BR E i)) (by omega) (by omega)) (dJ rfl) ⟨hs rfl, hs rfl, hs rfl, hs rfl, hs rfl, hs rfl, hs rfl, hs rfl, hs rfl, jI rfl (by show bI (E (0 + i)) = bI (E i); rw [Nat.zero_add]), trivial⟩) (by omega) ?_
 by_cases hc : bU (E i) = 0
 ·have hp : (pos (E i).n (NM E i)).isSome = true := by
   cases q : pos (E i).n (NM E i) with
   | none => exact absurd (VU hc q) hb
   | some _ => rfl
  refine aj.aV (K1 := 10) (F1 := (ZDS n i)) (H1 := (ZDX n E i)) ((oeD 1 (by omega) (E i) n i (ND E i).length (BR E i).length i E (aB 0 (NM E i)) (aB 0 (ND E i)) (aB 0 (BR E i)) (aH (ND E i)) (aH (BR E i))).mono fun e fr' H' h => ?_) (by omega) ?_
  ·rw [decide_eq_true (show gJ _ _ _ _ _ _ _ _ = 0 from hc), cond_true] at h
   exact h
  refine MF (K1 := 10) (by omega) ((oeE 1 (by omega) (E i) n i (ND E i).length (BR E i).length i E (aB 0 (NM E i)) (aB 0 (ND E i)) (aB 0 (BR E i)) (aH (ND E i)) (aH (BR E i))).post fun e fr' H' h => ?_)
  rw [JA, hp, cond_true] at h
  obtain ⟨rfl, rfl, rfl⟩ := h
  exact ⟨[(2, .bG), (3, ZA 1)], [(1, .cells true 2 1 (.fn fun _ => [ZC 9, iT (i : Int)]))], (dJ rfl), ⟨⟨_, rfl, rfl, rfl, rfl, zO (p := fun j => _ = _) rfl⟩, trivial⟩, rfl, JC _ _ (JE hn hi hg (Hy hc hp) (by decide)) (by decide)⟩
 ·refine MF (K1 := 10) (by omega) ((oeD 1 (by omega) (E i) n i (ND E i).length (BR E i).length i E (aB 0 (NM E i)) (aB 0 (ND E i)) (aB 0 (BR E i)) (aH (ND E i)) (aH (BR E i))).post fun e fr' H' h => ?_)
  rw [decide_eq_false (show ¬ gJ _ _ _ _ _ _ _ _ = 0 from hc), cond_false] at h
  obtain ⟨rfl, rfl, rfl⟩ := h
  exact ⟨[(2, .bG), (3, ZA 1)], [(1, .cells true 2 1 (.fn fun _ => [iT (bU (E i)), iT (i : Int)]))], (dJ rfl), ⟨⟨_, rfl, rfl, rfl, rfl, zO (p := fun j => _ = _) rfl⟩, trivial⟩, rfl, JC _ _ (JE hn hi hg (JD hc) hc) hc⟩
noncomputable abbrev ZBx (v0) (v1 : tE) (v2 : Nat) (v3) := ([(1, .cells true 2 1 (.fn fun _ => [.int v0 .i64 (ofR bU v1 v2).1, .int v3 .i64 (ofR bU v1 v2).2]))] : tH)
noncomputable abbrev ZDd (v0 : Nat) (v1 : tE) := ([(0, ZF v0 v1), (1, ZE), (2, Zk v0 v1), (3, ZU v1 v0), (4, ZV v1 v0), (5, ZW v1 v0), (6, ZI v0 v1), (7, ZJ v1 v0), (8, ZK v1 v0)] : tH)
theorem aah (n i : Nat) (E : tE) (hi : i ≤ n) (hn : n ≤ 256) (hg : ∀ j, j < i → eU bU E j = 0) :
  aj Try.prog ZC6 Try.f14.ntmps 1 9 9 (aQ (QW n i)) (hpL (ZDW n E i)) (fun e fr H => (e = .normal ∧ i < n ∧ (∀ j, j < i + 1 → eU bU E j = 0) ∧ fr = aQ [(3, ZA 1), (4, ZA 2), (19, ZG n), (20, iT n), (21, iT ((i + 1 : Nat) : Int))] ∧ H = hpL (ZDL n E i)) ∨ (e = .exit 0 ∧ (∀ j, j < n → eU bU E j = 0) ∧ fr = aQ (uw 3 1 4 2) ∧ H = hpL (ZDd n E)) ∨ (e = .ret ∧ QF E n .ret fr H)) := by
 rw [aag]
 by_cases hlt : i < n
 ·by_cases hb : eU bU E i = 0
  ·have hc : bU (E i) = 0 := by
    by_cases c : bU (E i) = 0
    ·exact c
    ·rw [JD c] at hb; exact absurd hb c
   have hp : pos (E i).n (NM E i) = none := by
    cases q : pos (E i).n (NM E i) with
    | none => rfl
    | some y => rw [Hy hc (by rw [q]; rfl)] at hb; exact absurd hb (by decide)
   have main : aj Try.prog (.seq ZC1 (.seq ZCz (.seq (.block 1 (.seq ZCE (.seq ZB9 (.seq ZB6 ZBU)))) ZCy))) Try.f14.ntmps 1 9 12 (aQ (QW n i)) (hpL (ZDW n E i)) (Nm [(3, ZA 1), (4, ZA 2), (19, ZG n), (20, iT n), (21, iT ((i : Int) + 1 : Int))] (ZDL n E i)) := by
    refine aj.aV (K1 := 9) (oeA 1 (by omega) n i (ND E i).length (BR E i).length i E (aB 0 (NM E i)) (aB 0 (ND E i)) (aB 0 (BR E i)) (aH (ND E i)) (aH (BR E i))) (by omega) ?_
    refine aj.aV (K1 := 9) (F1 := (QW n i)) (H1 := (ZDW n E i)) ((oeB 1 (by omega) n i (ND E i).length (BR E i).length i E (aB 0 (NM E i)) (aB 0 (ND E i)) (aB 0 (BR E i)) (aH (ND E i)) (aH (BR E i)) (decide ((i : Int) < (n : Int)))).mono fun e fr' H' h => ?_) (by omega) ?_
    ·rw [decide_eq_true (by omega), cond_true] at h
     exact h
    exact aj.aV (K1 := 12) (agl n i E hlt hn hc hp) (by omega) (oeG 1 (by omega) n (i + 1) (ND E (i + 1)).length (BR E (i + 1)).length i E (aB 0 (NM E (i + 1))) (aB 0 (ND E (i + 1))) (aB 0 (BR E (i + 1))) (aH (ND E (i + 1))) (aH (BR E (i + 1))) (by omega))
   refine main.renG fun e fr' H' h => ?_
   obtain ⟨rfl, rfl, rfl⟩ := h
   exact ⟨id, [(3, ZA 1), (4, ZA 2), (19, ZG n), (20, iT n), (21, iT ((i + 1 : Nat) : Int))], (ZDL n E i), fun g hg => rfl, (vk rfl), ⟨fD rfl rfl (fun j _ => rfl) (fun j _ => rfl) (by omega), jk rfl rfl rfl (by omega), jk rfl rfl rfl (by omega), lG rfl rfl (by omega), lG rfl rfl (by omega), lG rfl rfl (by omega), fD rfl rfl (fun j _ => rfl) (fun j _ => rfl) (by omega), fD rfl rfl (fun j _ => rfl) (fun j _ => rfl) (by omega), fD rfl rfl (fun j _ => rfl) (fun j _ => rfl) (by omega), trivial⟩, fun i j _ _ h => h, .inl ⟨rfl, hlt, fun j hj => by
    by_cases c : j < i
    ·exact hg j c
    ·obtain rfl : j = i := by omega
     exact hb, rfl, rfl⟩⟩
  ·have main : aj Try.prog (.seq ZC1 (.seq ZCz (.seq (.block 1 (.seq ZCE (.seq ZB9 (.seq ZB6 ZBU)))) ZCy))) Try.f14.ntmps 1 9 12 (aQ (QW n i)) (hpL (ZDW n E i)) (fun e fr' H' => e = .ret ∧ QF E n .ret fr' H') := by
    refine aj.aV (K1 := 9) (oeA 1 (by omega) n i (ND E i).length (BR E i).length i E (aB 0 (NM E i)) (aB 0 (ND E i)) (aB 0 (BR E i)) (aH (ND E i)) (aH (BR E i))) (by omega) ?_
    refine aj.aV (K1 := 9) (F1 := (QW n i)) (H1 := (ZDW n E i)) ((oeB 1 (by omega) n i (ND E i).length (BR E i).length i E (aB 0 (NM E i)) (aB 0 (ND E i)) (aB 0 (BR E i)) (aH (ND E i)) (aH (BR E i)) (decide ((i : Int) < (n : Int)))).mono fun e fr' H' h => ?_) (by omega) ?_
    ·rw [decide_eq_true (by omega), cond_true] at h
     exact h
    exact MF (K1 := 12) (by omega) (aee n i E hlt hn hg hb)
   refine main.renG fun e fr' H' h => ?_
   obtain ⟨rfl, h⟩ := h
   have hq := h
   obtain ⟨_, ⟨h0, s, s', rfl, rfl⟩ | ⟨h0, rfl, rfl⟩⟩ := h
   ·exact ⟨id, [(2, .bG), (3, ZA 1)], (ZBx s E n s'), fun g hg => rfl, (vk rfl), ⟨jk rfl rfl rfl (by omega), trivial⟩, fun i j _ _ h => h, .inr (.inr ⟨rfl, hq⟩)⟩
   ·exact absurd h0 (by rw [JE hn hlt hg rfl hb]; exact hb)
 ·obtain rfl : i = n := by omega
  refine aj.aV (K1 := 9) (oeA 1 (by omega) i i (ND E i).length (BR E i).length i E (aB 0 (NM E i)) (aB 0 (ND E i)) (aB 0 (BR E i)) (aH (ND E i)) (aH (BR E i))) (by omega) ?_
  refine aj.seq (K1 := 9) (by omega) ((oeB 1 (by omega) i i (ND E i).length (BR E i).length i E (aB 0 (NM E i)) (aB 0 (ND E i)) (aB 0 (BR E i)) (aH (ND E i)) (aH (BR E i)) (decide ((i : Int) < (i : Int)))).post fun e fr' H' h => ?_)
  rw [decide_eq_false (by omega), cond_false] at h
  obtain ⟨rfl, rfl, rfl⟩ := h
  exact ⟨(uw 3 1 4 2), (ZDd i E), (dJ rfl), (fG rfl), .inr (.inl ⟨rfl, hg, rfl, rfl⟩)⟩
theorem aai {E : tE} {n : Nat} (h : 256 < n) : ofR bU E n = (3, -1) := by unfold ofR; rw [decide_eq_true h]; rfl
theorem aaj {E : tE} {n : Nat} (hn : n ≤ 256) (hg : ∀ j, j < n → eU bU E j = 0) : ofR bU E n = bif decide (32 < (ND E n).length) || decide (64 < (ND E n).length + (BR E n).length) then (3, -1) else (0, 0) := by
 unfold ofR
 rw [decide_eq_false (by omega), cond_false, MC hg]
 rfl
def sgC (x : Nat) : Nat := if x = 2 then 5 else if x = 3 then 2 else if x = 4 then 3 else if x = 5 then 4 else x
theorem aak : ∀ i j, i < 6 → j < 6 → sgC i = sgC j → i = j := by
 intro i j hi hj e
 unfold sgC at e
 split at e <;> split at e <;> (try split at e) <;> (try split at e) <;> (try split at e) <;> (try split at e) <;> (try split at e) <;> (try split at e) <;> omega
noncomputable abbrev Z7 := (.int false .i64 (-1) : AV)
noncomputable abbrev Jr (w0 w1) := ([(w0, .cells true 2 1 (.fn fun _ => [ZC w1, Z7]))] : tH)
noncomputable abbrev ZDu (v0 : Nat) (v1 : tE) := ([(0, ZF v0 v1), (1, ZE), (2, .cells true 7 1 (.fn fun _ => dO 6 7 8 0 (ND v1 0).length (BR v1 0).length)), (3, .aW true (aB 0 (NM v1 0))), (4, .aW true (aB 0 (ND v1 0))), (5, .aW true (aB 0 (BR v1 0))), (6, .cells true 8 (0) (.fn fun j => bI (v1 j))), (7, .cells true 1 ((ND v1 0).length) (.fn (dh (aH (ND v1 0))))), (8, .cells true 1 ((BR v1 0).length) (.fn (dh (aH (BR v1 0)))))] : tH)
theorem aal (n : Nat) (E : tE) : aj Try.prog (ak Try.f14) Try.f14.ntmps 1 1 9 (bJ [ZG n] 0 .e) (hpL [(0, ZF n E)]) (QF E n) := by
 rw [agk]
 refine aj.aV (K1 := 2) (F1 := (ZEY n)) (H1 := [(0, ZF n E), (1, ZE)]) (aj.toN (ofA 1 (by omega) n E) (dJ rfl) ⟨hs rfl, jI rfl, trivial⟩) (by omega) ?_
 by_cases hn : 256 < n
 ·refine (MF (R := QF E n .ret) (K1 := 2) (by omega) ((ofB 1 (by omega) n E).post fun e fr' H' h => ?_)).mono fun e fr' H' h => ?_
  ·rw [decide_eq_true (by omega), cond_true] at h
   obtain ⟨rfl, rfl, rfl⟩ := h
   exact ⟨[(2, .bG), (3, ZA 1)], (Jr 1 3), (dJ rfl), ⟨⟨_, rfl, rfl, rfl, rfl, zO (p := fun j => _ = _) rfl⟩, trivial⟩, rfl, JC _ _ (aai hn) (by decide)⟩
  ·obtain ⟨rfl, h⟩ := h
   exact h
 have hn : n ≤ 256 := by omega
 refine aj.aV (K1 := 2) (F1 := (ZEY n)) (H1 := [(0, ZF n E), (1, ZE)]) ((ofB 1 (by omega) n E).mono fun e fr' H' h => ?_) (by omega) ?_
 ·rw [decide_eq_false (by omega), cond_false] at h
  exact h
 refine aj.seq (K1 := 6) (by omega) ((ofC 1 (by omega) n E).renG (K'' := 6) fun e fr' H' h => ?_)
 obtain ⟨rfl, rfl, rfl⟩ := h
 refine ⟨sgC, [(0, ZG n), (3, ZA 1), (4, ZA 2)], [(0, ZF n E), (1, ZE), (2, .cells true 7 1 (.fn fun _ => [.bool true, .aX, .mp 3, .aX, .mp 4, .aX, .mp 5])), (3, .aW false []), (4, .aW false []), (5, .aW false [])], fun g hg => by
  obtain rfl : g = 0 := by omega
  rfl, (vk rfl), ⟨fD rfl rfl (fun j _ => rfl) (fun j _ => rfl) (by omega), jk rfl rfl rfl (by omega), ⟨_, rfl, ⟨rfl, rfl, rfl, zO (p := fun j => _ = _) rfl⟩, fun j hj v hv => List.all_eq_true.1 (show ([.bool true, .aX, .mp 3, .aX, .mp 4, .aX, .mp 5] : List AV).all (fun v => v.low 6) = true from rfl) v hv, by omega⟩, lG rfl rfl (by omega), lG rfl rfl (by omega), lG rfl rfl (by omega), trivial⟩, aak, ?_⟩
 refine aj.EJ 2 8 (fun j => bI (E j)) 1 [.bool true, .aX, .mp 3, .aX, .mp 4, .aX, .mp 5] rfl rfl rfl (by omega) (by omega) ?_
 refine aj.EJ 2 1 (dh (aH [])) 3 [.bool true, qW 6, .mp 3, .aX, .mp 4, .aX, .mp 5] rfl rfl rfl (by omega) (by omega) ?_
 refine aj.EJ 2 1 (dh (aH [])) 5 [.bool true, qW 6, .mp 3, qW 7, .mp 4, .aX, .mp 5] rfl rfl rfl (by omega) (by omega) ?_
 refine aj.ac9 (fl := [(0, ZG n), (3, ZA 1), (4, ZA 2)]) (bl := (ZDu n E)) (dJ rfl) ⟨⟨_, rfl, .inl ⟨rfl, rfl, rfl, fun j _ => ay _ rfl⟩⟩, ⟨_, rfl, .inl ⟨rfl, rfl, rfl, fun j _ => ay _ rfl⟩⟩, ⟨_, rfl, .inl ⟨rfl, rfl, rfl, fun j _ => ay _ rfl⟩⟩, ⟨_, rfl, .inr ⟨_, _, _, rfl, rfl⟩⟩, ⟨_, rfl, .inr ⟨_, _, _, rfl, rfl⟩⟩, ⟨_, rfl, .inr ⟨_, _, _, rfl, rfl⟩⟩, ⟨_, rfl, .inl ⟨rfl, rfl, rfl, fun j _ => ay _ rfl⟩⟩, ⟨_, rfl, .inl ⟨rfl, rfl, rfl, fun j _ => ay _ rfl⟩⟩, ⟨_, rfl, .inl ⟨rfl, rfl, rfl, fun j _ => ay _ rfl⟩⟩, trivial⟩ ?_
 have loop := aj.count (P := Try.prog) (n := Try.f14.ntmps) (B := 1) (K := 9) (c := ZC6) (id := 0) n (fun i => [(3, ZA 1), (4, ZA 2), (19, ZG n), (20, iT n), (21, iT (i : Int))]) (fun i => [(0, ZF n E), (1, ZE), (2, .cells true 7 1 (.fn fun _ => dO 6 7 8 i (ND E i).length (BR E i).length)), (3, .aW true (aB 0 (NM E i))), (4, .aW true (aB 0 (ND E i))), (5, .aW true (aB 0 (BR E i))), (6, .cells true 8 (i) (.fn fun j => bI (E j))), (7, .cells true 1 ((ND E i).length) (.fn (dh (aH (ND E i))))), (8, .cells true 1 ((BR E i).length) (.fn (dh (aH (BR E i)))))]) (uw 3 1 4 2) (ZDd n E) (fun i => ∀ j, j < i → eU bU E j = 0) (QF E n .ret) (fun j hj => absurd hj (Nat.not_lt_zero _)) (fun i hi hg => aah n i E hi hn hg)
 refine aj.seq (K1 := 9) (by omega) (aj.aV (K1 := 9) (F1 := [(3, ZA 1), (4, ZA 2), (19, ZG n), (20, iT n), (21, Zc 0)]) (H1 := (ZDu n E)) (aj.toN (ofD 1 (by omega) n 0 (ND E 0).length (BR E 0).length E (aB 0 (NM E 0)) (aB 0 (ND E 0)) (aB 0 (BR E 0)) (aH (ND E 0)) (aH (BR E 0))) ⟨re rfl, re rfl, re rfl, re rfl, ⟨_, rfl, AV.ge.int _ _ _ _⟩, trivial⟩ (fG rfl)) (by omega) (loop.mono fun e fr' H' h => ?_))
 rcases h with ⟨rfl, hg, rfl, rfl⟩ | ⟨rfl, h⟩
 ·have hend := aaj hn hg
  have lN := VR E n hn
  have lB := VT E n hn
  have hh := ofG 1 (by omega) n n (ND E n).length (BR E n).length E (aB 0 (NM E n)) (aB 0 (ND E n)) (aB 0 (BR E n)) (aH (ND E n)) (aH (BR E n)) (fun _ _ => by omega)
  have leaf : ofR bU E n = (3, -1) → aj Try.prog ZDA Try.f14.ntmps 1 9 9 (aQ (uw 3 1 4 2)) (hpL (ZDd n E)) (fun e fr' H' => e = .ret ∧ fr' = aQ [(2, .bG), (3, ZA 1)] ∧ H' = hpL (Jr 1 3)) → aj Try.prog (.seq ZDA (aT [1,1,1,1,1] (ak Try.f14))) Try.f14.ntmps 1 9 9 (aQ (uw 3 1 4 2)) (hpL (ZDd n E)) (QF E n) := fun q h => (MF (R := QF E n .ret) (K1 := 9) (by omega) (h.mono fun e fr' H' h => by
    obtain ⟨rfl, rfl, rfl⟩ := h
    exact ⟨rfl, JC _ _ q (by decide)⟩)).mono fun e fr' H' h => by
   obtain ⟨rfl, h⟩ := h
   exact h
  by_cases c1 : 32 < (ND E n).length
  ·refine leaf (by rw [hend, decide_eq_true c1]; rfl) (hh.post fun e fr' H' h => ?_)
   rw [decide_eq_true (by omega), cond_true] at h
   obtain ⟨rfl, rfl, rfl⟩ := h
   exact ⟨[(2, .bG), (3, ZA 1)], (Jr 1 3), (dJ rfl), ⟨⟨_, rfl, rfl, rfl, rfl, zO (p := fun j => _ = _) rfl⟩, trivial⟩, rfl, rfl, rfl⟩
  ·by_cases c2 : 64 < (ND E n).length + (BR E n).length
   ·refine leaf (by rw [hend, decide_eq_false c1, decide_eq_true c2]; rfl) (hh.post fun e fr' H' h => ?_)
    rw [decide_eq_false (by omega), cond_false, decide_eq_true (by omega), cond_true] at h
    obtain ⟨rfl, rfl, rfl⟩ := h
    exact ⟨[(2, .bG), (3, ZA 1)], (Jr 1 3), (dJ rfl), ⟨⟨_, rfl, rfl, rfl, rfl, zO (p := fun j => _ = _) rfl⟩, trivial⟩, rfl, rfl, rfl⟩
   ·have h0 : (ofR bU E n).1 = 0 := by rw [hend, decide_eq_false c1, decide_eq_false c2]; rfl
    refine aj.aV (K1 := 9) (F1 := (uw 3 1 4 2)) (H1 := (ZDd n E)) (hh.mono fun e fr' H' h => ?_) (by omega) ?_
    ·rw [decide_eq_false (by omega), cond_false, decide_eq_false (by omega), cond_false] at h
     exact h
    refine (ofH 1 (by omega) n n (ND E n).length (BR E n).length E (aB 0 (NM E n)) (aB 0 (ND E n)) (aB 0 (BR E n)) (aH (ND E n)) (aH (BR E n))).post fun e fr' H' h => ?_
    obtain ⟨rfl, rfl, rfl⟩ := h
    exact ⟨(uw 2 2 3 1), [(1, ZE), (2, Zk n E), (3, ZU E n), (4, ZV E n), (5, ZW E n), (6, ZI n E), (7, ZJ E n), (8, ZK E n)], (dJ rfl), ⟨⟨_, rfl, rfl, rfl, rfl, zO (p := fun j => _ = _) rfl⟩, fG rfl⟩, rfl, .inr ⟨h0, rfl, rfl⟩⟩
 ·exact h


theorem wI {S : Nat → Prop} {z : El} {o : Nat} {v : AV} (h : (bI z)[o]? = some v) : v.ji S := by
 match o, h with
 | 0, h => cases h; trivial
 | 1, h => cases h; trivial
 | 2, h => cases h; trivial
 | 3, h => cases h; trivial
 | 4, h => cases h; trivial
 | 5, h => cases h; trivial
 | 6, h => cases h; trivial
 | 7, h => cases h; trivial
theorem VW {N n q r o : Nat} {v : AV} (h : (zH N (N + 1) (N + 2) (N + 3) (N + 4) (N + 5) n q r)[o]? = some v) : v.ji (fun i => N ≤ i) := by
 match o, h with
 | 0, h => cases h; trivial
 | 1, h => cases h; show N ≤ N + 3; omega
 | 2, h => cases h; show N ≤ N; omega
 | 3, h => cases h; show N ≤ N + 4; omega
 | 4, h => cases h; show N ≤ N + 1; omega
 | 5, h => cases h; show N ≤ N + 5; omega
 | 6, h => cases h; show N ≤ N + 2; omega
theorem VY {N n q r K : Nat} {v : AV} (h : v ∈ zH N (N + 1) (N + 2) (N + 3) (N + 4) (N + 5) n q r) (hK : N + 6 ≤ K) : v.low K = true := by
 simp only [zH, List.mem_cons, List.not_mem_nil, or_false] at h
 rcases h with rfl | rfl | rfl | rfl | rfl | rfl | rfl <;> first | rfl | exact Nat.ble_eq_true_of_le (show Nat.succ N ≤ K by omega) | exact Nat.ble_eq_true_of_le (show Nat.succ (N + 1) ≤ K by omega) | exact Nat.ble_eq_true_of_le (show Nat.succ (N + 2) ≤ K by omega) | exact Nat.ble_eq_true_of_le (show Nat.succ (N + 3) ≤ K by omega) | exact Nat.ble_eq_true_of_le (show Nat.succ (N + 4) ≤ K by omega) | exact Nat.ble_eq_true_of_le (show Nat.succ (N + 5) ≤ K by omega)
theorem QX {x y x' y' : AV} (h : AV.ge x x') (k : AV.ge y y') : AV.ge (.agg [x, y]) (.agg [x', y']) := fun N μ c hr => by
 simp only [Rep, aI] at hr ⊢
 obtain ⟨cs, e, c1, r1, e1, h1, c2, r2, e2, h2, e3⟩ := hr
 exact ⟨cs, e, c1, r1, e1, h _ _ _ h1, c2, r2, e2, k _ _ _ h2, e3⟩
/-- ofR, not to be unfolded by a run -/
noncomputable def uF : (Nat → El) → Nat → Int × Int := Classical.choose (⟨ofR bU, rfl⟩ : ∃ f, f = ofR bU)
theorem Js : uF = ofR bU := Classical.choose_spec (⟨ofR bU, rfl⟩ : ∃ f, f = ofR bU)
noncomputable def yt : List AV → M AV
 | [x] => (rdQ 8 x PEQ).andThen fun y => (M.dec (decide ((uF (bW y.2) y.1).1 = 0))).andThen fun d => bif d then (O4 (bW y.2) y.1).andThen fun N => M.ret (.iD [.ptr ⟨false, N, 0, 0⟩, .agg [ZC 0, ZC 0]]) else M.ret (.iD [.bG, .agg [iT (uF (bW y.2) y.1).1, iT (uF (bW y.2) y.1).2]])
 | _ => M.no
theorem yu : ∀ args, aC (yt args) := by
 intro args
 unfold yt
 split
 ·exact (QV _ _ _).andThen fun _ => (aC.dec _).andThen fun d => aC.cond ((O5 _ _).andThen fun _ => aC.ret _) (aC.ret _)
 ·exact aC.no
theorem EW (l : List Nat) (N k : Nat) : l.getD (N + k - N) 0 = l.getD k 0 := by rw [Nat.add_sub_cancel_left]
theorem mZ (l : List Nat) (N : Nat) : l.getD (N - N) 0 = l.getD 0 0 := by rw [Nat.sub_self]
theorem VZ (N n q r : Nat) : lD (fun i => [3, 4, 5, 6, 7, 8, 2].getD (i - N) 0) (zH N (N + 1) (N + 2) (N + 3) (N + 4) (N + 5) n q r) = dO 6 7 8 n q r := by
 simp only [zH, dO, lD, AV.ren, AA.ren, EW, mZ]
 rfl
theorem QY (n : Nat) (f : Nat → List AV) (h : PE n f) : aj Try.prog (ak Try.f14) Try.f14.ntmps 1 1 9 (bJ [ZG n] 0 .e) (hpL [(0, .cells false 8 n (.fn f))]) (QF (bW f) n) :=
 aj.LG (H0 := hpL [(0, .cells false 8 n (.fn fun j => bI (bW f j)))]) (fun t v ht => ⟨v, ht, AV.ge.refl _⟩) (fun i b hb => by
  have hm := bC hb
  simp only [List.mem_cons, List.not_mem_nil, or_false] at hm
  cases hm
  exact ⟨_, rfl, rfl, rfl, rfl, h.of⟩) (aal n (bW f))
noncomputable abbrev uz (v0) (w0) := (.ptr ⟨v0, w0, 0, 0⟩ : AV)
noncomputable abbrev NJ (v0) := (.int v0 .i64 0 : AV)
theorem AL : ∀ args v g g', yt args g = .done v g' → bf Try.prog 14 args v g g' := by
 intro args v g g' h
 unfold yt at h
 simp only [Js] at h
 split at h
 case h_2 => exact (aY h).elim
 rename_i x
 obtain ⟨⟨n, f⟩, g1, a1, h1⟩ := au h
 clear h
 obtain ⟨qv, kv, fv0⟩ := MH a1 (by omega) (fun h => h.low)
 have fv : qv → Vw.Ok ⟨x, 8, n, f⟩ g ∧ PE n f := fun h => ⟨(fv0 h).1, (fv0 h).2.of⟩
 obtain ⟨d, g2, a2, h2⟩ := au h1
 clear h1
 dsimp only at a2 h2
 have kk := kv.trans (jc a2)
 have hrep : qv → ∀ N μ (cs : List Value), aI N μ [x] cs → aI 1 (Cc μ [⟨x, 8, n, f⟩]) [gU 0 n] cs := fun hp N μ cs hcs => by
  simp only [aI] at hcs ⊢
  obtain ⟨c, r, rfl, hc, rfl⟩ := hcs
  exact ⟨c, [], rfl, Ag (l := [⟨x, 8, n, f⟩]) (fv hp).1 rfl hc, rfl⟩
 have hvs : qv → ∀ v ∈ [(⟨x, 8, n, f⟩ : Vw)], v.Ok g := fun hp v hv => by
  rw [List.mem_singleton.1 hv]; exact (fv hp).1
 cases d with
 | true =>
  rw [cond_true] at h2
  obtain ⟨N, g3, a3, h3⟩ := au h2
  obtain ⟨rfl, rfl⟩ := aA h3
  obtain ⟨rfl, e1, e2, e3⟩ := MG a3
  rw [kk.1, kk.2.1] at e1
  rw [kk.2.1] at e2 ⊢
  refine Ak (c := (ak Try.f14)) Try.func14 (by kernel_rfl) (by kernel_rfl) kk [⟨x, 8, n, f⟩] (fun hp => hvs hp.1) (dY := [gU 0 n]) (fun hp => hrep hp.1) (nms := [3, 4, 5, 6, 7, 8, 2]) (bs := Y9 g.nx (bW f) n) (K' := 9) (fun hp => ?_) ?_ ?_ e1 e2 (fun hc => by rw [← e3]; exact hc)
  ·refine (QY n f (fv hp.1).2).mono fun e fr' H' h => ?_
   have he := of_decide_eq_true hp.2
   obtain ⟨rfl, ⟨c0, _⟩ | ⟨_, rfl, rfl⟩⟩ := h
   ·exact (c0 he).elim
   ·refine ⟨.inl rfl, [uz false 2, .agg [NJ false, NJ false]], _, rfl, trivial, ?_, rfl, ?_, by decide⟩
    ·simp only [AV.ren, lD, AA.ren, EW]
     exact AV.ge.refl _
    ·intro i b hb
     have G : ∀ j, j < 7 → [3, 4, 5, 6, 7, 8, 2][j]? = some ([3, 4, 5, 6, 7, 8, 2].getD j 0) := by decide
     have tx : ∀ (K : Nat) (l : List Tx) (j : Nat) (v : AV), v ∈ dh (aH l) j → v.low K = true := fun K l j v hv => by rw [List.mem_singleton.1 hv]; rfl
     have tx2 : ∀ (S : Nat → Prop) (l : List Tx) (j o : Nat) (v : AV), (dh (aH l) j)[o]? = some v → v.ji S := fun S l j o v hv => by
      match o, hv with
      | 0, hv => cases hv; trivial
     match i, hb with
     | 0, hb => cases hb; exact ⟨3, _, rfl, rfl, dN.refl _, rfl, trivial, trivial⟩
     | 1, hb => cases hb; exact ⟨4, _, rfl, rfl, dN.refl _, rfl, trivial, trivial⟩
     | 2, hb => cases hb; exact ⟨5, _, rfl, rfl, dN.refl _, rfl, trivial, trivial⟩
     | 3, hb => cases hb; exact ⟨6, _, rfl, rfl, ⟨rfl, rfl, rfl, fun j hj => rfl⟩, rfl, fun j hj v hv => List.all_eq_true.1 (jY _ (bW f j)) v hv, fun j hj o v hv => wI hv⟩
     | 4, hb => cases hb; exact ⟨7, _, rfl, rfl, ⟨rfl, rfl, rfl, fun j hj => rfl⟩, rfl, fun j hj v hv => tx _ _ _ v hv, fun j hj o v hv => tx2 _ _ _ o v hv⟩
     | 5, hb => cases hb; exact ⟨8, _, rfl, rfl, ⟨rfl, rfl, rfl, fun j hj => rfl⟩, rfl, fun j hj v hv => tx _ _ _ v hv, fun j hj o v hv => tx2 _ _ _ o v hv⟩
     | 6, hb => cases hb; exact ⟨2, _, rfl, rfl, ⟨rfl, rfl, rfl, fun j hj => (VZ _ _ _ _).symm⟩, rfl, fun j hj v hv => VY hv (by simp only [Y9, List.length_cons, List.length_nil]; omega), fun j hj o v hv => VW hv⟩
  ·simp only [AV.low, jw, Y9, List.length_cons, List.length_nil]
   simp
  ·simp only [AV.ji, jg]
   exact ⟨by omega, ⟨trivial, trivial, trivial⟩, trivial⟩
 | false =>
  rw [cond_false] at h2
  obtain ⟨rfl, rfl⟩ := aA h2
  refine Ak (c := (ak Try.f14)) Try.func14 (by kernel_rfl) (by kernel_rfl) kk [⟨x, 8, n, f⟩] (fun hp => hvs hp.1) (dY := [gU 0 n]) (fun hp => hrep hp.1) (nms := []) (bs := []) (K' := 9) (fun hp => ?_) ?_ ?_ (show g2.H = g.H from kk.1) (show g2.nx = g.nx from kk.2.1) id
  ·refine (QY n f (fv hp.1).2).mono fun e fr' H' h => ?_
   have he := of_decide_eq_false hp.2
   obtain ⟨rfl, ⟨c0, s, s', rfl, rfl⟩ | ⟨c0, _⟩⟩ := h
   ·refine ⟨.inl rfl, [.bG, .agg [.int s .i64 (ofR bU (bW f) n).1, .int s' .i64 (ofR bU (bW f) n).2]], _, rfl, trivial, ?_, rfl, fun i b hb => (by cases hb), List.nodup_nil⟩
    exact AV.ge.ac3 (AV.ge.refl _) (QX (AV.ge.int _ _ _ _) (AV.ge.int _ _ _ _))
   ·exact (he c0).elim
  ·simp [AV.low, jw]
  ·simp [AV.ji, jg]


/-- the row of an element that is handed in -/
def zR (e : El) : List AV := [AV.int true .u8 (e).k, .str true (e).n, .str true (e).a, .str true (e).b, .str true (e).c, .str true (e).d, .int true .u64 (((e).v : Nat) : Int), iT (e).ph]
def unZ : List AV → El
 | [.int _ _ k, .str _ n, .str _ a, .str _ b, .str _ c, .str _ d, .int _ _ v, .int _ _ ph] => ⟨k, n, a, b, c, d, v.toNat, ph⟩
 | _ => ⟨0, [], [], [], [], [], 0, 0⟩
def jl (f : Nat → List AV) (j : Nat) : El := unZ (f j)
def PZ (n : Nat) (f : Nat → List AV) : Prop := n * 104 ≤ 140737488355328 ∧ ∀ j, j < n → gy (f j) (zR (jl f j)) ∧ (jl f j).v < 18446744073709551616


noncomputable abbrev Zb (v0 : Nat) (v1 : tE) := (.cells false 8 v0 (.fn fun j => [.int true .u8 (El.k (v1 j)), .str true (El.n (v1 j)), .str true (El.a (v1 j)), .str true (El.b (v1 j)), .str true (El.c (v1 j)), .str true (El.d (v1 j)), .int true .u64 (↑(El.v (v1 j)) : Int), iT (El.ph (v1 j))]) : aF)
noncomputable abbrev Z1 (v0 : Nat) (v1 : tE) := (.cells false 8 v0 (.fn fun j => zR (v1 j)) : aF)
theorem eoA (B : Nat) (hB : B ≤ 1) (n : Nat) (G : tE) : aj Try.prog ((aT [0] (ak Try.f15))) Try.f15.ntmps B 1 1 (bJ [ZG n] 0 .e) (hpL [(0, Z1 n G)]) (pP .normal [(0, ZG n)] [(0, Zb n G)]) := jJ [] trivial hB
theorem eoB (B : Nat) (hB : B ≤ 1) (n : Nat) (G : tE) : aj Try.prog ((aT [1,0] (ak Try.f15))) Try.f15.ntmps B 1 1 (aQ [(0, ZG n)]) (hpL [(0, Z1 n G)]) (pP .normal [(0, ZG n), (3, .aX)] [(0, Zb n G)]) := jJ [] trivial hB
theorem eoC (B : Nat) (hB : B ≤ 2) (n i : Nat) (G : tE) : aj Try.prog ((aT [1,1,0,0] (ak Try.f15))) Try.f15.ntmps B 2 2 (aQ [(0, ZG n), (3, sL 1 i)]) (hpL [(0, Z1 n G), (1, ZD i G)]) (pP .normal [(0, ZG n), (3, sL 1 i), (4, ZC 0)] [(0, Zb n G), (1, Zg i G)]) := jJ [] trivial hB
noncomputable abbrev ZC8 := aT [1,1,0,1,0,0] (ak Try.f15)
theorem eoL (B : Nat) (hB : B ≤ 2) (n i : Nat) (G : tE) (x0 : ((decide ((↑i : Int) < (↑n : Int))) = true → ((↑(El.v (G (0 + i))) : Int) < 18446744073709551616))) (x1 : ((decide ((↑i : Int) < (↑n : Int))) = true → ((i + 1) * 104 ≤ 140737488355328))) (x2 : ((decide ((↑i : Int) < (↑n : Int))) = true → (i + 1 ≤ 9223372036854775807))) (x3 : ((decide ((↑i : Int) < (↑n : Int))) = true → ((↑i : Int) + 1 ≤ (9223372036854775807 : Int)))) : aj Try.prog (ZC8) Try.f15.ntmps B 2 6 (aQ [(0, ZG n), (3, sL 1 i), (4, iT (i : Int))]) (hpL [(0, Z1 n G), (1, ZD i G)]) fun e fr' H' => (cond (decide ((↑i : Int) < (↑n : Int))) (pP .normal [(0, ZG n), (3, sL 5 (i + 1)), (4, Ap i)] [(0, Zb n G), (5, .cells true 8 (i + 1) (.fn fun j => bif decide (j < i) then (bI (G j)) else (bI (G (0 + i)))))] e fr' H') (pP (.exit 0) [(0, ZG n), (3, sL 1 i), (4, iT (↑i : Int))] [(0, Zb n G), (1, Zg i G)] e fr' H')) := cD (fun q0 t0 => jJ [tT] (I7 t0 (ai (show 0 ≤ (↑i : Int) by omega) (show (↑i : Int) < (↑n : Int) by omega)) (show 0 + i < n by omega) (show 8 ≤ 8 by omega) (ai (show 0 ≤ (↑(El.v (G (0 + i))) : Int) by omega) (x0 t0)) (ai (show i ≤ i by omega) (ai (x1 t0) (x2 t0))) (ai (show -9223372036854775808 ≤ (↑i : Int) + 1 by omega) (x3 t0))) hB) (fun q0 t0 => jJ [fF] (I1 t0) hB)
theorem eoE (B : Nat) (hB : B ≤ 2) (n : Nat) (G : tE) : aj Try.prog ((aT [1,1,1] (ak Try.f15))) Try.f15.ntmps B 2 2 (aQ [(0, ZG n), (3, sL 1 n)]) (hpL [(0, Z1 n G), (1, ZD n G)]) (pP .ret [(2, sL 1 n)] [(1, Zg n G)]) := jJ [] trivial hB
theorem agm : (ak Try.f15) = .seq (aT [0] (ak Try.f15)) (.seq (aT [1,0] (ak Try.f15)) (.seq (.seq (aT [1,1,0,0] (ak Try.f15)) (.block 0 (.loop ZC8))) (aT [1,1,1] (ak Try.f15)))) := by kernel_rfl
theorem aam (n i : Nat) (G : tE) (hi : i < n) (hn : n * 104 ≤ 140737488355328) (hv : ∀ j, j < n → (G j).v < 18446744073709551616) :
  aj Try.prog ZC8 Try.f15.ntmps 1 2 2 (aQ [(0, ZG n), (3, sL 1 i), (4, iT (i : Int))]) (hpL [(0, Z1 n G), (1, ZD i G)]) (Nm [(0, ZG n), (3, sL 1 (i + 1)), (4, iT ((i + 1) : Int))] [(0, Z1 n G), (1, .cells true 8 (i + 1) (.fn fun j => bI (G j)))]) := by
 have w := hv i hi
 refine (eoL 1 (by omega) n i G (fun _ => by rw [Nat.zero_add]; omega) (fun _ => by omega) (fun _ => by omega) (fun _ => by omega)).renG fun e fr' H' h => ?_
 rw [decide_eq_true (by omega), cond_true] at h
 obtain ⟨rfl, rfl, rfl⟩ := h
 exact ⟨sg 1 5, [(0, ZG n), (3, sL 1 (i + 1)), (4, iT ((i + 1) : Int))], [(0, Z1 n G), (1, .cells true 8 (i + 1) (.fn fun j => bI (G j)))], qc (by omega), ⟨⟨_, rfl, AV.ge.refl _, rfl⟩, ⟨_, rfl, AV.ge.refl _, rfl⟩, ⟨_, rfl, AV.ge.int' _ _ _ (by omega), rfl⟩, trivial⟩, ⟨fD rfl rfl (fun j _ => rfl) (fun j _ => rfl) (by omega), fD rfl rfl (fun j hj => by
  show (bif decide (j < i) then bI (G j) else _) = bI (G j)
  by_cases c : j < i
  ·rw [decide_eq_true c, cond_true]
  ·obtain rfl : j = i := by omega
   rw [decide_eq_false c, cond_false]
   simp only [Nat.zero_add]) (fun j _ => rfl) (by omega), trivial⟩, pY (by omega), rfl, rfl, rfl⟩
end Go.Proofs.Ytdagokpedjfepaa
