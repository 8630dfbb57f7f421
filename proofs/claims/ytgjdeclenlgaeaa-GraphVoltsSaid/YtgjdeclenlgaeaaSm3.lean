/- THE ENGINE, part 3: an interpreter of the program's code over abstract values, and its proof. -/
import Derived.Test.YtgjdeclenlgaeaaSm2
import Derived.Defers
noncomputable section
set_option linter.unusedSimpArgs false
set_option linter.unusedVariables false
namespace Go.Sx
open M
variable {P : Program} {n B K K' : Nat}
abbrev Nm (F : List (Nat × AV)) (H : List (Nat × ABk)) : Po := fun e fr' H' => e = .normal ∧ fr' = frL F ∧ H' = hpL H
abbrev Xm (id : Nat) (F : List (Nat × AV)) (H : List (Nat × ABk)) : Po := fun e fr' H' => e = .exit id ∧ fr' = frL F ∧ H' = hpL H
theorem GoesB.lower {B' : Nat} {c : Code} {fr : Fr} {H : T ABk} {Post : Po} (h : GoesB P c n B' K K' fr H Post) (hB : B ≤ B') : GoesB P c n B K K' fr H Post :=
 fun μ w a hg hf Q hQ => h μ w a hg hf Q fun e fr' H' a' w' hp ha => hQ e fr' H' a' w' hp (by
  obtain ⟨μ', k1, k2, k3, k4⟩ := ha.of
  exact ⟨μ', k1, ⟨k2.names.mono hB, k2.os, k2.tape, k2.output, k2.size, k2.block, k2.may⟩, k3, k4⟩)
theorem GoesB.seqN {K1 : Nat} {x y : Code} {fr : Fr} {H : T ABk} {F1 : List (Nat × AV)} {H1 : List (Nat × ABk)} {Post : Po} (h1 : GoesB P x n B K K1 fr H (Nm F1 H1)) (hK : K1 ≤ K') (h2 : GoesB P y n B K1 K' (frL F1) (hpL H1) Post) : GoesB P (.seq x y) n B K K' fr H Post :=
 GoesB.seq hK (h1.mono fun e fr' H' ⟨e1, e2, e3⟩ => by subst e1 e2 e3; exact h2)
theorem GoesB.blockN {id : Nat} {c : Code} {fr : Fr} {H : T ABk} {F1 : List (Nat × AV)} {H1 : List (Nat × ABk)} (h : GoesB P c n B K K' fr H (Nm F1 H1)) : GoesB P (.block id c) n B K K' fr H (Nm F1 H1) :=
 GoesB.block (h.mono fun e fr' H' ⟨e1, e2, e3⟩ => by subst e1; exact ⟨rfl, e2, e3⟩)
theorem GoesB.toN {c : Code} {fr : Fr} {H : T ABk} {F F' : List (Nat × AV)} {H1 H1' : List (Nat × ABk)} (h : GoesB P c n B K K' fr H (Nm F H1)) (hf : Ge (frL F) F') (hh : GeH (hpL H1) H1') : GoesB P c n B K K' fr H (Nm F' H1') :=
 h.post fun e fr' H' ⟨e1, e2, e3⟩ => by subst e1 e2 e3; exact ⟨F', H1', hf, hh, rfl, rfl, rfl⟩
theorem GoesB.frameN {c : Code} {fr : Fr} {F : List (Nat × AV)} {bl bl' xl : List (Nat × ABk)} (h : GoesB P c n B K K' fr (hpL bl) (Nm F bl')) (hB : B ≤ K') (hx : LowL B xl) (hd : dis bl xl = true) (hd' : dis bl' xl = true) (ho : OwnL B bl bl') : GoesB P c n B K K' fr (hpL (bl ++ xl)) (Nm F (bl' ++ xl)) :=
 h.frameL hB hx hd fun e fr' H0' ⟨e1, e2, e3⟩ => ⟨bl', e3, hd', ho, e1, e2, rfl⟩
theorem GoesB.seqX {K1 id : Nat} {x y : Code} {fr : Fr} {H : T ABk} {F1 : List (Nat × AV)} {H1 : List (Nat × ABk)} (h1 : GoesB P x n B K K1 fr H (Xm id F1 H1)) (hK : K1 ≤ K') : GoesB P (.seq x y) n B K K' fr H (Xm id F1 H1) :=
 GoesB.seq hK (h1.mono fun e fr' H' ⟨e1, e2, e3⟩ => by subst e1; exact ⟨rfl, e2, e3⟩)
theorem GoesB.rounds {c : Code} {id : Nat} (len : Nat) (F : Nat → List (Nat × AV)) (Hh : Nat → List (Nat × ABk)) {Z : List (Nat × AV)} {ZH : List (Nat × ABk)} (h : ∀ i, i < len → GoesB P c n B K K (frL (F i)) (hpL (Hh i)) (Nm (F (i + 1)) (Hh (i + 1)))) (hz : GoesB P c n B K K (frL (F len)) (hpL (Hh len)) (Xm id Z ZH)) :
  GoesB P (.block id (.loop c)) n B K K (frL (F 0)) (hpL (Hh 0)) (Nm Z ZH) :=
 (GoesB.count len F Hh Z ZH (fun _ => True) (fun _ _ => False) trivial fun i hi _ => by
  by_cases e : i < len
  ·exact (h i e).mono fun e' fr H ⟨e1, e2, e3⟩ => .inl ⟨e1, e, trivial, e2, e3⟩
  ·obtain rfl : i = len := by omega
   exact hz.mono fun e' fr H ⟨e1, e2, e3⟩ => .inr (.inl ⟨e1, trivial, e2, e3⟩)).mono fun e fr H h => by
  rcases h with ⟨e1, _, e2, e3⟩ | ⟨_, h⟩
  ·exact ⟨e1, e2, e3⟩
  ·exact h.elim
theorem GoesX.seqN {X : MM → World → Prop} {K1 : Nat} {x y : Code} {fr : Fr} {H : T ABk} {F1 : List (Nat × AV)} {H1 : List (Nat × ABk)} {Post : Po} (h1 : GoesX P x n B K K1 X fr H (Nm F1 H1)) (hK : K1 ≤ K') (h2 : GoesX P y n B K1 K' X (frL F1) (hpL H1) Post) : GoesX P (.seq x y) n B K K' X fr H Post :=
 GoesX.seq hK (h1.mono fun e fr' H' ⟨e1, e2, e3⟩ => by subst e1 e2 e3; exact h2)
theorem GoesX.blockN {X : MM → World → Prop} {id : Nat} {c : Code} {fr : Fr} {H : T ABk} {F1 : List (Nat × AV)} {H1 : List (Nat × ABk)} (h : GoesX P c n B K K' X fr H (Nm F1 H1)) : GoesX P (.block id c) n B K K' X fr H (Nm F1 H1) :=
 GoesX.block (h.mono fun e fr' H' ⟨e1, e2, e3⟩ => by subst e1; exact ⟨rfl, e2, e3⟩)
theorem GoesX.seqX {X : MM → World → Prop} {K1 id : Nat} {x y : Code} {fr : Fr} {H : T ABk} {F1 : List (Nat × AV)} {H1 : List (Nat × ABk)} (h1 : GoesX P x n B K K1 X fr H (Xm id F1 H1)) (hK : K1 ≤ K') : GoesX P (.seq x y) n B K K' X fr H (Xm id F1 H1) :=
 GoesX.seq hK (h1.mono fun e fr' H' ⟨e1, e2, e3⟩ => by subst e1; exact ⟨rfl, e2, e3⟩)
theorem GoesX.rounds {X : MM → World → Prop} {c : Code} {id : Nat} (len : Nat) (F : Nat → List (Nat × AV)) (Hh : Nat → List (Nat × ABk)) {Z : List (Nat × AV)} {ZH : List (Nat × ABk)} (h : ∀ i, i < len → GoesX P c n B K K X (frL (F i)) (hpL (Hh i)) (Nm (F (i + 1)) (Hh (i + 1)))) (hz : GoesX P c n B K K X (frL (F len)) (hpL (Hh len)) (Xm id Z ZH)) :
  GoesX P (.block id (.loop c)) n B K K X (frL (F 0)) (hpL (Hh 0)) (Nm Z ZH) := by
 refine GoesX.block ((GoesX.loop (fun m fr H => ∃ i, m = len - i ∧ i ≤ len ∧ fr = frL (F i) ∧ H = hpL (Hh i)) (Post := Xm id Z ZH) ?_ _ _ _ ⟨0, rfl, by omega, rfl, rfl⟩).mono fun e fr H ⟨e1, e2, e3⟩ => ?_)
 ·rintro k fr H ⟨i, rfl, hi, rfl, rfl⟩
  by_cases e : i < len
  ·exact (h i e).mono fun e' fr H ⟨e1, e2, e3⟩ => by subst e1; exact ⟨len - (i + 1), by omega, i + 1, rfl, by omega, e2, e3⟩
  ·obtain rfl : i = len := by omega
   exact hz.mono fun e' fr H ⟨e1, e2, e3⟩ => by subst e1; exact ⟨rfl, e2, e3⟩
 ·subst e1; simp only [if_true]; exact ⟨rfl, e2, e3⟩
theorem GoesX.toN {j sz m : Nat} {cj : Cont} {K'' : Nat} {c : Code} {fr : Fr} {H : T ABk} {Post : Po} {F : List (Nat × AV)} {H1 : List (Nat × ABk)} (σ : Nat → Nat) (hj : j < B) (hl : (ABk.cells false sz m cj).lowR B) (h : GoesX P c n B K K' (VX B j sz m cj) fr H Post)
  (hσ : ∀ g, g < B → σ g = g) (hinj : ∀ i j, i < K'' → j < K'' → σ i = σ j → i = j) (k : ∀ e fr' H', Post e fr' H' → e = .normal ∧ RenF K'' σ fr' F ∧ RenG K'' σ H' H1) : GoesX P c n B K K'' (VX B j sz m cj) fr H (Nm F H1) :=
 GoesX.renG hj hl h fun e fr' H' hp => let ⟨e1, h1, h2⟩ := k e fr' H' hp; ⟨σ, F, H1, hσ, h1, h2, hinj, e1, rfl, rfl⟩
end Go.Sx
namespace Go.Sx
open M
structure Told (g : G) (ρ : Nat → Nat) (K0 i : Nat) (b : ABk) : Prop where
 lt : i < K0
 low : b.lowR K0
 of : ∃ b1, g.H.get (ρ i) = some b1 ∧ (∀ N μ hp, BkOk N μ hp (ρ i) b1 → BkOk N μ hp (ρ i) (b.ren ρ)) ∧ (b.owned = true → b1.owned = true) ∧ ∀ μ m, b.real μ m → b1.real μ m
theorem smallCall {P : Program} {f : FuncId} {fn : Func} {c : Code} (hf : P.funcs[f]? = some fn) (hb : fn.body = some c) (hname : (fn.name == "runtime.NumGoroutine") = false) {args argsC : List AV} {g g' : G} {p : Prop} (hcs : g'.cs → g.cs ∧ p) (hnx : g'.nx = g.nx)
  {bl bl' : List (Nat × ABk)} {B0 K0 K' : Nat} (ρ : Nat → Nat) {v : AV} (hA : p → ∀ N μ (cs : List Value), Reps N μ args cs → Reps K0 (μ.via ρ) argsC cs)
  (hsub : p → ∀ i b, (hpL bl).get i = some b → Told g ρ K0 i b) (inj : p → ∀ i j b b', (hpL bl).get i = some b → (hpL bl).get j = some b' → ρ i = ρ j → i = j)
  (h : p → GoesB P c fn.ntmps B0 K0 K' (frameOf argsC 0 .e) (hpL bl) fun e fr' H' => (e = .ret ∨ e = .normal) ∧ ∃ vs gr, resultsA P fr' fn.results.toList ⟨H', K', [], [], True⟩ = .done vs gr ∧ gr.cs ∧ AV.ge (packA vs) v ∧ GeH H' bl') (hv : v.low 0 = true)
  (hg' : p → ∀ i b, g'.H.get i = some b → (g.H.get i = some b ∧ ∀ j bj, (hpL bl).get j = some bj → bj.owned = true → ρ j ≠ i) ∨ ∃ j bj, j < B0 ∧ ρ j = i ∧ (hpL bl').get j = some b ∧ b.bare ∧ (hpL bl).get j = some bj ∧ bj.owned = true ∧ ∀ μ m, b.real μ m → bj.real μ m) :
  CallIs P f args v g g' := by
 refine ⟨fun hc => (hcs hc).1, fun hc μ w cargs hg ha => ?_⟩
 obtain ⟨_, hp⟩ := hcs hc
 have T := fun i b hb => hsub hp i b hb
 have real1 : ∀ {i : Nat} {b : ABk}, b.real (μ.via ρ) i ↔ b.real μ (ρ i) := fun {i b} => ABk.real_eq rfl b
 have hgc : GOk K0 (μ.via ρ) w.heap (hpL bl) := by
  refine ⟨fun i b hb => (T i b hb).lt, fun i b hb => ?_, fun i b j b' hi hj ho hr hr' he => ?_⟩
  ·obtain ⟨b1, h1, h2, h3, h4⟩ := (T i b hb).of
   exact (h2 _ _ _ (hg.ok _ _ h1)).unren (T i b hb).low (fun i _ => ⟨rfl, rfl, rfl, rfl⟩) rfl rfl rfl rfl
  ·obtain ⟨b1, h1, h2, h3, h4⟩ := (T i b hi).of
   obtain ⟨b2, k1, k2, k3, k4⟩ := (T j b' hj).of
   exact inj hp i j b b' hi hj (hg.sep _ _ _ _ h1 k1 (h3 ho) (h4 _ _ (real1.1 hr)) (k4 _ _ (real1.1 hr')) he)
 have may1 : ∀ b, May (μ.via ρ) (hpL bl) b → ∃ j bj b1, (hpL bl).get j = some bj ∧ bj.owned = true ∧ g.H.get (ρ j) = some b1 ∧ b1.owned = true ∧ b1.real μ (ρ j) ∧ μ.blk (ρ j) = b := fun b ⟨j, bj, m1, m2, m3, m4⟩ => by
  obtain ⟨b1, h1, h2, h3, h4⟩ := (T j bj m1).of
  exact ⟨j, bj, b1, m1, m2, h1, h3 m2, h4 _ _ (real1.1 m3), m4⟩
 refine (GoesB.call hf hb hname (V := fun u H' => AV.ge u v ∧ GeH H' bl') ((h hp).mono fun e fr' H' ⟨k1, vs, gr, k2, k3, k4, k5⟩ => ⟨k1, vs, gr, k2, k3, k4, k5⟩) (μ.via ρ) w hgc (hA hp _ _ _ ha)).mono ?_
 rintro cv w' ⟨u, μ', H', ⟨hge, hG⟩, hrep, hgk, hE⟩
 -- what is told behind
 have told : ∀ j b, j < B0 → (hpL bl').get j = some b → b.bare → BkOk g'.nx μ w'.heap (ρ j) b := fun j b hj hb hbare => by
  obtain ⟨b0, e1, e2⟩ := hG.get _ (hpL_get hb)
  exact (e2.ok (hgk.ok j b0 e1)).bare hbare (hE.names.blk j hj).symm (hE.names.cap j hj).symm (hE.names.sz j hj).symm (hE.names.base j hj).symm
 have keep : ∀ i b, g.H.get i = some b → (∀ j bj, (hpL bl).get j = some bj → bj.owned = true → ρ j ≠ i) → b.real μ i → ¬ May (μ.via ρ) (hpL bl) (μ.blk i) := fun i b hb hn hr hm => by
  obtain ⟨j, bj, b1, m1, m2, m3, m4, m5, m6⟩ := may1 _ hm
  exact hn j bj m1 m2 (hg.sep _ _ _ _ m3 hb m4 m5 hr m6)
 refine ⟨μ, (Rep.ofLow (N := 0) (μ := μ) ⟨fun g hg => by omega, fun g hg => by omega, fun g hg => by omega, fun g hg => by omega⟩ hv (hge _ _ _ hrep)).later (.refl _ _) (Nat.zero_le _), ⟨fun i b hb => ?_, fun i b hb => ?_, fun i b j b' hi hj ho hr hr' he => ?_⟩, ⟨by omega, .refl _ _, hE.os, hE.tape, hE.output, hE.size, fun b hb hn => hE.block b hb fun hm => hn ?_, fun b hb hm => ?_⟩⟩
 ·rcases hg' hp i b hb with ⟨h1, _⟩ | ⟨j, bj, h1, h2, h3, h4, h5, h6, h7⟩
  ·rw [hnx]; exact hg.lt _ _ h1
  ·obtain ⟨b1, q1, _⟩ := (T j bj h5).of
   rw [hnx, ← h2]; exact hg.lt _ _ q1
 ·rcases hg' hp i b hb with ⟨h1, hn⟩ | ⟨j, bj, h1, h2, h3, h4, h5, h6, h7⟩
  ·exact (hg.ok i b h1).later (.refl _ _) (by omega) (hg.lt _ _ h1) fun hr => hE.block _ ((hg.ok i b h1).lt_size hr) (keep i b h1 hn hr)
  ·rw [← h2]; exact told j b h1 h3 h4
 ·-- apart
  have orig : ∀ i b, g'.H.get i = some b → b.real μ i → ∃ b1, g.H.get i = some b1 ∧ b1.real μ i ∧ (b.owned = true → b1.owned = true) := fun i b hb hr => by
   rcases hg' hp i b hb with ⟨h1, hn⟩ | ⟨j, bj, h1, h2, h3, h4, h5, h6, h7⟩
   ·exact ⟨b, h1, hr, id⟩
   ·obtain ⟨b1, q1, q2, q3, q4⟩ := (T j bj h5).of
    exact ⟨b1, by rw [← h2]; exact q1, q4 _ _ (h7 _ _ hr), fun _ => q3 h6⟩
  obtain ⟨b1, e1, e2, e3⟩ := orig i b hi hr
  obtain ⟨b2, k1, k2, k3⟩ := orig j b' hj hr'
  exact hg.sep i b1 j b2 e1 k1 (e3 ho) e2 k2 he
 ·obtain ⟨j, bj, b1, m1, m2, m3, m4, m5, m6⟩ := may1 _ hm
  exact ⟨ρ j, b1, m3, m4, m5, m6⟩
 ·obtain ⟨i, x, m1, m2, m3, m4⟩ := hm
  rcases hg' hp i x m1 with ⟨h1, hn⟩ | ⟨j, bj, h1, h2, h3, h4, h5, h6, h7⟩
  ·exact ⟨i, x, h1, m2, m3, m4⟩
  ·obtain ⟨b1, q1, q2, q3, q4⟩ := (T j bj h5).of
   exact ⟨i, b1, by rw [← h2]; exact q1, q3 h6, q4 _ _ (h7 _ _ m3), m4⟩
def nodupB : List Nat → Bool
 | [] => true
 | x :: l => l.all (fun y => !Nat.beq x y) && nodupB l
theorem nodup_of : ∀ {l : List Nat}, nodupB l = true → l.Nodup
 | [], _ => List.nodup_nil
 | x :: l, h => by
  simp only [nodupB, Bool.and_eq_true] at h
  refine List.nodup_cons.2 ⟨fun hx => ?_, nodup_of h.2⟩
  have := List.all_eq_true.1 h.1 x hx
  simp at this
theorem RowOk.ge {N : Nat} {μ : MM} {row row' : List AV} {sz : Nat} {cur : Array Value} {base : Nat} (h : RowOk N μ row sz cur base) (k : RowGe row row') : RowOk N μ row' sz cur base :=
 ⟨k.length.trans h.1, fun o v hv => by
  obtain ⟨u, e1, e2, e3⟩ := k.get hv
  obtain ⟨_, cv, e4, e5⟩ := h.2 o u e1
  exact ⟨e3, cv, e4, e2 _ _ _ e5⟩⟩
theorem AV.ge.hdr {s own : Bool} {a : AA} {n q : Nat} (h1 : a.g = q) (h2 : a.i = 0) (h3 : a.o = 0) : AV.ge (.slc s own a n) (.slc true own ⟨false, q, 0, 0⟩ n) := fun N μ c h => by
 simp only [Rep, RepS] at h ⊢
 obtain ⟨h0, A, C, e1, e2, e3, e4, e5⟩ := h
 have ad : μ.addr ⟨false, q, 0, 0⟩ = μ.addr a := by simp only [MM.addr, h1, h2, h3]
 refine ⟨by rw [← h1]; exact h0, A, C, e1, e2, fun hl => by rw [ad]; exact e3 hl, fun h => (by cases h), fun ho => ?_⟩
 obtain ⟨_, _, e6⟩ := e5 ho
 exact ⟨trivial, trivial, by rw [← h1]; exact e6⟩
theorem CallIs.as {P : Program} {f : FuncId} {args : List AV} {u v : AV} {g g1 g' : G} {p : Prop} (h : CallIs P f args u g g1) (k : Keep g1 g' p) (hv : p → AV.ge u v) : CallIs P f args v g g' := by
 refine ⟨fun hc => h.1 (k.2.2 hc).1, fun hc μ w cargs hg ha => ?_⟩
 obtain ⟨h1, hp⟩ := k.2.2 hc
 refine (h.2 h1 μ w cargs hg ha).mono fun cv w' hA => ?_
 obtain ⟨μ', r1, r2, r3⟩ := hA
 refine ⟨μ', by rw [k.2.1]; exact hv hp _ _ _ r1, by rw [k.1, k.2.1]; exact r2, ?_⟩
 exact ⟨by rw [k.2.1]; exact r3.nx, r3.names, r3.os, r3.tape, r3.output, r3.size, r3.block, fun b hb hm => r3.may b hb (by rw [← k.1]; exact hm)⟩
end Go.Sx
namespace Go.Sx
open M
variable {P : Program} {n B K K' : Nat}
theorem AV.ge.raw {x : Nat} (s s' : Bool) (h : cn x = x) : AV.ge (.raw s x) (.flt s' x) := fun N μ c hr => by
 simp only [Rep] at hr ⊢
 obtain ⟨rfl, h2⟩ := hr
 exact ⟨x, rfl, h, h2⟩
theorem CallIs.by {f : FuncId} {args : List AV} {u v : AV} {g g1 g' : G} (h : CallIs P f args u g g1) (e1 : g'.H = g1.H) (e2 : g'.nx = g1.nx) (k : g'.cs → g1.cs ∧ AV.ge u v) (k0 : g'.cs → g.cs) : CallIs P f args v g g' := by
 refine ⟨k0, fun hc μ w cargs hg ha => ?_⟩
 obtain ⟨h1, hp⟩ := k hc
 refine (h.2 h1 μ w cargs hg ha).mono fun cv w' hA => ?_
 obtain ⟨μ', r1, r2, r3⟩ := hA
 refine ⟨μ', by rw [e2]; exact hp _ _ _ r1, by rw [e1, e2]; exact r2, ?_⟩
 exact ⟨by rw [e2]; exact r3.nx, r3.names, r3.os, r3.tape, r3.output, r3.size, r3.block, fun b hb hm => r3.may b hb (by rw [← e1]; exact hm)⟩
theorem GoesB.callR {call : Calls'} (hcall : CallOk P call) {region : List Oper → Fr → M Fr} {loops : Loops} {rounds : Nat} {ops : Array Oper} {id id1 id2 : Nat} {l1 l2 : List Oper} {o : Oper} (hops : ops.toList = l1 ++ (o :: l2))
  (hgd : ∀ o ∈ l1, o.guard = none) (hgo : o.guard = none) (hg2 : ∀ o ∈ l2, o.guard = none)
  {cl : Call} (ho : o.op = .call cl) {fop : Operand} (hcal : cl.callee = .value fop) {d : Nat} (hdst : o.dst = some d) (hd : d < n)
  {K1 K2 : Nat} (hKle : K1 ≤ K2) {fr : Fr} {H : T ABk} {fl1 : List (Nat × AV)} {bl1 : List (Nat × ABk)} {path : List Bool}
  (hrun : PieceN K1 .normal fl1 bl1 (codeA P call region loops n rounds (.region id1 l1.toArray false) fr ⟨H, K, [], path, True⟩))
  {f : FuncId} {fn : Func} {body : Code} (hf : P.funcs[f]? = some fn) (hb : fn.body = some body) (hname : (fn.name == "runtime.NumGoroutine") = false)
  {pre cap : List AV} (hfv : evalA (frL fl1) fop = .fn (.func f) pre cap) (hBK : B ≤ K) {V : AV → T ABk → Prop}
  (hcallee : GoesB P body fn.ntmps K1 K1 K2 (frameOf (pre ++ cl.args.toList.map (evalA (frL fl1)) ++ cap) 0 .e) (hpL bl1) fun e fr' H' => (e = .ret ∨ e = .normal) ∧ ∃ vs g', resultsA P fr' fn.results.toList ⟨H', K2, [], [], True⟩ = .done vs g' ∧ g'.cs ∧ ∃ u, AV.ge (packA vs) u ∧ V u H')
  {Post : Po} (hpost : ∀ v H', V v H' → ∃ path2 fl2 bl2, PieceN K' .normal fl2 bl2 (codeA P call region loops n rounds (.region id2 l2.toArray false) ((frL fl1).upd d (some v)) ⟨H', K2, [], path2, True⟩) ∧ Post .normal (frL fl2) (hpL bl2)) :
  GoesB P (.region id ops false) n B K K' fr H Post := by
 intro μ w a hg hf0 Q hQ
 refine wp_region_list ?_
 rw [hops]
 have hr := hrun.of
 generalize hres : codeA P call region loops n rounds (.region id1 l1.toArray false) fr ⟨H, K, [], path, True⟩ = res at hr
 unfold pieceN at hr
 split at hr
 ·rename_i r g
  obtain ⟨hre, hw, hh, hnx, hcs1⟩ := hr
  have hnx := Nat.le_of_ble_eq_true hnx
  unfold codeA at hres
  obtain ⟨fr1, g1, b1, b2⟩ := done_of hres
  obtain ⟨rfl, rfl⟩ := ret_done b2
  have b1' : opsA0 P call n l1 l1 fr ⟨H, K, [], path, True⟩ = .done fr1 g1 := by rw [← opsA_eq]; simpa using b1
  obtain ⟨_, hs⟩ := opsPre hcall (ops := ops) (Q := Q) (l2 := o :: l2) l1 _ _ _ _ hgd b1'
  refine hs hcs1 μ w a hg hf0 fun a1 w1 hk => ?_
  obtain ⟨μ1, k1, k2, k3, k4⟩ := hk
  have sub : ∀ i b, (hpL bl1).get i = some b → g1.H.get i = some b := fun i b hb => hh.get (hpL_get hb)
  have k1' : GOk K1 μ1 w1.heap (hpL bl1) := k1.up hnx sub
  have x1 : ExtB B H μ w (hpL bl1) μ1 w1 := ⟨k2.names.mono hBK, k2.os, k2.tape, k2.output, k2.size, k2.block, fun b hb hm => k2.may b hb (by
   obtain ⟨i, x, m1, m2, m3, m4⟩ := hm
   exact ⟨i, x, sub i x m1, m2, m3, m4⟩)⟩
  have k3' : FrOk K1 μ1 (frL fl1) a1.tmps n := ⟨k3.size, fun t v ht => (k3.val t v (hw.get (frL_get ht))).later (.refl _ _) hnx⟩
  have hKK : K ≤ K1 := Nat.le_trans k2.nx hnx
  refine wpList_plain hgo fun KK hKK' => ?_
  -- the call
  have hxv := k3'.eval fop
  rw [hfv] at hxv
  simp only [Rep] at hxv
  obtain ⟨fs, cs, e, h1, h2⟩ := hxv
  have hargs : Reps K1 μ1 (pre ++ cl.args.toList.map (evalA (frL fl1)) ++ cap) ((fs ++ cl.args.map a1.eval) ++ cs).toList := by
   simp only [Array.toList_append]
   exact (h1.append (k3'.evals _)).append h2
  have hcf := GoesB.call hf hb hname (V := fun v H' => ∃ u, AV.ge v u ∧ V u H') hcallee μ1 w1 k1' hargs
  have hrunop : (execOp a1.eval o).run P w1 = (callFunc f ((fs ++ cl.args.map a1.eval) ++ cs)).run P w1 := by
   simp only [execOp, ho, resolve, hcal, e, Deferred.ofValue, Sem.run_bind]
   rfl
  have fin : ∀ c w', (∃ v μ' H', (∃ u, AV.ge v u ∧ V u H') ∧ Rep K2 μ' v c ∧ GOk K2 μ' w'.heap H' ∧ ExtB K1 (hpL bl1) μ1 w1 H' μ' w') → KK (a1.put o.dst c) w' := by
   rintro c w' ⟨v0, μ2, H2, ⟨v, hge, hV⟩, r1, r2, r3⟩
   replace r1 := hge _ _ _ r1
   refine hKK' _ _ ?_
   obtain ⟨path2, fl2, bl2, hp2, hP⟩ := hpost v H2 hV
   have hr2 := hp2.of
   generalize hres2 : codeA P call region loops n rounds (.region id2 l2.toArray false) ((frL fl1).upd d (some v)) ⟨H2, K2, [], path2, True⟩ = res2 at hr2
   unfold pieceN at hr2
   split at hr2
   ·rename_i r' g'
    obtain ⟨hre', hw', hh', hnx', hcs2⟩ := hr2
    have hnx' := Nat.le_of_ble_eq_true hnx'
    unfold codeA at hres2
    obtain ⟨fr3, g3, b3, b4⟩ := done_of hres2
    obtain ⟨rfl, rfl⟩ := ret_done b4
    have b3' : opsA0 P call n l2 l2 ((frL fl1).upd d (some v)) ⟨H2, K2, [], path2, True⟩ = .done fr3 g3 := by rw [← opsA_eq]; simpa using b3
    obtain ⟨_, hs2⟩ := opsPre hcall (ops := ops) (Q := Q) (l2 := []) l2 _ _ _ _ hg2 b3'
    rw [List.append_nil] at hs2
    have f1 : FrOk K2 μ2 ((frL fl1).upd d (some v)) (a1.put o.dst c).tmps n := by
     rw [hdst]
     exact (k3'.later r3.names hKle).upd hd r1
    refine hs2 hcs2 μ2 w' _ r2 f1 fun a3 w3 hk3 => ?_
    obtain ⟨μ3, q1, q2, q3, q4⟩ := hk3
    have sub3 : ∀ i b, (hpL bl2).get i = some b → g3.H.get i = some b := fun i b hb => hh'.get (hpL_get hb)
    refine wpList_nil (hQ .normal _ _ _ _ hP ⟨μ3, q1.up hnx' sub3, ?_, ⟨q3.size, fun t v ht => (q3.val t v (hw'.get (frL_get ht))).later (.refl _ _) hnx'⟩, ?_⟩)
    ·have x2 : ExtB B (hpL bl1) μ1 w1 H2 μ2 w' := ⟨r3.names.mono (Nat.le_trans hBK hKK), r3.os, r3.tape, r3.output, r3.size, r3.block, r3.may⟩
     have x3 : ExtB B H2 μ2 w' (hpL bl2) μ3 w3 := ⟨q2.names.mono (Nat.le_trans hBK (Nat.le_trans hKK hKle)), q2.os, q2.tape, q2.output, q2.size, q2.block, fun b hb hm => q2.may b hb (by
      obtain ⟨i, x, m1, m2, m3, m4⟩ := hm
      exact ⟨i, x, sub3 i x m1, m2, m3, m4⟩)⟩
     exact (x1.trans x2).trans x3
    ·rw [q4, Act.put_defers]; exact k4
   ·exact hr2.elim
  unfold Oper.wp
  rw [hrunop]
  rcases hcf with ⟨c, w', e, ha⟩ | ⟨f', args', w', e, hcalls⟩
  ·rw [e]; exact fin c w' ha
  ·rw [e, Oper.upon_enter]
   refine hcalls.mono ?_
   rintro e1 w2 ⟨c, rfl, ha⟩
   exact fin c w2 ha
 ·exact hr.elim
def LtG (g : G) : Prop := ∀ i b, g.H.get i = some b → i < g.nx
theorem smallCallN {f : FuncId} {fn : Func} {c : Code} (hf : P.funcs[f]? = some fn) (hb : fn.body = some c) (hname : (fn.name == "runtime.NumGoroutine") = false) {args argsC : List AV} {g g' : G} {p : Prop} (hcs : g'.cs → g.cs ∧ p)
  {bl bl' : List (Nat × ABk)} {K0 K' : Nat} (ρ κ : Nat → Nat) {nms : List Nat} (hnx : g'.nx = g.nx + nms.length) {v : AV} (S : Nat → Prop)
  (hA : p → ∀ N μ (cs : List Value), Reps N μ args cs → Reps K0 (μ.via ρ) argsC cs)
  (hsub : p → ∀ i b, (hpL bl).get i = some b → Told g ρ K0 i b) (inj : p → ∀ i j b b', (hpL bl).get i = some b → (hpL bl).get j = some b' → ρ i = ρ j → i = j)
  (hnew : ∀ nm ∈ nms, K0 ≤ nm) (hnd : nms.Nodup) (hκ : p → LtG g → ∀ j, j < nms.length → κ (g.nx + j) = nms.getD j 0)
  (hS : p → LtG g → ∀ i, S i → i < g'.nx ∧ (i < g.nx → κ i < K0 ∧ ρ (κ i) = i))
  (h : p → LtG g → GoesB P c fn.ntmps K0 K0 K' (frameOf argsC 0 .e) (hpL bl) fun e fr' H' => (e = .ret ∨ e = .normal) ∧ ∃ vs gr, resultsA P fr' fn.results.toList ⟨H', K', [], [], True⟩ = .done vs gr ∧ gr.cs ∧ AV.ge (packA vs) (v.ren κ) ∧ ∀ q ∈ bl', ∃ b, H'.get (κ q.1) = some b ∧ SameC b (q.2.ren κ))
  (hv : p → LtG g → v.low g'.nx = true) (hvS : p → LtG g → v.inS S)
  (hbl' : p → LtG g → ∀ q ∈ bl', S q.1 ∧ q.2.inS S ∧ q.2.lowR g'.nx ∧ (q.1 < g.nx → ∃ bj, (hpL bl).get (κ q.1) = some bj ∧ bj.owned = true ∧ ∀ μ m, q.2.real μ m → bj.real μ m) ∧ (g.nx ≤ q.1 → q.2.owned = true))
  (hg' : p → LtG g → ∀ i b, g'.H.get i = some b → (g.H.get i = some b ∧ ∀ j bj, (hpL bl).get j = some bj → bj.owned = true → ρ j ≠ i) ∨ (i, b) ∈ bl') :
  CallIs P f args v g g' := by
 refine ⟨fun hc => (hcs hc).1, fun hc μ w cargs hg ha => ?_⟩
 obtain ⟨_, hp⟩ := hcs hc
 have T := fun i b hb => hsub hp i b hb
 have hL : LtG g := fun i b hb => hg.lt i b hb
 have real1 : ∀ {i : Nat} {b : ABk}, b.real (μ.via ρ) i ↔ b.real μ (ρ i) := fun {i b} => ABk.real_eq rfl b
 have hgc : GOk K0 (μ.via ρ) w.heap (hpL bl) := by
  refine ⟨fun i b hb => (T i b hb).lt, fun i b hb => ?_, fun i b j b' hi hj ho hr hr' he => ?_⟩
  ·obtain ⟨b1, h1, h2, h3, h4⟩ := (T i b hb).of
   exact (h2 _ _ _ (hg.ok _ _ h1)).unren (T i b hb).low (fun i _ => ⟨rfl, rfl, rfl, rfl⟩) rfl rfl rfl rfl
  ·obtain ⟨b1, h1, h2, h3, h4⟩ := (T i b hi).of
   obtain ⟨b2, k1, k2, k3, k4⟩ := (T j b' hj).of
   exact inj hp i j b b' hi hj (hg.sep _ _ _ _ h1 k1 (h3 ho) (h4 _ _ (real1.1 hr)) (k4 _ _ (real1.1 hr')) he)
 have may1 : ∀ b, May (μ.via ρ) (hpL bl) b → ∃ j bj b1, (hpL bl).get j = some bj ∧ bj.owned = true ∧ g.H.get (ρ j) = some b1 ∧ b1.owned = true ∧ b1.real μ (ρ j) ∧ μ.blk (ρ j) = b := fun b ⟨j, bj, m1, m2, m3, m4⟩ => by
  obtain ⟨b1, h1, h2, h3, h4⟩ := (T j bj m1).of
  exact ⟨j, bj, b1, m1, m2, h1, h3 m2, h4 _ _ (real1.1 m3), m4⟩
 refine (GoesB.call hf hb hname (V := fun u H' => AV.ge u (v.ren κ) ∧ ∀ q ∈ bl', ∃ b, H'.get (κ q.1) = some b ∧ SameC b (q.2.ren κ)) ((h hp hL).mono fun e fr' H' ⟨k1, vs, gr, k2, k3, k4, k5⟩ => ⟨k1, vs, gr, k2, k3, k4, k5⟩) (μ.via ρ) w hgc (hA hp _ _ _ ha)).mono ?_
 rintro cv w' ⟨u, μ', H', ⟨hge, hG⟩, hrep, hgk, hE⟩
 -- the names behind it
 have at' : ∀ i, S i → AtN (μ'.via κ) (newMM μ μ' g.nx nms) i := fun i hi => by
  obtain ⟨q1, q2⟩ := hS hp hL i hi
  by_cases hlt : i < g.nx
  ·obtain ⟨q3, q4⟩ := q2 hlt
   have hu : MM.upto g.nx μ (newMM μ μ' g.nx nms) := newMM_lt
   refine ⟨?_, ?_, ?_, ?_⟩
   ·rw [hu.blk i hlt]; show _ = μ'.blk (κ i); rw [hE.names.blk _ q3]; show _ = μ.blk (ρ (κ i)); rw [q4]
   ·rw [hu.cap i hlt]; show _ = μ'.cap (κ i); rw [hE.names.cap _ q3]; show _ = μ.cap (ρ (κ i)); rw [q4]
   ·rw [hu.sz i hlt]; show _ = μ'.sz (κ i); rw [hE.names.sz _ q3]; show _ = μ.sz (ρ (κ i)); rw [q4]
   ·rw [hu.base i hlt]; show _ = μ'.base (κ i); rw [hE.names.base _ q3]; show _ = μ.base (ρ (κ i)); rw [q4]
  ·obtain ⟨j, rfl⟩ := Nat.exists_eq_add_of_le (Nat.le_of_not_lt hlt)
   have e := hκ hp hL j (by omega)
   have hge : ¬ g.nx + j < g.nx := by omega
   refine ⟨?_, ?_, ?_, ?_⟩ <;> simp only [newMM, if_neg hge, MM.via, e, show g.nx + j - g.nx = j by omega]
 have atS : ∀ i, S i → i < g'.nx → i < g'.nx ∧ AtN (μ'.via κ) (newMM μ μ' g.nx nms) i := fun i hi hl => ⟨hl, at' i hi⟩
 -- what is told behind
 have told : ∀ i b, (i, b) ∈ bl' → BkOk g'.nx (newMM μ μ' g.nx nms) w'.heap i b ∧ ∃ b0, H'.get (κ i) = some b0 ∧ b0.owned = b.owned ∧ (b.real (newMM μ μ' g.nx nms) i ↔ b0.real μ' (κ i)) ∧ (newMM μ μ' g.nx nms).blk i = μ'.blk (κ i) := fun i b hm => by
  obtain ⟨b0, e1, e2⟩ := hG _ hm
  obtain ⟨s1, s2, s3, s4, s5⟩ := hbl' hp hL _ hm
  have hat := at' i s1
  have r1 : BkOk g'.nx (μ'.via κ) w'.heap i b := (e2.ok (hgk.ok _ _ e1)).unren s3 (fun i _ => ⟨rfl, rfl, rfl, rfl⟩) rfl rfl rfl rfl
  refine ⟨BkOk.on atS hat s2 (fun _ => rfl) r1, b0, e1, by rw [e2.owned, ABk.ren_owned], ?_, hat.blk⟩
  rw [ABk.real_at hat, e2.real, ABk.ren_real]
  exact ABk.real_eq rfl b
 have hu : MM.upto g.nx μ (newMM μ μ' g.nx nms) := newMM_lt
 have keep : ∀ i b, g.H.get i = some b → (∀ j bj, (hpL bl).get j = some bj → bj.owned = true → ρ j ≠ i) → b.real μ i → ¬ May (μ.via ρ) (hpL bl) (μ.blk i) := fun i b hb hn hr hm => by
  obtain ⟨j, bj, b1, m1, m2, m3, m4, m5, m6⟩ := may1 _ hm
  exact hn j bj m1 m2 (hg.sep _ _ _ _ m3 hb m4 m5 hr m6)
 refine ⟨newMM μ μ' g.nx nms, ((hge _ _ _ hrep).unren (hv hp hL)).on atS (hvS hp hL), ⟨fun i b hb => ?_, fun i b hb => ?_, fun i b j b' hi hj ho hr hr' he => ?_⟩, ⟨by omega, hu, hE.os, hE.tape, hE.output, hE.size, fun b hb hn => hE.block b hb fun hm => hn ?_, fun B hb hm => ?_⟩⟩
 ·rcases hg' hp hL i b hb with ⟨h1, _⟩ | hm
  ·have := hg.lt _ _ h1; omega
  ·exact (hS hp hL i (hbl' hp hL _ hm).1).1
 ·rcases hg' hp hL i b hb with ⟨h1, hn⟩ | hm
  ·exact (hg.ok i b h1).later hu (by omega) (hg.lt _ _ h1) fun hr => hE.block _ ((hg.ok i b h1).lt_size hr) (keep i b h1 hn hr)
  ·exact (told i b hm).1
 ·-- apart
  have high : ∀ i b, (i, b) ∈ bl' → b.real (newMM μ μ' g.nx nms) i → (newMM μ μ' g.nx nms).blk i < w.heap.size → b.owned = true → May (μ.via ρ) (hpL bl) ((newMM μ μ' g.nx nms).blk i) := fun i b hm hr hlt ho => by
   obtain ⟨_, b0, e1, e2, e3, e4⟩ := told i b hm
   rw [e4] at hlt ⊢
   exact hE.may _ hlt ⟨κ i, b0, e1, e2.trans ho, e3.1 hr, rfl⟩
  have mixed : ∀ i b j b', g.H.get i = some b → (∀ j bj, (hpL bl).get j = some bj → bj.owned = true → ρ j ≠ i) → b.real (newMM μ μ' g.nx nms) i → (j, b') ∈ bl' → b'.real (newMM μ μ' g.nx nms) j → (b'.owned = true ∨ j < g.nx) → (b.owned = true ∨ b'.owned = true) → (newMM μ μ' g.nx nms).blk i = (newMM μ μ' g.nx nms).blk j → False := fun i b j b' h1 hn hr hm hr' hoj hob he => by
   have hlt := hg.lt _ _ h1
   rw [ABk.real_later hu hlt] at hr
   have hsz := (hg.ok _ _ h1).lt_size hr
   rw [hu.blk i hlt] at he
   by_cases hj : j < g.nx
   ·obtain ⟨s1, s2, s3, s4, s5⟩ := hbl' hp hL _ hm
    obtain ⟨bj, q1, q2, q3⟩ := s4 hj
    obtain ⟨_, q4⟩ := hS hp hL j s1
    obtain ⟨_, q5⟩ := q4 hj
    obtain ⟨b1, t1, t2, t3, t4⟩ := (T _ _ q1).of
    rw [q5] at t1
    rw [hu.blk j hj] at he
    rw [ABk.real_later hu hj] at hr'
    exact hn _ _ q1 q2 (q5.trans (hg.sep _ _ _ _ t1 h1 (t3 q2) (t4 μ j (q3 μ j hr')) hr he.symm))
   ·have ho : b'.owned = true := hoj.resolve_right hj
    have := high j b' hm hr' (by rw [← he]; exact hsz) ho
    rw [← he] at this
    exact keep i b h1 hn hr this
  rcases hg' hp hL i b hi with ⟨h1, hn⟩ | hm
  ·rcases hg' hp hL j b' hj with ⟨h2, hn'⟩ | hm'
   ·have l1 := hg.lt _ _ h1
    have l2 := hg.lt _ _ h2
    rw [ABk.real_later hu l1] at hr
    rw [ABk.real_later hu l2] at hr'
    rw [hu.blk i l1, hu.blk j l2] at he
    exact hg.sep _ _ _ _ h1 h2 ho hr hr' he
   ·exact (mixed i b j b' h1 hn hr hm' hr' (by
     by_cases q : j < g.nx
     ·exact .inr q
     ·exact .inl ((hbl' hp hL _ hm').2.2.2.2 (by omega))) (.inl ho) he).elim
  ·rcases hg' hp hL j b' hj with ⟨h2, hn'⟩ | hm'
   ·exact (mixed j b' i b h2 hn' hr' hm hr (.inl ho) (.inr ho) he.symm).elim
   ·obtain ⟨_, b0, e1, e2, e3, e4⟩ := told i b hm
    obtain ⟨_, b1, l1, l2, l3, l4⟩ := told j b' hm'
    have e : κ i = κ j := hgk.sep _ _ _ _ e1 l1 (e2.trans ho) (e3.1 hr) (l3.1 hr') (by rw [← e4, ← l4]; exact he)
    obtain ⟨p1, p2⟩ := hS hp hL i (hbl' hp hL _ hm).1
    obtain ⟨p3, p4⟩ := hS hp hL j (hbl' hp hL _ hm').1
    by_cases c1 : i < g.nx
    ·by_cases c2 : j < g.nx
     ·rw [← (p2 c1).2, ← (p4 c2).2, e]
     ·obtain ⟨y, rfl⟩ := Nat.exists_eq_add_of_le (Nat.le_of_not_lt c2)
      have hy : y < nms.length := by omega
      have k1 := hκ hp hL y hy
      have k2 := hnew (nms.getD y 0) (by rw [List.getD_eq_getElem?_getD, List.getElem?_eq_getElem hy]; exact List.getElem_mem hy)
      have := (p2 c1).1
      omega
    ·obtain ⟨x, rfl⟩ := Nat.exists_eq_add_of_le (Nat.le_of_not_lt c1)
     have hx : x < nms.length := by omega
     have k1 := hκ hp hL x hx
     have k2 := hnew (nms.getD x 0) (by rw [List.getD_eq_getElem?_getD, List.getElem?_eq_getElem hx]; exact List.getElem_mem hx)
     by_cases c2 : j < g.nx
     ·have := (p4 c2).1
      omega
     ·obtain ⟨y, rfl⟩ := Nat.exists_eq_add_of_le (Nat.le_of_not_lt c2)
      have hy : y < nms.length := by omega
      have k3 := hκ hp hL y hy
      have : nms.getD x 0 = nms.getD y 0 := by omega
      rw [List.getD_eq_getElem?_getD, List.getD_eq_getElem?_getD, List.getElem?_eq_getElem hx, List.getElem?_eq_getElem hy] at this
      have := (List.getElem_inj hnd).1 this
      omega
 ·obtain ⟨j, bj, b1, m1, m2, m3, m4, m5, m6⟩ := may1 _ hm
  exact ⟨ρ j, b1, m3, m4, m5, m6⟩
 ·obtain ⟨i, x, m1, m2, m3, m4⟩ := hm
  rcases hg' hp hL i x m1 with ⟨h1, hn⟩ | hmm
  ·have l1 := hg.lt _ _ h1
   exact ⟨i, x, h1, m2, (ABk.real_later hu l1 x).1 m3, by rw [← hu.blk i l1]; exact m4⟩
  ·obtain ⟨_, b0, e1, e2, e3, e4⟩ := told i x hmm
   obtain ⟨j, bj, b1, q1, q2, q3, q4, q5, q6⟩ := may1 _ (hE.may B hb ⟨κ i, b0, e1, e2.trans m2, e3.1 m3, by rw [← e4]; exact m4⟩)
   exact ⟨ρ j, b1, q3, q4, q5, q6⟩
theorem GoesB.phantomB {c : Code} {fr : Fr} {H : T ABk} {Post : Po} (q esz : Nat) (rows : Nat → List AV) {own : Bool} {c0 : Cont} (ht : H.get q = some (.cells own 1 1 c0)) (h0 : c0.row 0 = [.nils]) (hpos : 0 < esz) (hB : B ≤ K)
  (h : GoesB P c n B (K + 1) K' fr ((H.upd K (some (.cells true esz 0 (.fn rows)))).upd q (some (.cells own 1 1 (.fn fun _ => [noSlc K])))) Post) : GoesB P c n B K K' fr H Post := by
 intro μ w a hg hf Q hQ
 have hu := MM.at_upto μ K esz
 have hqK := hg.lt _ _ ht
 have case : ∀ i b, ((H.upd K (some (.cells true esz 0 (.fn rows)))).upd q (some (.cells own 1 1 (.fn fun _ => [noSlc K])))).get i = some b → (i = K ∧ b = .cells true esz 0 (.fn rows)) ∨ ∃ b0, i < K ∧ H.get i = some b0 ∧ b0.owned = b.owned ∧ (∀ μ m, b.real μ m ↔ b0.real μ m) ∧ (b = b0 ∨ (i = q ∧ b = .cells own 1 1 (.fn fun _ => [noSlc K]))) := fun i b hb => by
  rw [T.get_upd] at hb
  split at hb
  ·cases hb; rename_i e; subst e
   exact .inr ⟨_, hqK, ht, rfl, fun μ m => Iff.rfl, .inr ⟨rfl, rfl⟩⟩
  ·rw [T.get_upd] at hb
   split at hb
   ·cases hb; exact .inl ⟨‹_›, rfl⟩
   ·exact .inr ⟨b, hg.lt _ _ hb, hb, rfl, fun μ m => Iff.rfl, .inl rfl⟩
 have unreal : ∀ b, b = ABk.cells true esz 0 (.fn rows) → ¬ b.real (μ.at K esz) K := by
  rintro b rfl hr
  simp [ABk.real, MM.at] at hr
 have may : ∀ b, May (μ.at K esz) ((H.upd K (some (.cells true esz 0 (.fn rows)))).upd q (some (.cells own 1 1 (.fn fun _ => [noSlc K])))) b → May μ H b := by
  rintro b ⟨i, x, m1, m2, m3, m4⟩
  rcases case i x m1 with ⟨rfl, rfl⟩ | ⟨b0, hi, hx, e1, e2, _⟩
  ·exact (unreal _ rfl m3).elim
  ·rw [ABk.real_later hu hi] at m3
   rw [hu.blk i hi] at m4
   exact ⟨i, b0, hx, e1.trans m2, (e2 _ _).1 m3, m4⟩
 have hE : ExtB B H μ w ((H.upd K (some (.cells true esz 0 (.fn rows)))).upd q (some (.cells own 1 1 (.fn fun _ => [noSlc K])))) (μ.at K esz) w := ⟨hu.mono hB, rfl, rfl, rfl, Nat.le_refl _, fun b _ _ => rfl, fun b _ hm => may b hm⟩
 refine h (μ.at K esz) w a ⟨fun i b hb => ?_, fun i b hb => ?_, fun i b j b' hi hj ho hr hr' he => ?_⟩ ⟨hf.size, fun t' v hv => (hf.val t' v hv).later hu (by omega)⟩ Q fun e fr' H' a' w' hp ha => hQ e fr' H' a' w' hp (AtB.trans hE rfl ha)
 ·rcases case i b hb with ⟨rfl, _⟩ | ⟨b0, hi, _⟩ <;> omega
 ·rcases case i b hb with ⟨rfl, rfl⟩ | ⟨b0, hi, hx, e1, e2, rfl | ⟨rfl, rfl⟩⟩
  ·refine ⟨by simp [MM.at], hpos, fun hr => ?_⟩
   simp [MM.at] at hr
  ·exact (hg.ok i b hx).later hu (by omega) hi fun _ => rfl
  ·have ok := (hg.ok _ _ ht).later hu (Nat.le_succ K) hqK (fun _ => rfl)
   refine ⟨ok.1, ok.2.1, fun hr => ?_⟩
   obtain ⟨cur, ty, fz, k1, k2, k3, k4⟩ := ok.2.2 hr
   refine ⟨cur, ty, fz, k1, k2, k3, fun j hj => ?_⟩
   obtain rfl : j = 0 := by omega
   have k5 := k4 0 (by omega)
   rw [h0] at k5
   refine ⟨rfl, fun o v hv => ?_⟩
   match o, hv with
   | 0, hv =>
    cases hv
    obtain ⟨_, cv, k6, k7⟩ := k5.2 0 .nils rfl
    refine ⟨rfl, cv, k6, ?_⟩
    simp only [Rep] at k7
    rw [k7]
    simp only [noSlc, Rep]
    exact ⟨by omega, none, 0, rfl, Nat.le_refl _, fun h => absurd h (by omega), fun h => (by cases h), fun _ => ⟨rfl, rfl, .inl ⟨rfl, rfl, rfl⟩⟩⟩
 ·rcases case i b hi with ⟨rfl, rfl⟩ | ⟨b0, hi1, hx, e1, e2, _⟩
  ·exact (unreal _ rfl hr).elim
  ·rcases case j b' hj with ⟨rfl, rfl⟩ | ⟨b1, hj1, hy, e3, e4, _⟩
   ·exact (unreal _ rfl hr').elim
   ·rw [ABk.real_later hu hi1] at hr
    rw [ABk.real_later hu hj1] at hr'
    rw [hu.blk i hi1, hu.blk j hj1] at he
    exact hg.sep _ _ _ _ hx hy (e1.trans ho) ((e2 _ _).1 hr) ((e4 _ _).1 hr') he
def regPre (m : Nat) : Code → Code
 | .region i ops d => .region i (ops.toList.take m).toArray d
 | c => c
def regPost (m : Nat) : Code → Code
 | .region i ops d => .region i (ops.toList.drop m).toArray d
 | c => c
def regOps : Code → List Oper
 | .region _ ops _ => ops.toList
 | _ => []
def regId : Code → Nat
 | .region i _ _ => i
 | _ => 0
end Go.Sx
namespace Go.Sx
open M
variable {P : Program} {n B K K' : Nat}
theorem GoesB.phantomR {c : Code} {fr : Fr} {H : T ABk} {Post : Po} (q esz : Nat) (rows : Nat → List AV) {own : Bool} {c0 : Cont} {sz1 : Nat} (o0 : Nat) (l : List AV) (ht : H.get q = some (.cells own sz1 1 c0)) (h0 : c0.row 0 = l) (hl : l[o0]? = some .nils) (hpos : 0 < esz) (hB : B ≤ K)
  (h : GoesB P c n B (K + 1) K' fr ((H.upd K (some (.cells true esz 0 (.fn rows)))).upd q (some (.cells own sz1 1 (.fn fun _ => l.set o0 (noSlc K))))) Post) : GoesB P c n B K K' fr H Post := by
 intro μ w a hg hf Q hQ
 have hu := MM.at_upto μ K esz
 have hqK := hg.lt _ _ ht
 have case : ∀ i b, ((H.upd K (some (.cells true esz 0 (.fn rows)))).upd q (some (.cells own sz1 1 (.fn fun _ => l.set o0 (noSlc K))))).get i = some b → (i = K ∧ b = .cells true esz 0 (.fn rows)) ∨ ∃ b0, i < K ∧ H.get i = some b0 ∧ b0.owned = b.owned ∧ (∀ μ m, b.real μ m ↔ b0.real μ m) ∧ (b = b0 ∨ (i = q ∧ b = .cells own sz1 1 (.fn fun _ => l.set o0 (noSlc K)))) := fun i b hb => by
  rw [T.get_upd] at hb
  split at hb
  ·cases hb; rename_i e; subst e
   exact .inr ⟨_, hqK, ht, rfl, fun μ m => Iff.rfl, .inr ⟨rfl, rfl⟩⟩
  ·rw [T.get_upd] at hb
   split at hb
   ·cases hb; exact .inl ⟨‹_›, rfl⟩
   ·exact .inr ⟨b, hg.lt _ _ hb, hb, rfl, fun μ m => Iff.rfl, .inl rfl⟩
 have unreal : ∀ b, b = ABk.cells true esz 0 (.fn rows) → ¬ b.real (μ.at K esz) K := by
  rintro b rfl hr
  simp [ABk.real, MM.at] at hr
 have may : ∀ b, May (μ.at K esz) ((H.upd K (some (.cells true esz 0 (.fn rows)))).upd q (some (.cells own sz1 1 (.fn fun _ => l.set o0 (noSlc K))))) b → May μ H b := by
  rintro b ⟨i, x, m1, m2, m3, m4⟩
  rcases case i x m1 with ⟨rfl, rfl⟩ | ⟨b0, hi, hx, e1, e2, _⟩
  ·exact (unreal _ rfl m3).elim
  ·rw [ABk.real_later hu hi] at m3
   rw [hu.blk i hi] at m4
   exact ⟨i, b0, hx, e1.trans m2, (e2 _ _).1 m3, m4⟩
 have hE : ExtB B H μ w ((H.upd K (some (.cells true esz 0 (.fn rows)))).upd q (some (.cells own sz1 1 (.fn fun _ => l.set o0 (noSlc K))))) (μ.at K esz) w := ⟨hu.mono hB, rfl, rfl, rfl, Nat.le_refl _, fun b _ _ => rfl, fun b _ hm => may b hm⟩
 refine h (μ.at K esz) w a ⟨fun i b hb => ?_, fun i b hb => ?_, fun i b j b' hi hj ho hr hr' he => ?_⟩ ⟨hf.size, fun t' v hv => (hf.val t' v hv).later hu (by omega)⟩ Q fun e fr' H' a' w' hp ha => hQ e fr' H' a' w' hp (AtB.trans hE rfl ha)
 ·rcases case i b hb with ⟨rfl, _⟩ | ⟨b0, hi, _⟩ <;> omega
 ·rcases case i b hb with ⟨rfl, rfl⟩ | ⟨b0, hi, hx, e1, e2, rfl | ⟨rfl, rfl⟩⟩
  ·refine ⟨by simp [MM.at], hpos, fun hr => ?_⟩
   simp [MM.at] at hr
  ·exact (hg.ok i b hx).later hu (by omega) hi fun _ => rfl
  ·have ok := (hg.ok _ _ ht).later hu (Nat.le_succ K) hqK (fun _ => rfl)
   refine ⟨ok.1, ok.2.1, fun hr => ?_⟩
   obtain ⟨cur, ty, fz, k1, k2, k3, k4⟩ := ok.2.2 hr
   refine ⟨cur, ty, fz, k1, k2, k3, fun j hj => ?_⟩
   obtain rfl : j = 0 := by omega
   have k5 := k4 0 (by omega)
   rw [h0] at k5
   refine ⟨(List.length_set (as := l) (i := o0) (a := noSlc K)).trans k5.1, fun o v hv => ?_⟩
   have hv : (l.set o0 (noSlc K))[o]? = some v := hv
   by_cases q : o = o0
   ·subst q
    have hlt : o < l.length := (List.getElem?_eq_some_iff.1 hl).1
    rw [List.getElem?_set_self hlt] at hv
    cases hv
    obtain ⟨_, cv, k6, k7⟩ := k5.2 o .nils hl
    refine ⟨rfl, cv, k6, ?_⟩
    simp only [Rep] at k7
    rw [k7]
    simp only [noSlc, Rep]
    exact ⟨by omega, none, 0, rfl, Nat.le_refl _, fun h => absurd h (by omega), fun h => (by cases h), fun _ => ⟨rfl, rfl, .inl ⟨rfl, rfl, rfl⟩⟩⟩
   ·rw [List.getElem?_set_ne (by omega)] at hv
    exact k5.2 o v hv
 ·rcases case i b hi with ⟨rfl, rfl⟩ | ⟨b0, hi1, hx, e1, e2, _⟩
  ·exact (unreal _ rfl hr).elim
  ·rcases case j b' hj with ⟨rfl, rfl⟩ | ⟨b1, hj1, hy, e3, e4, _⟩
   ·exact (unreal _ rfl hr').elim
   ·rw [ABk.real_later hu hi1] at hr
    rw [ABk.real_later hu hj1] at hr'
    rw [hu.blk i hi1, hu.blk j hj1] at he
    exact hg.sep _ _ _ _ hx hy (e1.trans ho) ((e2 _ _).1 hr) ((e4 _ _).1 hr') he
theorem GoesB.callRL {call : Calls'} (hcall : CallOk P call) {region : List Oper → Fr → M Fr} {loops : Loops} {rounds : Nat} {ops : Array Oper} {id id1 id2 : Nat} {l1 l2 : List Oper} {o : Oper} (hops : ops.toList = l1 ++ (o :: l2))
  (hgd : ∀ o ∈ l1, o.guard = none) (hgo : o.guard = none) (hg2 : ∀ o ∈ l2, o.guard = none)
  {cl : Call} (ho : o.op = .call cl) {fop : Operand} (hcal : cl.callee = .value fop) {d : Nat} (hdst : o.dst = some d) (hd : d < n)
  {K1 K2 : Nat} (hKle : K1 ≤ K2) {fr : Fr} {H : T ABk} {fl1 : List (Nat × AV)} {bl1 : List (Nat × ABk)} {path : List Bool}
  (hrun : PieceN K1 .normal fl1 bl1 (codeA P call region loops n rounds (.region id1 l1.toArray false) fr ⟨H, K, [], path, True⟩))
  {f : FuncId} {fn : Func} {body : Code} (hf : P.funcs[f]? = some fn) (hb : fn.body = some body) (hname : (fn.name == "runtime.NumGoroutine") = false)
  {pre cap : List AV} (hfv : evalA (frL fl1) fop = .fn (.func f) pre cap) {B0 : Nat} (hB0 : B ≤ B0) (hBK : B0 ≤ K1) (hBB : B ≤ K) {flk : List (Nat × AV)} (hk1 : flk.all (fun p => p.2.low B0) = true) (hk2 : Ge (frL fl1) flk) {V : AV → T ABk → Prop}
  (hcallee : GoesB P body fn.ntmps B0 K1 K2 (frameOf (pre ++ cl.args.toList.map (evalA (frL fl1)) ++ cap) 0 .e) (hpL bl1) fun e fr' H' => (e = .ret ∨ e = .normal) ∧ ∃ vs g', resultsA P fr' fn.results.toList ⟨H', K2, [], [], True⟩ = .done vs g' ∧ g'.cs ∧ ∃ u, AV.ge (packA vs) u ∧ V u H')
  {Post : Po} (hpost : ∀ v H', V v H' → ∃ path2 fl2 bl2, PieceN K' .normal fl2 bl2 (codeA P call region loops n rounds (.region id2 l2.toArray false) ((frL flk).upd d (some v)) ⟨H', K2, [], path2, True⟩) ∧ Post .normal (frL fl2) (hpL bl2)) :
  GoesB P (.region id ops false) n B K K' fr H Post := by
 intro μ w a hg hf0 Q hQ
 refine wp_region_list ?_
 rw [hops]
 have hr := hrun.of
 generalize hres : codeA P call region loops n rounds (.region id1 l1.toArray false) fr ⟨H, K, [], path, True⟩ = res at hr
 unfold pieceN at hr
 split at hr
 ·rename_i r g
  obtain ⟨hre, hw, hh, hnx, hcs1⟩ := hr
  have hnx := Nat.le_of_ble_eq_true hnx
  unfold codeA at hres
  obtain ⟨fr1, g1, b1, b2⟩ := done_of hres
  obtain ⟨rfl, rfl⟩ := ret_done b2
  have b1' : opsA0 P call n l1 l1 fr ⟨H, K, [], path, True⟩ = .done fr1 g1 := by rw [← opsA_eq]; simpa using b1
  obtain ⟨_, hs⟩ := opsPre hcall (ops := ops) (Q := Q) (l2 := o :: l2) l1 _ _ _ _ hgd b1'
  refine hs hcs1 μ w a hg hf0 fun a1 w1 hk => ?_
  obtain ⟨μ1, k1, k2, k3, k4⟩ := hk
  have sub : ∀ i b, (hpL bl1).get i = some b → g1.H.get i = some b := fun i b hb => hh.get (hpL_get hb)
  have k1' : GOk K1 μ1 w1.heap (hpL bl1) := k1.up hnx sub
  have x1 : ExtB B H μ w (hpL bl1) μ1 w1 := ⟨k2.names.mono hBB, k2.os, k2.tape, k2.output, k2.size, k2.block, fun b hb hm => k2.may b hb (by
   obtain ⟨i, x, m1, m2, m3, m4⟩ := hm
   exact ⟨i, x, sub i x m1, m2, m3, m4⟩)⟩
  have k3' : FrOk K1 μ1 (frL fl1) a1.tmps n := ⟨k3.size, fun t v ht => (k3.val t v (hw.get (frL_get ht))).later (.refl _ _) hnx⟩
  have hKK : K ≤ K1 := Nat.le_trans k2.nx hnx
  refine wpList_plain hgo fun KK hKK' => ?_
  -- the call
  have hxv := k3'.eval fop
  rw [hfv] at hxv
  simp only [Rep] at hxv
  obtain ⟨fs, cs, e, h1, h2⟩ := hxv
  have hargs : Reps K1 μ1 (pre ++ cl.args.toList.map (evalA (frL fl1)) ++ cap) ((fs ++ cl.args.map a1.eval) ++ cs).toList := by
   simp only [Array.toList_append]
   exact (h1.append (k3'.evals _)).append h2
  have hcf := GoesB.call hf hb hname (V := fun v H' => ∃ u, AV.ge v u ∧ V u H') hcallee μ1 w1 k1' hargs
  have hrunop : (execOp a1.eval o).run P w1 = (callFunc f ((fs ++ cl.args.map a1.eval) ++ cs)).run P w1 := by
   simp only [execOp, ho, resolve, hcal, e, Deferred.ofValue, Sem.run_bind]
   rfl
  have fin : ∀ c w', (∃ v μ' H', (∃ u, AV.ge v u ∧ V u H') ∧ Rep K2 μ' v c ∧ GOk K2 μ' w'.heap H' ∧ ExtB B0 (hpL bl1) μ1 w1 H' μ' w') → KK (a1.put o.dst c) w' := by
   rintro c w' ⟨v0, μ2, H2, ⟨v, hge, hV⟩, r1, r2, r3⟩
   replace r1 := hge _ _ _ r1
   refine hKK' _ _ ?_
   obtain ⟨path2, fl2, bl2, hp2, hP⟩ := hpost v H2 hV
   have hr2 := hp2.of
   generalize hres2 : codeA P call region loops n rounds (.region id2 l2.toArray false) ((frL flk).upd d (some v)) ⟨H2, K2, [], path2, True⟩ = res2 at hr2
   unfold pieceN at hr2
   split at hr2
   ·rename_i r' g'
    obtain ⟨hre', hw', hh', hnx', hcs2⟩ := hr2
    have hnx' := Nat.le_of_ble_eq_true hnx'
    unfold codeA at hres2
    obtain ⟨fr3, g3, b3, b4⟩ := done_of hres2
    obtain ⟨rfl, rfl⟩ := ret_done b4
    have b3' : opsA0 P call n l2 l2 ((frL flk).upd d (some v)) ⟨H2, K2, [], path2, True⟩ = .done fr3 g3 := by rw [← opsA_eq]; simpa using b3
    obtain ⟨_, hs2⟩ := opsPre hcall (ops := ops) (Q := Q) (l2 := []) l2 _ _ _ _ hg2 b3'
    rw [List.append_nil] at hs2
    have f1 : FrOk K2 μ2 ((frL flk).upd d (some v)) (a1.put o.dst c).tmps n := by
     rw [hdst]
     have hs : MM.upto B0 μ2 μ1 := ⟨fun g hg => (r3.names.blk g hg).symm, fun g hg => (r3.names.cap g hg).symm, fun g hg => (r3.names.sz g hg).symm, fun g hg => (r3.names.base g hg).symm⟩
     have kk : FrOk K2 μ2 (frL flk) a1.tmps n := ⟨k3'.size, fun t v ht => by
      have hm := frL_get ht
      obtain ⟨u, hu1, hu2⟩ := hk2.get _ hm
      exact (Rep.ofLow hs (List.all_eq_true.1 hk1 _ hm) (hu2 _ _ _ (k3'.val t u hu1))).later (.refl _ _) (Nat.le_trans hBK hKle)⟩
     exact kk.upd hd r1
    refine hs2 hcs2 μ2 w' _ r2 f1 fun a3 w3 hk3 => ?_
    obtain ⟨μ3, q1, q2, q3, q4⟩ := hk3
    have sub3 : ∀ i b, (hpL bl2).get i = some b → g3.H.get i = some b := fun i b hb => hh'.get (hpL_get hb)
    refine wpList_nil (hQ .normal _ _ _ _ hP ⟨μ3, q1.up hnx' sub3, ?_, ⟨q3.size, fun t v ht => (q3.val t v (hw'.get (frL_get ht))).later (.refl _ _) hnx'⟩, ?_⟩)
    ·have x2 : ExtB B (hpL bl1) μ1 w1 H2 μ2 w' := ⟨r3.names.mono hB0, r3.os, r3.tape, r3.output, r3.size, r3.block, r3.may⟩
     have x3 : ExtB B H2 μ2 w' (hpL bl2) μ3 w3 := ⟨q2.names.mono (Nat.le_trans hB0 (Nat.le_trans hBK hKle)), q2.os, q2.tape, q2.output, q2.size, q2.block, fun b hb hm => q2.may b hb (by
      obtain ⟨i, x, m1, m2, m3, m4⟩ := hm
      exact ⟨i, x, sub3 i x m1, m2, m3, m4⟩)⟩
     exact (x1.trans x2).trans x3
    ·rw [q4, Act.put_defers]; exact k4
   ·exact hr2.elim
  unfold Oper.wp
  rw [hrunop]
  rcases hcf with ⟨c, w', e, ha⟩ | ⟨f', args', w', e, hcalls⟩
  ·rw [e]; exact fin c w' ha
  ·rw [e, Oper.upon_enter]
   refine hcalls.mono ?_
   rintro e1 w2 ⟨c, rfl, ha⟩
   exact fin c w2 ha
 ·exact hr.elim
theorem GoesB.callL {call : Calls'} (hcall : CallOk P call) {region : List Oper → Fr → M Fr} {loops : Loops} {rounds : Nat} {c : Code} (i : Nat) (hc : c = .region (regId c) (regOps c).toArray false) {o : Oper} (hops : regOps c = (regOps c).take i ++ (o :: (regOps c).drop (i + 1))) (hgd : (regOps c).all (fun o => o.guard.isNone) = true)
  {cl : Call} (ho : o.op = .call cl) {fop : Operand} (hcal : cl.callee = .value fop) {d : Nat} (hdst : o.dst = some d) (hd : d < n)
  {K1 K2 : Nat} (hKle : K1 ≤ K2) {fr : Fr} {H : T ABk} {fl1 : List (Nat × AV)} {bl1 : List (Nat × ABk)} {path : List Bool}
  (hrun : PieceN K1 .normal fl1 bl1 (codeA P call region loops n rounds (regPre i c) fr ⟨H, K, [], path, True⟩))
  {f : FuncId} {fn : Func} {body : Code} (hf : P.funcs[f]? = some fn) (hb : fn.body = some body) (hname : (fn.name == "runtime.NumGoroutine") = false)
  {pre cap : List AV} (hfv : evalA (frL fl1) fop = .fn (.func f) pre cap) {B0 : Nat} (hB0 : B ≤ B0) (hBK : B0 ≤ K1) (hBB : B ≤ K) (flk : List (Nat × AV)) (hk1 : flk.all (fun p => p.2.low B0) = true) (hk2 : Ge (frL fl1) flk) {args : List AV} (hargs : pre ++ cl.args.toList.map (evalA (frL fl1)) ++ cap = args) {V : AV → T ABk → Prop}
  (hcallee : GoesB P body fn.ntmps B0 K1 K2 (frameOf args 0 .e) (hpL bl1) fun e fr' H' => (e = .ret ∨ e = .normal) ∧ ∃ vs g', resultsA P fr' fn.results.toList ⟨H', K2, [], [], True⟩ = .done vs g' ∧ g'.cs ∧ ∃ u, AV.ge (packA vs) u ∧ V u H')
  {Post : Po} (hpost : ∀ v H', V v H' → ∃ path2 fl2 bl2, PieceN K' .normal fl2 bl2 (codeA P call region loops n rounds (regPost (i + 1) c) ((frL flk).upd d (some v)) ⟨H', K2, [], path2, True⟩) ∧ Post .normal (frL fl2) (hpL bl2)) :
  GoesB P c n B K K' fr H Post := by
 have e1 : regPre i c = .region (regId c) ((regOps c).take i).toArray false := by
  rw [hc]; simp only [regPre, regId, regOps]
 have e2 : regPost (i + 1) c = .region (regId c) ((regOps c).drop (i + 1)).toArray false := by
  rw [hc]; simp only [regPost, regId, regOps]
 have gd := List.all_eq_true.1 hgd
 have g : ∀ o ∈ regOps c, o.guard = none := fun o ho => Option.isNone_iff_eq_none.1 (gd o ho)
 rw [e1] at hrun
 subst hargs
 rw [hc]
 refine GoesB.callRL hcall (id1 := regId c) (id2 := regId c) (l1 := (regOps c).take i) (l2 := (regOps c).drop (i + 1)) (o := o) (by simpa using hops) (fun o ho => g o (List.mem_of_mem_take ho)) (g o (by rw [hops]; simp)) (fun o ho => g o (List.mem_of_mem_drop ho)) ho hcal hdst hd hKle hrun hf hb hname hfv hB0 hBK hBB hk1 hk2 hcallee fun v H' hv => ?_
 obtain ⟨p, fl2, bl2, h1, h2⟩ := hpost v H' hv
 rw [e2] at h1
 exact ⟨p, fl2, bl2, h1, h2⟩
def SameM (b b' : ABk) : Prop := SameG b b' ∨ ∃ s s' l, b = .mSI s l ∧ b' = .mSI s' l
theorem SameM.owned {b b' : ABk} (h : SameM b b') : b.owned = b'.owned := by
 rcases h with h | ⟨s, s', l, rfl, rfl⟩
 ·exact h.owned
 ·rfl
theorem SameM.real {b b' : ABk} (h : SameM b b') (μ : MM) (g : Nat) : b.real μ g ↔ b'.real μ g := by
 rcases h with h | ⟨s, s', l, rfl, rfl⟩
 ·exact h.real μ g
 ·exact Iff.rfl
theorem SameM.ok {N : Nat} {μ : MM} {hp : Array Obj} {g : Nat} {b b' : ABk} (h : SameM b b') (k : BkOk N μ hp g b) : BkOk N μ hp g b' := by
 rcases h with h | ⟨s, s', l, rfl, rfl⟩
 ·exact h.ok k
 ·exact k
theorem GoesB.weakM {c : Code} {fr fr0 : Fr} {H H0 : T ABk} {Post : Po} (hf : ∀ t v, fr0.get t = some v → ∃ u, fr.get t = some u ∧ AV.ge u v) (hH : ∀ i b, H0.get i = some b → ∃ b', H.get i = some b' ∧ SameM b' b) (h : GoesB P c n B K K' fr0 H0 Post) : GoesB P c n B K K' fr H Post := by
 intro μ w a hg hfr Q hQ
 refine h μ w a ⟨fun i b hb => let ⟨b', h1, _⟩ := hH i b hb; hg.lt i b' h1, fun i b hb => let ⟨b', h1, h2⟩ := hH i b hb; h2.ok (hg.ok i b' h1), fun i b j b' hi hj ho hr hr' he => ?_⟩
  ⟨hfr.size, fun t v ht => let ⟨u, h1, h2⟩ := hf t v ht; h2 _ _ _ (hfr.val t u h1)⟩ Q fun e fr' H' a' w' hp ha => hQ e fr' H' a' w' hp ⟨?_⟩
 ·obtain ⟨b1, h1, h2⟩ := hH i b hi
  obtain ⟨b2, k1, k2⟩ := hH j b' hj
  exact hg.sep i b1 j b2 h1 k1 (by rw [h2.owned]; exact ho) ((h2.real μ i).2 hr) ((k2.real μ j).2 hr') he
 ·obtain ⟨μ', k1, k2, k3, k4⟩ := ha.of
  have may : ∀ b, May μ H0 b → May μ H b := fun b ⟨i, x, m1, m2, m3, m4⟩ => by
   obtain ⟨b', h1, h2⟩ := hH i x m1
   exact ⟨i, b', h1, by rw [h2.owned]; exact m2, (h2.real μ i).2 m3, m4⟩
  exact ⟨μ', k1, ⟨k2.names, k2.os, k2.tape, k2.output, k2.size, fun b hb hn => k2.block b hb fun hm => hn (may b hm), fun b hb hm => may b (k2.may b hb hm)⟩, k3, k4⟩
def GeM (H : T ABk) : List (Nat × ABk) → Prop
 | [] => True
 | p :: l => (∃ b, H.get p.1 = some b ∧ SameM b p.2) ∧ GeM H l
theorem GeM.get {H : T ABk} : ∀ {l : List (Nat × ABk)}, GeM H l → ∀ p ∈ l, ∃ b, H.get p.1 = some b ∧ SameM b p.2
 | q :: l, h, p, hp => by
  rcases List.mem_cons.1 hp with rfl | hp
  ·exact h.1
  ·exact GeM.get h.2 p hp
theorem GoesB.weakML {c : Code} {fr : Fr} {H : T ABk} {fl : List (Nat × AV)} {bl : List (Nat × ABk)} {Post : Po} (hf : Ge fr fl) (hH : GeM H bl) (h : GoesB P c n B K K' (frL fl) (hpL bl) Post) : GoesB P c n B K K' fr H Post :=
 h.weakM (fun t v ht => hf.get _ (frL_get ht)) fun i b hb => hH.get _ (hpL_get hb)
structure NewsG (N : Nat) (H' : T ABk) (nms : List Nat) (bs : List ABk) : Prop where
 len : nms.length = bs.length
 at' : ∀ (i : Nat) (b : ABk), bs[i]? = some b → ∃ nm b0, nms[i]? = some nm ∧ H'.get nm = some b0 ∧ SameC b0 (b.ren fun i => nms.getD (i - N) 0) ∧ b.owned = true ∧ b.lowR (N + bs.length) ∧ b.inS (fun i => N ≤ i)
 nodup : nms.Nodup
theorem newsG_ok {g : G} {μ : MM} {w w' : World} (hg : GOk g.nx μ w.heap g.H) {k K' : Nat} {Hc H' : T ABk} {μc μ' : MM} (hno : ∀ B, ¬ May μc Hc B) (hE : ExtB k Hc μc w H' μ' w') (hc : GOk K' μ' w'.heap H') {nms : List Nat} {bs : List ABk} (hn : NewsG g.nx H' nms bs)
  {g' : G} (h1 : g'.H = putNew g.H g.nx bs) (h2 : g'.nx = g.nx + bs.length) :
  GOk g'.nx (newMM μ μ' g.nx nms) w'.heap g'.H ∧ Ext g μ w g' (newMM μ μ' g.nx nms) w' := by
 have old : ∀ B, B < w.heap.size → w'.heap[B]? = w.heap[B]? := fun B hB => hE.block B hB (hno B)
 have case : ∀ i b, g'.H.get i = some b → (i < g.nx ∧ g.H.get i = some b) ∨ ∃ j nm b0, i = g.nx + j ∧ bs[j]? = some b ∧ nms[j]? = some nm ∧ H'.get nm = some b0 ∧ SameC b0 (b.ren fun i => nms.getD (i - g.nx) 0) ∧ b.owned = true ∧ b.lowR (g.nx + bs.length) ∧ b.inS (fun i => g.nx ≤ i) := fun i b hb => by
  rw [h1, putNew_get] at hb
  split at hb
  ·rename_i hi
   obtain ⟨nm, b0, k1, k2, k3, k4, k5, k6⟩ := hn.at' _ _ hb
   exact .inr ⟨i - g.nx, nm, b0, by omega, hb, k1, k2, k3, k4, k5, k6⟩
  ·exact .inl ⟨hg.lt _ _ hb, hb⟩
 have nmv : ∀ j nm, nms[j]? = some nm → nms.getD (g.nx + j - g.nx) 0 = nm := fun j nm h => by
  rw [show g.nx + j - g.nx = j by omega, List.getD_eq_getElem?_getD, h]; rfl
 have eqs : ∀ j nm, nms[j]? = some nm → (newMM μ μ' g.nx nms).blk (g.nx + j) = μ'.blk nm ∧ (newMM μ μ' g.nx nms).cap (g.nx + j) = μ'.cap nm ∧ (newMM μ μ' g.nx nms).sz (g.nx + j) = μ'.sz nm ∧ (newMM μ μ' g.nx nms).base (g.nx + j) = μ'.base nm := fun j nm h => by
  have hge : ¬ g.nx + j < g.nx := by omega
  refine ⟨?_, ?_, ?_, ?_⟩ <;> simp only [newMM, if_neg hge, nmv j nm h]
 have high : ∀ (j nm : Nat) (b0 b : ABk), nms[j]? = some nm → H'.get nm = some b0 → SameC b0 (b.ren fun i => nms.getD (i - g.nx) 0) → b.owned = true → b.real (newMM μ μ' g.nx nms) (g.nx + j) → w.heap.size ≤ (newMM μ μ' g.nx nms).blk (g.nx + j) := fun j nm b0 b e1 e2 e3 e4 e5 => by
  obtain ⟨q1, q2, q3, q4⟩ := eqs j nm e1
  rw [q1]
  refine Nat.le_of_not_lt fun hlt => hno _ (hE.may _ hlt ⟨nm, b0, e2, by rw [e3.owned, ABk.ren_owned]; exact e4, (e3.real _ _).2 ((ABk.ren_real _ _ _ _).2 ((ABk.real_eq q2 b).1 e5)), rfl⟩)
 constructor
 ·refine ⟨fun i b hb => ?_, fun i b hb => ?_, fun i b j b' hi hj ho hr hr' he => ?_⟩
  ·rw [h2]
   rcases case i b hb with ⟨h, _⟩ | ⟨j, nm, b0, rfl, h, _⟩
   ·omega
   ·have := (List.getElem?_eq_some_iff.1 h).1; omega
  ·rcases case i b hb with ⟨h, hb'⟩ | ⟨j, nm, b0, rfl, e1, e2, e3, e4, e5, e6, e7⟩
   ·have ok := hg.ok _ _ hb'
    exact ok.later newMM_lt (by omega) h fun hr => old _ (ok.lt_size hr)
   ·obtain ⟨q1, q2, q3, q4⟩ := eqs j nm e2
    have r1 : BkOk g'.nx (μ'.via fun i => nms.getD (i - g.nx) 0) w'.heap (g.nx + j) b := by
     refine BkOk.unren (σ := fun i => nms.getD (i - g.nx) 0) (μ := μ') (g' := nm) (e4.ok (hc.ok _ _ e3)) (by rw [h2]; exact e6) (fun i _ => ⟨rfl, rfl, rfl, rfl⟩) ?_ ?_ ?_ ?_ <;> simp only [MM.via, nmv j nm e2]
    refine BkOk.on (S := fun i => g.nx ≤ i) (fun i hi hl => ⟨hl, ?_⟩) ?_ e7 (fun _ => rfl) r1
    ·have hge : ¬ i < g.nx := by omega
     refine ⟨?_, ?_, ?_, ?_⟩ <;> simp only [newMM, if_neg hge, MM.via]
    ·have hge : ¬ g.nx + j < g.nx := by omega
     refine ⟨?_, ?_, ?_, ?_⟩ <;> simp only [newMM, if_neg hge, MM.via]
  ·rcases case i b hi with ⟨hlt, hb1⟩ | ⟨i1, nm, b0, rfl, e1, e2, e3, e4, e5, e6, e7⟩
   ·rw [ABk.real_later newMM_lt hlt] at hr
    rw [newMM_lt.blk i hlt] at he
    rcases case j b' hj with ⟨hlt', hb2⟩ | ⟨j1, nm', b0', rfl, e1', e2', e3', e4', e5', e6', e7'⟩
    ·rw [ABk.real_later newMM_lt hlt'] at hr'
     rw [newMM_lt.blk j hlt'] at he
     exact hg.sep _ _ _ _ hb1 hb2 ho hr hr' he
    ·have := high j1 nm' b0' b' e2' e3' e4' e5' hr'
     have := (hg.ok _ _ hb1).lt_size hr
     omega
   ·rcases case j b' hj with ⟨hlt', hb2⟩ | ⟨j1, nm', b0', rfl, e1', e2', e3', e4', e5', e6', e7'⟩
    ·rw [ABk.real_later newMM_lt hlt'] at hr'
     rw [newMM_lt.blk j hlt'] at he
     have := high i1 nm b0 b e2 e3 e4 e5 hr
     have := (hg.ok _ _ hb2).lt_size hr'
     omega
    ·obtain ⟨q1, q2, _⟩ := eqs i1 nm e2
     obtain ⟨q1', q2', _⟩ := eqs j1 nm' e2'
     have e : nm = nm' := hc.sep _ _ _ _ e3 e3' (by rw [e4.owned, ABk.ren_owned]; exact e5) ((e4.real _ _).2 ((ABk.ren_real _ _ _ _).2 ((ABk.real_eq q2 b).1 hr))) ((e4'.real _ _).2 ((ABk.ren_real _ _ _ _).2 ((ABk.real_eq q2' b').1 hr'))) (by rw [← q1, ← q1']; exact he)
     subst e
     have hi1 := (List.getElem?_eq_some_iff.1 e2).1
     have : i1 = j1 := (List.getElem?_inj hi1 hn.nodup).1 (e2.trans e2'.symm)
     rw [this]
 ·refine ⟨by omega, newMM_lt, hE.os, hE.tape, hE.output, hE.size, fun B hB _ => old B hB, fun B hB hm => ?_⟩
  obtain ⟨i, b, m1, m2, m3, m4⟩ := hm
  rcases case i b m1 with ⟨hlt, hb1⟩ | ⟨j, nm, b0, rfl, e1, e2, e3, e4, e5, e6, e7⟩
  ·rw [ABk.real_later newMM_lt hlt] at m3
   rw [newMM_lt.blk i hlt] at m4
   exact ⟨i, b, hb1, m2, m3, m4⟩
  ·have := high j nm b0 b e2 e3 e4 e5 m3
   omega
theorem readsG {f : FuncId} {fn : Func} {c : Code} (hf : P.funcs[f]? = some fn) (hb : fn.body = some c) (hname : (fn.name == "runtime.NumGoroutine") = false) {K' : Nat} {args argsC : List AV} {g g1 g' : G} {p : Prop} (kp : Keep g g1 p)
  (l : List Vw) (hl : p → ∀ v ∈ l, v.Ok g) (hargs : p → ∀ N μ (cs : List Value), Reps N μ args cs → Reps l.length (vwMM μ l) argsC cs)
  {nms : List Nat} {bs : List ABk} {v : AV}
  (h : p → GoesB P c fn.ntmps l.length l.length K' (frameOf argsC 0 .e) (hpL (vwL l 0)) fun e fr' H' => (e = .ret ∨ e = .normal) ∧ ∃ vs gr, resultsA P fr' fn.results.toList ⟨H', K', [], [], True⟩ = .done vs gr ∧ gr.cs ∧ AV.ge (packA vs) (v.ren (fun i => nms.getD (i - g.nx) 0)) ∧ NewsG g.nx H' nms bs)
  (hv : v.low (g.nx + bs.length) = true) (hS : v.inS fun i => g.nx ≤ i) (h1 : g'.H = putNew g.H g.nx bs) (h2 : g'.nx = g.nx + bs.length) (h3 : g'.cs → g1.cs) : CallIs P f args v g g' := by
 refine ⟨fun hc => (kp.2.2 (h3 hc)).1, fun hcs μ w cargs hg ha => ?_⟩
 have hp := (kp.2.2 (h3 hcs)).2
 refine (GoesB.call hf hb hname (V := fun u H' => AV.ge u (v.ren (fun i => nms.getD (i - g.nx) 0)) ∧ NewsG g.nx H' nms bs) ((h hp).mono fun e fr' H' ⟨k1, vs, gr, k2, k3, k4, k5⟩ => ⟨k1, vs, gr, k2, k3, k4, k5⟩) (vwMM μ l) w (vw_gok (hl hp) hg) (hargs hp _ _ _ ha)).mono ?_
 rintro cv w' ⟨u, μ', H', ⟨hge, hN⟩, hrep, hgk, hE⟩
 obtain ⟨q1, q2⟩ := newsG_ok hg (fun B => vw_may) hE hgk hN h1 h2
 refine ⟨newMM μ μ' g.nx nms, ?_, q1, q2⟩
 rw [h2]
 exact news_rep (hge _ _ _ hrep) hv hS
end Go.Sx
namespace Go.Sx
open M
def Ex.ends : Ex → Bool
 | .exit _ => false
 | _ => true
end Go.Sx
namespace Go.Sx
open M
def AA.eqb (a b : AA) : Bool := Nat.beq a.g b.g && Nat.beq a.i b.i && Nat.beq a.o b.o
theorem AA.eqb_of {a b : AA} (h : AA.eqb a b = true) : a.g = b.g ∧ a.i = b.i ∧ a.o = b.o := by
 simp only [AA.eqb, Bool.and_eq_true] at h
 exact ⟨Nat.eq_of_beq_eq_true h.1.1, Nat.eq_of_beq_eq_true h.1.2, Nat.eq_of_beq_eq_true h.2⟩
theorem AA.eqb_addr {a b : AA} (h : AA.eqb a b = true) (μ : MM) : μ.addr a = μ.addr b := by
 obtain ⟨h1, h2, h3⟩ := AA.eqb_of h
 simp [MM.addr, h1, h2, h3]
def beqB (a b : Bool) : Bool := bif a then b else !b
theorem beqB_of {a b : Bool} (h : beqB a b = true) : a = b := by cases a <;> cases b <;> first | rfl | cases h
def AV.eqb : AV → AV → Bool
 | .bool a, .bool b => beqB a b
 | .int _ k n, .int _ k' n' => decide (k = k') && decide (n = n')
 | .flt _ x, .flt _ y => Nat.beq x y
 | .raw _ x, .raw _ y => Nat.beq x y
 | .str _ l, .str _ l' => decide (l = l')
 | .ptr a, .ptr b => AA.eqb a b
 | .slc s own a len, .slc s' own' a' len' => beqB s s' && beqB own own' && AA.eqb a a' && Nat.beq len len'
 | .mp g, .mp g' => Nat.beq g g'
 | .nilp, .nilp => true
 | .nils, .nils => true
 | .nilm, .nilm => true
 | .cpx _ x y, .cpx _ x' y' => Nat.beq x x' && Nat.beq y y'
 | _, _ => false
theorem AV.eqb_of {a b : AV} (h : AV.eqb a b = true) : a.one = b.one ∧ ∀ N μ c, Rep N μ a c ↔ Rep N μ b c := by
 unfold AV.eqb at h
 split at h
 ·exact ⟨rfl, fun N μ c => by rw [beqB_of h]⟩
 ·simp only [Bool.and_eq_true, decide_eq_true_eq] at h
  exact ⟨rfl, fun N μ c => by simp only [Rep, h.1, h.2]⟩
 ·exact ⟨rfl, fun N μ c => by simp only [Rep, Nat.eq_of_beq_eq_true h]⟩
 ·exact ⟨rfl, fun N μ c => by simp only [Rep, Nat.eq_of_beq_eq_true h]⟩
 ·simp only [decide_eq_true_eq] at h
  exact ⟨rfl, fun N μ c => by simp only [Rep, h]⟩
 ·exact ⟨rfl, fun N μ c => by simp only [Rep, AA.eqb_addr h, (AA.eqb_of h).1]⟩
 ·simp only [Bool.and_eq_true] at h
  obtain ⟨h1, h2, h3⟩ := AA.eqb_of h.1.2
  refine ⟨rfl, fun N μ c => ?_⟩
  simp only [Rep, RepS, beqB_of h.1.1.1, beqB_of h.1.1.2, Nat.eq_of_beq_eq_true h.2, h1, h2, h3, AA.eqb_addr h.1.2]
 ·exact ⟨rfl, fun N μ c => by simp only [Rep, Nat.eq_of_beq_eq_true h]⟩
 ·exact ⟨rfl, fun N μ c => Iff.rfl⟩
 ·exact ⟨rfl, fun N μ c => Iff.rfl⟩
 ·exact ⟨rfl, fun N μ c => Iff.rfl⟩
 ·simp only [Bool.and_eq_true] at h
  exact ⟨rfl, fun N μ c => by simp only [Rep, Nat.eq_of_beq_eq_true h.1, Nat.eq_of_beq_eq_true h.2]⟩
 ·cases h
def eqbs : List AV → List AV → Bool
 | [], [] => true
 | a :: l, b :: l' => AV.eqb a b && eqbs l l'
 | _, _ => false
theorem eqbs_of : ∀ {l l' : List AV}, eqbs l l' = true → l.length = l'.length ∧ ∀ (o : Nat) (v : AV), l'[o]? = some v → ∃ u, l[o]? = some u ∧ AV.eqb u v = true
 | [], [], _ => ⟨rfl, fun o v h => by simp at h⟩
 | [], _ :: _, h => by cases h
 | _ :: _, [], h => by cases h
 | a :: l, b :: l', h => by
  simp only [eqbs, Bool.and_eq_true] at h
  obtain ⟨h1, h2⟩ := eqbs_of h.2
  refine ⟨by simp [h1], fun o v hv => ?_⟩
  cases o with
  | zero => simp at hv; subst hv; exact ⟨a, rfl, h.1⟩
  | succ o => simpa using h2 o v (by simpa using hv)
theorem eqbs_of' : ∀ {l l' : List AV}, eqbs l l' = true → ∀ (o : Nat) (u : AV), l[o]? = some u → ∃ v, l'[o]? = some v ∧ AV.eqb u v = true
 | [], [], _ => fun o v h => by simp at h
 | [], _ :: _, h => by cases h
 | _ :: _, [], h => by cases h
 | a :: l, b :: l', h => by
  simp only [eqbs, Bool.and_eq_true] at h
  intro o u hu
  cases o with
  | zero => simp at hu; subst hu; exact ⟨b, rfl, h.1⟩
  | succ o => simpa using eqbs_of' h.2 o u (by simpa using hu)
def rowsEq (r r' : Nat → List AV) : Nat → Bool
 | 0 => true
 | n + 1 => rowsEq r r' n && eqbs (r n) (r' n)
theorem rowsEq_of {r r' : Nat → List AV} : ∀ {n : Nat}, rowsEq r r' n = true → ∀ i, i < n → eqbs (r i) (r' i) = true
 | 0, _, i, hi => absurd hi (by omega)
 | n + 1, h, i, hi => by
  simp only [rowsEq, Bool.and_eq_true] at h
  rcases Nat.lt_or_ge i n with k | k
  ·exact rowsEq_of h.1 i k
  ·rw [show i = n by omega]; exact h.2
def ABk.eqb : ABk → ABk → Bool
 | .cells own sz n c, .cells own' sz' n' c' => beqB own own' && Nat.beq sz sz' && Nat.beq n n' && rowsEq c.row c'.row n
 | .mSI _ l, .mSI _ l' => decide (l = l')
 | .mII _ l, .mII _ l' => decide (l = l')
 | _, _ => false
theorem RowOk.eqb {N : Nat} {μ : MM} {r r' : List AV} {sz : Nat} {cur : Array Value} {base : Nat} (h : eqbs r r' = true) : RowOk N μ r sz cur base ↔ RowOk N μ r' sz cur base := by
 obtain ⟨h1, h2⟩ := eqbs_of h
 have h3 := eqbs_of' h
 constructor
 ·rintro ⟨k1, k2⟩
  refine ⟨by omega, fun o v hv => ?_⟩
  obtain ⟨u, hu, he⟩ := h2 o v hv
  obtain ⟨e1, e2⟩ := AV.eqb_of he
  obtain ⟨q0, c, q1, q2⟩ := k2 o u hu
  exact ⟨by rw [← e1]; exact q0, c, q1, (e2 _ _ _).1 q2⟩
 ·rintro ⟨k1, k2⟩
  refine ⟨by omega, fun o u hu => ?_⟩
  obtain ⟨v, hv, he⟩ := h3 o u hu
  obtain ⟨e1, e2⟩ := AV.eqb_of he
  obtain ⟨q0, c, q1, q2⟩ := k2 o v hv
  exact ⟨by rw [e1]; exact q0, c, q1, (e2 _ _ _).2 q2⟩
theorem ABk.eqb_of {b b' : ABk} (h : ABk.eqb b b' = true) : b.owned = b'.owned ∧ (∀ μ i, b.real μ i ↔ b'.real μ i) ∧ ∀ N μ hp i, BkOk N μ hp i b ↔ BkOk N μ hp i b' := by
 unfold ABk.eqb at h
 split at h
 ·simp only [Bool.and_eq_true] at h
  obtain ⟨⟨⟨h1, h2⟩, h3⟩, h4⟩ := h
  obtain rfl := beqB_of h1
  obtain rfl := Nat.eq_of_beq_eq_true h2
  obtain rfl := Nat.eq_of_beq_eq_true h3
  refine ⟨rfl, fun μ i => Iff.rfl, fun N μ hp i => ?_⟩
  have h5 := rowsEq_of h4
  simp only [BkOk]
  constructor
  ·rintro ⟨k1, k2, k3⟩
   refine ⟨k1, k2, fun hr => ?_⟩
   obtain ⟨cur, ty, fz, q1, q2, q3, q4⟩ := k3 hr
   exact ⟨cur, ty, fz, q1, q2, q3, fun j hj => (RowOk.eqb (h5 j hj)).1 (q4 j hj)⟩
  ·rintro ⟨k1, k2, k3⟩
   refine ⟨k1, k2, fun hr => ?_⟩
   obtain ⟨cur, ty, fz, q1, q2, q3, q4⟩ := k3 hr
   exact ⟨cur, ty, fz, q1, q2, q3, fun j hj => (RowOk.eqb (h5 j hj)).2 (q4 j hj)⟩
 ·simp only [decide_eq_true_eq] at h
  subst h
  exact ⟨rfl, fun μ i => Iff.rfl, fun N μ hp i => Iff.rfl⟩
 ·simp only [decide_eq_true_eq] at h
  subst h
  exact ⟨rfl, fun μ i => Iff.rfl, fun N μ hp i => Iff.rfl⟩
 ·cases h
def bears (H : T ABk) : List (Nat × ABk) → Bool
 | [] => true
 | p :: l => (match H.get p.1 with | some b => ABk.eqb b p.2 | none => false) && bears H l
theorem bears_of {H : T ABk} : ∀ {l : List (Nat × ABk)}, bears H l = true → ∀ p ∈ l, ∃ b, H.get p.1 = some b ∧ ABk.eqb b p.2 = true
 | [], _, p, hp => by cases hp
 | q :: l, h, p, hp => by
  simp only [bears, Bool.and_eq_true] at h
  rcases List.mem_cons.1 hp with rfl | hp
  ·have h1 := h.1
   split at h1
   ·rename_i b hb; exact ⟨b, hb, h1⟩
   ·cases h1
  ·exact bears_of h.2 p hp
theorem MM.upto.symm {N : Nat} {μ μ' : MM} (h : MM.upto N μ μ') : MM.upto N μ' μ :=
 ⟨fun g hg => (h.blk g hg).symm, fun g hg => (h.cap g hg).symm, fun g hg => (h.sz g hg).symm, fun g hg => (h.base g hg).symm⟩
theorem CallIs.frame {P : Program} {f : FuncId} {args args' : List AV} {v : AV} {bl : List (Nat × ABk)} {K : Nat} {path : List Bool} {g0 g : G} (h : CallIs P f args v ⟨hpL bl, K, [], path, True⟩ g0) (hcs : g0.cs) (hv : v.low 0 = true)
  (hlow : ∀ p ∈ bl, p.1 < K ∧ p.2.lowR K) (haft : bears g0.H bl = true) (hK : K ≤ g.nx) (hsub : bears g.H bl = true) (hA : ∀ μ cs, Reps g.nx μ args' cs → Reps K μ args cs) : CallIs P f args' v g g := by
 refine ⟨id, fun _ μ w cargs hg ha => ?_⟩
 have S : ∀ i b, (hpL bl).get i = some b → i < K ∧ b.lowR K ∧ ∃ b1, g.H.get i = some b1 ∧ ABk.eqb b1 b = true := fun i b hb => by
  have hm := hpL_get hb
  exact ⟨(hlow _ hm).1, (hlow _ hm).2, bears_of hsub _ hm⟩
 have hg0 : GOk K μ w.heap (hpL bl) := by
  refine ⟨fun i b hb => (S i b hb).1, fun i b hb => ?_, fun i b j b' hi hj ho hr hr' he => ?_⟩
  ·obtain ⟨h1, h2, b1, h3, h4⟩ := S i b hb
   exact (((ABk.eqb_of h4).2.2 _ _ _ _).1 (hg.ok _ _ h3)).lowB h2 (.refl _ _) h1 (Nat.le_refl _) fun _ => rfl
  ·obtain ⟨_, _, b1, h3, h4⟩ := S i b hi
   obtain ⟨_, _, b2, k3, k4⟩ := S j b' hj
   obtain ⟨q1, q2, _⟩ := ABk.eqb_of h4
   obtain ⟨r1, r2, _⟩ := ABk.eqb_of k4
   exact hg.sep i b1 j b2 h3 k3 (q1.trans ho) ((q2 _ _).2 hr) ((r2 _ _).2 hr') he
 have may1 : ∀ B, May μ (hpL bl) B → ∃ j b b1, (hpL bl).get j = some b ∧ g.H.get j = some b1 ∧ b1.owned = true ∧ b1.real μ j ∧ μ.blk j = B := fun B ⟨j, b, m1, m2, m3, m4⟩ => by
  obtain ⟨_, _, b1, h3, h4⟩ := S j b m1
  obtain ⟨q1, q2, _⟩ := ABk.eqb_of h4
  exact ⟨j, b, b1, m1, h3, q1.trans m2, (q2 _ _).2 m3, m4⟩
 have key : ∀ c w', After ⟨hpL bl, K, [], path, True⟩ μ w g0 v c w' → After g μ w g v c w' := by
  rintro c w' ⟨μ', hr, hg', hE⟩
  refine ⟨μ, hr.bare hv, ⟨hg.lt, fun i b1 hb1 => ?_, hg.sep⟩, ?_⟩
  ·cases hbl : (hpL bl).get i with
   | none =>
    refine (hg.ok i b1 hb1).later (.refl _ _) (Nat.le_refl _) (hg.lt _ _ hb1) fun hre => hE.block _ ((hg.ok i b1 hb1).lt_size hre) fun hm => ?_
    obtain ⟨j, b, b2, m1, m2, m3, m4, m5⟩ := may1 _ hm
    have := hg.sep j b2 i b1 m2 hb1 m3 m4 hre m5
    subst this
    rw [hbl] at m1; cases m1
   | some b =>
    obtain ⟨h1, h2, b2, h3, h4⟩ := S i b hbl
    rw [hb1] at h3
    cases h3
    obtain ⟨b3, k3, k4⟩ := bears_of haft _ (hpL_get hbl)
    have q := ((ABk.eqb_of k4).2.2 _ _ _ _).1 (hg'.ok _ _ k3)
    exact ((ABk.eqb_of h4).2.2 _ _ _ _).2 (q.lowB h2 hE.names.symm h1 hK fun _ => by rw [hE.names.blk i h1])
  ·exact ⟨Nat.le_refl _, .refl _ _, hE.os, hE.tape, hE.output, hE.size, fun B hB hn => hE.block B hB fun hm => hn (by obtain ⟨j, b, b1, m1, m2, m3, m4, m5⟩ := may1 B hm; exact ⟨j, b1, m2, m3, m4, m5⟩), fun B hB hm => hm⟩
 rcases h.2 hcs μ w cargs hg0 (hA _ _ ha) with ⟨c, w', e, r⟩ | ⟨f', a', w', e, r⟩
 ·exact .inl ⟨c, w', e, key _ _ r⟩
 ·exact .inr ⟨f', a', w', e, r.mono fun e w'' ⟨c, q, r⟩ => ⟨c, q, key _ _ r⟩⟩
theorem CallIs.rep {P : Program} {f : FuncId} {args : List AV} {v v' : AV} {g g' : G} (h : CallIs P f args v g g') (hv : ∀ N μ c, Rep N μ v c → Rep N μ v' c) : CallIs P f args v' g g' := by
 refine ⟨h.1, fun hc μ w cargs hg ha => ?_⟩
 rcases h.2 hc μ w cargs hg ha with ⟨c, w', e, μ', h1, h2, h3⟩ | ⟨f', a', w', e, r⟩
 ·exact .inl ⟨c, w', e, μ', hv _ _ _ h1, h2, h3⟩
 ·exact .inr ⟨f', a', w', e, r.mono fun e w'' ⟨c, q, μ', h1, h2, h3⟩ => ⟨c, q, μ', hv _ _ _ h1, h2, h3⟩⟩
def allB : List (Bool × Bool) → Bool
 | [] => true
 | p :: l => beqB p.1 p.2 && allB l
theorem Reps.eqbs {N : Nat} {μ : MM} : ∀ {l l' : List AV} {cs : List Value}, Sx.eqbs l l' = true → Reps N μ l cs → Reps N μ l' cs
 | [], [], cs, _, h => h
 | [], _ :: _, _, h, _ => by cases h
 | _ :: _, [], _, h, _ => by cases h
 | a :: l, b :: l', cs, h, hr => by
  simp only [Sx.eqbs, Bool.and_eq_true] at h
  simp only [Reps] at hr ⊢
  obtain ⟨c, r, e, h1, h2⟩ := hr
  exact ⟨c, r, e, ((AV.eqb_of h.1).2 _ _ _).1 h1, Reps.eqbs h.2 h2⟩
end Go.Sx
namespace Go.Sx
open M
variable {P : Program} {n B K K' : Nat}
def LessR (b0 b : ABk) : Prop := SameC b0 b ∨ ∃ own sz m m' c c', b0 = .cells own sz m c ∧ b = .cells own sz m' c' ∧ own = true ∧ m' ≤ m ∧ ∀ i, i < m' → c.row i = c'.row i
theorem LessR.owned {b0 b : ABk} (h : LessR b0 b) : b0.owned = b.owned := by
 rcases h with h | ⟨own, sz, m, m', c, c', rfl, rfl, _⟩
 ·exact h.owned
 ·rfl
theorem LessR.real' {b0 b : ABk} (h : LessR b0 b) {μ : MM} {g : Nat} (hr : b.real μ g) : b0.real μ g := by
 rcases h with h | ⟨own, sz, m, m', c, c', rfl, rfl, ho, hm, _⟩
 ·exact (h.real μ g).2 hr
 ·simp only [ABk.real] at hr ⊢
  rcases hr with hr | hr
  ·exact .inl (by omega)
  ·exact .inr hr
theorem LessR.ok {b0 b : ABk} (h : LessR b0 b) {N : Nat} {μ : MM} {hp : Array Obj} {g : Nat} (k : BkOk N μ hp g b0) : BkOk N μ hp g b := by
 rcases h with h | ⟨own, sz, m, m', c, c', rfl, rfl, ho, hm, hr⟩
 ·exact h.ok k
 ·refine ⟨k.1, k.2.1, fun hre => ?_⟩
  obtain ⟨cur, ty, fz, h1, h2, h3, h4⟩ := k.2.2 (by rcases hre with hre | hre; exact .inl (by omega); exact .inr hre)
  refine ⟨cur, ty, fz, h1, Nat.le_trans (Nat.add_le_add_left (Nat.mul_le_mul_right _ hm) _) h2, h3, fun i hi => ?_⟩
  rw [← hr i hi]
  exact h4 i (by omega)
def LessH (H : T ABk) : List (Nat × ABk) → Prop
 | [] => True
 | p :: l => (∃ b0, H.get p.1 = some b0 ∧ LessR b0 p.2) ∧ LessH H l
theorem LessH.get {H : T ABk} : ∀ {l : List (Nat × ABk)}, LessH H l → ∀ p ∈ l, ∃ b0, H.get p.1 = some b0 ∧ LessR b0 p.2
 | q :: l, h, p, hp => by
  rcases List.mem_cons.1 hp with rfl | hp
  ·exact h.1
  ·exact LessH.get h.2 p hp
theorem GoesB.less {c : Code} {fr : Fr} {H : T ABk} {Post Post' : Po} (h : GoesB P c n B K K' fr H Post) (k : ∀ e fr' H', Post e fr' H' → ∃ bl, LessH H' bl ∧ Post' e fr' (hpL bl)) : GoesB P c n B K K' fr H Post' :=
 fun μ w a hg hf Q hQ => h μ w a hg hf Q fun e fr' H' a' w' hp ha => by
  obtain ⟨bl, h1, h2⟩ := k _ _ _ hp
  obtain ⟨μ', k1, k2, k3, k4⟩ := ha.of
  have G : ∀ i b, (hpL bl).get i = some b → ∃ b0, H'.get i = some b0 ∧ LessR b0 b := fun i b hb => h1.get _ (hpL_get hb)
  refine hQ e fr' _ a' w' h2 ⟨μ', ⟨fun i b hb => ?_, fun i b hb => ?_, fun i b j b' hi hj ho hr hr' he => ?_⟩, ⟨k2.names, k2.os, k2.tape, k2.output, k2.size, k2.block, fun b hb hm => k2.may b hb ?_⟩, k3, k4⟩
  ·obtain ⟨b0, q1, q2⟩ := G i b hb
   exact k1.lt _ _ q1
  ·obtain ⟨b0, q1, q2⟩ := G i b hb
   exact q2.ok (k1.ok _ _ q1)
  ·obtain ⟨b0, q1, q2⟩ := G i b hi
   obtain ⟨b1, r1, r2⟩ := G j b' hj
   exact k1.sep _ _ _ _ q1 r1 (q2.owned.trans ho) (q2.real' hr) (r2.real' hr') he
  ·obtain ⟨i, x, m1, m2, m3, m4⟩ := hm
   obtain ⟨b0, q1, q2⟩ := G i x m1
   exact ⟨i, b0, q1, q2.owned.trans m2, q2.real' m3, m4⟩
end Go.Sx
