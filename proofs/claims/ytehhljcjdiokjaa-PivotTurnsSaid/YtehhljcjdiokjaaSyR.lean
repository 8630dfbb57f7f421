/- PIECES OF CODE: runs of the engine, told by lists. -/
import Derived.Test.YtehhljcjdiokjaaSyQ
set_option linter.unusedSimpArgs false
set_option linter.unusedVariables false
noncomputable section
namespace Go.Sx
open M

theorem ct {α : Sort _} {b : Bool} {x y : α} (h : b = true) : cond b x y = x := by rw [h]; rfl
theorem cf {α : Sort _} {b : Bool} {x y : α} (h : b = false) : cond b x y = y := by rw [h]; rfl
theorem cond_elim {b : Bool} {A B C : Prop} (h : cond b A B) (ha : b = true → A → C) (hb : b = false → B → C) : C := by
  cases b
  · exact hb rfl h
  · exact ha rfl h
/-- a part of a code: by 0 the one, by 1 the other of two; of a block or loop what is in it -/
def nav : List Nat → Code → Code
  | [], c => c
  | i :: l, .seq a b => bif Nat.beq i 0 then nav l a else nav l b
  | i :: l, .cond _ a b => bif Nat.beq i 0 then nav l a else nav l b
  | _ :: l, .block _ c => nav l c
  | _ :: l, .loop c => nav l c
  | _, c => c
def bodyOf (f : Func) : Code := f.body.getD .skip
def pieceN (K' : Nat) (e : Ex) (fl : List (Nat × AV)) (hl : List (Nat × ABk)) : Res (Ex × Fr) → Prop
  | .done r g => r.1 = e ∧ Wants r.2 fl ∧ WantsH g.H hl ∧ Nat.ble g.nx K' = true ∧ g.cs
  | _ => False
/-- the run of a piece ends so: some temporaries, some blocks, no more names than K' -/
structure PieceN (K' : Nat) (e : Ex) (fl : List (Nat × AV)) (hl : List (Nat × ABk)) (r : Res (Ex × Fr)) : Prop where
  of : pieceN K' e fl hl r
section
variable {P : Program} {n B K K' : Nat}
theorem GoesB.runN {call : Calls'} (hcall : CallOk P call) {region : List Oper → Fr → M Fr} {loops : Loops} {rounds : Nat} (hreg : RegionOk P region n) {c : Code} (hl : LoopsIn P loops n c) {fr : Fr} {H : T ABk} {path : List Bool}
    {e : Ex} {fl : List (Nat × AV)} {bl : List (Nat × ABk)} (h : PieceN K' e fl bl (codeA P call region loops n rounds c fr ⟨H, K, [], path, True⟩)) (hB : B ≤ K) :
    GoesB P c n B K K' fr H fun e' fr' H' => e' = e ∧ fr' = frL fl ∧ H' = hpL bl := by
  have h := h.of
  generalize hr : codeA P call region loops n rounds c fr ⟨H, K, [], path, True⟩ = res at h
  unfold pieceN at h
  split at h
  · rename_i r g
    obtain ⟨rfl, hw, hh, hnx, hcs⟩ := h
    have hnx := Nat.le_of_ble_eq_true hnx
    obtain ⟨_, hs⟩ := codeA_sound hcall hreg c hl _ _ _ _ hr
    intro μ w a hg hf Q hQ
    refine hs hcs μ w a hg hf Q fun a' w' hk => hQ r.1 _ _ a' w' ⟨rfl, rfl, rfl⟩ ⟨?_⟩
    obtain ⟨μ', k1, k2, k3, k4⟩ := hk
    have sub : ∀ i b, (hpL bl).get i = some b → g.H.get i = some b := fun i b hb => hh.get (hpL_get hb)
    refine ⟨μ', k1.up hnx sub, ?_, ⟨k3.size, fun t v ht => (k3.val t v (hw.get (frL_get ht))).later (.refl _ _) hnx⟩, k4⟩
    exact ⟨k2.names.mono hB, k2.os, k2.tape, k2.output, k2.size, k2.block, fun b hb hm => k2.may b hb (by
        obtain ⟨i, x, m1, m2, m3, m4⟩ := hm
        exact ⟨i, x, sub i x m1, m2, m3, m4⟩)⟩
  · exact h.elim
theorem AV.ge.refl (v : AV) : AV.ge v v := fun _ _ _ h => h
theorem AV.ge.int (s s' : Bool) (k : IntKind) (n : Int) : AV.ge (.int s k n) (.int s' k n) := fun _ _ _ h => by simpa only [Rep] using h
theorem AV.ge.int' (s s' : Bool) (k : IntKind) {n n' : Int} (e : n = n') : AV.ge (.int s k n) (.int s' k n') := e ▸ AV.ge.int s s' k n
theorem AV.ge.bool (b : Bool) : AV.ge (.bool b) (.sbool b) := fun _ _ _ h => by simpa only [Rep] using h
theorem AV.ge.bool' {b b' : Bool} (e : b = b') : AV.ge (.bool b) (.sbool b') := e ▸ AV.ge.bool b
theorem AV.ge.sbool' {b b' : Bool} (e : b = b') : AV.ge (.sbool b) (.sbool b') := e ▸ AV.ge.refl _
theorem AV.ge.sboolb {b b' : Bool} (e : b = b') : AV.ge (.sbool b) (.bool b') := fun _ _ _ h => by subst e; simpa only [Rep] using h
theorem AV.ge.flt' (s s' : Bool) {x x' : Nat} (e : x = x') : AV.ge (.flt s x) (.flt s' x') := fun _ _ _ h => by subst e; simpa only [Rep] using h
theorem AV.ge.cpx' (s s' : Bool) {x x' y y' : Nat} (e : x = x') (e' : y = y') : AV.ge (.cpx s x y) (.cpx s' x' y') := fun _ _ _ h => by subst e e'; simpa only [Rep] using h
theorem AV.ge.str' (s s' : Bool) {l l' : List UInt8} (e : l = l') : AV.ge (.str s l) (.str s' l') := fun _ _ _ h => by subst e; simpa only [Rep] using h
theorem AV.ge.nils (a : AA) : AV.ge (.slc false false a 0) (.slc true false a 0) := fun _ _ _ h => by
  simp only [Rep, RepS] at h ⊢
  obtain ⟨h1, A, C, h2, h3, h4, h5, h6⟩ := h
  exact ⟨h1, A, C, h2, h3, h4, fun h => (by cases h), h6⟩
theorem AV.ge.slc (s own : Bool) (a : AA) {len len' : Nat} (e : len = len') : AV.ge (.slc s own a len) (.slc true own a len') := fun _ _ _ h => by
  subst e
  simp only [Rep, RepS] at h ⊢
  obtain ⟨h1, A, C, h2, h3, h4, h5, h6⟩ := h
  exact ⟨h1, A, C, h2, h3, h4, fun h => (by cases h), h6⟩
def Ge (fr : Fr) : List (Nat × AV) → Prop
  | [] => True
  | p :: l => (∃ u, fr.get p.1 = some u ∧ AV.ge u p.2) ∧ Ge fr l
theorem Ge.get {fr : Fr} : ∀ {l : List (Nat × AV)}, Ge fr l → ∀ p ∈ l, ∃ u, fr.get p.1 = some u ∧ AV.ge u p.2
  | q :: l, h, p, hp => by
    rcases List.mem_cons.1 hp with rfl | hp
    · exact h.1
    · exact Ge.get h.2 p hp
def GeH (H : T ABk) : List (Nat × ABk) → Prop
  | [] => True
  | p :: l => (∃ b, H.get p.1 = some b ∧ SameC b p.2) ∧ GeH H l
theorem GeH.get {H : T ABk} : ∀ {l : List (Nat × ABk)}, GeH H l → ∀ p ∈ l, ∃ b, H.get p.1 = some b ∧ SameC b p.2
  | q :: l, h, p, hp => by
    rcases List.mem_cons.1 hp with rfl | hp
    · exact h.1
    · exact GeH.get h.2 p hp
theorem GoesB.weakL {c : Code} {fr : Fr} {H : T ABk} {fl : List (Nat × AV)} {bl : List (Nat × ABk)} {Post : Po} (hf : Ge fr fl) (hH : GeH H bl) (h : GoesB P c n B K K' (frL fl) (hpL bl) Post) : GoesB P c n B K K' fr H Post :=
  h.weakR (fun t v ht => hf.get _ (frL_get ht)) fun i b hb => hH.get _ (hpL_get hb)
/-- less is told behind -/
theorem AtB.weakL {H : T ABk} {μ : MM} {w w' : World} {H' : T ABk} {fr' : Fr} {a a' : Act} {fl : List (Nat × AV)} {bl : List (Nat × ABk)} (hf : Ge fr' fl) (hH : GeH H' bl) (h : AtB n B K H μ w H' fr' a a' w') : AtB n B K H μ w (hpL bl) (frL fl) a a' w' := by
  obtain ⟨μ', k1, k2, k3, k4⟩ := h.of
  have G := fun i b (hb : (hpL bl).get i = some b) => hH.get _ (hpL_get hb)
  refine ⟨μ', ⟨fun i b hb => ?_, fun i b hb => ?_, fun i b j b' hi hj ho hr hr' he => ?_⟩, ⟨k2.names, k2.os, k2.tape, k2.output, k2.size, k2.block, fun b hb hm => k2.may b hb ?_⟩, ⟨k3.size, fun t v ht => ?_⟩, k4⟩
  · obtain ⟨b0, h1, h2⟩ := G i b hb; exact k1.lt i b0 h1
  · obtain ⟨b0, h1, h2⟩ := G i b hb; exact h2.ok (k1.ok i b0 h1)
  · obtain ⟨b0, h1, h2⟩ := G i b hi
    obtain ⟨b1, l1, l2⟩ := G j b' hj
    exact k1.sep i b0 j b1 h1 l1 (by rw [h2.owned]; exact ho) ((h2.real _ _).2 hr) ((l2.real _ _).2 hr') he
  · obtain ⟨i, x, m1, m2, m3, m4⟩ := hm
    obtain ⟨b0, h1, h2⟩ := G i x m1
    exact ⟨i, b0, h1, by rw [h2.owned]; exact m2, (h2.real _ _).2 m3, m4⟩
  · obtain ⟨u, h1, h2⟩ := hf.get _ (frL_get ht)
    exact h2 _ _ _ (k3.val t u h1)
theorem GoesB.post {c : Code} {fr : Fr} {H : T ABk} {Post Post' : Po} (h : GoesB P c n B K K' fr H Post) (k : ∀ e fr' H', Post e fr' H' → ∃ fl bl, Ge fr' fl ∧ GeH H' bl ∧ Post' e (frL fl) (hpL bl)) : GoesB P c n B K K' fr H Post' :=
  fun μ w a hg hf Q hQ => h μ w a hg hf Q fun e fr' H' a' w' hp ha => by
    obtain ⟨fl, bl, h1, h2, h3⟩ := k _ _ _ hp
    exact hQ e _ _ a' w' h3 (ha.weakL h1 h2)
/-- other names, by lists -/
def RenF (K' : Nat) (σ : Nat → Nat) (fr : Fr) : List (Nat × AV) → Prop
  | [] => True
  | p :: l => (∃ u, fr.get p.1 = some u ∧ AV.ge u (p.2.ren σ) ∧ p.2.low K' = true) ∧ RenF K' σ fr l
def RenH (K' : Nat) (σ : Nat → Nat) (H : T ABk) : List (Nat × ABk) → Prop
  | [] => True
  | p :: l => (∃ b, H.get (σ p.1) = some b ∧ SameC b p.2 ∧ p.2.bare ∧ p.1 < K') ∧ RenH K' σ H l
theorem RenF.get {σ : Nat → Nat} {fr : Fr} : ∀ {l : List (Nat × AV)}, RenF K' σ fr l → ∀ p ∈ l, ∃ u, fr.get p.1 = some u ∧ AV.ge u (p.2.ren σ) ∧ p.2.low K' = true
  | q :: l, h, p, hp => by
    rcases List.mem_cons.1 hp with rfl | hp
    · exact h.1
    · exact RenF.get h.2 p hp
theorem RenH.get {σ : Nat → Nat} {H : T ABk} : ∀ {l : List (Nat × ABk)}, RenH K' σ H l → ∀ p ∈ l, ∃ b, H.get (σ p.1) = some b ∧ SameC b p.2 ∧ p.2.bare ∧ p.1 < K'
  | q :: l, h, p, hp => by
    rcases List.mem_cons.1 hp with rfl | hp
    · exact h.1
    · exact RenH.get h.2 p hp
theorem GoesB.renL {K'' : Nat} {c : Code} {fr : Fr} {H : T ABk} {Post Post' : Po} (h : GoesB P c n B K K' fr H Post)
    (k : ∀ e fr' H', Post e fr' H' → ∃ σ fl bl, (∀ g, g < B → σ g = g) ∧ RenF K'' σ fr' fl ∧ RenH K'' σ H' bl ∧ (∀ i j, i < K'' → j < K'' → σ i = σ j → i = j) ∧ Post' e (frL fl) (hpL bl)) : GoesB P c n B K K'' fr H Post' := by
  intro μ w a hg hf Q hQ
  refine h μ w a hg hf Q fun e fr' H' a' w' hp ha => ?_
  obtain ⟨σ, fl, bl, hk, hF, hB, hinj, hp'⟩ := k _ _ _ hp
  refine hQ e _ _ a' w' hp' ⟨?_⟩
  obtain ⟨μ', k1, k2, k3, k4⟩ := ha.of
  have G := fun i b (hb : (hpL bl).get i = some b) => hB.get _ (hpL_get hb)
  refine ⟨μ'.via σ, ⟨fun i b hb => ?_, fun i b hb => ?_, fun i b j b' hi hj ho hr hr' he => ?_⟩, ⟨⟨fun g hg => ?_, fun g hg => ?_, fun g hg => ?_, fun g hg => ?_⟩, k2.os, k2.tape, k2.output, k2.size, k2.block, fun b hb hm => k2.may b hb ?_⟩, ⟨k3.size, fun t v ht => ?_⟩, k4⟩
  · obtain ⟨b0, h1, h2, h3, h4⟩ := G i b hb; exact h4
  · obtain ⟨b0, h1, h2, h3, h4⟩ := G i b hb
    exact (h2.ok (k1.ok _ _ h1)).bare h3 rfl rfl rfl rfl
  · obtain ⟨b0, h1, h2, h3, h4⟩ := G i b hi
    obtain ⟨b1, l1, l2, l3, l4⟩ := G j b' hj
    exact hinj i j h4 l4 (k1.sep _ _ _ _ h1 l1 (by rw [h2.owned]; exact ho) ((h2.real _ _).2 ((ABk.real_eq rfl b).1 hr)) ((l2.real _ _).2 ((ABk.real_eq rfl b').1 hr')) he)
  · show μ'.blk (σ g) = _; rw [hk g hg]; exact k2.names.blk g hg
  · show μ'.cap (σ g) = _; rw [hk g hg]; exact k2.names.cap g hg
  · show μ'.sz (σ g) = _; rw [hk g hg]; exact k2.names.sz g hg
  · show μ'.base (σ g) = _; rw [hk g hg]; exact k2.names.base g hg
  · obtain ⟨i, x, m1, m2, m3, m4⟩ := hm
    obtain ⟨b0, h1, h2, h3, h4⟩ := G i x m1
    exact ⟨σ i, b0, h1, by rw [h2.owned]; exact m2, (h2.real _ _).2 ((ABk.real_eq rfl x).1 m3), m4⟩
  · obtain ⟨u, h1, h2, h3⟩ := hF.get _ (frL_get ht)
    exact (h2 _ _ _ (k3.val t u h1)).unren h3
end
end Go.Sx
