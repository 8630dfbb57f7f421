/- THE ENGINE, part 3: an interpreter of the program's code over abstract values, and its proof. -/
import Derived.Test.YtgjdeclenlgaeaaSm2
import Derived.Defers
noncomputable section
set_option linter.unusedSimpArgs false
set_option linter.unusedVariables false
namespace Go.Sx
open M
variable {P : Program} {n B K K' : Nat}
def aF.mJ (N : Nat) : aF → Prop
 | .cells _ _ m c => ∀ i, i < m → ∀ v, v ∈ c.row i → v.low N = true
 | _ => True
theorem bY.V3 {N N' : Nat} {μ μ' : MM} {hp hp' : Array Obj} {g : Nat} {b : aF} (r : bY N μ hp g b) (hl : b.mJ K) (hu : MM.upto K μ μ') (hg : g < K) (hK : K ≤ N') (hB : b.real μ g → hp'[μ.blk g]? = hp[μ.blk g]?) : bY N' μ' hp' g b := by
 have r1 : bY K μ hp g b := by
  cases b with
  | cells own sz m c =>
   refine ⟨r.1, r.2.1, fun hr => ?_⟩
   obtain ⟨cur, ty, fz, h1, h2, h3, h4⟩ := r.2.2 hr
   refine ⟨cur, ty, fz, h1, h2, h3, fun i hi => ⟨(h4 i hi).1, fun o v hv => ?_⟩⟩
   obtain ⟨k1, cv, k2, k3⟩ := (h4 i hi).2 o v hv
   exact ⟨k1, cv, k2, Rep.lY (.refl _ _) (fun _ _ => rfl) (hl i hi v (List.mem_of_getElem? hv)) k3⟩
  | _ => exact r
 exact r1.later hu hK hg hB
theorem Jz {H H0 H0' H' : T aF} {μ μ' : MM} {w w' : World} (hg : dP K μ w.heap H) (hsub : ∀ i b, H0.get i = some b → H.get i = some b)
  (hlow : ∀ i b, H.get i = some b → H0.get i = none → i < B ∧ b.mJ B) (hB : B ≤ K')
  (hc : ∀ i b, H'.get i = some b → (H0'.get i = some b ∧ (b.owned = true ∨ (i < B ∧ ∃ b0, H0.get i = some b0 ∧ ∀ μ, b.real μ i → b0.real μ i))) ∨ (H0.get i = none ∧ H.get i = some b))
  (k1 : dP K' μ' w'.heap H0') (k2 : mF B H0 μ w H0' μ' w') : dP K' μ' w'.heap H' ∧ mF B H μ w H' μ' w' := by
 have SQ : ∀ i b, H.get i = some b → H0.get i = none → b.real μ i → ¬ May μ H0 (μ.blk i) := by
  rintro i b hb h0 hr ⟨g, b0, m1, m2, m3, m4⟩
  have := hg.sep g b0 i b (hsub _ _ m1) hb m2 m3 hr m4
  subst this
  rw [m1] at h0; cases h0
 have SS : ∀ i b, H.get i = some b → H0.get i = none → b.real μ i → ¬ May μ' H0' (μ.blk i) := fun i b hb h0 hr hm =>
  SQ i b hb h0 hr (k2.may _ ((hg.ok i b hb).lt_size hr) hm)
 have fzz : ∀ b o, μ'.fz b = some o → ∀ g (bk : aF), H'.get g = some bk → bk.owned = true → bk.real μ' g → μ'.blk g = b → False := by
  intro b o q g bk m1 m2 m3 m4
  rcases hc g bk m1 with ⟨h, _⟩ | ⟨h0, h⟩
  ·exact (k1.fz b o q).2 ⟨g, bk, h, m2, m3, m4⟩
  ·obtain ⟨l1, l2⟩ := hlow g bk h h0
   rw [aF.aX k2.names l1] at m3
   rw [k2.names.blk g l1] at m4
   rcases k2.fz b o q with q1 | q1 | q1
   ·exact (hg.fz b o q1).2 ⟨g, bk, h, m2, m3, m4⟩
   ·have := (hg.ok g bk h).lt_size m3
    omega
   ·exact SQ g bk h h0 m3 (by rw [m4]; exact q1)
 refine ⟨⟨fun i b hb => ?_, fun i b hb => ?_, fun i b j b' hi hj ho hr hr' he => ?_, fun b o q => ⟨(k1.fz b o q).1, fun ⟨g, bk, m1, m2, m3, m4⟩ => fzz b o q g bk m1 m2 m3 m4⟩⟩, ⟨k2.names, k2.os, k2.tape, k2.output, k2.size, fun b hb hn => k2.block b hb fun hm => hn ?_, fun b hb hm => ?_, fun b o q => (k2.fz b o q).imp id fun q => q.imp id fun ⟨g, b0, m1, m2⟩ => ⟨g, b0, hsub _ _ m1, m2⟩⟩⟩
 ·rcases hc i b hb with ⟨h, _⟩ | ⟨h0, h⟩
  ·exact k1.lt i b h
  ·have := (hlow i b h h0).1; omega
 ·rcases hc i b hb with ⟨h, _⟩ | ⟨h0, h⟩
  ·exact k1.ok i b h
  ·obtain ⟨l1, l2⟩ := hlow i b h h0
   exact (hg.ok i b h).V3 l2 k2.names l1 hB fun hr => k2.block _ ((hg.ok i b h).lt_size hr) (SQ i b h h0 hr)
 ·rcases hc i b hi with ⟨h, _⟩ | ⟨h0, h⟩
  ·rcases hc j b' hj with ⟨h', _⟩ | ⟨h0', h'⟩
   ·exact k1.sep i b j b' h h' ho hr hr' he
   ·obtain ⟨l1, l2⟩ := hlow j b' h' h0'
    rw [aF.aX k2.names l1] at hr'
    rw [k2.names.blk j l1] at he
    exact (SS j b' h' h0' hr' ⟨i, b, h, ho, hr, he⟩).elim
  ·obtain ⟨l1, l2⟩ := hlow i b h h0
   rw [aF.aX k2.names l1] at hr
   rw [k2.names.blk i l1] at he
   rcases hc j b' hj with ⟨h', hw⟩ | ⟨h0', h'⟩
   ·rcases hw with hw | ⟨l3, b0, h3, h4⟩
    ·exact (SS i b h h0 hr ⟨j, b', h', hw, hr', he.symm⟩).elim
    ·rw [aF.aX k2.names l3] at hr'
     rw [k2.names.blk j l3] at he
     have := hg.sep i b j b0 h (hsub _ _ h3) ho hr (h4 _ hr') he
     exact this
   ·obtain ⟨l3, l4⟩ := hlow j b' h' h0'
    rw [aF.aX k2.names l3] at hr'
    rw [k2.names.blk j l3] at he
    exact hg.sep i b j b' h h' ho hr hr' he
 ·obtain ⟨g, b0, m1, m2, m3, m4⟩ := hm
  exact ⟨g, b0, hsub _ _ m1, m2, m3, m4⟩
 ·obtain ⟨g, b0, m1, m2, m3, m4⟩ := hm
  rcases hc g b0 m1 with ⟨h, _⟩ | ⟨h0, h⟩
  ·obtain ⟨g', b1, q1, q2, q3, q4⟩ := k2.may b hb ⟨g, b0, h, m2, m3, m4⟩
   exact ⟨g', b1, hsub _ _ q1, q2, q3, q4⟩
  ·obtain ⟨l1, l2⟩ := hlow g b0 h h0
   rw [aF.aX k2.names l1] at m3
   rw [k2.names.blk g l1] at m4
   exact ⟨g, b0, h, m2, m3, m4⟩
theorem jK : ∀ (l l' : List (Nat × aF)) (i : Nat), (hpL (l ++ l')).get i = ((hpL l).get i).or ((hpL l').get i)
 | [], l', i => by simp [hpL, T.tq]
 | p :: l, l', i => by
  simp only [List.cons_append, hpL, T.bF]
  split
  ·rfl
  ·exact jK l l' i
def Ve (l l' : List (Nat × aF)) : Bool := l.all fun p => l'.all fun q => !Nat.beq p.1 q.1
theorem SV {l l' : List (Nat × aF)} (h : Ve l l' = true) {i : Nat} {b b' : aF} (h1 : (hpL l).get i = some b) (h2 : (hpL l').get i = some b') : False := by
 unfold Ve at h
 have h3 := List.all_eq_true.1 (List.all_eq_true.1 h _ (aY h1)) _ (aY h2)
 simp at h3
def DW (B : Nat) : List (Nat × aF) → Prop
 | [] => True
 | p :: l => (p.1 < B ∧ p.2.mJ B) ∧ DW B l
theorem DW.get {B : Nat} : ∀ {l : List (Nat × aF)}, DW B l → ∀ p ∈ l, p.1 < B ∧ p.2.mJ B
 | q :: l, h, p, hp => by
  rcases List.mem_cons.1 hp with rfl | hp
  ·exact h.1
  ·exact DW.get h.2 p hp
def JA (B : Nat) (bl : List (Nat × aF)) : List (Nat × aF) → Prop
 | [] => True
 | p :: l => (p.2.owned = true ∨ (p.1 < B ∧ ∃ b0, (hpL bl).get p.1 = some b0 ∧ ∀ μ, p.2.real μ p.1 → b0.real μ p.1)) ∧ JA B bl l
theorem JA.get {B : Nat} {bl : List (Nat × aF)} : ∀ {l : List (Nat × aF)}, JA B bl l → ∀ p ∈ l, p.2.owned = true ∨ (p.1 < B ∧ ∃ b0, (hpL bl).get p.1 = some b0 ∧ ∀ μ, p.2.real μ p.1 → b0.real μ p.1)
 | q :: l, h, p, hp => by
  rcases List.mem_cons.1 hp with rfl | hp
  ·exact h.1
  ·exact JA.get h.2 p hp
theorem AtB.lM {bl mM xl : List (Nat × aF)} {fr' : Fr} {a a' : Act} {μ : MM} {w w' : World} (hg : dP K μ w.heap (hpL (bl ++ xl))) (hB : B ≤ K') (hx : DW B xl) (hd : Ve bl xl = true) (hd' : Ve mM xl = true) (ho : JA B bl mM)
  (h : AtB n B K' (hpL bl) μ w (hpL mM) fr' a a' w') : AtB n B K' (hpL (bl ++ xl)) μ w (hpL (mM ++ xl)) fr' a a' w' := by
 obtain ⟨μ', k1, k2, k3, k4⟩ := h.of
 have q := Jz (H' := hpL (mM ++ xl)) hg (fun i b hb => by rw [jK, hb]; rfl) (fun i b hb h0 => by
  rw [jK, h0] at hb
  exact hx.get _ (aY hb)) hB (fun i b hb => by
  rw [jK] at hb
  cases h1 : (hpL mM).get i with
  | some b1 =>
   rw [h1] at hb
   cases hb
   exact .inl ⟨rfl, ho.get _ (aY h1)⟩
  | none =>
   rw [h1] at hb
   refine .inr ?_
   cases h2 : (hpL bl).get i with
   | some b2 => exact (SV hd h2 hb).elim
   | none => exact ⟨rfl, by rw [jK, h2]; exact hb⟩) k1 k2
 exact ⟨μ', q.1, q.2, k3, k4⟩
theorem aj.lM {c : Code} {fr : Fr} {bl xl : List (Nat × aF)} {Post Post' : Po} (h : aj P c n B K K' fr (hpL bl) Post) (hB : B ≤ K') (hx : DW B xl) (hd : Ve bl xl = true)
  (k : ∀ e fr' H0', Post e fr' H0' → ∃ mM, H0' = hpL mM ∧ Ve mM xl = true ∧ JA B bl mM ∧ Post' e fr' (hpL (mM ++ xl))) : aj P c n B K K' fr (hpL (bl ++ xl)) Post' := by
 intro μ w a hg hf Q hQ
 refine h μ w a (hg.sub fun i b hb => by rw [jK, hb]; rfl) hf Q fun e fr' H0' a' w' hp ha => ?_
 obtain ⟨mM, rfl, h1, h2, h3⟩ := k _ _ _ hp
 exact hQ e fr' _ a' w' h3 (ha.lM hg hB hx hd h1 h2)
def aF.ren (σ : Nat → Nat) : aF → aF
 | .cells own sz m c => .cells own sz m (.fn fun i => kQ σ (c.row i))
 | b => b
theorem AQ (σ : Nat → Nat) : ∀ l : List AV, (kQ σ l).length = l.length
 | [] => rfl
 | v :: l => by simp [kQ, AQ σ l]
theorem JB (σ : Nat → Nat) : ∀ (l : List AV) (i : Nat), (kQ σ l)[i]? = (l[i]?).map (AV.ren σ)
 | [], i => by simp [kQ]
 | v :: l, 0 => by simp [kQ]
 | v :: l, i + 1 => by simp [kQ, JB σ l i]
theorem V4 (σ : Nat → Nat) (v : AV) : (v.ren σ).one = v.one := by cases v <;> simp [AV.ren, AV.one]
theorem bY.kW {N N' : Nat} {μ μ' : MM} {σ : Nat → Nat} {hp : Array Obj} {g g' : Nat} {b : aF} (h : bY N μ hp g' (b.ren σ)) (hl : b.mJ N') (e0 : ∀ i, i < N' → H8 (μ.via σ) μ' i)
  (e1 : μ'.blk g = μ.blk g') (e2 : μ'.cap g = μ.cap g') (e3 : μ'.sz g = μ.sz g') (e4 : μ'.base g = μ.base g') : bY N' μ' hp g b := by
 cases b with
 | cells own sz m c =>
  simp only [bY, aF.ren, e1, e2, e3, e4] at h ⊢
  refine ⟨h.1, h.2.1, fun hr => ?_⟩
  obtain ⟨cur, ty, fz, h1, h2, h3, h4⟩ := h.2.2 hr
  refine ⟨cur, ty, fz, h1, h2, h3, fun i hi => ⟨by have := (h4 i hi).1; simpa [Cont.row, AQ] using this, fun o v hv => ?_⟩⟩
  obtain ⟨k1, cv, k2, k3⟩ := (h4 i hi).2 o (v.ren σ) (by show (kQ σ (c.row i))[o]? = _; rw [JB, hv]; rfl)
  have hlow := hl i hi v (List.mem_of_getElem? hv)
  refine ⟨by rw [← V4 σ]; exact k1, cv, k2, ?_⟩
  have k4 := Rep.kW (N' := N') k3 hlow
  exact k4.on (S := fun g => g < N') (fun g _ hg => ⟨hg, e0 g hg⟩) (Rep.NQ k4)
 | aJ s l => simp only [bY, aF.ren, e1] at h ⊢; exact h
 | iY s l => simp only [bY, aF.ren, e1] at h ⊢; exact h
 | sit s l pos => simp only [bY, aF.ren, e1, e4] at h ⊢; exact h
theorem aF.kX (σ : Nat → Nat) (b : aF) : (b.ren σ).owned = b.owned := by cases b <;> rfl
theorem aF.jr (σ : Nat → Nat) (b : aF) (μ : MM) (g : Nat) : (b.ren σ).real μ g ↔ b.real μ g := by cases b <;> rfl
def EJ (K' : Nat) (σ : Nat → Nat) (H : T aF) : List (Nat × aF) → Prop
 | [] => True
 | p :: l => (∃ b, H.get (σ p.1) = some b ∧ dD b (p.2.ren σ) ∧ p.2.mJ K' ∧ p.1 < K') ∧ EJ K' σ H l
theorem EJ.get {σ : Nat → Nat} {H : T aF} : ∀ {l : List (Nat × aF)}, EJ K' σ H l → ∀ p ∈ l, ∃ b, H.get (σ p.1) = some b ∧ dD b (p.2.ren σ) ∧ p.2.mJ K' ∧ p.1 < K'
 | q :: l, h, p, hp => by
  rcases List.mem_cons.1 hp with rfl | hp
  ·exact h.1
  ·exact EJ.get h.2 p hp
theorem AtB.renG {K'' : Nat} {σ : Nat → Nat} {fl : List (Nat × AV)} {bl : List (Nat × aF)} {fr' : Fr} {H H' : T aF} {a a' : Act} {μ : MM} {w w' : World} (hk : ∀ g, g < B → σ g = g) (hF : DK K'' σ fr' fl) (hB : EJ K'' σ H' bl) (hinj : ∀ i j, i < K'' → j < K'' → σ i = σ j → i = j)
  (ha : AtB n B K' H μ w H' fr' a a' w') : AtB n B K'' H μ w (hpL bl) (aV fl) a a' w' := by
 obtain ⟨μ', k1, k2, k3, k4⟩ := ha.of
 have G := fun i b (hb : (hpL bl).get i = some b) => hB.get _ (aY hb)
 have nU : ∀ b, May (μ'.via σ) (hpL bl) b → May μ' H' b := fun b hm => by
  obtain ⟨i, x, m1, m2, m3, m4⟩ := hm
  obtain ⟨b0, h1, h2, h3, h4⟩ := G i x m1
  exact ⟨σ i, b0, h1, by rw [h2.owned, aF.kX]; exact m2, (h2.real _ _).2 ((aF.jr _ _ _ _).2 ((aF.dK rfl x).1 m3)), m4⟩
 refine ⟨μ'.via σ, ⟨fun i b hb => ?_, fun i b hb => ?_, fun i b j b' hi hj ho hr hr' he => ?_, fun b o q => ⟨(k1.fz b o q).1, fun hm => (k1.fz b o q).2 (nU b hm)⟩⟩, ⟨⟨fun g hg => ?_, fun g hg => ?_, fun g hg => ?_, fun g hg => ?_, k2.names.fz⟩, k2.os, k2.tape, k2.output, k2.size, k2.block, fun b hb hm => k2.may b hb (nU b hm), k2.fz⟩, ⟨k3.size, fun t v ht => ?_⟩, k4⟩
 ·obtain ⟨b0, h1, h2, h3, h4⟩ := G i b hb; exact h4
 ·obtain ⟨b0, h1, h2, h3, h4⟩ := G i b hb
  exact (h2.ok (k1.ok _ _ h1)).kW h3 (fun i _ => ⟨rfl, rfl, rfl, rfl, fun _ _ q => q⟩) rfl rfl rfl rfl
 ·obtain ⟨b0, h1, h2, h3, h4⟩ := G i b hi
  obtain ⟨b1, l1, l2, l3, l4⟩ := G j b' hj
  exact hinj i j h4 l4 (k1.sep _ _ _ _ h1 l1 (by rw [h2.owned, aF.kX]; exact ho) ((h2.real _ _).2 ((aF.jr _ _ _ _).2 ((aF.dK rfl b).1 hr))) ((l2.real _ _).2 ((aF.jr _ _ _ _).2 ((aF.dK rfl b').1 hr'))) he)
 ·show μ'.blk (σ g) = _; rw [hk g hg]; exact k2.names.blk g hg
 ·show μ'.cap (σ g) = _; rw [hk g hg]; exact k2.names.cap g hg
 ·show μ'.sz (σ g) = _; rw [hk g hg]; exact k2.names.sz g hg
 ·show μ'.base (σ g) = _; rw [hk g hg]; exact k2.names.base g hg
 ·obtain ⟨u, h1, h2, h3⟩ := hF.get _ (fV ht)
  exact (h2 _ _ _ (k3.val t u h1)).kW h3
theorem aj.renG {K'' : Nat} {c : Code} {fr : Fr} {H : T aF} {Post Post' : Po} (h : aj P c n B K K' fr H Post)
  (k : ∀ e fr' H', Post e fr' H' → ∃ σ fl bl, (∀ g, g < B → σ g = g) ∧ DK K'' σ fr' fl ∧ EJ K'' σ H' bl ∧ (∀ i j, i < K'' → j < K'' → σ i = σ j → i = j) ∧ Post' e (aV fl) (hpL bl)) : aj P c n B K K'' fr H Post' := by
 intro μ w a hg hf Q hQ
 refine h μ w a hg hf Q fun e fr' H' a' w' hp ha => ?_
 obtain ⟨σ, fl, bl, hk, hF, hB, hinj, hp'⟩ := k _ _ _ hp
 exact hQ e _ _ a' w' hp' (ha.renG hk hF hB hinj)
end Go.Sx
namespace Go.Sx
open M
structure Keeps (w w' : World) (b m : Nat) : Prop where
 other : ∀ B, B < w.heap.size → B ≠ b → w'.heap[B]? = w.heap[B]?
 low : ∀ cur ty fz, w.heap[b]? = some (.cells cur ty fz) → ∃ cur', w'.heap[b]? = some (.cells cur' ty fz) ∧ cur'.size = cur.size ∧ ∀ o, o < m → cur'[o]? = cur[o]?
theorem Keeps.refl (w : World) (b m : Nat) : Keeps w w b m := ⟨fun _ _ _ => rfl, fun cur ty fz h => ⟨cur, h, rfl, fun _ _ => rfl⟩⟩
theorem Keeps.alloc (w : World) (o : Obj) (b m : Nat) : Keeps w (w.drew.alloc o) b m := by
 have e : ∀ B, B < w.heap.size → (w.drew.alloc o).heap[B]? = w.heap[B]? := fun B hB => by
  show (w.heap.push o)[B]? = _
  rw [Array.getElem?_push_lt hB, Array.getElem?_eq_getElem hB]
 exact ⟨fun B hB _ => e B hB, fun cur ty fz h => ⟨cur, by rw [e b ((Array.getElem?_eq_some_iff.1 h).1)]; exact h, rfl, fun _ _ => rfl⟩⟩
variable {P : Program} {n B K K' : Nat}
structure VX (B j sz m : Nat) (c : Cont) (μ : MM) (w : World) : Prop where
 ok : bY B μ w.heap j (.cells false sz m c)
 base : 0 < m → μ.base j = 0
theorem VX.real {j sz m : Nat} {c : Cont} {μ : MM} (h : (aF.cells false sz m c).real μ j) : 0 < m := by
 rcases h with h | ⟨h, _⟩
 ·exact h
 ·cases h
theorem VX.ac6 {j sz m : Nat} {c : Cont} {μ μ' : MM} {w w' : World} (h : VX B j sz m c μ w) (hj : j < B) (hl : (aF.cells false sz m c).mJ B) (hu : MM.upto B μ μ') (hs : ∀ b, b < w.heap.size → w'.heap[b]? = w.heap[b]?) : VX B j sz m c μ' w' :=
 ⟨h.ok.V3 hl hu hj (Nat.le_refl _) fun hr => hs _ (h.ok.lt_size hr), fun hm => by rw [hu.base j hj]; exact h.base hm⟩
theorem VX.keep {j sz m : Nat} {c : Cont} {μ μ' : MM} {w w' : World} {b k : Nat} (h : VX B j sz m c μ w) (hj : j < B) (hl : (aF.cells false sz m c).mJ B) (hu : MM.upto B μ μ') (hk : Keeps w w' b k) (hm : m * sz ≤ k) : VX B j sz m c μ' w' := by
 refine ⟨⟨by rw [hu.sz j hj]; exact h.ok.1, h.ok.2.1, fun hr => ?_⟩, fun hm => by rw [hu.base j hj]; exact h.base hm⟩
 have h0 : 0 < m := by
  rcases hr with hr | ⟨hr, _⟩
  ·exact hr
  ·cases hr
 obtain ⟨cur, ty, fz, h1, h2, h3, h4⟩ := h.ok.2.2 (.inl h0)
 have hb0 := h.base h0
 have hlt := (Array.getElem?_eq_some_iff.1 h1).1
 obtain ⟨cur', e1, e2, e3⟩ : ∃ cur', w'.heap[μ.blk j]? = some (.cells cur' ty fz) ∧ cur'.size = cur.size ∧ ∀ o, o < k → cur'[o]? = cur[o]? := by
  by_cases hb : μ.blk j = b
  ·rw [hb] at h1 ⊢; exact hk.low _ _ _ h1
  ·exact ⟨cur, by rw [hk.other _ hlt hb]; exact h1, rfl, fun _ _ => rfl⟩
 refine ⟨cur', ty, fz, by rw [hu.blk j hj]; exact e1, by rw [hu.base j hj, e2]; exact h2, fun h => (by cases h), fun i hi => ⟨(h4 i hi).1, fun o v hv => ?_⟩⟩
 obtain ⟨k1, cv, k2, k3⟩ := (h4 i hi).2 o v hv
 have ho : o < sz := by have := (List.getElem?_eq_some_iff.1 hv).1; have := (h4 i hi).1; omega
 have hfit : (i + 1) * sz ≤ m * sz := Nat.mul_le_mul_right _ hi
 rw [Nat.add_mul] at hfit
 rw [hb0] at k2
 refine ⟨k1, cv, by rw [hu.base j hj, hb0, e3 _ (by omega)]; exact k2, ?_⟩
 exact (Rep.lY (.refl _ _) (fun _ _ => rfl) (hl i hi v (List.mem_of_getElem? hv)) k3).later hu (Nat.le_refl _)
structure SX (n B K : Nat) (X : MM → World → Prop) (H : T aF) (μ : MM) (w : World) (H' : T aF) (fr' : Fr) (a a' : Act) (w' : World) : Prop where
 of : ∃ μ', dP K μ' w'.heap H' ∧ mF B H μ w H' μ' w' ∧ dG K μ' fr' a'.tmps n ∧ a'.defers = a.defers ∧ X μ' w'
def eH (P : Program) (c : Code) (n B K K' : Nat) (X : MM → World → Prop) (fr : Fr) (H : T aF) (Post : Po) : Prop :=
 ∀ μ w (a : Act), dP K μ w.heap H → dG K μ fr a.tmps n → X μ w → ∀ Q : Exit → Act → World → Prop, (∀ e fr' H' a' w', Post e fr' H' → SX n B K' X H μ w H' fr' a a' w' → Q e.ex a' w') → c.wp P Q a w
section
variable {X : MM → World → Prop}
theorem SX.trans {H H' xH : T aF} {μ : MM} {w w' w'' : World} {mg : Fr} {a a' a'' : Act} {μ' : MM} (h1 : mF B H μ w H' μ' w') (h2 : a'.defers = a.defers) (h : SX n B K X H' μ' w' xH mg a' a'' w'') : SX n B K X H μ w xH mg a a'' w'' := by
 obtain ⟨μ'', k1, k2, k3, k4, k5⟩ := h.of
 exact ⟨μ'', k1, h1.trans k2, k3, k4.trans h2, k5⟩
theorem SX.up {H H' : T aF} {μ : MM} {w w' : World} {fr' : Fr} {a a' : Act} (h : SX n B K X H μ w H' fr' a a' w') (hK : K ≤ K') : SX n B K' X H μ w H' fr' a a' w' := by
 obtain ⟨μ', k1, k2, k3, k4, k5⟩ := h.of
 exact ⟨μ', k1.up hK fun _ _ h => h, k2, k3.later (.refl _ _) hK, k4, k5⟩
theorem eH.mono {c : Code} {fr : Fr} {H : T aF} {Post Post' : Po} (h : eH P c n B K K' X fr H Post) (k : ∀ e fr' H', Post e fr' H' → Post' e fr' H') : eH P c n B K K' X fr H Post' :=
 fun μ w a hg hf hx Q hQ => h μ w a hg hf hx Q fun e fr' H' a' w' hp ha => hQ e fr' H' a' w' (k _ _ _ hp) ha
theorem eH.seq {K1 : Nat} {x y : Code} {fr : Fr} {H : T aF} {Post : Po} (hK : K1 ≤ K')
  (h : eH P x n B K K1 X fr H fun e fr' H' => match e with
   | .normal => eH P y n B K1 K' X fr' H' Post
   | e => Post e fr' H') : eH P (.seq x y) n B K K' X fr H Post := by
 intro μ w a hg hf hx Q hQ
 refine wp_seq (h μ w a hg hf hx _ fun e fr' H' a' w' hp ha => ?_)
 cases e with
 | normal =>
  obtain ⟨μ', k1, k2, k3, k4, k5⟩ := ha.of
  exact hp μ' w' a' k1 k3 k5 Q fun e'' mg xH a'' w'' hp' ha' => hQ _ _ _ _ _ hp' (SX.trans k2 k4 ha')
 | exit id => exact hQ _ _ _ _ _ hp (ha.up hK)
 | ret => exact hQ _ _ _ _ _ hp (ha.up hK)
theorem eH.block {id : Nat} {c : Code} {fr : Fr} {H : T aF} {Post : Po}
  (h : eH P c n B K K' X fr H fun e fr' H' => match e with
   | .exit id' => if id' = id then Post .normal fr' H' else Post (.exit id') fr' H'
   | e => Post e fr' H') : eH P (.block id c) n B K K' X fr H Post := by
 intro μ w a hg hf hx Q hQ
 refine wp_block (h μ w a hg hf hx _ fun e fr' H' a' w' hp ha => ?_)
 cases e with
 | normal => exact hQ _ _ _ _ _ hp ha
 | ret => exact hQ _ _ _ _ _ hp ha
 | exit id' =>
  simp only [Ex.ex, Exit.inBlock]
  by_cases he : id' = id
  ·simp only [he, if_true] at hp ⊢
   exact hQ .normal _ _ _ _ hp ha
  ·simp only [if_neg he] at hp ⊢
   exact hQ (.exit id') _ _ _ _ hp ha
theorem eH.loop {c : Code} {Post : Po} (I : Nat → Fr → T aF → Prop)
  (h : ∀ k fr H, I k fr H → eH P c n B K K X fr H fun e fr' H' => match e with
   | .normal => ∃ k', k' < k ∧ I k' fr' H'
   | e => Post e fr' H') : ∀ k fr H, I k fr H → eH P (.loop c) n B K K X fr H Post := by
 have key : ∀ R k fr H, k < R → I k fr H → ∀ μ w (a : Act), dP K μ w.heap H → dG K μ fr a.tmps n → X μ w → ∀ Q : Exit → Act → World → Prop, (∀ e fr' H' a' w', Post e fr' H' → SX n B K X H μ w H' fr' a a' w' → Q e.ex a' w') → Code.rounds P c Q R a w := by
  intro R
  induction R with
  | zero => intro k fr H hk; omega
  | succ R ih =>
   intro k fr H hkR hI μ w a hg hf hx Q hQ
   rw [rounds_succ]
   refine wp_mono (h k fr H hI μ w a hg hf hx (fun e a' w' => (e = .normal ∧ ∃ k' fr' H', k' < k ∧ I k' fr' H' ∧ SX n B K X H μ w H' fr' a a' w') ∨ (e ≠ .normal ∧ Q e a' w')) fun e fr' H' a' w' hp ha => ?_) ?_
   ·cases e with
    | normal =>
     obtain ⟨k', hk, hI'⟩ := hp
     exact .inl ⟨rfl, k', fr', H', hk, hI', ha⟩
    | exit id => exact .inr ⟨by simp [Ex.ex], hQ (.exit id) _ _ _ _ hp ha⟩
    | ret => exact .inr ⟨by simp [Ex.ex], hQ .ret _ _ _ _ hp ha⟩
   ·rintro e a' w' (⟨rfl, k', fr', H', hk, hI', ha⟩ | ⟨hne, hq⟩)
    ·obtain ⟨μ', k1, k2, k3, k4, k5⟩ := ha.of
     exact ih k' fr' H' (by omega) hI' μ' w' a' k1 k3 k5 Q fun e'' mg xH a'' w'' hp' ha' => hQ _ _ _ _ _ hp' (SX.trans k2 k4 ha')
    ·cases e <;> first | exact absurd rfl hne | exact hq
 intro k fr H hI μ w a hg hf hx Q hQ
 exact wp_loop_rounds (k + 1) (key (k + 1) k fr H (by omega) hI μ w a hg hf hx Q hQ)
end
section
variable {j sz m : Nat} {cj : Cont}
theorem eH.pure {B' : Nat} {c : Code} {fr : Fr} {bl xl : List (Nat × aF)} {Post Post' : Po} (hj : j < B) (hl : (aF.cells false sz m cj).mJ B) (hBB : B ≤ B') (h : aj P c n B' K K' fr (hpL bl) Post) (hB : B' ≤ K') (hv : ∀ p ∈ bl, p.2.owned = false) (hx : DW B' xl) (hd : Ve bl xl = true)
  (k : ∀ e fr' H0', Post e fr' H0' → ∃ mM, H0' = hpL mM ∧ Ve mM xl = true ∧ JA B' bl mM ∧ Post' e fr' (hpL (mM ++ xl))) : eH P c n B K K' (VX B j sz m cj) fr (hpL (bl ++ xl)) Post' := by
 intro μ w a hg hf hX Q hQ
 refine h μ w a (hg.sub fun i b hb => by rw [jK, hb]; rfl) hf Q fun e fr' H0' a' w' hp ha => ?_
 obtain ⟨mM, rfl, h1, h2, h3⟩ := k _ _ _ hp
 obtain ⟨μ', k1, k2, k3, k4⟩ := ha.of
 have nm : ∀ b, ¬ May μ (hpL bl) b := fun b ⟨i, x, m1, m2, _⟩ => by
  have := hv _ (aY m1)
  rw [m2] at this; cases this
 obtain ⟨μ2, q1, q2, q3, q4⟩ : ∃ μ2, dP K' μ2 w'.heap (hpL (mM ++ xl)) ∧ mF B (hpL (bl ++ xl)) μ w (hpL (mM ++ xl)) μ2 w' ∧ dG K' μ2 fr' a'.tmps n ∧ VX B j sz m cj μ2 w' := by
  have q := Jz (H' := hpL (mM ++ xl)) hg (fun i b hb => by rw [jK, hb]; rfl) (fun i b hb h0 => by
   rw [jK, h0] at hb
   exact hx.get _ (aY hb)) hB (fun i b hb => by
   rw [jK] at hb
   cases h1 : (hpL mM).get i with
   | some b1 =>
    rw [h1] at hb
    cases hb
    exact .inl ⟨rfl, h2.get _ (aY h1)⟩
   | none =>
    rw [h1] at hb
    refine .inr ?_
    cases h2 : (hpL bl).get i with
    | some b2 => exact (SV hd h2 hb).elim
    | none => exact ⟨rfl, by rw [jK, h2]; exact hb⟩) k1 k2
  exact ⟨μ', q.1, ⟨q.2.names.mono hBB, q.2.os, q.2.tape, q.2.output, q.2.size, q.2.block, q.2.may, q.2.fz⟩, k3, hX.ac6 hj hl (k2.names.mono hBB) fun b hb => k2.block b hb (nm b)⟩
 exact hQ e fr' _ a' w' h3 ⟨μ2, q1, q2, q3, k4, q4⟩
theorem eH.renG {K'' : Nat} {c : Code} {fr : Fr} {H : T aF} {Post Post' : Po} (hj : j < B) (hl : (aF.cells false sz m cj).mJ B) (h : eH P c n B K K' (VX B j sz m cj) fr H Post)
  (k : ∀ e fr' H', Post e fr' H' → ∃ σ fl bl, (∀ g, g < B → σ g = g) ∧ DK K'' σ fr' fl ∧ EJ K'' σ H' bl ∧ (∀ i j, i < K'' → j < K'' → σ i = σ j → i = j) ∧ Post' e (aV fl) (hpL bl)) : eH P c n B K K'' (VX B j sz m cj) fr H Post' := by
 intro μ w a hg hf hX Q hQ
 refine h μ w a hg hf hX Q fun e fr' H' a' w' hp ha => ?_
 obtain ⟨σ, fl, bl, hk, hF, hB, hinj, hp'⟩ := k _ _ _ hp
 obtain ⟨μ', k1, k2, k3, k4, k5⟩ := ha.of
 have G := fun i b (hb : (hpL bl).get i = some b) => hB.get _ (aY hb)
 have u : MM.upto B μ' (μ'.via σ) := ⟨fun g hg => by show μ'.blk (σ g) = _; rw [hk g hg], fun g hg => by show μ'.cap (σ g) = _; rw [hk g hg], fun g hg => by show μ'.sz (σ g) = _; rw [hk g hg], fun g hg => by show μ'.base (σ g) = _; rw [hk g hg], fun _ _ q => q⟩
 have nU : ∀ b, May (μ'.via σ) (hpL bl) b → May μ' H' b := fun b hm => by
  obtain ⟨i, x, m1, m2, m3, m4⟩ := hm
  obtain ⟨b0, h1, h2, h3, h4⟩ := G i x m1
  exact ⟨σ i, b0, h1, by rw [h2.owned, aF.kX]; exact m2, (h2.real _ _).2 ((aF.jr _ _ _ _).2 ((aF.dK rfl x).1 m3)), m4⟩
 refine hQ e _ _ a' w' hp' ⟨μ'.via σ, ⟨fun i b hb => ?_, fun i b hb => ?_, fun i b j b' hi hj ho hr hr' he => ?_, fun b o q => ⟨(k1.fz b o q).1, fun hm => (k1.fz b o q).2 (nU b hm)⟩⟩, ⟨k2.names.trans u (Nat.le_refl _), k2.os, k2.tape, k2.output, k2.size, k2.block, fun b hb hm => k2.may b hb (nU b hm), k2.fz⟩, ⟨k3.size, fun t v ht => ?_⟩, k4, k5.ac6 hj hl u fun _ _ => rfl⟩
 ·obtain ⟨b0, h1, h2, h3, h4⟩ := G i b hb; exact h4
 ·obtain ⟨b0, h1, h2, h3, h4⟩ := G i b hb
  exact (h2.ok (k1.ok _ _ h1)).kW h3 (fun i _ => ⟨rfl, rfl, rfl, rfl, fun _ _ q => q⟩) rfl rfl rfl rfl
 ·obtain ⟨b0, h1, h2, h3, h4⟩ := G i b hi
  obtain ⟨b1, l1, l2, l3, l4⟩ := G j b' hj
  exact hinj i j h4 l4 (k1.sep _ _ _ _ h1 l1 (by rw [h2.owned, aF.kX]; exact ho) ((h2.real _ _).2 ((aF.jr _ _ _ _).2 ((aF.dK rfl b).1 hr))) ((l2.real _ _).2 ((aF.jr _ _ _ _).2 ((aF.dK rfl b').1 hr'))) he)
 ·obtain ⟨u, h1, h2, h3⟩ := hF.get _ (fV ht)
  exact (h2 _ _ _ (k3.val t u h1)).kW h3
theorem DX {call : Calls'} (hcall : dw P call) {ops : Array Oper} {Q : Exit → Act → World → Prop} {l2 all : List Oper} : ∀ (l1 : List Oper) (fr fr' : Fr) (g g' : G), (∀ o ∈ l1, o.guard = none) → jX P call n all l1 fr g = .done fr' g' →
  (g'.cs → g.cs) ∧ (g'.cs → ∀ μ w (a : Act), dP g.nx μ w.heap g.H → dG g.nx μ fr a.tmps n → (∀ a' w', kG n g μ w g' fr' a a' w' → wpList P ops Q l2 a' w') → wpList P ops Q (l1 ++ l2) a w)
 | [], fr, fr', g, g', _, h => by
  obtain ⟨rfl, rfl⟩ := aB h
  exact ⟨id, fun _ μ w a hg hf hK => hK a w ⟨μ, hg, Ext.refl _ _ _, hf, rfl⟩⟩
 | o :: rest, fr, fr', g, g', hgd, h => by
  unfold jX at h
  have h0 := hgd o List.mem_cons_self
  rw [h0] at h
  obtain ⟨v, g1, a1, h1⟩ := au h
  obtain ⟨wX, g2, a2, h2⟩ := au h1
  obtain ⟨hc1, hs1⟩ := qL hcall a1
  obtain ⟨rfl, hp⟩ := wW a2
  obtain ⟨hc2, hs2⟩ := DX hcall (ops := ops) (Q := Q) (l2 := l2) rest _ _ _ _ (fun o ho => hgd o (List.mem_cons_of_mem _ ho)) h2
  refine ⟨fun hc => hc1 (hc2 hc), fun hc μ w a hg hf hK => wpList_plain h0 fun K hK' => hs1 (hc2 hc) μ w a n hg hf _ _ fun c w' ha => ?_⟩
  obtain ⟨μ', hv, hg', hext⟩ := ha
  exact hK' _ _ (hs2 hc μ' w' _ hg' (hp _ _ _ _ (hf.later hext.names hext.nx) hv) fun a' w'' hk => hK _ _ (hk.trans hext (Act.put_defers _ _ _)))
theorem bY.view {N : Nat} {μ : MM} {hp : Array Obj} {g sz m : Nat} {c : Cont} (h : bY N μ hp g (.cells true sz m c)) : bY N μ hp g (.cells false sz m c) := by
 refine ⟨h.1, h.2.1, fun hr => ?_⟩
 obtain ⟨cur, ty, fz, h1, h2, h3, h4⟩ := h.2.2 (.inl (by
  rcases hr with hr | ⟨hr, _⟩
  ·exact hr
  ·cases hr))
 exact ⟨cur, ty, fz, h1, h2, fun h => (by cases h), h4⟩
end
end Go.Sx
namespace Go.Sx
open M
variable {P : Program} {n B K K' : Nat}
abbrev Nm (F : List (Nat × AV)) (H : List (Nat × aF)) : Po := fun e fr' H' => e = .normal ∧ fr' = aV F ∧ H' = hpL H
abbrev Xm (id : Nat) (F : List (Nat × AV)) (H : List (Nat × aF)) : Po := fun e fr' H' => e = .exit id ∧ fr' = aV F ∧ H' = hpL H
theorem aj.lower {B' : Nat} {c : Code} {fr : Fr} {H : T aF} {Post : Po} (h : aj P c n B' K K' fr H Post) (hB : B ≤ B') : aj P c n B K K' fr H Post :=
 fun μ w a hg hf Q hQ => h μ w a hg hf Q fun e fr' H' a' w' hp ha => hQ e fr' H' a' w' hp (by
  obtain ⟨μ', k1, k2, k3, k4⟩ := ha.of
  exact ⟨μ', k1, ⟨k2.names.mono hB, k2.os, k2.tape, k2.output, k2.size, k2.block, k2.may, k2.fz⟩, k3, k4⟩)
theorem aj.bn {K1 : Nat} {x y : Code} {fr : Fr} {H : T aF} {F1 : List (Nat × AV)} {H1 : List (Nat × aF)} {Post : Po} (h1 : aj P x n B K K1 fr H (Nm F1 H1)) (hK : K1 ≤ K') (h2 : aj P y n B K1 K' (aV F1) (hpL H1) Post) : aj P (.seq x y) n B K K' fr H Post :=
 aj.seq hK (h1.mono fun e fr' H' ⟨e1, e2, e3⟩ => by subst e1 e2 e3; exact h2)
theorem aj.nV {id : Nat} {c : Code} {fr : Fr} {H : T aF} {F1 : List (Nat × AV)} {H1 : List (Nat × aF)} (h : aj P c n B K K' fr H (Nm F1 H1)) : aj P (.block id c) n B K K' fr H (Nm F1 H1) :=
 aj.block (h.mono fun e fr' H' ⟨e1, e2, e3⟩ => by subst e1; exact ⟨rfl, e2, e3⟩)
theorem aj.toN {c : Code} {fr : Fr} {H : T aF} {F F' : List (Nat × AV)} {H1 Vf : List (Nat × aF)} (h : aj P c n B K K' fr H (Nm F H1)) (hf : Ge (aV F) F') (hh : Ia (hpL H1) Vf) : aj P c n B K K' fr H (Nm F' Vf) :=
 h.post fun e fr' H' ⟨e1, e2, e3⟩ => by subst e1 e2 e3; exact ⟨F', Vf, hf, hh, rfl, rfl, rfl⟩
theorem aj.jR {c : Code} {fr : Fr} {F : List (Nat × AV)} {bl mM xl : List (Nat × aF)} (h : aj P c n B K K' fr (hpL bl) (Nm F mM)) (hB : B ≤ K') (hx : DW B xl) (hd : Ve bl xl = true) (hd' : Ve mM xl = true) (ho : JA B bl mM) : aj P c n B K K' fr (hpL (bl ++ xl)) (Nm F (mM ++ xl)) :=
 h.lM hB hx hd fun e fr' H0' ⟨e1, e2, e3⟩ => ⟨mM, e3, hd', ho, e1, e2, rfl⟩
theorem aj.uF {c : Code} {fr : Fr} {F : List (Nat × AV)} {xl : List (Nat × aF)} (h : aj P c n B K K' fr (hpL []) (Nm F [])) (hB : B ≤ K') (hx : DW B xl) : aj P c n B K K' fr (hpL xl) (Nm F xl) :=
 h.jR (bl := []) (mM := []) hB hx rfl rfl trivial
theorem aj.SY {c : Code} {id : Nat} {fr : Fr} {F : List (Nat × AV)} {xl : List (Nat × aF)} (h : aj P c n B K K' fr (hpL []) (Xm id F [])) (hB : B ≤ K') (hx : DW B xl) : aj P c n B K K' fr (hpL xl) (Xm id F xl) :=
 h.lM (bl := []) hB hx rfl fun e fr' H0' ⟨e1, e2, e3⟩ => ⟨[], e3, rfl, trivial, e1, e2, rfl⟩
theorem aj.DY {K1 id : Nat} {x y : Code} {fr : Fr} {H : T aF} {F1 : List (Nat × AV)} {H1 : List (Nat × aF)} (h1 : aj P x n B K K1 fr H (Xm id F1 H1)) (hK : K1 ≤ K') : aj P (.seq x y) n B K K' fr H (Xm id F1 H1) :=
 aj.seq hK (h1.mono fun e fr' H' ⟨e1, e2, e3⟩ => by subst e1; exact ⟨rfl, e2, e3⟩)
theorem aj.rounds {c : Code} {id : Nat} (len : Nat) (F : Nat → List (Nat × AV)) (Hh : Nat → List (Nat × aF)) {Z : List (Nat × AV)} {ZH : List (Nat × aF)} (h : ∀ i, i < len → aj P c n B K K (aV (F i)) (hpL (Hh i)) (Nm (F (i + 1)) (Hh (i + 1)))) (hz : aj P c n B K K (aV (F len)) (hpL (Hh len)) (Xm id Z ZH)) :
  aj P (.block id (.loop c)) n B K K (aV (F 0)) (hpL (Hh 0)) (Nm Z ZH) :=
 (aj.count len F Hh Z ZH (fun _ => True) (fun _ _ => False) trivial fun i hi _ => by
  by_cases e : i < len
  ·exact (h i e).mono fun e' fr H ⟨e1, e2, e3⟩ => .inl ⟨e1, e, trivial, e2, e3⟩
  ·obtain rfl : i = len := by omega
   exact hz.mono fun e' fr H ⟨e1, e2, e3⟩ => .inr (.inl ⟨e1, trivial, e2, e3⟩)).mono fun e fr H h => by
  rcases h with ⟨e1, _, e2, e3⟩ | ⟨_, h⟩
  ·exact ⟨e1, e2, e3⟩
  ·exact h.elim
theorem eH.bn {X : MM → World → Prop} {K1 : Nat} {x y : Code} {fr : Fr} {H : T aF} {F1 : List (Nat × AV)} {H1 : List (Nat × aF)} {Post : Po} (h1 : eH P x n B K K1 X fr H (Nm F1 H1)) (hK : K1 ≤ K') (h2 : eH P y n B K1 K' X (aV F1) (hpL H1) Post) : eH P (.seq x y) n B K K' X fr H Post :=
 eH.seq hK (h1.mono fun e fr' H' ⟨e1, e2, e3⟩ => by subst e1 e2 e3; exact h2)
theorem eH.nV {X : MM → World → Prop} {id : Nat} {c : Code} {fr : Fr} {H : T aF} {F1 : List (Nat × AV)} {H1 : List (Nat × aF)} (h : eH P c n B K K' X fr H (Nm F1 H1)) : eH P (.block id c) n B K K' X fr H (Nm F1 H1) :=
 eH.block (h.mono fun e fr' H' ⟨e1, e2, e3⟩ => by subst e1; exact ⟨rfl, e2, e3⟩)
theorem eH.DY {X : MM → World → Prop} {K1 id : Nat} {x y : Code} {fr : Fr} {H : T aF} {F1 : List (Nat × AV)} {H1 : List (Nat × aF)} (h1 : eH P x n B K K1 X fr H (Xm id F1 H1)) (hK : K1 ≤ K') : eH P (.seq x y) n B K K' X fr H (Xm id F1 H1) :=
 eH.seq hK (h1.mono fun e fr' H' ⟨e1, e2, e3⟩ => by subst e1; exact ⟨rfl, e2, e3⟩)
theorem eH.rounds {X : MM → World → Prop} {c : Code} {id : Nat} (len : Nat) (F : Nat → List (Nat × AV)) (Hh : Nat → List (Nat × aF)) {Z : List (Nat × AV)} {ZH : List (Nat × aF)} (h : ∀ i, i < len → eH P c n B K K X (aV (F i)) (hpL (Hh i)) (Nm (F (i + 1)) (Hh (i + 1)))) (hz : eH P c n B K K X (aV (F len)) (hpL (Hh len)) (Xm id Z ZH)) :
  eH P (.block id (.loop c)) n B K K X (aV (F 0)) (hpL (Hh 0)) (Nm Z ZH) := by
 refine eH.block ((eH.loop (fun m fr H => ∃ i, m = len - i ∧ i ≤ len ∧ fr = aV (F i) ∧ H = hpL (Hh i)) (Post := Xm id Z ZH) ?_ _ _ _ ⟨0, rfl, by omega, rfl, rfl⟩).mono fun e fr H ⟨e1, e2, e3⟩ => ?_)
 ·rintro k fr H ⟨i, rfl, hi, rfl, rfl⟩
  by_cases e : i < len
  ·exact (h i e).mono fun e' fr H ⟨e1, e2, e3⟩ => by subst e1; exact ⟨len - (i + 1), by omega, i + 1, rfl, by omega, e2, e3⟩
  ·obtain rfl : i = len := by omega
   exact hz.mono fun e' fr H ⟨e1, e2, e3⟩ => by subst e1; exact ⟨rfl, e2, e3⟩
 ·subst e1; simp only [if_true]; exact ⟨rfl, e2, e3⟩
theorem eH.toN {j sz m : Nat} {cj : Cont} {K'' : Nat} {c : Code} {fr : Fr} {H : T aF} {Post : Po} {F : List (Nat × AV)} {H1 : List (Nat × aF)} (σ : Nat → Nat) (hj : j < B) (hl : (aF.cells false sz m cj).mJ B) (h : eH P c n B K K' (VX B j sz m cj) fr H Post)
  (hσ : ∀ g, g < B → σ g = g) (hinj : ∀ i j, i < K'' → j < K'' → σ i = σ j → i = j) (k : ∀ e fr' H', Post e fr' H' → e = .normal ∧ DK K'' σ fr' F ∧ EJ K'' σ H' H1) : eH P c n B K K'' (VX B j sz m cj) fr H (Nm F H1) :=
 eH.renG hj hl h fun e fr' H' hp => let ⟨e1, h1, h2⟩ := k e fr' H' hp; ⟨σ, F, H1, hσ, h1, h2, hinj, e1, rfl, rfl⟩
end Go.Sx
namespace Go.Sx
open M
structure Told (g : G) (ρ : Nat → Nat) (K0 i : Nat) (b : aF) : Prop where
 lt : i < K0
 low : b.mJ K0
 of : ∃ b1, g.H.get (ρ i) = some b1 ∧ (∀ N μ hp, bY N μ hp (ρ i) b1 → bY N μ hp (ρ i) (b.ren ρ)) ∧ (b.owned = true → b1.owned = true) ∧ ∀ μ m, b.real μ m → b1.real μ m
theorem zQ {P : Program} {f : FuncId} {fn : Func} {c : Code} (hf : P.funcs[f]? = some fn) (hb : fn.body = some c) (hname : (fn.name == "runtime.NumGoroutine") = false) {args gG : List AV} {g g' : G} {p : Prop} (hcs : g'.cs → g.cs ∧ p) (hnx : g'.nx = g.nx)
  {bl mM : List (Nat × aF)} {B0 K0 K' : Nat} (ρ : Nat → Nat) {v : AV} (hA : p → ∀ N μ (cs : List Value), aO N μ args cs → aO K0 (μ.via ρ) gG cs)
  (hsub : p → ∀ i b, (hpL bl).get i = some b → Told g ρ K0 i b) (inj : p → ∀ i j b b', (hpL bl).get i = some b → (hpL bl).get j = some b' → ρ i = ρ j → i = j)
  (h : p → aj P c fn.ntmps B0 K0 K' (bJ gG 0 .e) (hpL bl) fun e fr' H' => (e = .ret ∨ e = .normal) ∧ ∃ vs gr, dH P fr' fn.results.toList ⟨H', K', [], [], True⟩ = .done vs gr ∧ gr.cs ∧ AV.ge (jZ vs) v ∧ Ia H' mM) (hv : v.low 0 = true)
  (hg' : p → ∀ i b, g'.H.get i = some b → (g.H.get i = some b ∧ ∀ j bj, (hpL bl).get j = some bj → bj.owned = true → ρ j ≠ i) ∨ ∃ j bj, j < B0 ∧ ρ j = i ∧ (hpL mM).get j = some b ∧ b.bare ∧ (hpL bl).get j = some bj ∧ bj.owned = true ∧ ∀ μ m, b.real μ m → bj.real μ m) :
  bZ P f args v g g' := by
 refine ⟨fun hc => (hcs hc).1, fun hc μ w bW hg ha => ?_⟩
 obtain ⟨_, hp⟩ := hcs hc
 have T := fun i b hb => hsub hp i b hb
 have real1 : ∀ {i : Nat} {b : aF}, b.real (μ.via ρ) i ↔ b.real μ (ρ i) := fun {i b} => aF.dK rfl b
 have hgc : dP K0 (μ.via ρ) w.heap (hpL bl) := by
  refine ⟨fun i b hb => (T i b hb).lt, fun i b hb => ?_, fun i b j b' hi hj ho hr hr' he => ?_, fun b o q => ⟨(hg.fz b o q).1, fun ⟨j, bj, m1, m2, m3, m4⟩ => by
   obtain ⟨b1, h1, h2, h3, h4⟩ := (T j bj m1).of
   exact (hg.fz b o q).2 ⟨ρ j, b1, h1, h3 m2, h4 _ _ (real1.1 m3), m4⟩⟩⟩
  ·obtain ⟨b1, h1, h2, h3, h4⟩ := (T i b hb).of
   exact (h2 _ _ _ (hg.ok _ _ h1)).kW (T i b hb).low (fun i _ => ⟨rfl, rfl, rfl, rfl, fun _ _ q => q⟩) rfl rfl rfl rfl
  ·obtain ⟨b1, h1, h2, h3, h4⟩ := (T i b hi).of
   obtain ⟨b2, k1, k2, k3, k4⟩ := (T j b' hj).of
   exact inj hp i j b b' hi hj (hg.sep _ _ _ _ h1 k1 (h3 ho) (h4 _ _ (real1.1 hr)) (k4 _ _ (real1.1 hr')) he)
 have may1 : ∀ b, May (μ.via ρ) (hpL bl) b → ∃ j bj b1, (hpL bl).get j = some bj ∧ bj.owned = true ∧ g.H.get (ρ j) = some b1 ∧ b1.owned = true ∧ b1.real μ (ρ j) ∧ μ.blk (ρ j) = b := fun b ⟨j, bj, m1, m2, m3, m4⟩ => by
  obtain ⟨b1, h1, h2, h3, h4⟩ := (T j bj m1).of
  exact ⟨j, bj, b1, m1, m2, h1, h3 m2, h4 _ _ (real1.1 m3), m4⟩
 refine (aj.call hf hb hname (V := fun u H' => AV.ge u v ∧ Ia H' mM) ((h hp).mono fun e fr' H' ⟨k1, vs, gr, k2, k3, k4, k5⟩ => ⟨k1, vs, gr, k2, k3, k4, k5⟩) (μ.via ρ) w hgc (hA hp _ _ _ ha)).mono ?_
 rintro cv w' ⟨u, μ', H', ⟨hge, hG⟩, hrep, hgk, hE⟩
 -- what is told behind
 have told : ∀ j b, j < B0 → (hpL mM).get j = some b → b.bare → bY g'.nx μ w'.heap (ρ j) b := fun j b hj hb hbare => by
  obtain ⟨b0, e1, e2⟩ := hG.get _ (aY hb)
  exact (e2.ok (hgk.ok j b0 e1)).bare hbare (hE.names.blk j hj).symm (hE.names.cap j hj).symm (hE.names.sz j hj).symm (hE.names.base j hj).symm
 have keep : ∀ i b, g.H.get i = some b → (∀ j bj, (hpL bl).get j = some bj → bj.owned = true → ρ j ≠ i) → b.real μ i → ¬ May (μ.via ρ) (hpL bl) (μ.blk i) := fun i b hb hn hr hm => by
  obtain ⟨j, bj, b1, m1, m2, m3, m4, m5, m6⟩ := may1 _ hm
  exact hn j bj m1 m2 (hg.sep _ _ _ _ m3 hb m4 m5 hr m6)
 have ac7 : ∀ b, May μ g'.H b → May μ g.H b := fun b hm => by
  obtain ⟨i, x, m1, m2, m3, m4⟩ := hm
  rcases hg' hp i x m1 with ⟨h1, hn⟩ | ⟨j, bj, h1, h2, h3, h4, h5, h6, h7⟩
  ·exact ⟨i, x, h1, m2, m3, m4⟩
  ·obtain ⟨b1, q1, q2, q3, q4⟩ := (T j bj h5).of
   exact ⟨i, b1, by rw [← h2]; exact q1, q3 h6, q4 _ _ (h7 _ _ m3), m4⟩
 refine ⟨μ, (hge _ _ _ hrep).bare hv, ⟨fun i b hb => ?_, fun i b hb => ?_, fun i b j b' hi hj ho hr hr' he => ?_, fun b o q => ⟨(hgk.fz b o (hE.names.fz b o q)).1, fun hm => (hg.fz b o q).2 (ac7 b hm)⟩⟩, ⟨by omega, .refl _ _, hE.os, hE.tape, hE.output, hE.size, fun b hb hn => hE.block b hb fun hm => hn ?_, fun b hb hm => ac7 b hm, fun _ _ q => .inl q⟩⟩
 ·rcases hg' hp i b hb with ⟨h1, _⟩ | ⟨j, bj, h1, h2, h3, h4, h5, h6, h7⟩
  ·rw [hnx]; exact hg.lt _ _ h1
  ·obtain ⟨b1, q1, _⟩ := (T j bj h5).of
   rw [hnx, ← h2]; exact hg.lt _ _ q1
 ·rcases hg' hp i b hb with ⟨h1, hn⟩ | ⟨j, bj, h1, h2, h3, h4, h5, h6, h7⟩
  ·exact (hg.ok i b h1).later (.refl _ _) (by omega) (hg.lt _ _ h1) fun hr => hE.block _ ((hg.ok i b h1).lt_size hr) (keep i b h1 hn hr)
  ·rw [← h2]; exact told j b h1 h3 h4
 ·-- apart
  have orig : ∀ i b, g'.H.get i = some b → b.real μ i → ∃ b1, g.H.get i = some b1 ∧ b1.real μ i ∧ (b.owned = true → b1.owned = true) := fun i b hb hr => by
   rcases hg' hp i b hb with ⟨h1, hn⟩ | ⟨j, bj, h1, h2, h3, h4, h5, h6, h7⟩
   ·exact ⟨b, h1, hr, id⟩
   ·obtain ⟨b1, q1, q2, q3, q4⟩ := (T j bj h5).of
    exact ⟨b1, by rw [← h2]; exact q1, q4 _ _ (h7 _ _ hr), fun _ => q3 h6⟩
  obtain ⟨b1, e1, e2, e3⟩ := orig i b hi hr
  obtain ⟨b2, k1, k2, k3⟩ := orig j b' hj hr'
  exact hg.sep i b1 j b2 e1 k1 (e3 ho) e2 k2 he
 ·obtain ⟨j, bj, b1, m1, m2, m3, m4, m5, m6⟩ := may1 _ hm
  exact ⟨ρ j, b1, m3, m4, m5, m6⟩
def nodupB : List Nat → Bool
 | [] => true
 | x :: l => l.all (fun y => !Nat.beq x y) && nodupB l
theorem JC : ∀ {l : List Nat}, nodupB l = true → l.Nodup
 | [], _ => List.nodup_nil
 | x :: l, h => by
  simp only [nodupB, Bool.and_eq_true] at h
  refine List.nodup_cons.2 ⟨fun hx => ?_, JC h.2⟩
  have := List.all_eq_true.1 h.1 x hx
  simp at this
theorem fM.ge {N : Nat} {μ : MM} {row row' : List AV} {sz : Nat} {cur : Array Value} {base : Nat} (h : fM N μ row sz cur base) (k : dQ row row') : fM N μ row' sz cur base :=
 ⟨k.length.trans h.1, fun o v hv => by
  obtain ⟨u, e1, e2, e3⟩ := k.get hv
  obtain ⟨_, cv, e4, e5⟩ := h.2 o u e1
  exact ⟨e3, cv, e4, e2 _ _ _ e5⟩⟩
theorem AV.ge.hdr {s own : Bool} {a : AA} {n q : Nat} (h1 : a.g = q) (h2 : a.i = 0) (h3 : a.o = 0) : AV.ge (.slc s own a n) (.slc true own ⟨false, q, 0, 0⟩ n) := fun N μ c h => by
 simp only [Rep, tZ] at h ⊢
 obtain ⟨h0, A, C, e1, e2, e3, e4, e5⟩ := h
 have ad : μ.addr ⟨false, q, 0, 0⟩ = μ.addr a := by simp only [MM.addr, h1, h2, h3]
 refine ⟨by rw [← h1]; exact h0, A, C, e1, e2, fun hl => by rw [ad]; exact e3 hl, fun h => (by cases h), fun ho => ?_⟩
 obtain ⟨_, _, e6⟩ := e5 ho
 exact ⟨trivial, trivial, by rw [← h1]; exact e6⟩
theorem bZ.as {P : Program} {f : FuncId} {args : List AV} {u v : AV} {g g1 g' : G} {p : Prop} (h : bZ P f args u g g1) (k : Keep g1 g' p) (hv : p → AV.ge u v) : bZ P f args v g g' := by
 refine ⟨fun hc => h.1 (k.2.2 hc).1, fun hc μ w bW hg ha => ?_⟩
 obtain ⟨h1, hp⟩ := k.2.2 hc
 refine (h.2 h1 μ w bW hg ha).mono fun cv w' hA => ?_
 obtain ⟨μ', r1, r2, r3⟩ := hA
 refine ⟨μ', by rw [k.2.1]; exact hv hp _ _ _ r1, by rw [k.1, k.2.1]; exact r2, ?_⟩
 exact ⟨by rw [k.2.1]; exact r3.nx, r3.names, r3.os, r3.tape, r3.output, r3.size, r3.block, fun b hb hm => r3.may b hb (by rw [← k.1]; exact hm), r3.fz⟩
end Go.Sx
namespace Go.Sx
open M
variable {P : Program} {n B K K' : Nat}
theorem AV.ge.raw {x : Nat} (s s' : Bool) (h : cn x = x) : AV.ge (.raw s x) (.flt s' x) := fun N μ c hr => by
 simp only [Rep] at hr ⊢
 obtain ⟨rfl, h2⟩ := hr
 exact ⟨x, rfl, h, h2⟩
theorem bZ.by {f : FuncId} {args : List AV} {u v : AV} {g g1 g' : G} (h : bZ P f args u g g1) (e1 : g'.H = g1.H) (e2 : g'.nx = g1.nx) (k : g'.cs → g1.cs ∧ AV.ge u v) (k0 : g'.cs → g.cs) : bZ P f args v g g' := by
 refine ⟨k0, fun hc μ w bW hg ha => ?_⟩
 obtain ⟨h1, hp⟩ := k hc
 refine (h.2 h1 μ w bW hg ha).mono fun cv w' hA => ?_
 obtain ⟨μ', r1, r2, r3⟩ := hA
 refine ⟨μ', by rw [e2]; exact hp _ _ _ r1, by rw [e1, e2]; exact r2, ?_⟩
 exact ⟨by rw [e2]; exact r3.nx, r3.names, r3.os, r3.tape, r3.output, r3.size, r3.block, fun b hb hm => r3.may b hb (by rw [← e1]; exact hm), r3.fz⟩
theorem aj.JD {call : Calls'} (hcall : dw P call) {region : List Oper → Fr → M Fr} {loops : Loops} {rounds : Nat} {ops : Array Oper} {id id1 id2 : Nat} {l1 l2 : List Oper} {o : Oper} (hops : ops.toList = l1 ++ (o :: l2))
  (hgd : ∀ o ∈ l1, o.guard = none) (hgo : o.guard = none) (hg2 : ∀ o ∈ l2, o.guard = none)
  {cl : Call} (ho : o.op = .call cl) {Bg : Operand} (S9 : cl.callee = .value Bg) {d : Nat} (hdst : o.dst = some d) (hd : d < n)
  {K1 K2 : Nat} (L6 : K1 ≤ K2) {fr : Fr} {H : T aF} {vX : List (Nat × AV)} {Ib : List (Nat × aF)} {path : List Bool}
  (hrun : cO K1 .normal vX Ib (bV P call region loops n rounds (.region id1 l1.toArray false) fr ⟨H, K, [], path, True⟩))
  {f : FuncId} {fn : Func} {body : Code} (hf : P.funcs[f]? = some fn) (hb : fn.body = some body) (hname : (fn.name == "runtime.NumGoroutine") = false)
  {pre cap : List AV} (hfv : bT (aV vX) Bg = .fn (.func f) pre cap) (Ym : B ≤ K) {V : AV → T aF → Prop}
  (yN : aj P body fn.ntmps K1 K1 K2 (bJ (pre ++ cl.args.toList.map (bT (aV vX)) ++ cap) 0 .e) (hpL Ib) fun e fr' H' => (e = .ret ∨ e = .normal) ∧ ∃ vs g', dH P fr' fn.results.toList ⟨H', K2, [], [], True⟩ = .done vs g' ∧ g'.cs ∧ ∃ u, AV.ge (jZ vs) u ∧ V u H')
  {Post : Po} (hpost : ∀ v H', V v H' → ∃ uG QY KO, cO K' .normal QY KO (bV P call region loops n rounds (.region id2 l2.toArray false) ((aV vX).upd d (some v)) ⟨H', K2, [], uG, True⟩) ∧ Post .normal (aV QY) (hpL KO)) :
  aj P (.region id ops false) n B K K' fr H Post := by
 intro μ w a hg hf0 Q hQ
 refine wp_region_list ?_
 rw [hops]
 have hr := hrun.of
 generalize hres : bV P call region loops n rounds (.region id1 l1.toArray false) fr ⟨H, K, [], path, True⟩ = res at hr
 unfold jg at hr
 split at hr
 ·rename_i r g
  obtain ⟨hre, hw, hh, hnx, hcs1⟩ := hr
  have hnx := Nat.le_of_ble_eq_true hnx
  unfold bV at hres
  obtain ⟨wX, g1, b1, b2⟩ := au hres
  obtain ⟨rfl, rfl⟩ := aB b2
  have b1' : jX P call n l1 l1 fr ⟨H, K, [], path, True⟩ = .done wX g1 := by rw [← uZ]; simpa using b1
  obtain ⟨_, hs⟩ := DX hcall (ops := ops) (Q := Q) (l2 := o :: l2) l1 _ _ _ _ hgd b1'
  refine hs hcs1 μ w a hg hf0 fun a1 w1 hk => ?_
  obtain ⟨μ1, k1, k2, k3, k4⟩ := hk
  have sub : ∀ i b, (hpL Ib).get i = some b → g1.H.get i = some b := fun i b hb => hh.get (aY hb)
  have k1' : dP K1 μ1 w1.heap (hpL Ib) := k1.up hnx sub
  have x1 : mF B H μ w (hpL Ib) μ1 w1 := ⟨k2.names.mono Ym, k2.os, k2.tape, k2.output, k2.size, k2.block, fun b hb hm => k2.may b hb (by
   obtain ⟨i, x, m1, m2, m3, m4⟩ := hm
   exact ⟨i, x, sub i x m1, m2, m3, m4⟩), k2.fz⟩
  have Yn : dG K1 μ1 (aV vX) a1.tmps n := ⟨k3.size, fun t v ht => (k3.val t v (hw.get (fV ht))).later (.refl _ _) hnx⟩
  have hKK : K ≤ K1 := Nat.le_trans k2.nx hnx
  refine wpList_plain hgo fun KK aan => ?_
  -- the call
  have hxv := Yn.eval Bg
  rw [hfv] at hxv
  simp only [Rep] at hxv
  obtain ⟨fs, cs, e, h1, h2⟩ := hxv
  have hargs : aO K1 μ1 (pre ++ cl.args.toList.map (bT (aV vX)) ++ cap) ((fs ++ cl.args.map a1.eval) ++ cs).toList := by
   simp only [Array.toList_append]
   exact (h1.append (Yn.IY _)).append h2
  have hcf := aj.call hf hb hname (V := fun v H' => ∃ u, AV.ge v u ∧ V u H') yN μ1 w1 k1' hargs
  have L8 : (execOp a1.eval o).run P w1 = (callFunc f ((fs ++ cl.args.map a1.eval) ++ cs)).run P w1 := by
   simp only [execOp, ho, resolve, S9, e, Deferred.ofValue, Sem.run_bind]
   rfl
  have fin : ∀ c w', (∃ v μ' H', (∃ u, AV.ge v u ∧ V u H') ∧ Rep K2 μ' v c ∧ dP K2 μ' w'.heap H' ∧ mF K1 (hpL Ib) μ1 w1 H' μ' w') → KK (a1.put o.dst c) w' := by
   rintro c w' ⟨v0, μ2, H2, ⟨v, hge, hV⟩, r1, r2, r3⟩
   replace r1 := hge _ _ _ r1
   refine aan _ _ ?_
   obtain ⟨uG, QY, KO, hp2, hP⟩ := hpost v H2 hV
   have hr2 := hp2.of
   generalize hres2 : bV P call region loops n rounds (.region id2 l2.toArray false) ((aV vX).upd d (some v)) ⟨H2, K2, [], uG, True⟩ = res2 at hr2
   unfold jg at hr2
   split at hr2
   ·rename_i r' g'
    obtain ⟨afM, hw', hh', GZ, hcs2⟩ := hr2
    have GZ := Nat.le_of_ble_eq_true GZ
    unfold bV at hres2
    obtain ⟨fr3, g3, b3, b4⟩ := au hres2
    obtain ⟨rfl, rfl⟩ := aB b4
    have b3' : jX P call n l2 l2 ((aV vX).upd d (some v)) ⟨H2, K2, [], uG, True⟩ = .done fr3 g3 := by rw [← uZ]; simpa using b3
    obtain ⟨_, hs2⟩ := DX hcall (ops := ops) (Q := Q) (l2 := []) l2 _ _ _ _ hg2 b3'
    rw [List.append_nil] at hs2
    have f1 : dG K2 μ2 ((aV vX).upd d (some v)) (a1.put o.dst c).tmps n := by
     rw [hdst]
     exact (Yn.later r3.names L6).upd hd r1
    refine hs2 hcs2 μ2 w' _ r2 f1 fun a3 w3 hk3 => ?_
    obtain ⟨μ3, q1, q2, q3, q4⟩ := hk3
    have Tc : ∀ i b, (hpL KO).get i = some b → g3.H.get i = some b := fun i b hb => hh'.get (aY hb)
    refine wpList_nil (hQ .normal _ _ _ _ hP ⟨μ3, q1.up GZ Tc, ?_, ⟨q3.size, fun t v ht => (q3.val t v (hw'.get (fV ht))).later (.refl _ _) GZ⟩, ?_⟩)
    ·have x2 : mF B (hpL Ib) μ1 w1 H2 μ2 w' := ⟨r3.names.mono (Nat.le_trans Ym hKK), r3.os, r3.tape, r3.output, r3.size, r3.block, r3.may, r3.fz⟩
     have x3 : mF B H2 μ2 w' (hpL KO) μ3 w3 := ⟨q2.names.mono (Nat.le_trans Ym (Nat.le_trans hKK L6)), q2.os, q2.tape, q2.output, q2.size, q2.block, fun b hb hm => q2.may b hb (by
      obtain ⟨i, x, m1, m2, m3, m4⟩ := hm
      exact ⟨i, x, Tc i x m1, m2, m3, m4⟩), q2.fz⟩
     exact (x1.trans x2).trans x3
    ·rw [q4, Act.put_defers]; exact k4
   ·exact hr2.elim
  unfold Oper.wp
  rw [L8]
  rcases hcf with ⟨c, w', e, ha⟩ | ⟨f', args', w', e, CY⟩
  ·rw [e]; exact fin c w' ha
  ·rw [e, Oper.upon_enter]
   refine CY.mono ?_
   rintro e1 w2 ⟨c, rfl, ha⟩
   exact fin c w2 ha
 ·exact hr.elim
def LtG (g : G) : Prop := ∀ i b, g.H.get i = some b → i < g.nx
theorem L9 {f : FuncId} {fn : Func} {c : Code} (hf : P.funcs[f]? = some fn) (hb : fn.body = some c) (hname : (fn.name == "runtime.NumGoroutine") = false) {args gG : List AV} {g g' : G} {p : Prop} (hcs : g'.cs → g.cs ∧ p)
  {bl mM : List (Nat × aF)} {K0 K' : Nat} (ρ κ : Nat → Nat) {nms : List Nat} (hnx : g'.nx = g.nx + nms.length) {v : AV} (S : Nat → Prop)
  (hA : p → ∀ N μ (cs : List Value), aO N μ args cs → aO K0 (μ.via ρ) gG cs)
  (hsub : p → ∀ i b, (hpL bl).get i = some b → Told g ρ K0 i b) (inj : p → ∀ i j b b', (hpL bl).get i = some b → (hpL bl).get j = some b' → ρ i = ρ j → i = j)
  (hnew : ∀ nm ∈ nms, K0 ≤ nm) (hnd : nms.Nodup) (hκ : p → LtG g → ∀ j, j < nms.length → κ (g.nx + j) = nms.getD j 0)
  (hS : p → LtG g → ∀ i, S i → i < g'.nx ∧ (i < g.nx → κ i < K0 ∧ ρ (κ i) = i))
  (h : p → LtG g → aj P c fn.ntmps K0 K0 K' (bJ gG 0 .e) (hpL bl) fun e fr' H' => (e = .ret ∨ e = .normal) ∧ ∃ vs gr, dH P fr' fn.results.toList ⟨H', K', [], [], True⟩ = .done vs gr ∧ gr.cs ∧ AV.ge (jZ vs) (v.ren κ) ∧ ∀ q ∈ mM, ∃ b, H'.get (κ q.1) = some b ∧ dD b (q.2.ren κ))
  (hv : p → LtG g → v.low g'.nx = true) (hvS : p → LtG g → v.iy S)
  (Qa : p → LtG g → ∀ q ∈ mM, S q.1 ∧ q.2.iy S ∧ q.2.mJ g'.nx ∧ (q.1 < g.nx → ∃ bj, (hpL bl).get (κ q.1) = some bj ∧ bj.owned = true ∧ ∀ μ m, q.2.real μ m → bj.real μ m) ∧ (g.nx ≤ q.1 → q.2.owned = true))
  (hg' : p → LtG g → ∀ i b, g'.H.get i = some b → (g.H.get i = some b ∧ ∀ j bj, (hpL bl).get j = some bj → bj.owned = true → ρ j ≠ i) ∨ (i, b) ∈ mM) :
  bZ P f args v g g' := by
 refine ⟨fun hc => (hcs hc).1, fun hc μ w bW hg ha => ?_⟩
 obtain ⟨_, hp⟩ := hcs hc
 have T := fun i b hb => hsub hp i b hb
 have hL : LtG g := fun i b hb => hg.lt i b hb
 have real1 : ∀ {i : Nat} {b : aF}, b.real (μ.via ρ) i ↔ b.real μ (ρ i) := fun {i b} => aF.dK rfl b
 have hgc : dP K0 (μ.via ρ) w.heap (hpL bl) := by
  refine ⟨fun i b hb => (T i b hb).lt, fun i b hb => ?_, fun i b j b' hi hj ho hr hr' he => ?_, fun b o q => ⟨(hg.fz b o q).1, fun ⟨j, bj, m1, m2, m3, m4⟩ => by
   obtain ⟨b1, h1, h2, h3, h4⟩ := (T j bj m1).of
   exact (hg.fz b o q).2 ⟨ρ j, b1, h1, h3 m2, h4 _ _ (real1.1 m3), m4⟩⟩⟩
  ·obtain ⟨b1, h1, h2, h3, h4⟩ := (T i b hb).of
   exact (h2 _ _ _ (hg.ok _ _ h1)).kW (T i b hb).low (fun i _ => ⟨rfl, rfl, rfl, rfl, fun _ _ q => q⟩) rfl rfl rfl rfl
  ·obtain ⟨b1, h1, h2, h3, h4⟩ := (T i b hi).of
   obtain ⟨b2, k1, k2, k3, k4⟩ := (T j b' hj).of
   exact inj hp i j b b' hi hj (hg.sep _ _ _ _ h1 k1 (h3 ho) (h4 _ _ (real1.1 hr)) (k4 _ _ (real1.1 hr')) he)
 have may1 : ∀ b, May (μ.via ρ) (hpL bl) b → ∃ j bj b1, (hpL bl).get j = some bj ∧ bj.owned = true ∧ g.H.get (ρ j) = some b1 ∧ b1.owned = true ∧ b1.real μ (ρ j) ∧ μ.blk (ρ j) = b := fun b ⟨j, bj, m1, m2, m3, m4⟩ => by
  obtain ⟨b1, h1, h2, h3, h4⟩ := (T j bj m1).of
  exact ⟨j, bj, b1, m1, m2, h1, h3 m2, h4 _ _ (real1.1 m3), m4⟩
 refine (aj.call hf hb hname (V := fun u H' => AV.ge u (v.ren κ) ∧ ∀ q ∈ mM, ∃ b, H'.get (κ q.1) = some b ∧ dD b (q.2.ren κ)) ((h hp hL).mono fun e fr' H' ⟨k1, vs, gr, k2, k3, k4, k5⟩ => ⟨k1, vs, gr, k2, k3, k4, k5⟩) (μ.via ρ) w hgc (hA hp _ _ _ ha)).mono ?_
 rintro cv w' ⟨u, μ', H', ⟨hge, hG⟩, hrep, hgk, hE⟩
 -- the names behind it
 have at' : ∀ i, S i → H8 (μ'.via κ) (dU μ μ' g.nx nms) i := fun i hi => by
  obtain ⟨q1, q2⟩ := hS hp hL i hi
  by_cases hlt : i < g.nx
  ·obtain ⟨q3, q4⟩ := q2 hlt
   have hu : MM.upto g.nx μ (dU μ μ' g.nx nms) := yL fun b o q => hE.names.fz b o q
   refine ⟨?_, ?_, ?_, ?_, fun _ _ q => q⟩
   ·rw [hu.blk i hlt]; show _ = μ'.blk (κ i); rw [hE.names.blk _ q3]; show _ = μ.blk (ρ (κ i)); rw [q4]
   ·rw [hu.cap i hlt]; show _ = μ'.cap (κ i); rw [hE.names.cap _ q3]; show _ = μ.cap (ρ (κ i)); rw [q4]
   ·rw [hu.sz i hlt]; show _ = μ'.sz (κ i); rw [hE.names.sz _ q3]; show _ = μ.sz (ρ (κ i)); rw [q4]
   ·rw [hu.base i hlt]; show _ = μ'.base (κ i); rw [hE.names.base _ q3]; show _ = μ.base (ρ (κ i)); rw [q4]
  ·obtain ⟨j, rfl⟩ := Nat.exists_eq_add_of_le (Nat.le_of_not_lt hlt)
   have e := hκ hp hL j (by omega)
   have hge : ¬ g.nx + j < g.nx := by omega
   refine ⟨?_, ?_, ?_, ?_, fun _ _ q => q⟩ <;> simp only [dU, if_neg hge, MM.via, e, show g.nx + j - g.nx = j by omega]
 have atS : ∀ i, S i → i < g'.nx → i < g'.nx ∧ H8 (μ'.via κ) (dU μ μ' g.nx nms) i := fun i hi hl => ⟨hl, at' i hi⟩
 -- what is told behind
 have told : ∀ i b, (i, b) ∈ mM → bY g'.nx (dU μ μ' g.nx nms) w'.heap i b ∧ ∃ b0, H'.get (κ i) = some b0 ∧ b0.owned = b.owned ∧ (b.real (dU μ μ' g.nx nms) i ↔ b0.real μ' (κ i)) ∧ (dU μ μ' g.nx nms).blk i = μ'.blk (κ i) := fun i b hm => by
  obtain ⟨b0, e1, e2⟩ := hG _ hm
  obtain ⟨s1, s2, s3, s4, s5⟩ := Qa hp hL _ hm
  have hat := at' i s1
  have r1 : bY g'.nx (μ'.via κ) w'.heap i b := (e2.ok (hgk.ok _ _ e1)).kW s3 (fun i _ => ⟨rfl, rfl, rfl, rfl, fun _ _ q => q⟩) rfl rfl rfl rfl
  refine ⟨bY.on atS hat s2 (fun _ => rfl) r1, b0, e1, by rw [e2.owned, aF.kX], ?_, hat.blk⟩
  rw [aF.lI hat, e2.real, aF.jr]
  exact aF.dK rfl b
 have hu : MM.upto g.nx μ (dU μ μ' g.nx nms) := yL fun b o q => hE.names.fz b o q
 have keep : ∀ i b, g.H.get i = some b → (∀ j bj, (hpL bl).get j = some bj → bj.owned = true → ρ j ≠ i) → b.real μ i → ¬ May (μ.via ρ) (hpL bl) (μ.blk i) := fun i b hb hn hr hm => by
  obtain ⟨j, bj, b1, m1, m2, m3, m4, m5, m6⟩ := may1 _ hm
  exact hn j bj m1 m2 (hg.sep _ _ _ _ m3 hb m4 m5 hr m6)
 refine ⟨dU μ μ' g.nx nms, ((hge _ _ _ hrep).kW (hv hp hL)).on atS (hvS hp hL), ⟨fun i b hb => ?_, fun i b hb => ?_, fun i b j b' hi hj ho hr hr' he => ?_, fun b o q => ⟨(hgk.fz b o q).1, fun ⟨i, x, m1, m2, m3, m4⟩ => by
  rcases hg' hp hL i x m1 with ⟨h1, hn⟩ | hm
  ·have l1 := hg.lt _ _ h1
   have QW := (aF.aX hu l1 x).1 m3
   have QX : μ.blk i = b := by rw [← hu.blk i l1]; exact m4
   rcases hE.fz b o q with q1 | q1 | q1
   ·exact (hg.fz b o q1).2 ⟨i, x, h1, m2, QW, QX⟩
   ·have := (hg.ok i x h1).lt_size QW
    omega
   ·exact keep i x h1 hn QW (by rw [QX]; exact q1)
  ·obtain ⟨_, b0, e1, e2, e3, e4⟩ := told i x hm
   exact (hgk.fz b o q).2 ⟨κ i, b0, e1, e2.trans m2, e3.1 m3, by rw [← e4]; exact m4⟩⟩⟩, ⟨by omega, hu, hE.os, hE.tape, hE.output, hE.size, fun b hb hn => hE.block b hb fun hm => hn ?_, fun B hb hm => ?_, fun b o q => (hE.fz b o q).imp id fun q => q.imp id fun hm => let ⟨j, bj, b1, m1, m2, m3, m4, m5, m6⟩ := may1 _ hm; ⟨ρ j, b1, m3, m4, m5, m6⟩⟩⟩
 ·rcases hg' hp hL i b hb with ⟨h1, _⟩ | hm
  ·have := hg.lt _ _ h1; omega
  ·exact (hS hp hL i (Qa hp hL _ hm).1).1
 ·rcases hg' hp hL i b hb with ⟨h1, hn⟩ | hm
  ·exact (hg.ok i b h1).later hu (by omega) (hg.lt _ _ h1) fun hr => hE.block _ ((hg.ok i b h1).lt_size hr) (keep i b h1 hn hr)
  ·exact (told i b hm).1
 ·-- apart
  have high : ∀ i b, (i, b) ∈ mM → b.real (dU μ μ' g.nx nms) i → (dU μ μ' g.nx nms).blk i < w.heap.size → b.owned = true → May (μ.via ρ) (hpL bl) ((dU μ μ' g.nx nms).blk i) := fun i b hm hr hlt ho => by
   obtain ⟨_, b0, e1, e2, e3, e4⟩ := told i b hm
   rw [e4] at hlt ⊢
   exact hE.may _ hlt ⟨κ i, b0, e1, e2.trans ho, e3.1 hr, rfl⟩
  have mixed : ∀ i b j b', g.H.get i = some b → (∀ j bj, (hpL bl).get j = some bj → bj.owned = true → ρ j ≠ i) → b.real (dU μ μ' g.nx nms) i → (j, b') ∈ mM → b'.real (dU μ μ' g.nx nms) j → (b'.owned = true ∨ j < g.nx) → (b.owned = true ∨ b'.owned = true) → (dU μ μ' g.nx nms).blk i = (dU μ μ' g.nx nms).blk j → False := fun i b j b' h1 hn hr hm hr' hoj hob he => by
   have hlt := hg.lt _ _ h1
   rw [aF.aX hu hlt] at hr
   have hsz := (hg.ok _ _ h1).lt_size hr
   rw [hu.blk i hlt] at he
   by_cases hj : j < g.nx
   ·obtain ⟨s1, s2, s3, s4, s5⟩ := Qa hp hL _ hm
    obtain ⟨bj, q1, q2, q3⟩ := s4 hj
    obtain ⟨_, q4⟩ := hS hp hL j s1
    obtain ⟨_, q5⟩ := q4 hj
    obtain ⟨b1, t1, t2, t3, t4⟩ := (T _ _ q1).of
    rw [q5] at t1
    rw [hu.blk j hj] at he
    rw [aF.aX hu hj] at hr'
    exact hn _ _ q1 q2 (q5.trans (hg.sep _ _ _ _ t1 h1 (t3 q2) (t4 μ j (q3 μ j hr')) hr he.symm))
   ·have ho : b'.owned = true := hoj.resolve_right hj
    have := high j b' hm hr' (by rw [← he]; exact hsz) ho
    rw [← he] at this
    exact keep i b h1 hn hr this
  rcases hg' hp hL i b hi with ⟨h1, hn⟩ | hm
  ·rcases hg' hp hL j b' hj with ⟨h2, hn'⟩ | hm'
   ·have l1 := hg.lt _ _ h1
    have l2 := hg.lt _ _ h2
    rw [aF.aX hu l1] at hr
    rw [aF.aX hu l2] at hr'
    rw [hu.blk i l1, hu.blk j l2] at he
    exact hg.sep _ _ _ _ h1 h2 ho hr hr' he
   ·exact (mixed i b j b' h1 hn hr hm' hr' (by
     by_cases q : j < g.nx
     ·exact .inr q
     ·exact .inl ((Qa hp hL _ hm').2.2.2.2 (by omega))) (.inl ho) he).elim
  ·rcases hg' hp hL j b' hj with ⟨h2, hn'⟩ | hm'
   ·exact (mixed j b' i b h2 hn' hr' hm hr (.inl ho) (.inr ho) he.symm).elim
   ·obtain ⟨_, b0, e1, e2, e3, e4⟩ := told i b hm
    obtain ⟨_, b1, l1, l2, l3, l4⟩ := told j b' hm'
    have e : κ i = κ j := hgk.sep _ _ _ _ e1 l1 (e2.trans ho) (e3.1 hr) (l3.1 hr') (by rw [← e4, ← l4]; exact he)
    obtain ⟨p1, p2⟩ := hS hp hL i (Qa hp hL _ hm).1
    obtain ⟨p3, p4⟩ := hS hp hL j (Qa hp hL _ hm').1
    by_cases c1 : i < g.nx
    ·by_cases c2 : j < g.nx
     ·rw [← (p2 c1).2, ← (p4 c2).2, e]
     ·obtain ⟨y, rfl⟩ := Nat.exists_eq_add_of_le (Nat.le_of_not_lt c2)
      have hy : y < nms.length := by omega
      have k1 := hκ hp hL y hy
      have k2 := hnew (nms.getD y 0) (by rw [List.getD_eq_getElem?_getD, List.getElem?_eq_getElem hy]; exact List.getElem_mem hy)
      have := (p2 c1).1
      omega
    ·obtain ⟨x, rfl⟩ := Nat.exists_eq_add_of_le (Nat.le_of_not_lt c1)
     have hx : x < nms.length := by omega
     have k1 := hκ hp hL x hx
     have k2 := hnew (nms.getD x 0) (by rw [List.getD_eq_getElem?_getD, List.getElem?_eq_getElem hx]; exact List.getElem_mem hx)
     by_cases c2 : j < g.nx
     ·have := (p4 c2).1
      omega
     ·obtain ⟨y, rfl⟩ := Nat.exists_eq_add_of_le (Nat.le_of_not_lt c2)
      have hy : y < nms.length := by omega
      have k3 := hκ hp hL y hy
      have : nms.getD x 0 = nms.getD y 0 := by omega
      rw [List.getD_eq_getElem?_getD, List.getD_eq_getElem?_getD, List.getElem?_eq_getElem hx, List.getElem?_eq_getElem hy] at this
      have := (List.getElem_inj hnd).1 this
      omega
 ·obtain ⟨j, bj, b1, m1, m2, m3, m4, m5, m6⟩ := may1 _ hm
  exact ⟨ρ j, b1, m3, m4, m5, m6⟩
 ·obtain ⟨i, x, m1, m2, m3, m4⟩ := hm
  rcases hg' hp hL i x m1 with ⟨h1, hn⟩ | hmm
  ·have l1 := hg.lt _ _ h1
   exact ⟨i, x, h1, m2, (aF.aX hu l1 x).1 m3, by rw [← hu.blk i l1]; exact m4⟩
  ·obtain ⟨_, b0, e1, e2, e3, e4⟩ := told i x hmm
   obtain ⟨j, bj, b1, q1, q2, q3, q4, q5, q6⟩ := may1 _ (hE.may B hb ⟨κ i, b0, e1, e2.trans m2, e3.1 m3, by rw [← e4]; exact m4⟩)
   exact ⟨ρ j, b1, q3, q4, q5, q6⟩
theorem aj.Td {c : Code} {fr : Fr} {H : T aF} {Post : Po} (q dA : Nat) (rows : Nat → List AV) {own : Bool} {c0 : Cont} (ht : H.get q = some (.cells own 1 1 c0)) (h0 : c0.row 0 = [.dL]) (hpos : 0 < dA) (hB : B ≤ K)
  (h : aj P c n B (K + 1) K' fr ((H.upd K (some (.cells true dA 0 (.fn rows)))).upd q (some (.cells own 1 1 (.fn fun _ => [lK K])))) Post) : aj P c n B K K' fr H Post := by
 intro μ w a hg hf Q hQ
 have hu := MM.GY μ K dA
 have hqK := hg.lt _ _ ht
 have case : ∀ i b, ((H.upd K (some (.cells true dA 0 (.fn rows)))).upd q (some (.cells own 1 1 (.fn fun _ => [lK K])))).get i = some b → (i = K ∧ b = .cells true dA 0 (.fn rows)) ∨ ∃ b0, i < K ∧ H.get i = some b0 ∧ b0.owned = b.owned ∧ (∀ μ m, b.real μ m ↔ b0.real μ m) ∧ (b = b0 ∨ (i = q ∧ b = .cells own 1 1 (.fn fun _ => [lK K]))) := fun i b hb => by
  rw [T.bF] at hb
  split at hb
  ·cases hb; rename_i e; subst e
   exact .inr ⟨_, hqK, ht, rfl, fun μ m => Iff.rfl, .inr ⟨rfl, rfl⟩⟩
  ·rw [T.bF] at hb
   split at hb
   ·cases hb; exact .inl ⟨‹_›, rfl⟩
   ·exact .inr ⟨b, hg.lt _ _ hb, hb, rfl, fun μ m => Iff.rfl, .inl rfl⟩
 have unreal : ∀ b, b = aF.cells true dA 0 (.fn rows) → ¬ b.real (μ.at K dA) K := by
  rintro b rfl hr
  simp [aF.real, MM.at] at hr
 have may : ∀ b, May (μ.at K dA) ((H.upd K (some (.cells true dA 0 (.fn rows)))).upd q (some (.cells own 1 1 (.fn fun _ => [lK K])))) b → May μ H b := by
  rintro b ⟨i, x, m1, m2, m3, m4⟩
  rcases case i x m1 with ⟨rfl, rfl⟩ | ⟨b0, hi, hx, e1, e2, _⟩
  ·exact (unreal _ rfl m3).elim
  ·rw [aF.aX hu hi] at m3
   rw [hu.blk i hi] at m4
   exact ⟨i, b0, hx, e1.trans m2, (e2 _ _).1 m3, m4⟩
 have hE : mF B H μ w ((H.upd K (some (.cells true dA 0 (.fn rows)))).upd q (some (.cells own 1 1 (.fn fun _ => [lK K])))) (μ.at K dA) w := ⟨hu.mono hB, rfl, rfl, rfl, Nat.le_refl _, fun b _ _ => rfl, fun b _ hm => may b hm, fun _ _ q => .inl q⟩
 refine h (μ.at K dA) w a ⟨fun i b hb => ?_, fun i b hb => ?_, fun i b j b' hi hj ho hr hr' he => ?_, fun b o q => ⟨(hg.fz b o q).1, fun hm => (hg.fz b o q).2 (may b hm)⟩⟩ ⟨hf.size, fun t' v hv => (hf.val t' v hv).later hu (by omega)⟩ Q fun e fr' H' a' w' hp ha => hQ e fr' H' a' w' hp (AtB.trans hE rfl ha)
 ·rcases case i b hb with ⟨rfl, _⟩ | ⟨b0, hi, _⟩ <;> omega
 ·rcases case i b hb with ⟨rfl, rfl⟩ | ⟨b0, hi, hx, e1, e2, rfl | ⟨rfl, rfl⟩⟩
  ·refine ⟨by simp [MM.at], hpos, fun hr => ?_⟩
   simp [MM.at] at hr
  ·exact (hg.ok i b hx).later hu (by omega) hi fun _ => rfl
  ·have ok := (hg.ok _ _ ht).later hu (Nat.le_succ K) hqK (fun _ => rfl)
   refine ⟨ok.1, ok.2.1, fun hr => ?_⟩
   obtain ⟨cur, ty, fz, k1, k2, k3, k4⟩ := ok.2.2 hr
   refine ⟨cur, ty, fz, k1, k2, k3, fun j hj => ?_⟩
   obtain rfl : j = 0 := by omega
   have k5 := k4 0 (by omega)
   rw [h0] at k5
   refine ⟨rfl, fun o v hv => ?_⟩
   match o, hv with
   | 0, hv =>
    cases hv
    obtain ⟨_, cv, k6, k7⟩ := k5.2 0 .dL rfl
    refine ⟨rfl, cv, k6, ?_⟩
    simp only [Rep] at k7
    rw [k7]
    simp only [lK, Rep]
    exact ⟨by omega, none, 0, rfl, Nat.le_refl _, fun h => absurd h (by omega), fun h => (by cases h), fun _ => ⟨rfl, rfl, .inl ⟨rfl, rfl, rfl⟩⟩⟩
 ·rcases case i b hi with ⟨rfl, rfl⟩ | ⟨b0, hi1, hx, e1, e2, _⟩
  ·exact (unreal _ rfl hr).elim
  ·rcases case j b' hj with ⟨rfl, rfl⟩ | ⟨b1, hj1, hy, e3, e4, _⟩
   ·exact (unreal _ rfl hr').elim
   ·rw [aF.aX hu hi1] at hr
    rw [aF.aX hu hj1] at hr'
    rw [hu.blk i hi1, hu.blk j hj1] at he
    exact hg.sep _ _ _ _ hx hy (e1.trans ho) ((e2 _ _).1 hr) ((e4 _ _).1 hr') he
def wZ (m : Nat) : Code → Code
 | .region i ops d => .region i (ops.toList.take m).toArray d
 | c => c
def rY (m : Nat) : Code → Code
 | .region i ops d => .region i (ops.toList.drop m).toArray d
 | c => c
def jS : Code → List Oper
 | .region _ ops _ => ops.toList
 | _ => []
def DZ : Code → Nat
 | .region i _ _ => i
 | _ => 0
end Go.Sx
namespace Go.Sx
open M
variable {P : Program} {n B K K' : Nat}
theorem aj.D5 {c : Code} {fr : Fr} {H : T aF} {Post : Po} (q dA : Nat) (rows : Nat → List AV) {own : Bool} {c0 : Cont} {sz1 : Nat} (o0 : Nat) (l : List AV) (ht : H.get q = some (.cells own sz1 1 c0)) (h0 : c0.row 0 = l) (hl : l[o0]? = some .dL) (hpos : 0 < dA) (hB : B ≤ K)
  (h : aj P c n B (K + 1) K' fr ((H.upd K (some (.cells true dA 0 (.fn rows)))).upd q (some (.cells own sz1 1 (.fn fun _ => l.set o0 (lK K))))) Post) : aj P c n B K K' fr H Post := by
 intro μ w a hg hf Q hQ
 have hu := MM.GY μ K dA
 have hqK := hg.lt _ _ ht
 have case : ∀ i b, ((H.upd K (some (.cells true dA 0 (.fn rows)))).upd q (some (.cells own sz1 1 (.fn fun _ => l.set o0 (lK K))))).get i = some b → (i = K ∧ b = .cells true dA 0 (.fn rows)) ∨ ∃ b0, i < K ∧ H.get i = some b0 ∧ b0.owned = b.owned ∧ (∀ μ m, b.real μ m ↔ b0.real μ m) ∧ (b = b0 ∨ (i = q ∧ b = .cells own sz1 1 (.fn fun _ => l.set o0 (lK K)))) := fun i b hb => by
  rw [T.bF] at hb
  split at hb
  ·cases hb; rename_i e; subst e
   exact .inr ⟨_, hqK, ht, rfl, fun μ m => Iff.rfl, .inr ⟨rfl, rfl⟩⟩
  ·rw [T.bF] at hb
   split at hb
   ·cases hb; exact .inl ⟨‹_›, rfl⟩
   ·exact .inr ⟨b, hg.lt _ _ hb, hb, rfl, fun μ m => Iff.rfl, .inl rfl⟩
 have unreal : ∀ b, b = aF.cells true dA 0 (.fn rows) → ¬ b.real (μ.at K dA) K := by
  rintro b rfl hr
  simp [aF.real, MM.at] at hr
 have may : ∀ b, May (μ.at K dA) ((H.upd K (some (.cells true dA 0 (.fn rows)))).upd q (some (.cells own sz1 1 (.fn fun _ => l.set o0 (lK K))))) b → May μ H b := by
  rintro b ⟨i, x, m1, m2, m3, m4⟩
  rcases case i x m1 with ⟨rfl, rfl⟩ | ⟨b0, hi, hx, e1, e2, _⟩
  ·exact (unreal _ rfl m3).elim
  ·rw [aF.aX hu hi] at m3
   rw [hu.blk i hi] at m4
   exact ⟨i, b0, hx, e1.trans m2, (e2 _ _).1 m3, m4⟩
 have hE : mF B H μ w ((H.upd K (some (.cells true dA 0 (.fn rows)))).upd q (some (.cells own sz1 1 (.fn fun _ => l.set o0 (lK K))))) (μ.at K dA) w := ⟨hu.mono hB, rfl, rfl, rfl, Nat.le_refl _, fun b _ _ => rfl, fun b _ hm => may b hm, fun _ _ q => .inl q⟩
 refine h (μ.at K dA) w a ⟨fun i b hb => ?_, fun i b hb => ?_, fun i b j b' hi hj ho hr hr' he => ?_, fun b o q => ⟨(hg.fz b o q).1, fun hm => (hg.fz b o q).2 (may b hm)⟩⟩ ⟨hf.size, fun t' v hv => (hf.val t' v hv).later hu (by omega)⟩ Q fun e fr' H' a' w' hp ha => hQ e fr' H' a' w' hp (AtB.trans hE rfl ha)
 ·rcases case i b hb with ⟨rfl, _⟩ | ⟨b0, hi, _⟩ <;> omega
 ·rcases case i b hb with ⟨rfl, rfl⟩ | ⟨b0, hi, hx, e1, e2, rfl | ⟨rfl, rfl⟩⟩
  ·refine ⟨by simp [MM.at], hpos, fun hr => ?_⟩
   simp [MM.at] at hr
  ·exact (hg.ok i b hx).later hu (by omega) hi fun _ => rfl
  ·have ok := (hg.ok _ _ ht).later hu (Nat.le_succ K) hqK (fun _ => rfl)
   refine ⟨ok.1, ok.2.1, fun hr => ?_⟩
   obtain ⟨cur, ty, fz, k1, k2, k3, k4⟩ := ok.2.2 hr
   refine ⟨cur, ty, fz, k1, k2, k3, fun j hj => ?_⟩
   obtain rfl : j = 0 := by omega
   have k5 := k4 0 (by omega)
   rw [h0] at k5
   refine ⟨(List.length_set (as := l) (i := o0) (a := lK K)).trans k5.1, fun o v hv => ?_⟩
   have hv : (l.set o0 (lK K))[o]? = some v := hv
   by_cases q : o = o0
   ·subst q
    have hlt : o < l.length := (List.getElem?_eq_some_iff.1 hl).1
    rw [List.getElem?_set_self hlt] at hv
    cases hv
    obtain ⟨_, cv, k6, k7⟩ := k5.2 o .dL hl
    refine ⟨rfl, cv, k6, ?_⟩
    simp only [Rep] at k7
    rw [k7]
    simp only [lK, Rep]
    exact ⟨by omega, none, 0, rfl, Nat.le_refl _, fun h => absurd h (by omega), fun h => (by cases h), fun _ => ⟨rfl, rfl, .inl ⟨rfl, rfl, rfl⟩⟩⟩
   ·rw [List.getElem?_set_ne (by omega)] at hv
    exact k5.2 o v hv
 ·rcases case i b hi with ⟨rfl, rfl⟩ | ⟨b0, hi1, hx, e1, e2, _⟩
  ·exact (unreal _ rfl hr).elim
  ·rcases case j b' hj with ⟨rfl, rfl⟩ | ⟨b1, hj1, hy, e3, e4, _⟩
   ·exact (unreal _ rfl hr').elim
   ·rw [aF.aX hu hi1] at hr
    rw [aF.aX hu hj1] at hr'
    rw [hu.blk i hi1, hu.blk j hj1] at he
    exact hg.sep _ _ _ _ hx hy (e1.trans ho) ((e2 _ _).1 hr) ((e4 _ _).1 hr') he
theorem aj.aao {call : Calls'} (hcall : dw P call) {region : List Oper → Fr → M Fr} {loops : Loops} {rounds : Nat} {ops : Array Oper} {id id1 id2 : Nat} {l1 l2 : List Oper} {o : Oper} (hops : ops.toList = l1 ++ (o :: l2))
  (hgd : ∀ o ∈ l1, o.guard = none) (hgo : o.guard = none) (hg2 : ∀ o ∈ l2, o.guard = none)
  {cl : Call} (ho : o.op = .call cl) {Bg : Operand} (S9 : cl.callee = .value Bg) {d : Nat} (hdst : o.dst = some d) (hd : d < n)
  {K1 K2 : Nat} (L6 : K1 ≤ K2) {fr : Fr} {H : T aF} {vX : List (Nat × AV)} {Ib : List (Nat × aF)} {path : List Bool}
  (hrun : cO K1 .normal vX Ib (bV P call region loops n rounds (.region id1 l1.toArray false) fr ⟨H, K, [], path, True⟩))
  {f : FuncId} {fn : Func} {body : Code} (hf : P.funcs[f]? = some fn) (hb : fn.body = some body) (hname : (fn.name == "runtime.NumGoroutine") = false)
  {pre cap : List AV} (hfv : bT (aV vX) Bg = .fn (.func f) pre cap) {B0 : Nat} (hB0 : B ≤ B0) (Ym : B0 ≤ K1) (hBB : B ≤ K) {Tf : List (Nat × AV)} (hk1 : Tf.all (fun p => p.2.low B0) = true) (hk2 : Ge (aV vX) Tf) {V : AV → T aF → Prop}
  (yN : aj P body fn.ntmps B0 K1 K2 (bJ (pre ++ cl.args.toList.map (bT (aV vX)) ++ cap) 0 .e) (hpL Ib) fun e fr' H' => (e = .ret ∨ e = .normal) ∧ ∃ vs g', dH P fr' fn.results.toList ⟨H', K2, [], [], True⟩ = .done vs g' ∧ g'.cs ∧ ∃ u, AV.ge (jZ vs) u ∧ V u H')
  {Post : Po} (hpost : ∀ v H', V v H' → ∃ uG QY KO, cO K' .normal QY KO (bV P call region loops n rounds (.region id2 l2.toArray false) ((aV Tf).upd d (some v)) ⟨H', K2, [], uG, True⟩) ∧ Post .normal (aV QY) (hpL KO)) :
  aj P (.region id ops false) n B K K' fr H Post := by
 intro μ w a hg hf0 Q hQ
 refine wp_region_list ?_
 rw [hops]
 have hr := hrun.of
 generalize hres : bV P call region loops n rounds (.region id1 l1.toArray false) fr ⟨H, K, [], path, True⟩ = res at hr
 unfold jg at hr
 split at hr
 ·rename_i r g
  obtain ⟨hre, hw, hh, hnx, hcs1⟩ := hr
  have hnx := Nat.le_of_ble_eq_true hnx
  unfold bV at hres
  obtain ⟨wX, g1, b1, b2⟩ := au hres
  obtain ⟨rfl, rfl⟩ := aB b2
  have b1' : jX P call n l1 l1 fr ⟨H, K, [], path, True⟩ = .done wX g1 := by rw [← uZ]; simpa using b1
  obtain ⟨_, hs⟩ := DX hcall (ops := ops) (Q := Q) (l2 := o :: l2) l1 _ _ _ _ hgd b1'
  refine hs hcs1 μ w a hg hf0 fun a1 w1 hk => ?_
  obtain ⟨μ1, k1, k2, k3, k4⟩ := hk
  have sub : ∀ i b, (hpL Ib).get i = some b → g1.H.get i = some b := fun i b hb => hh.get (aY hb)
  have k1' : dP K1 μ1 w1.heap (hpL Ib) := k1.up hnx sub
  have x1 : mF B H μ w (hpL Ib) μ1 w1 := ⟨k2.names.mono hBB, k2.os, k2.tape, k2.output, k2.size, k2.block, fun b hb hm => k2.may b hb (by
   obtain ⟨i, x, m1, m2, m3, m4⟩ := hm
   exact ⟨i, x, sub i x m1, m2, m3, m4⟩), k2.fz⟩
  have Yn : dG K1 μ1 (aV vX) a1.tmps n := ⟨k3.size, fun t v ht => (k3.val t v (hw.get (fV ht))).later (.refl _ _) hnx⟩
  have hKK : K ≤ K1 := Nat.le_trans k2.nx hnx
  refine wpList_plain hgo fun KK aan => ?_
  -- the call
  have hxv := Yn.eval Bg
  rw [hfv] at hxv
  simp only [Rep] at hxv
  obtain ⟨fs, cs, e, h1, h2⟩ := hxv
  have hargs : aO K1 μ1 (pre ++ cl.args.toList.map (bT (aV vX)) ++ cap) ((fs ++ cl.args.map a1.eval) ++ cs).toList := by
   simp only [Array.toList_append]
   exact (h1.append (Yn.IY _)).append h2
  have hcf := aj.call hf hb hname (V := fun v H' => ∃ u, AV.ge v u ∧ V u H') yN μ1 w1 k1' hargs
  have L8 : (execOp a1.eval o).run P w1 = (callFunc f ((fs ++ cl.args.map a1.eval) ++ cs)).run P w1 := by
   simp only [execOp, ho, resolve, S9, e, Deferred.ofValue, Sem.run_bind]
   rfl
  have fin : ∀ c w', (∃ v μ' H', (∃ u, AV.ge v u ∧ V u H') ∧ Rep K2 μ' v c ∧ dP K2 μ' w'.heap H' ∧ mF B0 (hpL Ib) μ1 w1 H' μ' w') → KK (a1.put o.dst c) w' := by
   rintro c w' ⟨v0, μ2, H2, ⟨v, hge, hV⟩, r1, r2, r3⟩
   replace r1 := hge _ _ _ r1
   refine aan _ _ ?_
   obtain ⟨uG, QY, KO, hp2, hP⟩ := hpost v H2 hV
   have hr2 := hp2.of
   generalize hres2 : bV P call region loops n rounds (.region id2 l2.toArray false) ((aV Tf).upd d (some v)) ⟨H2, K2, [], uG, True⟩ = res2 at hr2
   unfold jg at hr2
   split at hr2
   ·rename_i r' g'
    obtain ⟨afM, hw', hh', GZ, hcs2⟩ := hr2
    have GZ := Nat.le_of_ble_eq_true GZ
    unfold bV at hres2
    obtain ⟨fr3, g3, b3, b4⟩ := au hres2
    obtain ⟨rfl, rfl⟩ := aB b4
    have b3' : jX P call n l2 l2 ((aV Tf).upd d (some v)) ⟨H2, K2, [], uG, True⟩ = .done fr3 g3 := by rw [← uZ]; simpa using b3
    obtain ⟨_, hs2⟩ := DX hcall (ops := ops) (Q := Q) (l2 := []) l2 _ _ _ _ hg2 b3'
    rw [List.append_nil] at hs2
    have f1 : dG K2 μ2 ((aV Tf).upd d (some v)) (a1.put o.dst c).tmps n := by
     rw [hdst]
     have kk : dG K2 μ2 (aV Tf) a1.tmps n := ⟨Yn.size, fun t v ht => by
      have hm := fV ht
      obtain ⟨u, hu1, hu2⟩ := hk2.get _ hm
      exact ((Rep.lY (.refl _ _) (fun _ _ => rfl) (List.all_eq_true.1 hk1 _ hm) (hu2 _ _ _ (Yn.val t u hu1))).later r3.names (Nat.le_refl _)).later (.refl _ _) (Nat.le_trans Ym L6)⟩
     exact kk.upd hd r1
    refine hs2 hcs2 μ2 w' _ r2 f1 fun a3 w3 hk3 => ?_
    obtain ⟨μ3, q1, q2, q3, q4⟩ := hk3
    have Tc : ∀ i b, (hpL KO).get i = some b → g3.H.get i = some b := fun i b hb => hh'.get (aY hb)
    refine wpList_nil (hQ .normal _ _ _ _ hP ⟨μ3, q1.up GZ Tc, ?_, ⟨q3.size, fun t v ht => (q3.val t v (hw'.get (fV ht))).later (.refl _ _) GZ⟩, ?_⟩)
    ·have x2 : mF B (hpL Ib) μ1 w1 H2 μ2 w' := ⟨r3.names.mono hB0, r3.os, r3.tape, r3.output, r3.size, r3.block, r3.may, r3.fz⟩
     have x3 : mF B H2 μ2 w' (hpL KO) μ3 w3 := ⟨q2.names.mono (Nat.le_trans hB0 (Nat.le_trans Ym L6)), q2.os, q2.tape, q2.output, q2.size, q2.block, fun b hb hm => q2.may b hb (by
      obtain ⟨i, x, m1, m2, m3, m4⟩ := hm
      exact ⟨i, x, Tc i x m1, m2, m3, m4⟩), q2.fz⟩
     exact (x1.trans x2).trans x3
    ·rw [q4, Act.put_defers]; exact k4
   ·exact hr2.elim
  unfold Oper.wp
  rw [L8]
  rcases hcf with ⟨c, w', e, ha⟩ | ⟨f', args', w', e, CY⟩
  ·rw [e]; exact fin c w' ha
  ·rw [e, Oper.upon_enter]
   refine CY.mono ?_
   rintro e1 w2 ⟨c, rfl, ha⟩
   exact fin c w2 ha
 ·exact hr.elim
theorem aj.NZ {call : Calls'} (hcall : dw P call) {region : List Oper → Fr → M Fr} {loops : Loops} {rounds : Nat} {c : Code} (i : Nat) (hc : c = .region (DZ c) (jS c).toArray false) {o : Oper} (hops : jS c = (jS c).take i ++ (o :: (jS c).drop (i + 1))) (hgd : (jS c).all (fun o => o.guard.isNone) = true)
  {cl : Call} (ho : o.op = .call cl) {Bg : Operand} (S9 : cl.callee = .value Bg) {d : Nat} (hdst : o.dst = some d) (hd : d < n)
  {K1 K2 : Nat} (L6 : K1 ≤ K2) {fr : Fr} {H : T aF} {vX : List (Nat × AV)} {Ib : List (Nat × aF)} {path : List Bool}
  (hrun : cO K1 .normal vX Ib (bV P call region loops n rounds (wZ i c) fr ⟨H, K, [], path, True⟩))
  {f : FuncId} {fn : Func} {body : Code} (hf : P.funcs[f]? = some fn) (hb : fn.body = some body) (hname : (fn.name == "runtime.NumGoroutine") = false)
  {pre cap : List AV} (hfv : bT (aV vX) Bg = .fn (.func f) pre cap) {B0 : Nat} (hB0 : B ≤ B0) (Ym : B0 ≤ K1) (hBB : B ≤ K) (Tf : List (Nat × AV)) (hk1 : Tf.all (fun p => p.2.low B0) = true) (hk2 : Ge (aV vX) Tf) {args : List AV} (hargs : pre ++ cl.args.toList.map (bT (aV vX)) ++ cap = args) {V : AV → T aF → Prop}
  (yN : aj P body fn.ntmps B0 K1 K2 (bJ args 0 .e) (hpL Ib) fun e fr' H' => (e = .ret ∨ e = .normal) ∧ ∃ vs g', dH P fr' fn.results.toList ⟨H', K2, [], [], True⟩ = .done vs g' ∧ g'.cs ∧ ∃ u, AV.ge (jZ vs) u ∧ V u H')
  {Post : Po} (hpost : ∀ v H', V v H' → ∃ uG QY KO, cO K' .normal QY KO (bV P call region loops n rounds (rY (i + 1) c) ((aV Tf).upd d (some v)) ⟨H', K2, [], uG, True⟩) ∧ Post .normal (aV QY) (hpL KO)) :
  aj P c n B K K' fr H Post := by
 have e1 : wZ i c = .region (DZ c) ((jS c).take i).toArray false := by
  rw [hc]; simp only [wZ, DZ, jS]
 have e2 : rY (i + 1) c = .region (DZ c) ((jS c).drop (i + 1)).toArray false := by
  rw [hc]; simp only [rY, DZ, jS]
 have gd := List.all_eq_true.1 hgd
 have g : ∀ o ∈ jS c, o.guard = none := fun o ho => Option.isNone_iff_eq_none.1 (gd o ho)
 rw [e1] at hrun
 subst hargs
 rw [hc]
 refine aj.aao hcall (id1 := DZ c) (id2 := DZ c) (l1 := (jS c).take i) (l2 := (jS c).drop (i + 1)) (o := o) (by simpa using hops) (fun o ho => g o (List.mem_of_mem_take ho)) (g o (by rw [hops]; simp)) (fun o ho => g o (List.mem_of_mem_drop ho)) ho S9 hdst hd L6 hrun hf hb hname hfv hB0 Ym hBB hk1 hk2 yN fun v H' hv => ?_
 obtain ⟨p, QY, KO, h1, h2⟩ := hpost v H' hv
 rw [e2] at h1
 exact ⟨p, QY, KO, h1, h2⟩
def yO (b b' : aF) : Prop := qo b b' ∨ ∃ s s' l, b = .aJ s l ∧ b' = .aJ s' l
theorem yO.owned {b b' : aF} (h : yO b b') : b.owned = b'.owned := by
 rcases h with h | ⟨s, s', l, rfl, rfl⟩
 ·exact h.owned
 ·rfl
theorem yO.real {b b' : aF} (h : yO b b') (μ : MM) (g : Nat) : b.real μ g ↔ b'.real μ g := by
 rcases h with h | ⟨s, s', l, rfl, rfl⟩
 ·exact h.real μ g
 ·exact Iff.rfl
theorem yO.ok {N : Nat} {μ : MM} {hp : Array Obj} {g : Nat} {b b' : aF} (h : yO b b') (k : bY N μ hp g b) : bY N μ hp g b' := by
 rcases h with h | ⟨s, s', l, rfl, rfl⟩
 ·exact h.ok k
 ·exact k
theorem aj.ac9 {c : Code} {fr pW : Fr} {H H0 : T aF} {Post : Po} (hf : ∀ t v, pW.get t = some v → ∃ u, fr.get t = some u ∧ AV.ge u v) (hH : ∀ i b, H0.get i = some b → ∃ b', H.get i = some b' ∧ yO b' b) (h : aj P c n B K K' pW H0 Post) : aj P c n B K K' fr H Post := by
 intro μ w a hg hfr Q hQ
 refine h μ w a ⟨fun i b hb => let ⟨b', h1, _⟩ := hH i b hb; hg.lt i b' h1, fun i b hb => let ⟨b', h1, h2⟩ := hH i b hb; h2.ok (hg.ok i b' h1), fun i b j b' hi hj ho hr hr' he => ?_, fun b o q => ⟨(hg.fz b o q).1, fun ⟨i, x, m1, m2, m3, m4⟩ => let ⟨b', h1, h2⟩ := hH i x m1; (hg.fz b o q).2 ⟨i, b', h1, by rw [h2.owned]; exact m2, (h2.real μ i).2 m3, m4⟩⟩⟩
  ⟨hfr.size, fun t v ht => let ⟨u, h1, h2⟩ := hf t v ht; h2 _ _ _ (hfr.val t u h1)⟩ Q fun e fr' H' a' w' hp ha => hQ e fr' H' a' w' hp ⟨?_⟩
 ·obtain ⟨b1, h1, h2⟩ := hH i b hi
  obtain ⟨b2, k1, k2⟩ := hH j b' hj
  exact hg.sep i b1 j b2 h1 k1 (by rw [h2.owned]; exact ho) ((h2.real μ i).2 hr) ((k2.real μ j).2 hr') he
 ·obtain ⟨μ', k1, k2, k3, k4⟩ := ha.of
  have may : ∀ b, May μ H0 b → May μ H b := fun b ⟨i, x, m1, m2, m3, m4⟩ => by
   obtain ⟨b', h1, h2⟩ := hH i x m1
   exact ⟨i, b', h1, by rw [h2.owned]; exact m2, (h2.real μ i).2 m3, m4⟩
  exact ⟨μ', k1, ⟨k2.names, k2.os, k2.tape, k2.output, k2.size, fun b hb hn => k2.block b hb fun hm => hn (may b hm), fun b hb hm => may b (k2.may b hb hm), fun b o q => (k2.fz b o q).imp id fun q => q.imp id (may b)⟩, k3, k4⟩
def GeM (H : T aF) : List (Nat × aF) → Prop
 | [] => True
 | p :: l => (∃ b, H.get p.1 = some b ∧ yO b p.2) ∧ GeM H l
theorem GeM.get {H : T aF} : ∀ {l : List (Nat × aF)}, GeM H l → ∀ p ∈ l, ∃ b, H.get p.1 = some b ∧ yO b p.2
 | q :: l, h, p, hp => by
  rcases List.mem_cons.1 hp with rfl | hp
  ·exact h.1
  ·exact GeM.get h.2 p hp
theorem aj.D6 {c : Code} {fr : Fr} {H : T aF} {fl : List (Nat × AV)} {bl : List (Nat × aF)} {Post : Po} (hf : Ge fr fl) (hH : GeM H bl) (h : aj P c n B K K' (aV fl) (hpL bl) Post) : aj P c n B K K' fr H Post :=
 h.ac9 (fun t v ht => hf.get _ (fV ht)) fun i b hb => hH.get _ (aY hb)
structure Ti (N : Nat) (H' : T aF) (nms : List Nat) (bs : List aF) : Prop where
 len : nms.length = bs.length
 at' : ∀ (i : Nat) (b : aF), bs[i]? = some b → ∃ nm b0, nms[i]? = some nm ∧ H'.get nm = some b0 ∧ dD b0 (b.ren fun i => nms.getD (i - N) 0) ∧ b.owned = true ∧ b.mJ (N + bs.length) ∧ b.iy (fun i => N ≤ i)
 nodup : nms.Nodup
theorem Tj {g : G} {μ : MM} {w w' : World} (hg : dP g.nx μ w.heap g.H) {k K' : Nat} {Hc H' : T aF} {μc μ' : MM} (hno : ∀ B, ¬ May μc Hc B) (hz : ∀ b, μc.fz b = μ.fz b) (hE : mF k Hc μc w H' μ' w') (hc : dP K' μ' w'.heap H') {nms : List Nat} {bs : List aF} (hn : Ti g.nx H' nms bs)
  {g' : G} (h1 : g'.H = kS g.H g.nx bs) (h2 : g'.nx = g.nx + bs.length) :
  dP g'.nx (dU μ μ' g.nx nms) w'.heap g'.H ∧ Ext g μ w g' (dU μ μ' g.nx nms) w' := by
 have old : ∀ B, B < w.heap.size → w'.heap[B]? = w.heap[B]? := fun B hB => hE.block B hB (hno B)
 have lo : MM.upto g.nx μ (dU μ μ' g.nx nms) := yL fun b o q => hE.names.fz b o (by rw [hz]; exact q)
 have case : ∀ i b, g'.H.get i = some b → (i < g.nx ∧ g.H.get i = some b) ∨ ∃ j nm b0, i = g.nx + j ∧ bs[j]? = some b ∧ nms[j]? = some nm ∧ H'.get nm = some b0 ∧ dD b0 (b.ren fun i => nms.getD (i - g.nx) 0) ∧ b.owned = true ∧ b.mJ (g.nx + bs.length) ∧ b.iy (fun i => g.nx ≤ i) := fun i b hb => by
  rw [h1, rV] at hb
  split at hb
  ·rename_i hi
   obtain ⟨nm, b0, k1, k2, k3, k4, k5, k6⟩ := hn.at' _ _ hb
   exact .inr ⟨i - g.nx, nm, b0, by omega, hb, k1, k2, k3, k4, k5, k6⟩
  ·exact .inl ⟨hg.lt _ _ hb, hb⟩
 have nmv : ∀ j nm, nms[j]? = some nm → nms.getD (g.nx + j - g.nx) 0 = nm := fun j nm h => by
  rw [show g.nx + j - g.nx = j by omega, List.getD_eq_getElem?_getD, h]; rfl
 have eqs : ∀ j nm, nms[j]? = some nm → (dU μ μ' g.nx nms).blk (g.nx + j) = μ'.blk nm ∧ (dU μ μ' g.nx nms).cap (g.nx + j) = μ'.cap nm ∧ (dU μ μ' g.nx nms).sz (g.nx + j) = μ'.sz nm ∧ (dU μ μ' g.nx nms).base (g.nx + j) = μ'.base nm := fun j nm h => by
  have hge : ¬ g.nx + j < g.nx := by omega
  refine ⟨?_, ?_, ?_, ?_⟩ <;> simp only [dU, if_neg hge, nmv j nm h]
 have high : ∀ (j nm : Nat) (b0 b : aF), nms[j]? = some nm → H'.get nm = some b0 → dD b0 (b.ren fun i => nms.getD (i - g.nx) 0) → b.owned = true → b.real (dU μ μ' g.nx nms) (g.nx + j) → w.heap.size ≤ (dU μ μ' g.nx nms).blk (g.nx + j) := fun j nm b0 b e1 e2 e3 e4 e5 => by
  obtain ⟨q1, q2, q3, q4⟩ := eqs j nm e1
  rw [q1]
  refine Nat.le_of_not_lt fun hlt => hno _ (hE.may _ hlt ⟨nm, b0, e2, by rw [e3.owned, aF.kX]; exact e4, (e3.real _ _).2 ((aF.jr _ _ _ _).2 ((aF.dK q2 b).1 e5)), rfl⟩)
 constructor
 ·refine ⟨fun i b hb => ?_, fun i b hb => ?_, fun i b j b' hi hj ho hr hr' he => ?_, fun b o q => ⟨(hc.fz b o q).1, fun ⟨i, bk, m1, m2, m3, m4⟩ => ?_⟩⟩
  ·rw [h2]
   rcases case i b hb with ⟨h, _⟩ | ⟨j, nm, b0, rfl, h, _⟩
   ·omega
   ·have := (List.getElem?_eq_some_iff.1 h).1; omega
  ·rcases case i b hb with ⟨h, hb'⟩ | ⟨j, nm, b0, rfl, e1, e2, e3, e4, e5, e6, e7⟩
   ·have ok := hg.ok _ _ hb'
    exact ok.later lo (by omega) h fun hr => old _ (ok.lt_size hr)
   ·obtain ⟨q1, q2, q3, q4⟩ := eqs j nm e2
    have r1 : bY g'.nx (μ'.via fun i => nms.getD (i - g.nx) 0) w'.heap (g.nx + j) b := by
     refine bY.kW (σ := fun i => nms.getD (i - g.nx) 0) (μ := μ') (g' := nm) (e4.ok (hc.ok _ _ e3)) (by rw [h2]; exact e6) (fun i _ => ⟨rfl, rfl, rfl, rfl, fun _ _ q => q⟩) ?_ ?_ ?_ ?_ <;> simp only [MM.via, nmv j nm e2]
    refine bY.on (S := fun i => g.nx ≤ i) (fun i hi hl => ⟨hl, ?_⟩) ?_ e7 (fun _ => rfl) r1
    ·have hge : ¬ i < g.nx := by omega
     refine ⟨?_, ?_, ?_, ?_, fun _ _ q => q⟩ <;> simp only [dU, if_neg hge, MM.via]
    ·have hge : ¬ g.nx + j < g.nx := by omega
     refine ⟨?_, ?_, ?_, ?_, fun _ _ q => q⟩ <;> simp only [dU, if_neg hge, MM.via]
  ·rcases case i b hi with ⟨hlt, hb1⟩ | ⟨i1, nm, b0, rfl, e1, e2, e3, e4, e5, e6, e7⟩
   ·rw [aF.aX lo hlt] at hr
    rw [lo.blk i hlt] at he
    rcases case j b' hj with ⟨hlt', hb2⟩ | ⟨j1, nm', b0', rfl, e1', e2', e3', e4', e5', e6', e7'⟩
    ·rw [aF.aX lo hlt'] at hr'
     rw [lo.blk j hlt'] at he
     exact hg.sep _ _ _ _ hb1 hb2 ho hr hr' he
    ·have := high j1 nm' b0' b' e2' e3' e4' e5' hr'
     have := (hg.ok _ _ hb1).lt_size hr
     omega
   ·rcases case j b' hj with ⟨hlt', hb2⟩ | ⟨j1, nm', b0', rfl, e1', e2', e3', e4', e5', e6', e7'⟩
    ·rw [aF.aX lo hlt'] at hr'
     rw [lo.blk j hlt'] at he
     have := high i1 nm b0 b e2 e3 e4 e5 hr
     have := (hg.ok _ _ hb2).lt_size hr'
     omega
    ·obtain ⟨q1, q2, _⟩ := eqs i1 nm e2
     obtain ⟨q1', q2', _⟩ := eqs j1 nm' e2'
     have e : nm = nm' := hc.sep _ _ _ _ e3 e3' (by rw [e4.owned, aF.kX]; exact e5) ((e4.real _ _).2 ((aF.jr _ _ _ _).2 ((aF.dK q2 b).1 hr))) ((e4'.real _ _).2 ((aF.jr _ _ _ _).2 ((aF.dK q2' b').1 hr'))) (by rw [← q1, ← q1']; exact he)
     subst e
     have hi1 := (List.getElem?_eq_some_iff.1 e2).1
     have : i1 = j1 := (List.getElem?_inj hi1 hn.nodup).1 (e2.trans e2'.symm)
     rw [this]
  ·rcases case i bk m1 with ⟨hlt, hb1⟩ | ⟨j, nm, b0, rfl, e1, e2, e3, e4, e5, e6, e7⟩
   ·rw [aF.aX lo hlt] at m3
    rw [lo.blk i hlt] at m4
    rcases hE.fz b o q with q1 | q1 | q1
    ·rw [hz] at q1; exact (hg.fz b o q1).2 ⟨i, bk, hb1, m2, m3, m4⟩
    ·have := (hg.ok _ _ hb1).lt_size m3
     omega
    ·exact hno b q1
   ·obtain ⟨q1, q2, q3, q4⟩ := eqs j nm e2
    exact (hc.fz b o q).2 ⟨nm, b0, e3, by rw [e4.owned, aF.kX]; exact e5, (e4.real _ _).2 ((aF.jr _ _ _ _).2 ((aF.dK q2 bk).1 m3)), by rw [← q1]; exact m4⟩
 ·refine ⟨by omega, lo, hE.os, hE.tape, hE.output, hE.size, fun B hB _ => old B hB, fun B hB hm => ?_, fun b o q => (hE.fz b o q).elim (fun q => .inl (by rw [← hz]; exact q)) fun q => .inr (q.elim .inl fun q => absurd q (hno b))⟩
  obtain ⟨i, b, m1, m2, m3, m4⟩ := hm
  rcases case i b m1 with ⟨hlt, hb1⟩ | ⟨j, nm, b0, rfl, e1, e2, e3, e4, e5, e6, e7⟩
  ·rw [aF.aX lo hlt] at m3
   rw [lo.blk i hlt] at m4
   exact ⟨i, b, hb1, m2, m3, m4⟩
  ·have := high j nm b0 b e2 e3 e4 e5 m3
   omega
theorem G5 {f : FuncId} {fn : Func} {c : Code} (hf : P.funcs[f]? = some fn) (hb : fn.body = some c) (hname : (fn.name == "runtime.NumGoroutine") = false) {K' : Nat} {args gG : List AV} {g g1 g' : G} {p : Prop} (kp : Keep g g1 p)
  (l : List Vw) (hl : p → ∀ v ∈ l, v.Ok g) (hargs : p → ∀ N μ (cs : List Value), aO N μ args cs → aO l.length (zN μ l) gG cs)
  {nms : List Nat} {bs : List aF} {v : AV}
  (h : p → aj P c fn.ntmps l.length l.length K' (bJ gG 0 .e) (hpL (vwL l 0)) fun e fr' H' => (e = .ret ∨ e = .normal) ∧ ∃ vs gr, dH P fr' fn.results.toList ⟨H', K', [], [], True⟩ = .done vs gr ∧ gr.cs ∧ AV.ge (jZ vs) (v.ren (fun i => nms.getD (i - g.nx) 0)) ∧ Ti g.nx H' nms bs)
  (hv : v.low (g.nx + bs.length) = true) (hS : v.iy fun i => g.nx ≤ i) (h1 : g'.H = kS g.H g.nx bs) (h2 : g'.nx = g.nx + bs.length) (h3 : g'.cs → g1.cs) : bZ P f args v g g' := by
 refine ⟨fun hc => (kp.2.2 (h3 hc)).1, fun hcs μ w bW hg ha => ?_⟩
 have hp := (kp.2.2 (h3 hcs)).2
 refine (aj.call hf hb hname (V := fun u H' => AV.ge u (v.ren (fun i => nms.getD (i - g.nx) 0)) ∧ Ti g.nx H' nms bs) ((h hp).mono fun e fr' H' ⟨k1, vs, gr, k2, k3, k4, k5⟩ => ⟨k1, vs, gr, k2, k3, k4, k5⟩) (zN μ l) w (Sz (hl hp) hg) (hargs hp _ _ _ ha)).mono ?_
 rintro cv w' ⟨u, μ', H', ⟨hge, hN⟩, hrep, hgk, hE⟩
 obtain ⟨q1, q2⟩ := Tj (μc := zN μ l) hg (fun B => LV) (fun _ => rfl) hE hgk hN h1 h2
 refine ⟨dU μ μ' g.nx nms, ?_, q1, q2⟩
 rw [h2]
 exact Jt (hge _ _ _ hrep) hv hS
end Go.Sx
namespace Go.Sx
open M
def Ex.ends : Ex → Bool
 | .exit _ => false
 | _ => true
end Go.Sx
namespace Go.Sx
open M
def AA.Fv (a b : AA) : Bool := Nat.beq a.g b.g && Nat.beq a.i b.i && Nat.beq a.o b.o
theorem AA.jv {a b : AA} (h : AA.Fv a b = true) : a.g = b.g ∧ a.i = b.i ∧ a.o = b.o := by
 simp only [AA.Fv, Bool.and_eq_true] at h
 exact ⟨Nat.eq_of_beq_eq_true h.1.1, Nat.eq_of_beq_eq_true h.1.2, Nat.eq_of_beq_eq_true h.2⟩
theorem AA.JE {a b : AA} (h : AA.Fv a b = true) (μ : MM) : μ.addr a = μ.addr b := by
 obtain ⟨h1, h2, h3⟩ := AA.jv h
 simp [MM.addr, h1, h2, h3]
def Qb (a b : Bool) : Bool := bif a then b else !b
theorem Bo {a b : Bool} (h : Qb a b = true) : a = b := by cases a <;> cases b <;> first | rfl | cases h
def AV.Fv : AV → AV → Bool
 | .bool a, .bool b => Qb a b
 | .int _ k n, .int _ k' n' => decide (k = k') && decide (n = n')
 | .flt _ x, .flt _ y => Nat.beq x y
 | .raw _ x, .raw _ y => Nat.beq x y
 | .str _ l, .str _ l' => decide (l = l')
 | .ptr a, .ptr b => AA.Fv a b
 | .slc s own a len, .slc s' own' a' len' => Qb s s' && Qb own own' && AA.Fv a a' && Nat.beq len len'
 | .mp g, .mp g' => Nat.beq g g'
 | .iW, .iW => true
 | .dL, .dL => true
 | .wI, .wI => true
 | .vW _ x y, .vW _ x' y' => Nat.beq x x' && Nat.beq y y'
 | _, _ => false
theorem AV.jv {a b : AV} (h : AV.Fv a b = true) : a.one = b.one ∧ ∀ N μ c, Rep N μ a c ↔ Rep N μ b c := by
 unfold AV.Fv at h
 split at h
 ·exact ⟨rfl, fun N μ c => by rw [Bo h]⟩
 ·simp only [Bool.and_eq_true, decide_eq_true_eq] at h
  exact ⟨rfl, fun N μ c => by simp only [Rep, h.1, h.2]⟩
 ·exact ⟨rfl, fun N μ c => by simp only [Rep, Nat.eq_of_beq_eq_true h]⟩
 ·exact ⟨rfl, fun N μ c => by simp only [Rep, Nat.eq_of_beq_eq_true h]⟩
 ·simp only [decide_eq_true_eq] at h
  exact ⟨rfl, fun N μ c => by simp only [Rep, h]⟩
 ·exact ⟨rfl, fun N μ c => by simp only [Rep, AA.JE h, (AA.jv h).1]⟩
 ·simp only [Bool.and_eq_true] at h
  obtain ⟨h1, h2, h3⟩ := AA.jv h.1.2
  refine ⟨rfl, fun N μ c => ?_⟩
  simp only [Rep, tZ, Bo h.1.1.1, Bo h.1.1.2, Nat.eq_of_beq_eq_true h.2, h1, h2, h3, AA.JE h.1.2]
 ·exact ⟨rfl, fun N μ c => by simp only [Rep, Nat.eq_of_beq_eq_true h]⟩
 ·exact ⟨rfl, fun N μ c => Iff.rfl⟩
 ·exact ⟨rfl, fun N μ c => Iff.rfl⟩
 ·exact ⟨rfl, fun N μ c => Iff.rfl⟩
 ·simp only [Bool.and_eq_true] at h
  exact ⟨rfl, fun N μ c => by simp only [Rep, Nat.eq_of_beq_eq_true h.1, Nat.eq_of_beq_eq_true h.2]⟩
 ·cases h
def Bd : List AV → List AV → Bool
 | [], [] => true
 | a :: l, b :: l' => AV.Fv a b && Bd l l'
 | _, _ => false
theorem N7 : ∀ {l l' : List AV}, Bd l l' = true → l.length = l'.length ∧ ∀ (o : Nat) (v : AV), l'[o]? = some v → ∃ u, l[o]? = some u ∧ AV.Fv u v = true
 | [], [], _ => ⟨rfl, fun o v h => by simp at h⟩
 | [], _ :: _, h => by cases h
 | _ :: _, [], h => by cases h
 | a :: l, b :: l', h => by
  simp only [Bd, Bool.and_eq_true] at h
  obtain ⟨h1, h2⟩ := N7 h.2
  refine ⟨by simp [h1], fun o v hv => ?_⟩
  cases o with
  | zero => simp at hv; subst hv; exact ⟨a, rfl, h.1⟩
  | succ o => simpa using h2 o v (by simpa using hv)
theorem JF : ∀ {l l' : List AV}, Bd l l' = true → ∀ (o : Nat) (u : AV), l[o]? = some u → ∃ v, l'[o]? = some v ∧ AV.Fv u v = true
 | [], [], _ => fun o v h => by simp at h
 | [], _ :: _, h => by cases h
 | _ :: _, [], h => by cases h
 | a :: l, b :: l', h => by
  simp only [Bd, Bool.and_eq_true] at h
  intro o u hu
  cases o with
  | zero => simp at hu; subst hu; exact ⟨b, rfl, h.1⟩
  | succ o => simpa using JF h.2 o u (by simpa using hu)
def G6 (r r' : Nat → List AV) : Nat → Bool
 | 0 => true
 | n + 1 => G6 r r' n && Bd (r n) (r' n)
theorem Fz {r r' : Nat → List AV} : ∀ {n : Nat}, G6 r r' n = true → ∀ i, i < n → Bd (r i) (r' i) = true
 | 0, _, i, hi => absurd hi (by omega)
 | n + 1, h, i, hi => by
  simp only [G6, Bool.and_eq_true] at h
  rcases Nat.lt_or_ge i n with k | k
  ·exact Fz h.1 i k
  ·rw [show i = n by omega]; exact h.2
def aF.Fv : aF → aF → Bool
 | .cells own sz n c, .cells own' sz' n' c' => Qb own own' && Nat.beq sz sz' && Nat.beq n n' && G6 c.row c'.row n
 | .aJ _ l, .aJ _ l' => decide (l = l')
 | .iY _ l, .iY _ l' => decide (l = l')
 | _, _ => false
theorem fM.Fv {N : Nat} {μ : MM} {r r' : List AV} {sz : Nat} {cur : Array Value} {base : Nat} (h : Bd r r' = true) : fM N μ r sz cur base ↔ fM N μ r' sz cur base := by
 obtain ⟨h1, h2⟩ := N7 h
 have h3 := JF h
 constructor
 ·rintro ⟨k1, k2⟩
  refine ⟨by omega, fun o v hv => ?_⟩
  obtain ⟨u, hu, he⟩ := h2 o v hv
  obtain ⟨e1, e2⟩ := AV.jv he
  obtain ⟨q0, c, q1, q2⟩ := k2 o u hu
  exact ⟨by rw [← e1]; exact q0, c, q1, (e2 _ _ _).1 q2⟩
 ·rintro ⟨k1, k2⟩
  refine ⟨by omega, fun o u hu => ?_⟩
  obtain ⟨v, hv, he⟩ := h3 o u hu
  obtain ⟨e1, e2⟩ := AV.jv he
  obtain ⟨q0, c, q1, q2⟩ := k2 o v hv
  exact ⟨by rw [e1]; exact q0, c, q1, (e2 _ _ _).2 q2⟩
theorem aF.jv {b b' : aF} (h : aF.Fv b b' = true) : b.owned = b'.owned ∧ (∀ μ i, b.real μ i ↔ b'.real μ i) ∧ ∀ N μ hp i, bY N μ hp i b ↔ bY N μ hp i b' := by
 unfold aF.Fv at h
 split at h
 ·simp only [Bool.and_eq_true] at h
  obtain ⟨⟨⟨h1, h2⟩, h3⟩, h4⟩ := h
  obtain rfl := Bo h1
  obtain rfl := Nat.eq_of_beq_eq_true h2
  obtain rfl := Nat.eq_of_beq_eq_true h3
  refine ⟨rfl, fun μ i => Iff.rfl, fun N μ hp i => ?_⟩
  have h5 := Fz h4
  simp only [bY]
  constructor
  ·rintro ⟨k1, k2, k3⟩
   refine ⟨k1, k2, fun hr => ?_⟩
   obtain ⟨cur, ty, fz, q1, q2, q3, q4⟩ := k3 hr
   exact ⟨cur, ty, fz, q1, q2, q3, fun j hj => (fM.Fv (h5 j hj)).1 (q4 j hj)⟩
  ·rintro ⟨k1, k2, k3⟩
   refine ⟨k1, k2, fun hr => ?_⟩
   obtain ⟨cur, ty, fz, q1, q2, q3, q4⟩ := k3 hr
   exact ⟨cur, ty, fz, q1, q2, q3, fun j hj => (fM.Fv (h5 j hj)).2 (q4 j hj)⟩
 ·simp only [decide_eq_true_eq] at h
  subst h
  exact ⟨rfl, fun μ i => Iff.rfl, fun N μ hp i => Iff.rfl⟩
 ·simp only [decide_eq_true_eq] at h
  subst h
  exact ⟨rfl, fun μ i => Iff.rfl, fun N μ hp i => Iff.rfl⟩
 ·cases h
def bears (H : T aF) : List (Nat × aF) → Bool
 | [] => true
 | p :: l => (match H.get p.1 with | some b => aF.Fv b p.2 | none => false) && bears H l
theorem yP {H : T aF} : ∀ {l : List (Nat × aF)}, bears H l = true → ∀ p ∈ l, ∃ b, H.get p.1 = some b ∧ aF.Fv b p.2 = true
 | [], _, p, hp => by cases hp
 | q :: l, h, p, hp => by
  simp only [bears, Bool.and_eq_true] at h
  rcases List.mem_cons.1 hp with rfl | hp
  ·have h1 := h.1
   split at h1
   ·rename_i b hb; exact ⟨b, hb, h1⟩
   ·cases h1
  ·exact yP h.2 p hp
def MM.V5 (μ μ' : MM) : MM := ⟨μ.blk, μ.cap, μ.sz, μ.base, μ'.fz⟩
theorem MM.V6 {μ μ' : MM} (hf : ∀ b o, μ.fz b = some o → μ'.fz b = some o) (N : Nat) : MM.upto N μ (μ.V5 μ') := ⟨fun _ _ => rfl, fun _ _ => rfl, fun _ _ => rfl, fun _ _ => rfl, hf⟩
theorem MM.V7 {N : Nat} {μ μ' : MM} (h : MM.upto N μ μ') : MM.upto N μ' (μ.V5 μ') :=
 ⟨fun g hg => (h.blk g hg).symm, fun g hg => (h.cap g hg).symm, fun g hg => (h.sz g hg).symm, fun g hg => (h.base g hg).symm, fun _ _ q => q⟩
theorem aF.vI {μ μ' : MM} {g : Nat} (b : aF) : b.real (μ.V5 μ') g ↔ b.real μ g := by cases b <;> exact Iff.rfl
theorem bZ.frame {P : Program} {f : FuncId} {args args' : List AV} {v : AV} {bl : List (Nat × aF)} {K : Nat} {path : List Bool} {g0 g : G} (h : bZ P f args v ⟨hpL bl, K, [], path, True⟩ g0) (hcs : g0.cs) (hv : v.low 0 = true)
  (hlow : ∀ p ∈ bl, p.1 < K ∧ p.2.mJ K) (haft : bears g0.H bl = true) (hK : K ≤ g.nx) (hsub : bears g.H bl = true) (hA : ∀ μ cs, aO g.nx μ args' cs → aO K μ args cs) : bZ P f args' v g g := by
 refine ⟨id, fun _ μ w bW hg ha => ?_⟩
 have S : ∀ i b, (hpL bl).get i = some b → i < K ∧ b.mJ K ∧ ∃ b1, g.H.get i = some b1 ∧ aF.Fv b1 b = true := fun i b hb => by
  have hm := aY hb
  exact ⟨(hlow _ hm).1, (hlow _ hm).2, yP hsub _ hm⟩
 have hg0 : dP K μ w.heap (hpL bl) := by
  refine ⟨fun i b hb => (S i b hb).1, fun i b hb => ?_, fun i b j b' hi hj ho hr hr' he => ?_, fun x o q => ⟨(hg.fz x o q).1, fun ⟨j, b, m1, m2, m3, m4⟩ => by
   obtain ⟨_, _, b1, h3, h4⟩ := S j b m1
   obtain ⟨q1, q2, _⟩ := aF.jv h4
   exact (hg.fz x o q).2 ⟨j, b1, h3, q1.trans m2, (q2 _ _).2 m3, m4⟩⟩⟩
  ·obtain ⟨h1, h2, b1, h3, h4⟩ := S i b hb
   exact (((aF.jv h4).2.2 _ _ _ _).1 (hg.ok _ _ h3)).V3 h2 (.refl _ _) h1 (Nat.le_refl _) fun _ => rfl
  ·obtain ⟨_, _, b1, h3, h4⟩ := S i b hi
   obtain ⟨_, _, b2, k3, k4⟩ := S j b' hj
   obtain ⟨q1, q2, _⟩ := aF.jv h4
   obtain ⟨r1, r2, _⟩ := aF.jv k4
   exact hg.sep i b1 j b2 h3 k3 (q1.trans ho) ((q2 _ _).2 hr) ((r2 _ _).2 hr') he
 have may1 : ∀ B, May μ (hpL bl) B → ∃ j b b1, (hpL bl).get j = some b ∧ g.H.get j = some b1 ∧ b1.owned = true ∧ b1.real μ j ∧ μ.blk j = B := fun B ⟨j, b, m1, m2, m3, m4⟩ => by
  obtain ⟨_, _, b1, h3, h4⟩ := S j b m1
  obtain ⟨q1, q2, _⟩ := aF.jv h4
  exact ⟨j, b, b1, m1, h3, q1.trans m2, (q2 _ _).2 m3, m4⟩
 have key : ∀ c w', After ⟨hpL bl, K, [], path, True⟩ μ w g0 v c w' → After g μ w g v c w' := by
  rintro c w' ⟨μ', hr, hg', hE⟩
  have Y0 := MM.V6 hE.names.fz
  refine ⟨μ.V5 μ', hr.bare hv, ⟨hg.lt, fun i b1 hb1 => ?_, fun i b j b' hi hj ho hr hr' he => hg.sep i b j b' hi hj ho ((aF.vI b).1 hr) ((aF.vI b').1 hr') he, fun x o q => ⟨(hg'.fz x o q).1, fun ⟨i, b1, m1, m2, m3, m4⟩ => ?_⟩⟩, ?_⟩
  ·cases hbl : (hpL bl).get i with
   | none =>
    refine (hg.ok i b1 hb1).later (Y0 _) (Nat.le_refl _) (hg.lt _ _ hb1) fun hre => hE.block _ ((hg.ok i b1 hb1).lt_size hre) fun hm => ?_
    obtain ⟨j, b, b2, m1, m2, m3, m4, m5⟩ := may1 _ hm
    have := hg.sep j b2 i b1 m2 hb1 m3 m4 hre m5
    subst this
    rw [hbl] at m1; cases m1
   | some b =>
    obtain ⟨h1, h2, b2, h3, h4⟩ := S i b hbl
    rw [hb1] at h3
    cases h3
    obtain ⟨b3, k3, k4⟩ := yP haft _ (aY hbl)
    have q := ((aF.jv k4).2.2 _ _ _ _).1 (hg'.ok _ _ k3)
    exact ((aF.jv h4).2.2 _ _ _ _).2 (q.V3 h2 (MM.V7 hE.names) h1 hK fun _ => by rw [hE.names.blk i h1])
  ·have QW := (aF.vI b1).1 m3
   have QX : μ.blk i = x := m4
   rcases hE.fz x o q with q1 | q1 | q1
   ·exact (hg.fz x o q1).2 ⟨i, b1, m1, m2, QW, QX⟩
   ·have := (hg.ok i b1 m1).lt_size QW
    omega
   ·obtain ⟨j, b, b2, n1, n2, n3, n4, n5⟩ := may1 _ q1
    have e := hg.sep j b2 i b1 n2 m1 n3 n4 QW (n5.trans QX.symm)
    subst e
    obtain ⟨h1, h2, b5, h3, h4⟩ := S j b n1
    rw [n2] at h3
    cases h3
    obtain ⟨b3, k3, k4⟩ := yP haft _ (aY n1)
    obtain ⟨p1, p2, _⟩ := aF.jv h4
    obtain ⟨r1, r2, _⟩ := aF.jv k4
    refine (hg'.fz x o q).2 ⟨j, b3, k3, r1.trans (p1.symm.trans n3), (r2 _ _).2 ?_, by rw [hE.names.blk j h1]; exact n5⟩
    exact (aF.dK (hE.names.cap j h1) b).2 ((p2 _ _).1 n4)
  ·exact ⟨Nat.le_refl _, Y0 _, hE.os, hE.tape, hE.output, hE.size, fun B hB hn => hE.block B hB fun hm => hn (by obtain ⟨j, b, b1, m1, m2, m3, m4, m5⟩ := may1 B hm; exact ⟨j, b1, m2, m3, m4, m5⟩), fun B hB hm => by
    obtain ⟨j, b, m1, m2, m3, m4⟩ := hm
    exact ⟨j, b, m1, m2, (aF.vI b).1 m3, m4⟩, fun x o q => (hE.fz x o q).imp id fun q => q.imp id fun hm => by obtain ⟨j, b, b1, m1, m2, m3, m4, m5⟩ := may1 x hm; exact ⟨j, b1, m2, m3, m4, m5⟩⟩
 rcases h.2 hcs μ w bW hg0 (hA _ _ ha) with ⟨c, w', e, r⟩ | ⟨f', a', w', e, r⟩
 ·exact .inl ⟨c, w', e, key _ _ r⟩
 ·exact .inr ⟨f', a', w', e, r.mono fun e w'' ⟨c, q, r⟩ => ⟨c, q, key _ _ r⟩⟩
theorem bZ.rep {P : Program} {f : FuncId} {args : List AV} {v v' : AV} {g g' : G} (h : bZ P f args v g g') (hv : ∀ N μ c, Rep N μ v c → Rep N μ v' c) : bZ P f args v' g g' := by
 refine ⟨h.1, fun hc μ w bW hg ha => ?_⟩
 rcases h.2 hc μ w bW hg ha with ⟨c, w', e, μ', h1, h2, h3⟩ | ⟨f', a', w', e, r⟩
 ·exact .inl ⟨c, w', e, μ', hv _ _ _ h1, h2, h3⟩
 ·exact .inr ⟨f', a', w', e, r.mono fun e w'' ⟨c, q, μ', h1, h2, h3⟩ => ⟨c, q, μ', hv _ _ _ h1, h2, h3⟩⟩
def allB : List (Bool × Bool) → Bool
 | [] => true
 | p :: l => Qb p.1 p.2 && allB l
theorem aO.Bd {N : Nat} {μ : MM} : ∀ {l l' : List AV} {cs : List Value}, Sx.Bd l l' = true → aO N μ l cs → aO N μ l' cs
 | [], [], cs, _, h => h
 | [], _ :: _, _, h, _ => by cases h
 | _ :: _, [], _, h, _ => by cases h
 | a :: l, b :: l', cs, h, hr => by
  simp only [Sx.Bd, Bool.and_eq_true] at h
  simp only [aO] at hr ⊢
  obtain ⟨c, r, e, h1, h2⟩ := hr
  exact ⟨c, r, e, ((AV.jv h.1).2 _ _ _).1 h1, aO.Bd h.2 h2⟩
end Go.Sx
namespace Go.Sx
open M
variable {P : Program} {n B K K' : Nat}
def yQ (b0 b : aF) : Prop := dD b0 b ∨ ∃ own sz m m' c c', b0 = .cells own sz m c ∧ b = .cells own sz m' c' ∧ own = true ∧ m' ≤ m ∧ ∀ i, i < m' → c.row i = c'.row i
theorem yQ.owned {b0 b : aF} (h : yQ b0 b) : b0.owned = b.owned := by
 rcases h with h | ⟨own, sz, m, m', c, c', rfl, rfl, _⟩
 ·exact h.owned
 ·rfl
theorem yQ.Tn {b0 b : aF} (h : yQ b0 b) {μ : MM} {g : Nat} (hr : b.real μ g) : b0.real μ g := by
 rcases h with h | ⟨own, sz, m, m', c, c', rfl, rfl, ho, hm, _⟩
 ·exact (h.real μ g).2 hr
 ·simp only [aF.real] at hr ⊢
  rcases hr with hr | hr
  ·exact .inl (by omega)
  ·exact .inr hr
theorem yQ.ok {b0 b : aF} (h : yQ b0 b) {N : Nat} {μ : MM} {hp : Array Obj} {g : Nat} (k : bY N μ hp g b0) : bY N μ hp g b := by
 rcases h with h | ⟨own, sz, m, m', c, c', rfl, rfl, ho, hm, hr⟩
 ·exact h.ok k
 ·refine ⟨k.1, k.2.1, fun hre => ?_⟩
  obtain ⟨cur, ty, fz, h1, h2, h3, h4⟩ := k.2.2 (by rcases hre with hre | hre; exact .inl (by omega); exact .inr hre)
  refine ⟨cur, ty, fz, h1, Nat.le_trans (Nat.add_le_add_left (Nat.mul_le_mul_right _ hm) _) h2, h3, fun i hi => ?_⟩
  rw [← hr i hi]
  exact h4 i (by omega)
def JG (H : T aF) : List (Nat × aF) → Prop
 | [] => True
 | p :: l => (∃ b0, H.get p.1 = some b0 ∧ yQ b0 p.2) ∧ JG H l
theorem JG.get {H : T aF} : ∀ {l : List (Nat × aF)}, JG H l → ∀ p ∈ l, ∃ b0, H.get p.1 = some b0 ∧ yQ b0 p.2
 | q :: l, h, p, hp => by
  rcases List.mem_cons.1 hp with rfl | hp
  ·exact h.1
  ·exact JG.get h.2 p hp
theorem aj.less {c : Code} {fr : Fr} {H : T aF} {Post Post' : Po} (h : aj P c n B K K' fr H Post) (k : ∀ e fr' H', Post e fr' H' → ∃ bl, JG H' bl ∧ Post' e fr' (hpL bl)) : aj P c n B K K' fr H Post' :=
 fun μ w a hg hf Q hQ => h μ w a hg hf Q fun e fr' H' a' w' hp ha => by
  obtain ⟨bl, h1, h2⟩ := k _ _ _ hp
  obtain ⟨μ', k1, k2, k3, k4⟩ := ha.of
  have G : ∀ i b, (hpL bl).get i = some b → ∃ b0, H'.get i = some b0 ∧ yQ b0 b := fun i b hb => h1.get _ (aY hb)
  have nU : ∀ b, May μ' (hpL bl) b → May μ' H' b := fun b hm => by
   obtain ⟨i, x, m1, m2, m3, m4⟩ := hm
   obtain ⟨b0, q1, q2⟩ := G i x m1
   exact ⟨i, b0, q1, q2.owned.trans m2, q2.Tn m3, m4⟩
  refine hQ e fr' _ a' w' h2 ⟨μ', ⟨fun i b hb => ?_, fun i b hb => ?_, fun i b j b' hi hj ho hr hr' he => ?_, fun b o q => ⟨(k1.fz b o q).1, fun hm => (k1.fz b o q).2 (nU b hm)⟩⟩, ⟨k2.names, k2.os, k2.tape, k2.output, k2.size, k2.block, fun b hb hm => k2.may b hb (nU b hm), k2.fz⟩, k3, k4⟩
  ·obtain ⟨b0, q1, q2⟩ := G i b hb
   exact k1.lt _ _ q1
  ·obtain ⟨b0, q1, q2⟩ := G i b hb
   exact q2.ok (k1.ok _ _ q1)
  ·obtain ⟨b0, q1, q2⟩ := G i b hi
   obtain ⟨b1, r1, r2⟩ := G j b' hj
   exact k1.sep _ _ _ _ q1 r1 (q2.owned.trans ho) (q2.Tn hr) (r2.Tn hr') he
end Go.Sx
namespace Go.Sx
open M
section
variable {P : Program} {n B K K' : Nat}
def FzV (q len : Nat) (f : Nat → List UInt8) (u v : AV) : Prop := AV.ge u v ∨ ∃ s o a, u = .slc s o a len ∧ a.g = q ∧ a.i = 0 ∧ a.o = 0 ∧ v = .iw len f
def uH (q len : Nat) (f : Nat → List UInt8) : List AV → List AV → Prop
 | [], [] => True
 | u :: l, v :: l' => FzV q len f u v ∧ v.one = true ∧ uH q len f l l'
 | _, _ => False
theorem uH.length {q len : Nat} {f : Nat → List UInt8} : ∀ {r r' : List AV}, uH q len f r r' → r'.length = r.length
 | [], [], _ => rfl
 | u :: l, v :: l', h => by simp [uH.length h.2.2]
 | [], _ :: _, h => h.elim
 | _ :: _, [], h => h.elim
theorem uH.get {q len : Nat} {f : Nat → List UInt8} : ∀ {r r' : List AV}, uH q len f r r' → ∀ {o : Nat} {v : AV}, r'[o]? = some v → ∃ u, r[o]? = some u ∧ FzV q len f u v ∧ v.one = true
 | [], [], _, o, v, hv => by simp at hv
 | u :: l, v :: l', h, 0, x, hv => by simp at hv; subst hv; exact ⟨u, rfl, h.1, h.2.1⟩
 | u :: l, v :: l', h, o + 1, x, hv => by simpa using uH.get h.2.2 (by simpa using hv)
 | [], _ :: _, h, _, _, _ => h.elim
 | _ :: _, [], h, _, _, _ => h.elim
theorem uH.refl {q len : Nat} {f : Nat → List UInt8} : ∀ (l : List AV), l.all AV.one = true → uH q len f l l
 | [], _ => trivial
 | v :: l, h => by
  simp only [List.all_cons, Bool.and_eq_true] at h
  exact ⟨.inl (AV.ge.refl _), h.1, uH.refl l h.2⟩
def EK (q len : Nat) (f : Nat → List UInt8) : aF → aF → Prop
 | .cells own sz m c, .cells own' sz' m' c' => own = own' ∧ sz = sz' ∧ m = m' ∧ ∀ i, i < m → uH q len f (c.row i) (c'.row i)
 | b, b' => b = b'
theorem EK.owned {q len : Nat} {f : Nat → List UInt8} {b b' : aF} (h : EK q len f b b') : b.owned = b'.owned := by
 cases b <;> cases b' <;> simp_all [EK, aF.owned]
theorem EK.real {q len : Nat} {f : Nat → List UInt8} {b b' : aF} (h : EK q len f b b') (μ : MM) (g : Nat) : b.real μ g ↔ b'.real μ g := by
 cases b <;> cases b' <;> simp_all [EK, aF.real]
def FzF (q len : Nat) (f : Nat → List UInt8) (fr : Fr) : List (Nat × AV) → Prop
 | [] => True
 | p :: l => (∃ u, fr.get p.1 = some u ∧ FzV q len f u p.2) ∧ FzF q len f fr l
theorem FzF.get {q len : Nat} {f : Nat → List UInt8} {fr : Fr} : ∀ {l : List (Nat × AV)}, FzF q len f fr l → ∀ p ∈ l, ∃ u, fr.get p.1 = some u ∧ FzV q len f u p.2
 | x :: l, h, p, hp => by
  rcases List.mem_cons.1 hp with rfl | hp
  ·exact h.1
  ·exact FzF.get h.2 p hp
def FzH (q len : Nat) (f : Nat → List UInt8) (H : T aF) : List (Nat × aF) → Prop
 | [] => True
 | p :: l => (p.1 ≠ q ∧ ∃ b, H.get p.1 = some b ∧ EK q len f b p.2) ∧ FzH q len f H l
theorem FzH.get {q len : Nat} {f : Nat → List UInt8} {H : T aF} : ∀ {l : List (Nat × aF)}, FzH q len f H l → ∀ p ∈ l, p.1 ≠ q ∧ ∃ b, H.get p.1 = some b ∧ EK q len f b p.2
 | x :: l, h, p, hp => by
  rcases List.mem_cons.1 hp with rfl | hp
  ·exact h.1
  ·exact FzH.get h.2 p hp
def MM.freeze (μ : MM) (b : Nat) (o : Obj) : MM := ⟨μ.blk, μ.cap, μ.sz, μ.base, fun x => if x = b then some o else μ.fz x⟩
theorem MM.uI {μ : MM} {x : Nat} {o : Obj} {g : Nat} (b : aF) : b.real (μ.freeze x o) g ↔ b.real μ g := by cases b <;> exact Iff.rfl
theorem AtB.freeze {H H' : T aF} {μ : MM} {w w' : World} {fr' : Fr} {a a' : Act} {q len : Nat} {cq : Cont} {f : Nat → List UInt8} {fl : List (Nat × AV)} {bl : List (Nat × aF)} (hlen : 0 < len) (hq : H'.get q = some (.cells true 1 len cq)) (hrow : ∀ i, i < len → ∃ s, cq.row i = [.str s (f i)])
  (hF : FzF q len f fr' fl) (hH : FzH q len f H' bl) (h : AtB n B K' H μ w H' fr' a a' w') : AtB n B K' H μ w (hpL bl) (aV fl) a a' w' := by
 obtain ⟨μ', k1, k2, k3, k4⟩ := h.of
 obtain ⟨hsz, _, hcur⟩ := k1.ok q _ hq
 obtain ⟨cur, ty, z, hB, hfit, hown, hrows⟩ := hcur (.inl hlen)
 obtain ⟨_, hcap, hbase⟩ := hown rfl
 have hqr : (aF.cells true 1 len cq).real μ' q := .inl hlen
 have hmq : May μ' H' (μ'.blk q) := ⟨q, _, hq, rfl, hqr, rfl⟩
 have hno : μ'.fz (μ'.blk q) = none := by
  cases e : μ'.fz (μ'.blk q) with
  | none => rfl
  | some o => exact absurd hmq (k1.fz _ _ e).2
 have hK0 : 0 < K' := by have := k1.lt q _ hq; omega
 have up : ∀ N, MM.upto N μ' (μ'.freeze (μ'.blk q) (.cells cur ty z)) := fun N => ⟨fun _ _ => rfl, fun _ _ => rfl, fun _ _ => rfl, fun _ _ => rfl, fun b o e => by
  show (if b = μ'.blk q then some _ else μ'.fz b) = some o
  by_cases c : b = μ'.blk q
  ·rw [c, hno] at e; cases e
  ·rw [if_neg c]; exact e⟩
 have hfz : (μ'.freeze (μ'.blk q) (.cells cur ty z)).fz (μ'.blk q) = some (.cells cur ty z) := if_pos rfl
 have htx : ∀ i, i < len → cur[i]? = some (.string ⟨(f i).toArray⟩) := fun i hi => by
  obtain ⟨s, e⟩ := hrow i hi
  obtain ⟨c, h1, h2⟩ := ((hrows i hi).2 0 (.str s (f i)) (by rw [e]; rfl)).2
  simp only [Rep] at h2
  rw [hbase, Nat.zero_add, Nat.mul_one, Nat.add_zero] at h1
  rw [h1, h2]
 have val : ∀ {u v : AV} {c : Value}, FzV q len f u v → Rep K' μ' u c → Rep K' (μ'.freeze (μ'.blk q) (.cells cur ty z)) v c := fun {u v c} h r => by
  rcases h with h | ⟨s, o, a, rfl, e1, e2, e3, rfl⟩
  ·exact (h _ _ _ r).later (up _) (Nat.le_refl _)
  ·simp only [Rep, tZ] at r ⊢
   obtain ⟨_, A, C, rfl, hl, hA, _⟩ := r
   refine ⟨hK0, μ'.blk q, C, cur, ty, z, ?_, hl, hfz, htx⟩
   rw [hA hlen]
   simp only [MM.addr, e1, e2, e3, hbase, Nat.zero_mul, Nat.add_zero]
 have G := fun i b (hb : (hpL bl).get i = some b) => hH.get _ (aY hb)
 have nU : ∀ b, May (μ'.freeze (μ'.blk q) (.cells cur ty z)) (hpL bl) b → May μ' H' b ∧ b ≠ μ'.blk q := fun b hm => by
  obtain ⟨i, x, m1, m2, m3, m4⟩ := hm
  obtain ⟨hne, b0, h1, h2⟩ := G i x m1
  have r0 : b0.real μ' i := (h2.real _ _).2 ((MM.uI x).1 m3)
  have QX : μ'.blk i = b := m4
  exact ⟨⟨i, b0, h1, h2.owned.trans m2, r0, QX⟩, fun e => hne (k1.sep q _ i b0 hq h1 rfl hqr r0 (by rw [QX, e])).symm⟩
 refine ⟨μ'.freeze (μ'.blk q) (.cells cur ty z), ⟨fun i b hb => ?_, fun i b hb => ?_, fun i b j b' hi hj ho hr hr' he => ?_, fun b o e => ?_⟩, ⟨k2.names.trans (up B) (Nat.le_refl _), k2.os, k2.tape, k2.output, k2.size, k2.block, fun b hb hm => k2.may b hb (nU b hm).1, fun b o e => ?_⟩, ⟨k3.size, fun t v ht => ?_⟩, k4⟩
 ·obtain ⟨_, b0, h1, h2⟩ := G i b hb
  exact k1.lt i b0 h1
 ·obtain ⟨_, b0, h1, h2⟩ := G i b hb
  have r := (k1.ok i b0 h1)
  cases b with
  | cells own sz m c =>
   cases b0 with
   | cells own' sz' m' c' =>
    obtain ⟨rfl, rfl, rfl, hr⟩ := h2
    refine ⟨r.1, r.2.1, fun hh => ?_⟩
    obtain ⟨cu, t, z', p1, p2, p3, p4⟩ := r.2.2 hh
    refine ⟨cu, t, z', p1, p2, p3, fun i hi => ⟨(hr i hi).length.trans (p4 i hi).1, fun o v hv => ?_⟩⟩
    obtain ⟨u, e1, e2, e3⟩ := (hr i hi).get hv
    obtain ⟨_, cv, e4, e5⟩ := (p4 i hi).2 o u e1
    exact ⟨e3, cv, e4, val e2 e5⟩
   | _ => simp [EK] at h2
  | _ => cases b0 <;> simp [EK] at h2 <;> first | exact h2 ▸ r | (obtain ⟨rfl, rfl⟩ := h2; exact r) | (obtain ⟨rfl, rfl, rfl⟩ := h2; exact r)
 ·obtain ⟨_, b1, h1, h2⟩ := G i b hi
  obtain ⟨_, b2, l1, l2⟩ := G j b' hj
  exact k1.sep i b1 j b2 h1 l1 (h2.owned.trans ho) ((h2.real _ _).2 ((MM.uI b).1 hr)) ((l2.real _ _).2 ((MM.uI b').1 hr')) he
 ·have e' : (if b = μ'.blk q then some _ else μ'.fz b) = some o := e
  by_cases c : b = μ'.blk q
  ·rw [if_pos c] at e'
   cases e'
   exact ⟨by rw [c]; exact hB, fun hm => (nU b hm).2 c⟩
  ·rw [if_neg c] at e'
   exact ⟨(k1.fz b o e').1, fun hm => (k1.fz b o e').2 (nU b hm).1⟩
 ·have e' : (if b = μ'.blk q then some _ else μ'.fz b) = some o := e
  by_cases c : b = μ'.blk q
  ·by_cases hlt : b < w.heap.size
   ·exact .inr (.inr (k2.may b hlt (by rw [c]; exact hmq)))
   ·exact .inr (.inl (by omega))
  ·rw [if_neg c] at e'
   exact k2.fz b o e'
 ·obtain ⟨u, h1, h2⟩ := hF.get _ (fV ht)
  exact val h2 (k3.val t u h1)
theorem aj.freeze {c : Code} {fr : Fr} {H : T aF} {Post Post' : Po} (h : aj P c n B K K' fr H Post)
  (k : ∀ e fr' H', Post e fr' H' → ∃ q len cq f fl bl, 0 < len ∧ H'.get q = some (.cells true 1 len cq) ∧ (∀ i, i < len → ∃ s, cq.row i = [.str s (f i)]) ∧ FzF q len f fr' fl ∧ FzH q len f H' bl ∧ Post' e (aV fl) (hpL bl)) : aj P c n B K K' fr H Post' :=
 fun μ w a hg hf Q hQ => h μ w a hg hf Q fun e fr' H' a' w' hp ha => by
  obtain ⟨q, len, cq, f, fl, bl, h1, h2, h3, h4, h5, h6⟩ := k _ _ _ hp
  exact hQ e _ _ a' w' h6 (ha.freeze h1 h2 h3 h4 h5)
end
end Go.Sx
namespace Go.Sx
open M
structure Pool where
 live : Nat → Prop
 len : Nat → Nat
 val : Nat → Nat → AV
 hb : Nat → Nat
 hc : Nat → Nat
def Pool.none : Pool := ⟨fun _ => False, fun _ => 0, fun _ _ => .top, fun _ => 0, fun _ => 0⟩
def Pool.off (π : Pool) (k : Nat) : Pool := ⟨fun j => π.live j ∧ j ≠ k, π.len, π.val, π.hb, π.hc⟩
def gy {α : Type} (f : Nat → α) (k : Nat) (x : α) : Nat → α := fun j => bif Nat.beq j k then x else f j
theorem dO {α : Type} (f : Nat → α) (k : Nat) (x : α) : gy f k x k = x := by unfold gy; rw [Nat.beq_refl, cond_true]
theorem eY {α : Type} (f : Nat → α) {k j : Nat} (x : α) (h : j ≠ k) : gy f k x j = f j := by
 unfold gy
 cases e : Nat.beq j k with
 | true => exact absurd (Nat.eq_of_beq_eq_true e) h
 | false => rfl
def Pool.on (π : Pool) (k len : Nat) (val : Nat → AV) (b c : Nat) : Pool := ⟨fun j => π.live j ∨ j = k, gy π.len k len, gy π.val k val, gy π.hb k b, gy π.hc k c⟩
def mO (H : T aF) : Prop := ∀ g b, H.get g = some b → b.owned = true
structure Mc (μ : MM) (w : World) (H : T aF) (π : Pool) : Prop where
 all : mO H
 blk : ∀ j, π.live j → π.len j ≤ π.hc j ∧ ∃ cur ty, w.heap[π.hb j]? = some (.cells cur ty (0, 0)) ∧ cur.size = π.hc j ∧ ∀ i, i < π.len j → (π.val j i).low 0 = true ∧ (π.val j i).one = true ∧ ∃ c, cur[i]? = some c ∧ Rep 0 μ (π.val j i) c
 own : ∀ j, π.live j → ¬ May μ H (π.hb j) ∧ μ.fz (π.hb j) = Option.none
 inj : ∀ j j', π.live j → π.live j' → π.hb j = π.hb j' → j = j'
def Md (μ : MM) (H : T aF) (π : Pool) (b : Nat) : Prop := May μ H b ∨ ∃ j, π.live j ∧ π.hb j = b
structure JH (B : Nat) (H : T aF) (π : Pool) (μ : MM) (w : World) (H' : T aF) (π' : Pool) (μ' : MM) (w' : World) : Prop where
 names : MM.upto B μ μ'
 os : w'.os = w.os
 tape : w'.tape = w.tape
 output : w'.output = w.output
 size : w.heap.size ≤ w'.heap.size
 block : ∀ b, b < w.heap.size → ¬ Md μ H π b → w'.heap[b]? = w.heap[b]?
 may : ∀ b, b < w.heap.size → Md μ' H' π' b → Md μ H π b
 fz : ∀ b o, μ'.fz b = some o → μ.fz b = some o ∨ w.heap.size ≤ b ∨ Md μ H π b
section
variable {P : Program} {n B K K' : Nat}
theorem JH.trans {H H' xH : T aF} {π π' π'' : Pool} {μ μ' μ'' : MM} {w w' w'' : World} (h : JH B H π μ w H' π' μ' w') (k : JH B H' π' μ' w' xH π'' μ'' w'') : JH B H π μ w xH π'' μ'' w'' where
 names := h.names.trans k.names (Nat.le_refl _)
 os := k.os.trans h.os
 tape := k.tape.trans h.tape
 output := k.output.trans h.output
 size := Nat.le_trans h.size k.size
 block := fun b hb hn => (k.block b (Nat.lt_of_lt_of_le hb h.size) fun hm => hn (h.may b hb hm)).trans (h.block b hb hn)
 may := fun b hb hm => h.may b hb (k.may b (Nat.lt_of_lt_of_le hb h.size) hm)
 fz := fun b o q => by
  rcases k.fz b o q with q | q | q
  ·exact h.fz b o q
  ·exact .inr (.inl (Nat.le_trans h.size q))
  ·by_cases hb : b < w.heap.size
   ·exact .inr (.inr (h.may b hb q))
   ·exact .inr (.inl (by omega))
structure AtP (n B K : Nat) (H : T aF) (π : Pool) (μ : MM) (w : World) (H' : T aF) (π' : Pool) (fr' : Fr) (a a' : Act) (w' : World) : Prop where
 of : ∃ μ', dP K μ' w'.heap H' ∧ JH B H π μ w H' π' μ' w' ∧ dG K μ' fr' a'.tmps n ∧ a'.defers = a.defers ∧ Mc μ' w' H' π'
theorem AtP.trans {H H' xH : T aF} {π π' π'' : Pool} {μ : MM} {w w' w'' : World} {mg : Fr} {a a' a'' : Act} {μ' : MM} (h1 : JH B H π μ w H' π' μ' w') (h2 : a'.defers = a.defers) (h : AtP n B K H' π' μ' w' xH π'' mg a' a'' w'') : AtP n B K H π μ w xH π'' mg a a'' w'' := by
 obtain ⟨μ'', k1, k2, k3, k4, k5⟩ := h.of
 exact ⟨μ'', k1, h1.trans k2, k3, k4.trans h2, k5⟩
theorem AtP.up {H H' : T aF} {π π' : Pool} {μ : MM} {w w' : World} {fr' : Fr} {a a' : Act} (h : AtP n B K H π μ w H' π' fr' a a' w') (hK : K ≤ K') : AtP n B K' H π μ w H' π' fr' a a' w' := by
 obtain ⟨μ', k1, k2, k3, k4, k5⟩ := h.of
 exact ⟨μ', k1.up hK fun _ _ h => h, k2, k3.later (.refl _ _) hK, k4, k5⟩
abbrev Me := Ex → Fr → T aF → Pool → Prop
def bI (P : Program) (c : Code) (n B K K' : Nat) (fr : Fr) (H : T aF) (π : Pool) (Post : Me) : Prop :=
 ∀ μ w (a : Act), dP K μ w.heap H → dG K μ fr a.tmps n → Mc μ w H π → ∀ Q : Exit → Act → World → Prop, (∀ e fr' H' π' a' w', Post e fr' H' π' → AtP n B K' H π μ w H' π' fr' a a' w' → Q e.ex a' w') → c.wp P Q a w
theorem bI.ofB {c : Code} {fr : Fr} {H : T aF} {π : Pool} {Post : Po} (h : aj P c n B K K' fr H Post) (k : ∀ e fr' H', Post e fr' H' → mO H') : bI P c n B K K' fr H π fun e fr' H' π' => Post e fr' H' ∧ π' = π := by
 intro μ w a hg hf hp Q hQ
 refine h μ w a hg hf Q fun e fr' H' a' w' hpo ha => hQ e fr' H' π a' w' ⟨hpo, rfl⟩ ⟨?_⟩
 obtain ⟨μ', k1, k2, k3, k4⟩ := ha.of
 have hlt : ∀ j, π.live j → π.hb j < w.heap.size := fun j hj => by
  obtain ⟨_, cur, ty, e, _⟩ := hp.blk j hj
  exact (Array.getElem?_eq_some_iff.1 e).1
 refine ⟨μ', k1, ⟨k2.names, k2.os, k2.tape, k2.output, k2.size, fun b hb hn => k2.block b hb fun hm => hn (.inl hm), fun b hb hm => ?_, fun b o q => (k2.fz b o q).imp id fun q => q.imp id .inl⟩, k3, k4, ⟨k _ _ _ hpo, fun j hj => ?_, fun j hj => ⟨fun hm => (hp.own j hj).1 (k2.may _ (hlt j hj) hm), ?_⟩, hp.inj⟩⟩
 ·rcases hm with hm | hm
  ·exact .inl (k2.may b hb hm)
  ·exact .inr hm
 ·obtain ⟨h1, cur, ty, h2, h3, h4⟩ := hp.blk j hj
  refine ⟨h1, cur, ty, by rw [k2.block _ (hlt j hj) (hp.own j hj).1]; exact h2, h3, fun i hi => ?_⟩
  obtain ⟨q1, q2, cv, q3, q4⟩ := h4 i hi
  exact ⟨q1, q2, cv, q3, q4.bare q1⟩
 ·cases e2 : μ'.fz (π.hb j) with
  | none => rfl
  | some o =>
   rcases k2.fz _ _ e2 with q | q | q
   ·rw [(hp.own j hj).2] at q; cases q
   ·have := hlt j hj; omega
   ·exact ((hp.own j hj).1 q).elim
theorem bI.mono {c : Code} {fr : Fr} {H : T aF} {π : Pool} {Post Post' : Me} (h : bI P c n B K K' fr H π Post) (k : ∀ e fr' H' π', Post e fr' H' π' → Post' e fr' H' π') : bI P c n B K K' fr H π Post' :=
 fun μ w a hg hf hp Q hQ => h μ w a hg hf hp Q fun e fr' H' π' a' w' hpo ha => hQ e fr' H' π' a' w' (k _ _ _ _ hpo) ha
theorem bI.up {K'' : Nat} {c : Code} {fr : Fr} {H : T aF} {π : Pool} {Post : Me} (h : bI P c n B K K' fr H π Post) (hK : K' ≤ K'') : bI P c n B K K'' fr H π Post :=
 fun μ w a hg hf hp Q hQ => h μ w a hg hf hp Q fun e fr' H' π' a' w' hpo ha => hQ e fr' H' π' a' w' hpo (ha.up hK)
theorem bI.seq {K1 : Nat} {x y : Code} {fr : Fr} {H : T aF} {π : Pool} {Post : Me} (hK : K1 ≤ K')
  (h : bI P x n B K K1 fr H π fun e fr' H' π' => match e with
   | .normal => bI P y n B K1 K' fr' H' π' Post
   | e => Post e fr' H' π') : bI P (.seq x y) n B K K' fr H π Post := by
 intro μ w a hg hf hp Q hQ
 refine wp_seq (h μ w a hg hf hp _ fun e fr' H' π' a' w' hpo ha => ?_)
 cases e with
 | normal =>
  obtain ⟨μ', k1, k2, k3, k4, k5⟩ := ha.of
  exact hpo μ' w' a' k1 k3 k5 Q fun e'' mg xH π'' a'' w'' hp' ha' => hQ _ _ _ _ _ _ hp' (AtP.trans k2 k4 ha')
 | exit id => exact hQ _ _ _ _ _ _ hpo (ha.up hK)
 | ret => exact hQ _ _ _ _ _ _ hpo (ha.up hK)
theorem bI.block {id : Nat} {c : Code} {fr : Fr} {H : T aF} {π : Pool} {Post : Me}
  (h : bI P c n B K K' fr H π fun e fr' H' π' => match e with
   | .exit id' => if id' = id then Post .normal fr' H' π' else Post (.exit id') fr' H' π'
   | e => Post e fr' H' π') : bI P (.block id c) n B K K' fr H π Post := by
 intro μ w a hg hf hp Q hQ
 refine wp_block (h μ w a hg hf hp _ fun e fr' H' π' a' w' hpo ha => ?_)
 cases e with
 | normal => exact hQ _ _ _ _ _ _ hpo ha
 | ret => exact hQ _ _ _ _ _ _ hpo ha
 | exit id' =>
  simp only [Ex.ex, Exit.inBlock]
  by_cases he : id' = id
  ·simp only [he, if_true] at hpo ⊢
   exact hQ .normal _ _ _ _ _ hpo ha
  ·simp only [if_neg he] at hpo ⊢
   exact hQ (.exit id') _ _ _ _ _ hpo ha
theorem bI.cond {c : Operand} {b s : Bool} {x y : Code} {fr : Fr} {H : T aF} {π : Pool} {Post : Me} (hc : bT fr c = dZ s b) (hx : b = true → bI P x n B K K' fr H π Post) (hy : b = false → bI P y n B K K' fr H π Post) : bI P (.cond c x y) n B K K' fr H π Post := by
 intro μ w a hg hf hp Q hQ
 have e : a.eval c = .bool b := by
  have := hf.eval (a := a) c
  rw [hc] at this
  exact o9.1 this
 refine wp_cond e ?_
 cases b with
 | true => exact hx rfl μ w a hg hf hp Q hQ
 | false => exact hy rfl μ w a hg hf hp Q hQ
theorem bI.loop {c : Code} {Post : Me} (I : Nat → Fr → T aF → Pool → Prop)
  (h : ∀ k fr H π, I k fr H π → bI P c n B K K fr H π fun e fr' H' π' => match e with
   | .normal => ∃ k', k' < k ∧ I k' fr' H' π'
   | e => Post e fr' H' π') : ∀ k fr H π, I k fr H π → bI P (.loop c) n B K K fr H π Post := by
 have key : ∀ R k fr H π, k < R → I k fr H π → ∀ μ w (a : Act), dP K μ w.heap H → dG K μ fr a.tmps n → Mc μ w H π → ∀ Q : Exit → Act → World → Prop, (∀ e fr' H' π' a' w', Post e fr' H' π' → AtP n B K H π μ w H' π' fr' a a' w' → Q e.ex a' w') → Code.rounds P c Q R a w := by
  intro R
  induction R with
  | zero => intro k fr H π hk; omega
  | succ R ih =>
   intro k fr H π hkR hI μ w a hg hf hp Q hQ
   rw [rounds_succ]
   refine wp_mono (h k fr H π hI μ w a hg hf hp (fun e a' w' => (e = .normal ∧ ∃ k' fr' H' π', k' < k ∧ I k' fr' H' π' ∧ AtP n B K H π μ w H' π' fr' a a' w') ∨ (e ≠ .normal ∧ Q e a' w')) fun e fr' H' π' a' w' hpo ha => ?_) ?_
   ·cases e with
    | normal =>
     obtain ⟨k', hk, hI'⟩ := hpo
     exact .inl ⟨rfl, k', fr', H', π', hk, hI', ha⟩
    | exit id => exact .inr ⟨by simp [Ex.ex], hQ (.exit id) _ _ _ _ _ hpo ha⟩
    | ret => exact .inr ⟨by simp [Ex.ex], hQ .ret _ _ _ _ _ hpo ha⟩
   ·rintro e a' w' (⟨rfl, k', fr', H', π', hk, hI', ha⟩ | ⟨hne, hq⟩)
    ·obtain ⟨μ', k1, k2, k3, k4, k5⟩ := ha.of
     exact ih k' fr' H' π' (by omega) hI' μ' w' a' k1 k3 k5 Q fun e'' mg xH π'' a'' w'' hp' ha' => hQ _ _ _ _ _ _ hp' (AtP.trans k2 k4 ha')
    ·cases e <;> first | exact absurd rfl hne | exact hq
 intro k fr H π hI μ w a hg hf hp Q hQ
 exact wp_loop_rounds (k + 1) (key (k + 1) k fr H π (by omega) hI μ w a hg hf hp Q hQ)
theorem bI.rounds {c : Code} {id : Nat} (len : Nat) (I : Nat → Fr → T aF → Pool → Prop) {Z : Fr → T aF → Pool → Prop} (h : ∀ i, i < len → ∀ fr H π, I i fr H π → bI P c n B K K fr H π fun e fr' H' π' => e = .normal ∧ I (i + 1) fr' H' π')
  (hz : ∀ fr H π, I len fr H π → bI P c n B K K fr H π fun e fr' H' π' => e = .exit id ∧ Z fr' H' π') {fr : Fr} {H : T aF} {π : Pool} (h0 : I 0 fr H π) :
  bI P (.block id (.loop c)) n B K K fr H π fun e fr' H' π' => e = .normal ∧ Z fr' H' π' := by
 refine bI.block ((bI.loop (fun m fr H π => ∃ i, m = len - i ∧ i ≤ len ∧ I i fr H π) (Post := fun e fr' H' π' => e = .exit id ∧ Z fr' H' π') ?_ _ _ _ _ ⟨0, rfl, by omega, h0⟩).mono fun e fr H π ⟨e1, e2⟩ => ?_)
 ·rintro k fr H π ⟨i, rfl, hi, hI⟩
  by_cases e : i < len
  ·exact (h i e fr H π hI).mono fun e' fr H π ⟨e1, e2⟩ => by subst e1; exact ⟨len - (i + 1), by omega, i + 1, rfl, by omega, e2⟩
  ·obtain rfl : i = len := by omega
   exact (hz fr H π hI).mono fun e' fr H π ⟨e1, e2⟩ => by subst e1; exact ⟨rfl, e2⟩
 ·subst e1; simp only [if_true]; exact ⟨trivial, e2⟩
theorem bY.xg {N : Nat} {μ : MM} {hp : Array Obj} {g : Nat} {own : Bool} {sz m : Nat} {c c' : Cont} (h : bY N μ hp g (.cells own sz m c)) (k : ∀ i, i < m → ∀ cur base, fM N μ (c.row i) sz cur base → fM N μ (c'.row i) sz cur base) : bY N μ hp g (.cells own sz m c') := by
 refine ⟨h.1, h.2.1, fun hr => ?_⟩
 obtain ⟨cur, ty, fz, h1, h2, h3, h4⟩ := h.2.2 hr
 exact ⟨cur, ty, fz, h1, h2, h3, fun i hi => k i hi _ _ (h4 i hi)⟩
theorem dP.xg {N : Nat} {μ : MM} {hp : Array Obj} {H : T aF} {g : Nat} {own : Bool} {sz m : Nat} {c c' : Cont} (h : dP N μ hp H) (hg : H.get g = some (.cells own sz m c)) (hb : bY N μ hp g (.cells own sz m c')) : dP N μ hp (H.upd g (some (.cells own sz m c'))) ∧ ∀ b, May μ (H.upd g (some (.cells own sz m c'))) b → May μ H b := by
 have case : ∀ i b, (H.upd g (some (.cells own sz m c'))).get i = some b → ∃ b0, H.get i = some b0 ∧ b0.owned = b.owned ∧ (b.real μ i ↔ b0.real μ i) ∧ bY N μ hp i b := fun i b hi => by
  rw [T.bF] at hi
  split at hi
  ·cases hi; rename_i e; subst e; exact ⟨_, hg, rfl, Iff.rfl, hb⟩
  ·exact ⟨b, hi, rfl, Iff.rfl, h.ok i b hi⟩
 have may : ∀ b, May μ (H.upd g (some (.cells own sz m c'))) b → May μ H b := fun b ⟨i, x, m1, m2, m3, m4⟩ => by
  obtain ⟨b0, e1, e2, e3, _⟩ := case i x m1
  exact ⟨i, b0, e1, e2.trans m2, e3.1 m3, m4⟩
 refine ⟨⟨fun i b hi => ?_, fun i b hi => ?_, fun i b j b' hi hj ho hr hr' he => ?_, fun b o q => ⟨(h.fz b o q).1, fun hm => (h.fz b o q).2 (may b hm)⟩⟩, may⟩
 ·obtain ⟨b0, e1, _⟩ := case i b hi; exact h.lt i b0 e1
 ·obtain ⟨b0, e1, e2, e3, e4⟩ := case i b hi; exact e4
 ·obtain ⟨b0, e1, e2, e3, _⟩ := case i b hi
  obtain ⟨b1, l1, l2, l3, _⟩ := case j b' hj
  exact h.sep i b0 j b1 e1 l1 (e2.trans ho) (e3.1 hr) (l3.1 hr') he
theorem mO.upd {H : T aF} (h : mO H) {g : Nat} {b : Option aF} (hb : ∀ x, b = some x → x.owned = true) : mO (H.upd g b) := fun i x hi => by
 rw [T.bF] at hi
 split at hi
 ·exact hb x hi
 ·exact h i x hi
theorem bI.open {c : Code} {fr : Fr} {H : T aF} {π : Pool} {Post : Me} (g k : Nat) {cnt : Nat} {cg : Cont} (hg0 : H.get g = some (.cells true 1 cnt cg)) (hk : k < cnt) (hrow : cg.row k = [.hdr (π.hb k) (π.len k) (π.hc k)]) (hl : π.live k) (hB : B ≤ K)
  (h : bI P c n B (K + 1) K' fr ((H.upd K (some (.cells true 1 (π.len k) (.fn fun i => [π.val k i])))).upd g (some (.cells true 1 cnt (.at [(k, [.slc true true ⟨false, K, 0, 0⟩ (π.len k)])] cg.row)))) (π.off k) Post) : bI P c n B K K' fr H π Post := by
 intro μ w a hg hf hp Q hQ
 obtain ⟨h1, cur, ty, h2, h3, h4⟩ := hp.blk k hl
 have hu : MM.upto K μ (μ.set K (π.hb k) (π.hc k) 1) := MM.qJ μ (Nat.le_refl K)
 have hgK := hg.lt _ _ hg0
 have noK : ∀ i b, H.get i = some b → b.real μ i → μ.blk i ≠ π.hb k := fun i b hi hr e => (hp.own k hl).1 ⟨i, b, hi, hp.all i b hi, hr, e⟩
 have g1 : dP (K + 1) (μ.set K (π.hb k) (π.hc k) 1) w.heap (H.upd K (some (.cells true 1 (π.len k) (.fn fun i => [π.val k i])))) := by
  refine hg.upd hu (Nat.le_succ K) (Nat.lt_succ_self K) ?_ (fun _ _ _ _ _ => rfl) ?_ ?_
  ·rintro _ ⟨⟩
   refine ⟨MM.Ce .., Nat.one_pos, fun _ => ⟨cur, ty, (0, 0), by rw [MM.dn]; exact h2, by rw [MM.fH, h3]; omega, fun _ => ⟨rfl, by rw [MM.ji, h3]; omega, MM.fH ..⟩, fun i hi => ⟨rfl, fun o v hv => ?_⟩⟩⟩
   obtain ⟨q1, q2, cv, q3, q4⟩ := h4 i hi
   match o, hv with
   | 0, hv =>
    cases hv
    exact ⟨q2, cv, by rw [MM.fH]; simpa using q3, q4.bare q1⟩
  ·rintro _ ⟨⟩ _ i b' hi _ hr' _ e
   rw [MM.dn] at e
   exact noK i b' hi hr' e.symm
  ·intro b o q
   refine ⟨q, fun p1 p2 => ⟨p1, fun bk _ _ _ e => ?_⟩⟩
   rw [MM.dn] at e
   have q' : μ.fz b = some o := q
   rw [← e, (hp.own k hl).2] at q'
   cases q'
 have hgg : (H.upd K (some (.cells true 1 (π.len k) (.fn fun i => [π.val k i])))).get g = some (.cells true 1 cnt cg) := by rw [T.bF, if_neg (by omega)]; exact hg0
 obtain ⟨g2, m2⟩ := g1.xg (c' := .at [(k, [.slc true true ⟨false, K, 0, 0⟩ (π.len k)])] cg.row) hgg ((g1.ok _ _ hgg).xg fun i hi cu ba ho => by
  show fM _ _ (bif Nat.beq i k then _ else cg.row i) 1 cu ba
  cases e : Nat.beq i k with
  | false => exact ho
  | true =>
   have e := Nat.eq_of_beq_eq_true e
   subst e
   rw [hrow] at ho
   refine ⟨rfl, fun o v hv => ?_⟩
   match o, hv with
   | 0, hv =>
    cases hv
    obtain ⟨_, cv, q1, q2⟩ := ho.2 0 _ rfl
    simp only [Rep] at q2
    refine ⟨rfl, cv, q1, ?_⟩
    simp only [Rep]
    refine ⟨Nat.lt_succ_self K, some ⟨π.hb i, 0, .none⟩, π.hc i, q2.1, q2.2, fun _ => ?_, fun h => (by cases h), fun _ => ⟨rfl, rfl, .inr ⟨?_, ?_⟩⟩⟩
    ·simp [MM.addr, MM.fH, MM.dn]
    ·rw [MM.dn]
    ·rw [MM.ji])
 have may1 : ∀ b, May (μ.set K (π.hb k) (π.hc k) 1) (H.upd K (some (.cells true 1 (π.len k) (.fn fun i => [π.val k i])))) b → May μ H b ∨ b = π.hb k := fun b ⟨i, x, m1, m2, m3, m4⟩ => by
  rw [T.bF] at m1
  split at m1
  ·rename_i e; subst e; rw [MM.dn] at m4; exact .inr m4.symm
  ·have := hg.lt _ _ m1
   rw [aF.aX hu this] at m3
   rw [hu.blk i this] at m4
   exact .inl ⟨i, x, m1, m2, m3, m4⟩
 have hE : JH B H π μ w ((H.upd K (some (.cells true 1 (π.len k) (.fn fun i => [π.val k i])))).upd g (some (.cells true 1 cnt (.at [(k, [.slc true true ⟨false, K, 0, 0⟩ (π.len k)])] cg.row)))) (π.off k) (μ.set K (π.hb k) (π.hc k) 1) w :=
  ⟨hu.mono hB, rfl, rfl, rfl, Nat.le_refl _, fun _ _ _ => rfl, fun b hb hm => by
   rcases hm with hm | ⟨j, hj, e⟩
   ·rcases may1 b (m2 b hm) with hm | e
    ·exact .inl hm
    ·exact .inr ⟨k, hl, e.symm⟩
   ·exact .inr ⟨j, hj.1, e⟩, fun b o q => .inl q⟩
 refine h _ w a g2 ⟨hf.size, fun t v hv => (hf.val t v hv).later hu (Nat.le_succ K)⟩ ⟨?_, fun j hj => ?_, fun j hj => ⟨fun hm => ?_, (hp.own j hj.1).2⟩, fun j j' hj hj' e => hp.inj j j' hj.1 hj'.1 e⟩ Q fun e fr' H' π' a' w' hpo ha => hQ e fr' H' π' a' w' hpo (AtP.trans hE rfl ha)
 ·exact (hp.all.upd fun x hx => by cases hx; rfl).upd fun x hx => by cases hx; rfl
 ·obtain ⟨q1, cu, t, q2, q3, q4⟩ := hp.blk j hj.1
  refine ⟨q1, cu, t, q2, q3, fun i hi => ?_⟩
  obtain ⟨r1, r2, cv, r3, r4⟩ := q4 i hi
  exact ⟨r1, r2, cv, r3, r4.bare r1⟩
 ·rcases may1 _ (m2 _ hm) with hm | e
  ·exact (hp.own j hj.1).1 hm
  ·exact hj.2 (hp.inj j k hj.1 hl e)
theorem bI.V8 {c : Code} {fr : Fr} {H : T aF} {π : Pool} {Post : Me} (g k : Nat) (rows : Nat → List AV) {cnt : Nat} {cg : Cont} (hg0 : H.get g = some (.cells true 1 cnt cg)) (hrow : cg.row k = [.dL]) (hB : B ≤ K)
  (h : bI P c n B (K + 1) K' fr ((H.upd K (some (.cells true 1 0 (.fn rows)))).upd g (some (.cells true 1 cnt (.at [(k, [.slc true true ⟨false, K, 0, 0⟩ 0])] cg.row)))) π Post) : bI P c n B K K' fr H π Post := by
 intro μ w a hg hf hp Q hQ
 have hu : MM.upto K μ (μ.set K 0 0 1) := MM.qJ μ (Nat.le_refl K)
 have hgK := hg.lt _ _ hg0
 have unreal : ¬ (aF.cells true 1 0 (.fn rows)).real (μ.set K 0 0 1) K := by
  intro hr
  simp [aF.real, MM.ji] at hr
 have g1 : dP (K + 1) (μ.set K 0 0 1) w.heap (H.upd K (some (.cells true 1 0 (.fn rows)))) := by
  refine hg.upd hu (Nat.le_succ K) (Nat.lt_succ_self K) ?_ (fun _ _ _ _ _ => rfl) ?_ ?_
  ·rintro _ ⟨⟩
   exact ⟨MM.Ce .., Nat.one_pos, fun hr => (unreal hr).elim⟩
  ·rintro _ ⟨⟩ hr
   exact (unreal hr).elim
  ·intro b o q
   refine ⟨q, fun p1 p2 => ⟨p1, fun bk e _ hr => ?_⟩⟩
   cases e
   exact (unreal hr).elim
 have hgg : (H.upd K (some (.cells true 1 0 (.fn rows)))).get g = some (.cells true 1 cnt cg) := by rw [T.bF, if_neg (by omega)]; exact hg0
 obtain ⟨g2, m2⟩ := g1.xg (c' := .at [(k, [.slc true true ⟨false, K, 0, 0⟩ 0])] cg.row) hgg ((g1.ok _ _ hgg).xg fun i hi cu ba ho => by
  show fM _ _ (bif Nat.beq i k then _ else cg.row i) 1 cu ba
  cases e : Nat.beq i k with
  | false => exact ho
  | true =>
   have e := Nat.eq_of_beq_eq_true e
   subst e
   rw [hrow] at ho
   refine ⟨rfl, fun o v hv => ?_⟩
   match o, hv with
   | 0, hv =>
    cases hv
    obtain ⟨_, cv, q1, q2⟩ := ho.2 0 _ rfl
    simp only [Rep] at q2
    refine ⟨rfl, cv, q1, ?_⟩
    simp only [Rep]
    exact ⟨Nat.lt_succ_self K, .none, 0, q2, Nat.le_refl _, fun h => absurd h (by omega), fun h => (by cases h), fun _ => ⟨rfl, rfl, .inl ⟨rfl, rfl, rfl⟩⟩⟩)
 have may1 : ∀ b, May (μ.set K 0 0 1) (H.upd K (some (.cells true 1 0 (.fn rows)))) b → May μ H b := fun b ⟨i, x, m1, m2, m3, m4⟩ => by
  rw [T.bF] at m1
  split at m1
  ·rename_i e; subst e; cases m1; exact (unreal m3).elim
  ·have := hg.lt _ _ m1
   rw [aF.aX hu this] at m3
   rw [hu.blk i this] at m4
   exact ⟨i, x, m1, m2, m3, m4⟩
 have hE : JH B H π μ w ((H.upd K (some (.cells true 1 0 (.fn rows)))).upd g (some (.cells true 1 cnt (.at [(k, [.slc true true ⟨false, K, 0, 0⟩ 0])] cg.row)))) π (μ.set K 0 0 1) w :=
  ⟨hu.mono hB, rfl, rfl, rfl, Nat.le_refl _, fun _ _ _ => rfl, fun b hb hm => by
   rcases hm with hm | hm
   ·exact .inl (may1 b (m2 b hm))
   ·exact .inr hm, fun b o q => .inl q⟩
 refine h _ w a g2 ⟨hf.size, fun t v hv => (hf.val t v hv).later hu (Nat.le_succ K)⟩ ⟨?_, fun j hj => ?_, fun j hj => ⟨fun hm => (hp.own j hj).1 (may1 _ (m2 _ hm)), (hp.own j hj).2⟩, hp.inj⟩ Q fun e fr' H' π' a' w' hpo ha => hQ e fr' H' π' a' w' hpo (AtP.trans hE rfl ha)
 ·exact (hp.all.upd fun x hx => by cases hx; rfl).upd fun x hx => by cases hx; rfl
 ·obtain ⟨q1, cu, t, q2, q3, q4⟩ := hp.blk j hj
  refine ⟨q1, cu, t, q2, q3, fun i hi => ?_⟩
  obtain ⟨r1, r2, cv, r3, r4⟩ := q4 i hi
  exact ⟨r1, r2, cv, r3, r4.bare r1⟩
theorem bI.shut {c : Code} {fr : Fr} {H : T aF} {π : Pool} {Post Post' : Me} (h : bI P c n B K K' fr H π Post)
  (k : ∀ e fr' H' π', Post e fr' H' π' → ∃ g q k len cnt cg cq val s, H'.get g = some (.cells true 1 cnt cg) ∧ cg.row k = [.slc s true ⟨false, q, 0, 0⟩ len] ∧ H'.get q = some (.cells true 1 len cq) ∧ g ≠ q ∧ 0 < len ∧ (∀ i, i < len → cq.row i = [val i] ∧ (val i).low 0 = true) ∧ ¬ π'.live k ∧
   ∀ b c, Post' e fr' ((H'.upd q .none).upd g (some (.cells true 1 cnt (.fn fun j => bif Nat.beq j k then [.hdr b len c] else cg.row j)))) (π'.on k len val b c)) : bI P c n B K K' fr H π Post' := by
 intro μ w a hg hf hp Q hQ
 refine h μ w a hg hf hp Q fun e fr' H' π' a' w' hpo ha => ?_
 obtain ⟨g, q, k, len, cnt, cg, cq, val, s, e1, e2, e3, e4, e5, e6, e7, e8⟩ := k _ _ _ _ hpo
 obtain ⟨μ', k1, k2, k3, k4, k5⟩ := ha.of
 refine hQ e fr' _ _ a' w' (e8 (μ'.blk q) (μ'.cap q)) ⟨μ', ?_⟩
 have rq : (aF.cells true 1 len cq).real μ' q := .inl e5
 have mq : May μ' H' (μ'.blk q) := ⟨q, _, e3, rfl, rq, rfl⟩
 obtain ⟨z1, z2, z3⟩ := k1.ok _ _ e3
 obtain ⟨cur, ty, fz, h2, h3, h4, h5⟩ := z3 (.inl e5)
 obtain ⟨rfl, hcap, hbase⟩ := h4 rfl
 have sub : ∀ i b, (H'.upd q .none).get i = some b → H'.get i = some b := fun i b hi => by
  rw [T.bF] at hi
  split at hi
  ·cases hi
  ·exact hi
 have g1 := k1.sub sub
 have hgg : (H'.upd q .none).get g = some (.cells true 1 cnt cg) := by rw [T.bF, if_neg e4]; exact e1
 obtain ⟨g2, m2⟩ := g1.xg (c' := .fn fun j => bif Nat.beq j k then [.hdr (μ'.blk q) len (μ'.cap q)] else cg.row j) hgg ((g1.ok _ _ hgg).xg fun i hi cu ba ho => by
  show fM _ _ (bif Nat.beq i k then _ else cg.row i) 1 cu ba
  cases e : Nat.beq i k with
  | false => exact ho
  | true =>
   have e := Nat.eq_of_beq_eq_true e
   subst e
   rw [e2] at ho
   refine ⟨rfl, fun o v hv => ?_⟩
   match o, hv with
   | 0, hv =>
    cases hv
    obtain ⟨_, cv, q1, q2⟩ := ho.2 0 _ rfl
    simp only [Rep] at q2
    refine ⟨rfl, cv, q1, ?_⟩
    obtain ⟨_, A, C, rfl, hle, hA, _, hown⟩ := q2
    simp only [Rep]
    rcases (hown rfl).2.2 with ⟨_, _, q5⟩ | ⟨q5, q6⟩
    ·omega
    ·subst q5 q6; exact ⟨rfl, hle⟩)
 have may : ∀ b, May μ' ((H'.upd q .none).upd g (some (.cells true 1 cnt (.fn fun j => bif Nat.beq j k then [.hdr (μ'.blk q) len (μ'.cap q)] else cg.row j)))) b → May μ' H' b ∧ b ≠ μ'.blk q := fun b hm => by
  obtain ⟨i, x, m1, m2', m3, m4⟩ := m2 b hm
  refine ⟨⟨i, x, sub i x m1, m2', m3, m4⟩, fun e => ?_⟩
  have : q = i := k1.sep _ _ _ _ e3 (sub i x m1) rfl rq m3 (by rw [m4, e])
  subst this
  rw [T.bF, if_pos rfl] at m1
  cases m1
 have live : ∀ j, π'.live j → j ≠ k := fun j hj e => e7 (e ▸ hj)
 have fzq : μ'.fz (μ'.blk q) = .none := by
  cases e : μ'.fz (μ'.blk q) with
  | none => rfl
  | some o => exact absurd mq (k1.fz _ _ e).2
 have hlc : len ≤ μ'.cap q := by rw [hbase] at h3; omega
 refine ⟨g2, k2.trans ⟨MM.upto.refl _ _, rfl, rfl, rfl, Nat.le_refl _, fun _ _ _ => rfl, fun b hb hm => ?_, fun b o q => .inl q⟩, k3, k4, ⟨?_, fun j hj => ?_, fun j hj => ?_, fun j j' hj hj' e => ?_⟩⟩
 ·rcases hm with hm | ⟨j, hj, e⟩
  ·exact .inl (may b hm).1
  ·by_cases c : j = k
   ·subst c
    have e : gy π'.hb j (μ'.blk q) j = b := e
    rw [dO] at e
    rw [← e]
    exact .inl mq
   ·have e : gy π'.hb k (μ'.blk q) j = b := e
    rw [eY _ _ c] at e
    exact .inr ⟨j, hj.resolve_right c, e⟩
 ·exact (k5.all.upd fun x hx => by cases hx).upd fun x hx => by cases hx; rfl
 ·show gy π'.len k len j ≤ gy π'.hc k _ j ∧ ∃ (cur : Array Value) (ty : TypeId), w'.heap[gy π'.hb k _ j]? = some (.cells cur ty (0, 0)) ∧ cur.size = gy π'.hc k _ j ∧ ∀ i, i < gy π'.len k len j → (gy π'.val k val j i).low 0 = true ∧ (gy π'.val k val j i).one = true ∧ ∃ c, cur[i]? = some c ∧ Rep 0 μ' (gy π'.val k val j i) c
  by_cases c : j = k
  ·subst c
   simp only [dO]
   refine ⟨hlc, cur, ty, h2, by rw [hcap]; omega, fun i hi => ?_⟩
   obtain ⟨p1, p2⟩ := e6 i hi
   have h6 := h5 i hi
   rw [p1, hbase] at h6
   obtain ⟨o1, cv, o2, o3⟩ := h6.2 0 _ rfl
   exact ⟨p2, o1, cv, by simpa using o2, o3.bare p2⟩
  ·simp only [eY _ _ c]
   exact k5.blk j (hj.resolve_right c)
 ·show ¬ May μ' _ (gy π'.hb k _ j) ∧ μ'.fz (gy π'.hb k _ j) = .none
  by_cases c : j = k
  ·subst c
   rw [dO]
   exact ⟨fun hm => (may _ hm).2 rfl, fzq⟩
  ·rw [eY _ _ c]
   have := k5.own j (hj.resolve_right c)
   exact ⟨fun hm => this.1 (may _ hm).1, this.2⟩
 ·have e : gy π'.hb k (μ'.blk q) j = gy π'.hb k (μ'.blk q) j' := e
  by_cases c : j = k
  ·by_cases c' : j' = k
   ·rw [c, c']
   ·subst c
    rw [dO, eY _ _ c'] at e
    exact ((k5.own j' (hj'.resolve_right c')).1 (e ▸ mq)).elim
  ·by_cases c' : j' = k
   ·subst c'
    rw [dO, eY _ _ c] at e
    exact ((k5.own j (hj.resolve_right c)).1 (e ▸ mq)).elim
   ·rw [eY _ _ c, eY _ _ c'] at e
    exact k5.inj j j' (hj.resolve_right c) (hj'.resolve_right c') e
theorem bI.gK {c : Code} {fr : Fr} {H : T aF} {π : Pool} {fl : List (Nat × AV)} {bl : List (Nat × aF)} {Post : Me} (hf : Ge fr fl) (hH : Ia H bl) (h : bI P c n B K K' (aV fl) (hpL bl) π Post) : bI P c n B K K' fr H π Post := by
 intro μ w a hg hfr hp Q hQ
 have G := fun i b (hb : (hpL bl).get i = some b) => hH.get _ (aY hb)
 have may : ∀ b, May μ (hpL bl) b → May μ H b := fun b ⟨i, x, m1, m2, m3, m4⟩ => by
  obtain ⟨b', h1, h2⟩ := G i x m1
  exact ⟨i, b', h1, by rw [h2.owned]; exact m2, (h2.real μ i).2 m3, m4⟩
 refine h μ w a ⟨fun i b hb => let ⟨b', h1, _⟩ := G i b hb; hg.lt i b' h1, fun i b hb => let ⟨b', h1, h2⟩ := G i b hb; h2.ok (hg.ok i b' h1), fun i b j b' hi hj ho hr hr' he => ?_, fun b o q => ⟨(hg.fz b o q).1, fun hm => (hg.fz b o q).2 (may b hm)⟩⟩
  ⟨hfr.size, fun t v ht => let ⟨u, h1, h2⟩ := hf.get _ (fV ht); h2 _ _ _ (hfr.val t u h1)⟩ ⟨fun i b hb => let ⟨b', h1, h2⟩ := G i b hb; (h2.owned).symm.trans (hp.all i b' h1), hp.blk, fun j hj => ⟨fun hm => (hp.own j hj).1 (may _ hm), (hp.own j hj).2⟩, hp.inj⟩ Q fun e fr' H' π' a' w' hpo ha => hQ e fr' H' π' a' w' hpo ⟨?_⟩
 ·obtain ⟨b1, h1, h2⟩ := G i b hi
  obtain ⟨b2, k1, k2⟩ := G j b' hj
  exact hg.sep i b1 j b2 h1 k1 (by rw [h2.owned]; exact ho) ((h2.real μ i).2 hr) ((k2.real μ j).2 hr') he
 ·obtain ⟨μ', k1, k2, k3, k4, k5⟩ := ha.of
  have aaq : ∀ b, Md μ (hpL bl) π b → Md μ H π b := fun b hm => hm.imp (may b) id
  exact ⟨μ', k1, ⟨k2.names, k2.os, k2.tape, k2.output, k2.size, fun b hb hn => k2.block b hb fun hm => hn (aaq b hm), fun b hb hm => aaq b (k2.may b hb hm), fun b o q => (k2.fz b o q).imp id fun q => q.imp id (aaq b)⟩, k3, k4, k5⟩
theorem bI.post {c : Code} {fr : Fr} {H : T aF} {π : Pool} {Post Post' : Me} (h : bI P c n B K K' fr H π Post) (k : ∀ e fr' H' π', Post e fr' H' π' → ∃ fl bl, Ge fr' fl ∧ Ia H' bl ∧ Post' e (aV fl) (hpL bl) π') : bI P c n B K K' fr H π Post' := by
 intro μ w a hg hf hp Q hQ
 refine h μ w a hg hf hp Q fun e fr' H' π' a' w' hpo ha => ?_
 obtain ⟨fl, bl, hF, hH, hp'⟩ := k _ _ _ _ hpo
 obtain ⟨μ', k1, k2, k3, k4, k5⟩ := ha.of
 have G := fun i b (hb : (hpL bl).get i = some b) => hH.get _ (aY hb)
 have may : ∀ b, May μ' (hpL bl) b → May μ' H' b := fun b ⟨i, x, m1, m2, m3, m4⟩ => by
  obtain ⟨b', h1, h2⟩ := G i x m1
  exact ⟨i, b', h1, by rw [h2.owned]; exact m2, (h2.real μ' i).2 m3, m4⟩
 refine hQ e _ _ π' a' w' hp' ⟨μ', ⟨fun i b hb => let ⟨b', h1, _⟩ := G i b hb; k1.lt i b' h1, fun i b hb => let ⟨b', h1, h2⟩ := G i b hb; h2.ok (k1.ok i b' h1), fun i b j b' hi hj ho hr hr' he => ?_, fun b o q => ⟨(k1.fz b o q).1, fun hm => (k1.fz b o q).2 (may b hm)⟩⟩, ⟨k2.names, k2.os, k2.tape, k2.output, k2.size, k2.block, fun b hb hm => k2.may b hb (hm.imp (may b) id), k2.fz⟩, ⟨k3.size, fun t v ht => let ⟨u, h1, h2⟩ := hF.get _ (fV ht); h2 _ _ _ (k3.val t u h1)⟩, k4, ⟨fun i b hb => let ⟨b', h1, h2⟩ := G i b hb; (h2.owned).symm.trans (k5.all i b' h1), k5.blk, fun j hj => ⟨fun hm => (k5.own j hj).1 (may _ hm), (k5.own j hj).2⟩, k5.inj⟩⟩
 obtain ⟨b1, h1, h2⟩ := G i b hi
 obtain ⟨b2, l1, l2⟩ := G j b' hj
 exact k1.sep i b1 j b2 h1 l1 (by rw [h2.owned]; exact ho) ((h2.real μ' i).2 hr) ((l2.real μ' j).2 hr') he
def PzV (π : Pool) (u v : AV) : Prop := AV.ge u v ∨ ∃ j f, π.live j ∧ u = .hdr (π.hb j) (π.len j) (π.hc j) ∧ v = .iw (π.len j) f ∧ ∀ i, i < π.len j → ∃ s, π.val j i = .str s (f i)
def uJ (π : Pool) : List AV → List AV → Prop
 | [], [] => True
 | u :: l, v :: l' => PzV π u v ∧ v.one = true ∧ uJ π l l'
 | _, _ => False
theorem uJ.length {π : Pool} : ∀ {r r' : List AV}, uJ π r r' → r'.length = r.length
 | [], [], _ => rfl
 | u :: l, v :: l', h => by simp [uJ.length h.2.2]
 | [], _ :: _, h => h.elim
 | _ :: _, [], h => h.elim
theorem uJ.get {π : Pool} : ∀ {r r' : List AV}, uJ π r r' → ∀ {o : Nat} {v : AV}, r'[o]? = some v → ∃ u, r[o]? = some u ∧ PzV π u v ∧ v.one = true
 | [], [], _, o, v, hv => by simp at hv
 | u :: l, v :: l', h, 0, x, hv => by simp at hv; subst hv; exact ⟨u, rfl, h.1, h.2.1⟩
 | u :: l, v :: l', h, o + 1, x, hv => by simpa using uJ.get h.2.2 (by simpa using hv)
 | [], _ :: _, h, _, _, _ => h.elim
 | _ :: _, [], h, _, _, _ => h.elim
theorem uJ.refl {π : Pool} : ∀ (l : List AV), l.all AV.one = true → uJ π l l
 | [], _ => trivial
 | v :: l, h => by
  simp only [List.all_cons, Bool.and_eq_true] at h
  exact ⟨.inl (AV.ge.refl _), h.1, uJ.refl l h.2⟩
def EL (π : Pool) : aF → aF → Prop
 | .cells own sz m c, .cells own' sz' m' c' => own = own' ∧ sz = sz' ∧ m = m' ∧ ∀ i, i < m → uJ π (c.row i) (c'.row i)
 | b, b' => b = b'
theorem EL.owned {π : Pool} {b b' : aF} (h : EL π b b') : b.owned = b'.owned := by
 cases b <;> cases b' <;> simp_all [EL, aF.owned]
theorem EL.real {π : Pool} {b b' : aF} (h : EL π b b') (μ : MM) (g : Nat) : b.real μ g ↔ b'.real μ g := by
 cases b <;> cases b' <;> simp_all [EL, aF.real]
def PzF (π : Pool) (fr : Fr) : List (Nat × AV) → Prop
 | [] => True
 | p :: l => (∃ u, fr.get p.1 = some u ∧ PzV π u p.2) ∧ PzF π fr l
theorem PzF.get {π : Pool} {fr : Fr} : ∀ {l : List (Nat × AV)}, PzF π fr l → ∀ p ∈ l, ∃ u, fr.get p.1 = some u ∧ PzV π u p.2
 | x :: l, h, p, hp => by
  rcases List.mem_cons.1 hp with rfl | hp
  ·exact h.1
  ·exact PzF.get h.2 p hp
def PzH (π : Pool) (H : T aF) : List (Nat × aF) → Prop
 | [] => True
 | p :: l => (∃ b, H.get p.1 = some b ∧ EL π b p.2) ∧ PzH π H l
theorem PzH.get {π : Pool} {H : T aF} : ∀ {l : List (Nat × aF)}, PzH π H l → ∀ p ∈ l, ∃ b, H.get p.1 = some b ∧ EL π b p.2
 | x :: l, h, p, hp => by
  rcases List.mem_cons.1 hp with rfl | hp
  ·exact h.1
  ·exact PzH.get h.2 p hp
open Classical in
noncomputable def MM.shut (μ : MM) (π : Pool) (w : World) : MM := ⟨μ.blk, μ.cap, μ.sz, μ.base, fun b => if ∃ j, π.live j ∧ π.hb j = b then w.heap[b]? else μ.fz b⟩
theorem MM.zS {μ : MM} {π : Pool} {w : World} {g : Nat} (b : aF) : b.real (μ.shut π w) g ↔ b.real μ g := by cases b <;> exact Iff.rfl
open Classical in
theorem bI.freeze {c : Code} {fr : Fr} {H : T aF} {Post : Me} {Post' : Po} (hall : mO H) (hK : 0 < K') (h : bI P c n B K K' fr H .none Post)
  (k : ∀ e fr' H' π', Post e fr' H' π' → ∃ fl bl, PzF π' fr' fl ∧ PzH π' H' bl ∧ Post' e (aV fl) (hpL bl)) : aj P c n B K K' fr H Post' := by
 intro μ w a hg hf Q hQ
 refine h μ w a hg hf ⟨hall, fun j hj => hj.elim, fun j hj => hj.elim, fun j j' hj => hj.elim⟩ Q fun e fr' H' π' a' w' hpo ha => ?_
 obtain ⟨fl, bl, hF, hH, hp'⟩ := k _ _ _ _ hpo
 obtain ⟨μ', k1, k2, k3, k4, k5⟩ := ha.of
 have none' : ∀ b, Md μ H .none b → May μ H b := fun b hm => hm.elim id fun ⟨j, hj, _⟩ => hj.elim
 have fzl : ∀ j, π'.live j → (μ'.shut π' w').fz (π'.hb j) = w'.heap[π'.hb j]? := fun j hj => if_pos ⟨j, hj, rfl⟩
 have up : ∀ N, MM.upto N μ' (μ'.shut π' w') := fun N => ⟨fun _ _ => rfl, fun _ _ => rfl, fun _ _ => rfl, fun _ _ => rfl, fun b o q => by
  show (if _ then _ else _) = _
  by_cases c : ∃ j, π'.live j ∧ π'.hb j = b
  ·obtain ⟨j, hj, e⟩ := c
   rw [← e, (k5.own j hj).2] at q
   cases q
  ·rw [if_neg c]; exact q⟩
 have val : ∀ {u v : AV} {c : Value}, PzV π' u v → Rep K' μ' u c → Rep K' (μ'.shut π' w') v c := fun {u v c} h r => by
  rcases h with h | ⟨j, f, hj, rfl, rfl, hs⟩
  ·exact (h _ _ _ r).later (up _) (Nat.le_refl _)
  ·simp only [Rep] at r ⊢
   obtain ⟨_, cur, ty, q2, q3, q4⟩ := k5.blk j hj
   refine ⟨hK, π'.hb j, π'.hc j, cur, ty, (0, 0), r.1, r.2, by rw [fzl j hj]; exact q2, fun i hi => ?_⟩
   obtain ⟨_, _, cv, p3, p4⟩ := q4 i hi
   obtain ⟨s, es⟩ := hs i hi
   rw [es] at p4
   simp only [Rep] at p4
   rw [p3, p4]
 have G := fun i b (hb : (hpL bl).get i = some b) => hH.get _ (aY hb)
 have nU : ∀ b, May (μ'.shut π' w') (hpL bl) b → May μ' H' b := fun b hm => by
  obtain ⟨i, x, m1, m2, m3, m4⟩ := hm
  obtain ⟨b0, h1, h2⟩ := G i x m1
  exact ⟨i, b0, h1, h2.owned.trans m2, (h2.real _ _).2 ((MM.zS x).1 m3), m4⟩
 refine hQ e _ _ a' w' hp' ⟨μ'.shut π' w', ⟨fun i b hb => ?_, fun i b hb => ?_, fun i b j b' hi hj ho hr hr' he => ?_, fun b o q => ?_⟩, ⟨k2.names.trans (up B) (Nat.le_refl _), k2.os, k2.tape, k2.output, k2.size, fun b hb hn => k2.block b hb fun hm => hn (none' b hm), fun b hb hm => none' b (k2.may b hb (.inl (nU b hm))), fun b o q => ?_⟩, ⟨k3.size, fun t v ht => ?_⟩, k4⟩
 ·obtain ⟨b0, h1, h2⟩ := G i b hb
  exact k1.lt i b0 h1
 ·obtain ⟨b0, h1, h2⟩ := G i b hb
  have r := (k1.ok i b0 h1)
  cases b with
  | cells own sz m c =>
   cases b0 with
   | cells own' sz' m' c' =>
    obtain ⟨rfl, rfl, rfl, hr⟩ := h2
    refine ⟨r.1, r.2.1, fun hh => ?_⟩
    obtain ⟨cu, t, z', p1, p2, p3, p4⟩ := r.2.2 hh
    refine ⟨cu, t, z', p1, p2, p3, fun i hi => ⟨(hr i hi).length.trans (p4 i hi).1, fun o v hv => ?_⟩⟩
    obtain ⟨u, e1, e2, e3⟩ := (hr i hi).get hv
    obtain ⟨_, cv, e4, e5⟩ := (p4 i hi).2 o u e1
    exact ⟨e3, cv, e4, val e2 e5⟩
   | _ => simp [EL] at h2
  | _ => cases b0 <;> simp [EL] at h2 <;> first | exact h2 ▸ r | (obtain ⟨rfl, rfl⟩ := h2; exact r) | (obtain ⟨rfl, rfl, rfl⟩ := h2; exact r)
 ·obtain ⟨b1, h1, h2⟩ := G i b hi
  obtain ⟨b2, l1, l2⟩ := G j b' hj
  exact k1.sep i b1 j b2 h1 l1 (h2.owned.trans ho) ((h2.real _ _).2 ((MM.zS b).1 hr)) ((l2.real _ _).2 ((MM.zS b').1 hr')) he
 ·have q' : (if ∃ j, π'.live j ∧ π'.hb j = b then w'.heap[b]? else μ'.fz b) = some o := q
  by_cases c : ∃ j, π'.live j ∧ π'.hb j = b
  ·rw [if_pos c] at q'
   obtain ⟨j, hj, e⟩ := c
   exact ⟨q', fun hm => (k5.own j hj).1 (e ▸ nU b hm)⟩
  ·rw [if_neg c] at q'
   exact ⟨(k1.fz b o q').1, fun hm => (k1.fz b o q').2 (nU b hm)⟩
 ·have q' : (if ∃ j, π'.live j ∧ π'.hb j = b then w'.heap[b]? else μ'.fz b) = some o := q
  by_cases c : ∃ j, π'.live j ∧ π'.hb j = b
  ·obtain ⟨j, hj, e⟩ := c
   by_cases hlt : b < w.heap.size
   ·exact .inr (.inr (none' b (k2.may b hlt (.inr ⟨j, hj, e⟩))))
   ·exact .inr (.inl (by omega))
  ·rw [if_neg c] at q'
   exact (k2.fz b o q').imp id fun q => q.imp id (none' b)
 ·obtain ⟨u, h1, h2⟩ := hF.get _ (fV ht)
  exact val h2 (k3.val t u h1)
end
theorem mO.hp {bl : List (Nat × aF)} (h : (bl.all fun p => p.2.owned) = true) : mO (hpL bl) := fun i b hb => List.all_eq_true.1 h _ (aY hb)
section
variable {P : Program} {n B K K' : Nat}
theorem bI.seqB {K1 : Nat} {x y : Code} {fr : Fr} {H : T aF} {π : Pool} {F1 : List (Nat × AV)} {H1 : List (Nat × aF)} {Post : Me} (h1 : aj P x n B K K1 fr H (Nm F1 H1)) (ho : (H1.all fun p => p.2.owned) = true) (hK : K1 ≤ K') (h2 : bI P y n B K1 K' (aV F1) (hpL H1) π Post) : bI P (.seq x y) n B K K' fr H π Post :=
 bI.seq hK ((bI.ofB h1 fun e fr' H' h => by rw [h.2.2]; exact mO.hp ho).mono fun e fr' H' π' ⟨⟨e1, e2, e3⟩, e4⟩ => by subst e1 e2 e3 e4; exact h2)
theorem bI.low {K'' : Nat} {c : Code} {fr : Fr} {H : T aF} {π : Pool} {Post : Me} (h : bI P c n B K K' fr H π Post) (k : ∀ e fr' H' π', Post e fr' H' π' → ∃ fl bl, fr' = aV fl ∧ H' = hpL bl ∧ (∀ p ∈ fl, p.2.low K'' = true) ∧ DW K'' bl) : bI P c n B K K'' fr H π Post := by
 intro μ w a hg hf hp Q hQ
 refine h μ w a hg hf hp Q fun e fr' H' π' a' w' hpo ha => hQ e fr' H' π' a' w' hpo ?_
 obtain ⟨fl, bl, rfl, rfl, h1, h2⟩ := k _ _ _ _ hpo
 obtain ⟨μ', k1, k2, k3, k4, k5⟩ := ha.of
 refine ⟨μ', ⟨fun i b hb => (h2.get _ (aY hb)).1, fun i b hb => ?_, k1.sep, k1.fz⟩, k2, ⟨k3.size, fun t v ht => Rep.lY (.refl _ _) (fun _ _ => rfl) (h1 _ (fV ht)) (k3.val t v ht)⟩, k4, k5⟩
 have r := k1.ok i b hb
 have hl := (h2.get _ (aY hb)).2
 cases b with
 | cells own sz m c =>
  refine ⟨r.1, r.2.1, fun hh => ?_⟩
  obtain ⟨cu, t, z', p1, p2, p3, p4⟩ := r.2.2 hh
  refine ⟨cu, t, z', p1, p2, p3, fun j hj => ⟨(p4 j hj).1, fun o v hv => ?_⟩⟩
  obtain ⟨q1, cv, q2, q3⟩ := (p4 j hj).2 o v hv
  exact ⟨q1, cv, q2, Rep.lY (.refl _ _) (fun _ _ => rfl) (hl j hj v (List.mem_of_getElem? hv)) q3⟩
 | aJ s l => exact r
 | iY s l => exact r
 | sit s l pos => exact r
theorem Qc {k : Nat} {r : List AV} {f f' : Nat → List AV} {m : Nat} (h : ∀ j, j < m → j ≠ k → f j = f' j) : ∀ j, j < m → (Cont.at [(k, r)] f).row j = (Cont.at [(k, r)] f').row j := fun j hj => by
 show (bif Nat.beq j k then r else f j) = (bif Nat.beq j k then r else f' j)
 cases e : Nat.beq j k with
 | true => rfl
 | false => exact h j hj (Nat.ne_of_beq_eq_false e)
theorem Tq {k : Nat} {r : List AV} {f : Nat → List AV} : (Cont.at [(k, r)] f).row k = r := by
 show (bif Nat.beq k k then r else f k) = r
 rw [Nat.beq_refl, cond_true]
end
section
variable {P : Program} {n B K K' : Nat}
theorem aj.iY {c : Code} {fr : Fr} {H : T aF} {Post : Po} (g : Nat) {s s' : Bool} {l : List (Int × Int)} (h0 : H.get g = some (.iY s l)) (h : aj P c n B K K' fr (H.upd g (some (.iY s' l))) Post) : aj P c n B K K' fr H Post := by
 intro μ w a hg hf Q hQ
 have case : ∀ i b, (H.upd g (some (.iY s' l))).get i = some b → ∃ b0, H.get i = some b0 ∧ b0.owned = b.owned ∧ (∀ μ, b.real μ i ↔ b0.real μ i) ∧ bY K μ w.heap i b := fun i b hi => by
  rw [T.bF] at hi
  split at hi
  ·cases hi; rename_i e; subst e; exact ⟨_, h0, rfl, fun _ => Iff.rfl, (hg.ok _ _ h0 : bY K μ w.heap _ (.iY s l))⟩
  ·exact ⟨b, hi, rfl, fun _ => Iff.rfl, hg.ok i b hi⟩
 have may : ∀ b, May μ (H.upd g (some (.iY s' l))) b → May μ H b := fun b ⟨i, x, m1, m2, m3, m4⟩ => by
  obtain ⟨b0, e1, e2, e3, _⟩ := case i x m1
  exact ⟨i, b0, e1, e2.trans m2, (e3 μ).1 m3, m4⟩
 refine h μ w a ⟨fun i b hi => ?_, fun i b hi => ?_, fun i b j b' hi hj ho hr hr' he => ?_, fun b o q => ⟨(hg.fz b o q).1, fun hm => (hg.fz b o q).2 (may b hm)⟩⟩ hf Q fun e fr' H' a' w' hp ha => hQ e fr' H' a' w' hp ?_
 ·obtain ⟨b0, e1, _⟩ := case i b hi; exact hg.lt i b0 e1
 ·obtain ⟨b0, e1, e2, e3, e4⟩ := case i b hi; exact e4
 ·obtain ⟨b0, e1, e2, e3, _⟩ := case i b hi
  obtain ⟨b1, l1, l2, l3, _⟩ := case j b' hj
  exact hg.sep i b0 j b1 e1 l1 (e2.trans ho) ((e3 μ).1 hr) ((l3 μ).1 hr') he
 ·obtain ⟨μ', k1, k2, k3, k4⟩ := ha.of
  exact ⟨μ', k1, ⟨k2.names, k2.os, k2.tape, k2.output, k2.size, fun b hb hn => k2.block b hb fun hm => hn (may b hm), fun b hb hm => may b (k2.may b hb hm), fun b o q => (k2.fz b o q).imp id fun q => q.imp id (may b)⟩, k3, k4⟩
end
end Go.Sx
