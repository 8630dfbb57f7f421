/- THE ENGINE, part 3: an interpreter of the program's code over abstract values, and its proof. -/
import Derived.Test.YtgjdeclenlgaeaaSm2
import Derived.Defers
noncomputable section
set_option linter.unusedSimpArgs false
set_option linter.unusedVariables false
namespace Go.Sx
open M
variable {P : Program} {n B K K' : Nat}
def ABk.lowR (N : Nat) : ABk → Prop
 | .cells _ _ m c => ∀ i, i < m → ∀ v, v ∈ c.row i → v.low N = true
 | _ => True
theorem BkOk.lowB {N N' : Nat} {μ μ' : MM} {hp hp' : Array Obj} {g : Nat} {b : ABk} (r : BkOk N μ hp g b) (hl : b.lowR K) (hu : MM.upto K μ μ') (hg : g < K) (hK : K ≤ N') (hB : b.real μ g → hp'[μ.blk g]? = hp[μ.blk g]?) : BkOk N' μ' hp' g b := by
 have r1 : BkOk K μ hp g b := by
  cases b with
  | cells own sz m c =>
   refine ⟨r.1, r.2.1, fun hr => ?_⟩
   obtain ⟨cur, ty, fz, h1, h2, h3, h4⟩ := r.2.2 hr
   refine ⟨cur, ty, fz, h1, h2, h3, fun i hi => ⟨(h4 i hi).1, fun o v hv => ?_⟩⟩
   obtain ⟨k1, cv, k2, k3⟩ := (h4 i hi).2 o v hv
   exact ⟨k1, cv, k2, Rep.ofLow (.refl _ _) (fun _ _ => rfl) (hl i hi v (List.mem_of_getElem? hv)) k3⟩
  | _ => exact r
 exact r1.later hu hK hg hB
theorem frame_at {H H0 H0' H' : T ABk} {μ μ' : MM} {w w' : World} (hg : GOk K μ w.heap H) (hsub : ∀ i b, H0.get i = some b → H.get i = some b)
  (hlow : ∀ i b, H.get i = some b → H0.get i = none → i < B ∧ b.lowR B) (hB : B ≤ K')
  (hc : ∀ i b, H'.get i = some b → (H0'.get i = some b ∧ (b.owned = true ∨ (i < B ∧ ∃ b0, H0.get i = some b0 ∧ ∀ μ, b.real μ i → b0.real μ i))) ∨ (H0.get i = none ∧ H.get i = some b))
  (k1 : GOk K' μ' w'.heap H0') (k2 : ExtB B H0 μ w H0' μ' w') : GOk K' μ' w'.heap H' ∧ ExtB B H μ w H' μ' w' := by
 have nomay : ∀ i b, H.get i = some b → H0.get i = none → b.real μ i → ¬ May μ H0 (μ.blk i) := by
  rintro i b hb h0 hr ⟨g, b0, m1, m2, m3, m4⟩
  have := hg.sep g b0 i b (hsub _ _ m1) hb m2 m3 hr m4
  subst this
  rw [m1] at h0; cases h0
 have nomay' : ∀ i b, H.get i = some b → H0.get i = none → b.real μ i → ¬ May μ' H0' (μ.blk i) := fun i b hb h0 hr hm =>
  nomay i b hb h0 hr (k2.may _ ((hg.ok i b hb).lt_size hr) hm)
 have fzz : ∀ b o, μ'.fz b = some o → ∀ g (bk : ABk), H'.get g = some bk → bk.owned = true → bk.real μ' g → μ'.blk g = b → False := by
  intro b o q g bk m1 m2 m3 m4
  rcases hc g bk m1 with ⟨h, _⟩ | ⟨h0, h⟩
  ·exact (k1.fz b o q).2 ⟨g, bk, h, m2, m3, m4⟩
  ·obtain ⟨l1, l2⟩ := hlow g bk h h0
   rw [ABk.real_later k2.names l1] at m3
   rw [k2.names.blk g l1] at m4
   rcases k2.fz b o q with q1 | q1 | q1
   ·exact (hg.fz b o q1).2 ⟨g, bk, h, m2, m3, m4⟩
   ·have := (hg.ok g bk h).lt_size m3
    omega
   ·exact nomay g bk h h0 m3 (by rw [m4]; exact q1)
 refine ⟨⟨fun i b hb => ?_, fun i b hb => ?_, fun i b j b' hi hj ho hr hr' he => ?_, fun b o q => ⟨(k1.fz b o q).1, fun ⟨g, bk, m1, m2, m3, m4⟩ => fzz b o q g bk m1 m2 m3 m4⟩⟩, ⟨k2.names, k2.os, k2.tape, k2.output, k2.size, fun b hb hn => k2.block b hb fun hm => hn ?_, fun b hb hm => ?_, fun b o q => (k2.fz b o q).imp id fun q => q.imp id fun ⟨g, b0, m1, m2⟩ => ⟨g, b0, hsub _ _ m1, m2⟩⟩⟩
 ·rcases hc i b hb with ⟨h, _⟩ | ⟨h0, h⟩
  ·exact k1.lt i b h
  ·have := (hlow i b h h0).1; omega
 ·rcases hc i b hb with ⟨h, _⟩ | ⟨h0, h⟩
  ·exact k1.ok i b h
  ·obtain ⟨l1, l2⟩ := hlow i b h h0
   exact (hg.ok i b h).lowB l2 k2.names l1 hB fun hr => k2.block _ ((hg.ok i b h).lt_size hr) (nomay i b h h0 hr)
 ·rcases hc i b hi with ⟨h, _⟩ | ⟨h0, h⟩
  ·rcases hc j b' hj with ⟨h', _⟩ | ⟨h0', h'⟩
   ·exact k1.sep i b j b' h h' ho hr hr' he
   ·obtain ⟨l1, l2⟩ := hlow j b' h' h0'
    rw [ABk.real_later k2.names l1] at hr'
    rw [k2.names.blk j l1] at he
    exact (nomay' j b' h' h0' hr' ⟨i, b, h, ho, hr, he⟩).elim
  ·obtain ⟨l1, l2⟩ := hlow i b h h0
   rw [ABk.real_later k2.names l1] at hr
   rw [k2.names.blk i l1] at he
   rcases hc j b' hj with ⟨h', hw⟩ | ⟨h0', h'⟩
   ·rcases hw with hw | ⟨l3, b0, h3, h4⟩
    ·exact (nomay' i b h h0 hr ⟨j, b', h', hw, hr', he.symm⟩).elim
    ·rw [ABk.real_later k2.names l3] at hr'
     rw [k2.names.blk j l3] at he
     have := hg.sep i b j b0 h (hsub _ _ h3) ho hr (h4 _ hr') he
     exact this
   ·obtain ⟨l3, l4⟩ := hlow j b' h' h0'
    rw [ABk.real_later k2.names l3] at hr'
    rw [k2.names.blk j l3] at he
    exact hg.sep i b j b' h h' ho hr hr' he
 ·obtain ⟨g, b0, m1, m2, m3, m4⟩ := hm
  exact ⟨g, b0, hsub _ _ m1, m2, m3, m4⟩
 ·obtain ⟨g, b0, m1, m2, m3, m4⟩ := hm
  rcases hc g b0 m1 with ⟨h, _⟩ | ⟨h0, h⟩
  ·obtain ⟨g', b1, q1, q2, q3, q4⟩ := k2.may b hb ⟨g, b0, h, m2, m3, m4⟩
   exact ⟨g', b1, hsub _ _ q1, q2, q3, q4⟩
  ·obtain ⟨l1, l2⟩ := hlow g b0 h h0
   rw [ABk.real_later k2.names l1] at m3
   rw [k2.names.blk g l1] at m4
   exact ⟨g, b0, h, m2, m3, m4⟩
theorem hpL_app : ∀ (l l' : List (Nat × ABk)) (i : Nat), (hpL (l ++ l')).get i = ((hpL l).get i).or ((hpL l').get i)
 | [], l', i => by simp [hpL, T.get_e]
 | p :: l, l', i => by
  simp only [List.cons_append, hpL, T.get_upd]
  split
  ·rfl
  ·exact hpL_app l l' i
def dis (l l' : List (Nat × ABk)) : Bool := l.all fun p => l'.all fun q => !Nat.beq p.1 q.1
theorem dis_ne {l l' : List (Nat × ABk)} (h : dis l l' = true) {i : Nat} {b b' : ABk} (h1 : (hpL l).get i = some b) (h2 : (hpL l').get i = some b') : False := by
 unfold dis at h
 have h3 := List.all_eq_true.1 (List.all_eq_true.1 h _ (hpL_get h1)) _ (hpL_get h2)
 simp at h3
def LowL (B : Nat) : List (Nat × ABk) → Prop
 | [] => True
 | p :: l => (p.1 < B ∧ p.2.lowR B) ∧ LowL B l
theorem LowL.get {B : Nat} : ∀ {l : List (Nat × ABk)}, LowL B l → ∀ p ∈ l, p.1 < B ∧ p.2.lowR B
 | q :: l, h, p, hp => by
  rcases List.mem_cons.1 hp with rfl | hp
  ·exact h.1
  ·exact LowL.get h.2 p hp
def OwnL (B : Nat) (bl : List (Nat × ABk)) : List (Nat × ABk) → Prop
 | [] => True
 | p :: l => (p.2.owned = true ∨ (p.1 < B ∧ ∃ b0, (hpL bl).get p.1 = some b0 ∧ ∀ μ, p.2.real μ p.1 → b0.real μ p.1)) ∧ OwnL B bl l
theorem OwnL.get {B : Nat} {bl : List (Nat × ABk)} : ∀ {l : List (Nat × ABk)}, OwnL B bl l → ∀ p ∈ l, p.2.owned = true ∨ (p.1 < B ∧ ∃ b0, (hpL bl).get p.1 = some b0 ∧ ∀ μ, p.2.real μ p.1 → b0.real μ p.1)
 | q :: l, h, p, hp => by
  rcases List.mem_cons.1 hp with rfl | hp
  ·exact h.1
  ·exact OwnL.get h.2 p hp
theorem AtB.frameL {bl bl' xl : List (Nat × ABk)} {fr' : Fr} {a a' : Act} {μ : MM} {w w' : World} (hg : GOk K μ w.heap (hpL (bl ++ xl))) (hB : B ≤ K') (hx : LowL B xl) (hd : dis bl xl = true) (hd' : dis bl' xl = true) (ho : OwnL B bl bl')
  (h : AtB n B K' (hpL bl) μ w (hpL bl') fr' a a' w') : AtB n B K' (hpL (bl ++ xl)) μ w (hpL (bl' ++ xl)) fr' a a' w' := by
 obtain ⟨μ', k1, k2, k3, k4⟩ := h.of
 have q := frame_at (H' := hpL (bl' ++ xl)) hg (fun i b hb => by rw [hpL_app, hb]; rfl) (fun i b hb h0 => by
  rw [hpL_app, h0] at hb
  exact hx.get _ (hpL_get hb)) hB (fun i b hb => by
  rw [hpL_app] at hb
  cases h1 : (hpL bl').get i with
  | some b1 =>
   rw [h1] at hb
   cases hb
   exact .inl ⟨rfl, ho.get _ (hpL_get h1)⟩
  | none =>
   rw [h1] at hb
   refine .inr ?_
   cases h2 : (hpL bl).get i with
   | some b2 => exact (dis_ne hd h2 hb).elim
   | none => exact ⟨rfl, by rw [hpL_app, h2]; exact hb⟩) k1 k2
 exact ⟨μ', q.1, q.2, k3, k4⟩
theorem GoesB.frameL {c : Code} {fr : Fr} {bl xl : List (Nat × ABk)} {Post Post' : Po} (h : GoesB P c n B K K' fr (hpL bl) Post) (hB : B ≤ K') (hx : LowL B xl) (hd : dis bl xl = true)
  (k : ∀ e fr' H0', Post e fr' H0' → ∃ bl', H0' = hpL bl' ∧ dis bl' xl = true ∧ OwnL B bl bl' ∧ Post' e fr' (hpL (bl' ++ xl))) : GoesB P c n B K K' fr (hpL (bl ++ xl)) Post' := by
 intro μ w a hg hf Q hQ
 refine h μ w a (hg.sub fun i b hb => by rw [hpL_app, hb]; rfl) hf Q fun e fr' H0' a' w' hp ha => ?_
 obtain ⟨bl', rfl, h1, h2, h3⟩ := k _ _ _ hp
 exact hQ e fr' _ a' w' h3 (ha.frameL hg hB hx hd h1 h2)
def ABk.ren (σ : Nat → Nat) : ABk → ABk
 | .cells own sz m c => .cells own sz m (.fn fun i => rens σ (c.row i))
 | b => b
theorem rens_length (σ : Nat → Nat) : ∀ l : List AV, (rens σ l).length = l.length
 | [] => rfl
 | v :: l => by simp [rens, rens_length σ l]
theorem rens_get (σ : Nat → Nat) : ∀ (l : List AV) (i : Nat), (rens σ l)[i]? = (l[i]?).map (AV.ren σ)
 | [], i => by simp [rens]
 | v :: l, 0 => by simp [rens]
 | v :: l, i + 1 => by simp [rens, rens_get σ l i]
theorem one_ren (σ : Nat → Nat) (v : AV) : (v.ren σ).one = v.one := by cases v <;> simp [AV.ren, AV.one]
theorem BkOk.unren {N N' : Nat} {μ μ' : MM} {σ : Nat → Nat} {hp : Array Obj} {g g' : Nat} {b : ABk} (h : BkOk N μ hp g' (b.ren σ)) (hl : b.lowR N') (e0 : ∀ i, i < N' → AtN (μ.via σ) μ' i)
  (e1 : μ'.blk g = μ.blk g') (e2 : μ'.cap g = μ.cap g') (e3 : μ'.sz g = μ.sz g') (e4 : μ'.base g = μ.base g') : BkOk N' μ' hp g b := by
 cases b with
 | cells own sz m c =>
  simp only [BkOk, ABk.ren, e1, e2, e3, e4] at h ⊢
  refine ⟨h.1, h.2.1, fun hr => ?_⟩
  obtain ⟨cur, ty, fz, h1, h2, h3, h4⟩ := h.2.2 hr
  refine ⟨cur, ty, fz, h1, h2, h3, fun i hi => ⟨by have := (h4 i hi).1; simpa [Cont.row, rens_length] using this, fun o v hv => ?_⟩⟩
  obtain ⟨k1, cv, k2, k3⟩ := (h4 i hi).2 o (v.ren σ) (by show (rens σ (c.row i))[o]? = _; rw [rens_get, hv]; rfl)
  have hlow := hl i hi v (List.mem_of_getElem? hv)
  refine ⟨by rw [← one_ren σ]; exact k1, cv, k2, ?_⟩
  have k4 := Rep.unren (N' := N') k3 hlow
  exact k4.on (S := fun g => g < N') (fun g _ hg => ⟨hg, e0 g hg⟩) (Rep.inN k4)
 | mSI s l => simp only [BkOk, ABk.ren, e1] at h ⊢; exact h
 | mII s l => simp only [BkOk, ABk.ren, e1] at h ⊢; exact h
 | sit s l pos => simp only [BkOk, ABk.ren, e1, e4] at h ⊢; exact h
theorem ABk.ren_owned (σ : Nat → Nat) (b : ABk) : (b.ren σ).owned = b.owned := by cases b <;> rfl
theorem ABk.ren_real (σ : Nat → Nat) (b : ABk) (μ : MM) (g : Nat) : (b.ren σ).real μ g ↔ b.real μ g := by cases b <;> rfl
def RenG (K' : Nat) (σ : Nat → Nat) (H : T ABk) : List (Nat × ABk) → Prop
 | [] => True
 | p :: l => (∃ b, H.get (σ p.1) = some b ∧ SameC b (p.2.ren σ) ∧ p.2.lowR K' ∧ p.1 < K') ∧ RenG K' σ H l
theorem RenG.get {σ : Nat → Nat} {H : T ABk} : ∀ {l : List (Nat × ABk)}, RenG K' σ H l → ∀ p ∈ l, ∃ b, H.get (σ p.1) = some b ∧ SameC b (p.2.ren σ) ∧ p.2.lowR K' ∧ p.1 < K'
 | q :: l, h, p, hp => by
  rcases List.mem_cons.1 hp with rfl | hp
  ·exact h.1
  ·exact RenG.get h.2 p hp
theorem AtB.renG {K'' : Nat} {σ : Nat → Nat} {fl : List (Nat × AV)} {bl : List (Nat × ABk)} {fr' : Fr} {H H' : T ABk} {a a' : Act} {μ : MM} {w w' : World} (hk : ∀ g, g < B → σ g = g) (hF : RenF K'' σ fr' fl) (hB : RenG K'' σ H' bl) (hinj : ∀ i j, i < K'' → j < K'' → σ i = σ j → i = j)
  (ha : AtB n B K' H μ w H' fr' a a' w') : AtB n B K'' H μ w (hpL bl) (frL fl) a a' w' := by
 obtain ⟨μ', k1, k2, k3, k4⟩ := ha.of
 have G := fun i b (hb : (hpL bl).get i = some b) => hB.get _ (hpL_get hb)
 have mayT : ∀ b, May (μ'.via σ) (hpL bl) b → May μ' H' b := fun b hm => by
  obtain ⟨i, x, m1, m2, m3, m4⟩ := hm
  obtain ⟨b0, h1, h2, h3, h4⟩ := G i x m1
  exact ⟨σ i, b0, h1, by rw [h2.owned, ABk.ren_owned]; exact m2, (h2.real _ _).2 ((ABk.ren_real _ _ _ _).2 ((ABk.real_eq rfl x).1 m3)), m4⟩
 refine ⟨μ'.via σ, ⟨fun i b hb => ?_, fun i b hb => ?_, fun i b j b' hi hj ho hr hr' he => ?_, fun b o q => ⟨(k1.fz b o q).1, fun hm => (k1.fz b o q).2 (mayT b hm)⟩⟩, ⟨⟨fun g hg => ?_, fun g hg => ?_, fun g hg => ?_, fun g hg => ?_, k2.names.fz⟩, k2.os, k2.tape, k2.output, k2.size, k2.block, fun b hb hm => k2.may b hb (mayT b hm), k2.fz⟩, ⟨k3.size, fun t v ht => ?_⟩, k4⟩
 ·obtain ⟨b0, h1, h2, h3, h4⟩ := G i b hb; exact h4
 ·obtain ⟨b0, h1, h2, h3, h4⟩ := G i b hb
  exact (h2.ok (k1.ok _ _ h1)).unren h3 (fun i _ => ⟨rfl, rfl, rfl, rfl, fun _ _ q => q⟩) rfl rfl rfl rfl
 ·obtain ⟨b0, h1, h2, h3, h4⟩ := G i b hi
  obtain ⟨b1, l1, l2, l3, l4⟩ := G j b' hj
  exact hinj i j h4 l4 (k1.sep _ _ _ _ h1 l1 (by rw [h2.owned, ABk.ren_owned]; exact ho) ((h2.real _ _).2 ((ABk.ren_real _ _ _ _).2 ((ABk.real_eq rfl b).1 hr))) ((l2.real _ _).2 ((ABk.ren_real _ _ _ _).2 ((ABk.real_eq rfl b').1 hr'))) he)
 ·show μ'.blk (σ g) = _; rw [hk g hg]; exact k2.names.blk g hg
 ·show μ'.cap (σ g) = _; rw [hk g hg]; exact k2.names.cap g hg
 ·show μ'.sz (σ g) = _; rw [hk g hg]; exact k2.names.sz g hg
 ·show μ'.base (σ g) = _; rw [hk g hg]; exact k2.names.base g hg
 ·obtain ⟨u, h1, h2, h3⟩ := hF.get _ (frL_get ht)
  exact (h2 _ _ _ (k3.val t u h1)).unren h3
theorem GoesB.renG {K'' : Nat} {c : Code} {fr : Fr} {H : T ABk} {Post Post' : Po} (h : GoesB P c n B K K' fr H Post)
  (k : ∀ e fr' H', Post e fr' H' → ∃ σ fl bl, (∀ g, g < B → σ g = g) ∧ RenF K'' σ fr' fl ∧ RenG K'' σ H' bl ∧ (∀ i j, i < K'' → j < K'' → σ i = σ j → i = j) ∧ Post' e (frL fl) (hpL bl)) : GoesB P c n B K K'' fr H Post' := by
 intro μ w a hg hf Q hQ
 refine h μ w a hg hf Q fun e fr' H' a' w' hp ha => ?_
 obtain ⟨σ, fl, bl, hk, hF, hB, hinj, hp'⟩ := k _ _ _ hp
 exact hQ e _ _ a' w' hp' (ha.renG hk hF hB hinj)
end Go.Sx
namespace Go.Sx
open M
structure Keeps (w w' : World) (b m : Nat) : Prop where
 other : ∀ B, B < w.heap.size → B ≠ b → w'.heap[B]? = w.heap[B]?
 low : ∀ cur ty fz, w.heap[b]? = some (.cells cur ty fz) → ∃ cur', w'.heap[b]? = some (.cells cur' ty fz) ∧ cur'.size = cur.size ∧ ∀ o, o < m → cur'[o]? = cur[o]?
theorem Keeps.refl (w : World) (b m : Nat) : Keeps w w b m := ⟨fun _ _ _ => rfl, fun cur ty fz h => ⟨cur, h, rfl, fun _ _ => rfl⟩⟩
theorem Keeps.alloc (w : World) (o : Obj) (b m : Nat) : Keeps w (w.drew.alloc o) b m := by
 have e : ∀ B, B < w.heap.size → (w.drew.alloc o).heap[B]? = w.heap[B]? := fun B hB => by
  show (w.heap.push o)[B]? = _
  rw [Array.getElem?_push_lt hB, Array.getElem?_eq_getElem hB]
 exact ⟨fun B hB _ => e B hB, fun cur ty fz h => ⟨cur, by rw [e b ((Array.getElem?_eq_some_iff.1 h).1)]; exact h, rfl, fun _ _ => rfl⟩⟩
theorem appendK {P : Program} {t u ty : TypeId} {s own : Bool} {a : AA} {len : Nat} {y v : AV} {g g' : G} (h : appendA P t u (.slc s own a len) y g = .done v g') :
  ∃ sz bn c, g.H.get a.g = some (.cells true sz bn c) ∧ (g'.cs → ∀ μ w cx cy, GOk g.nx μ w.heap g.H → Rep g.nx μ (.slc s own a len) cx → Rep g.nx μ y cy → ∀ c' w', (Builtin.append_ #[t, u] ty #[cx, cy]).run P w = .ok c' w' → Keeps w w' (μ.blk a.g) (len * sz)) := by
 unfold appendA at h
 obtain ⟨e, g1, a1, h1⟩ := done_of h
 obtain ⟨ht, rfl⟩ := ofOpt_done a1
 obtain ⟨_, g2, a2, h2⟩ := done_of h1
 obtain ⟨htu, rfl⟩ := okIf_done a2
 obtain rfl := Nat.eq_of_beq_eq_true htu
 obtain ⟨z, g3, a3, h3⟩ := done_of h2
 obtain ⟨hz, rfl⟩ := ofOpt_done a3
 obtain ⟨i, zv, hi, hzv, hby, hsz, hpos, hzl, hone, hzr⟩ := zeroRow_some hz
 have ht' := sliceE_some ht
 obtain ⟨⟨ss, m, r⟩, g4, a4, h4⟩ := done_of h3
 obtain ⟨p, k4, hsrc⟩ := srcOf_sound a4 hpos
 simp only at h4 hsrc
 obtain ⟨⟨bo, sz, bn, c⟩, g5, a5, h5⟩ := done_of h4
 obtain ⟨hb, rfl⟩ := getC_done a5
 simp only at h5 hb
 obtain ⟨_, g6, a6, h6⟩ := done_of h5
 obtain ⟨hq, rfl⟩ := okIf_done a6
 simp only [Bool.and_eq_true] at hq
 obtain ⟨⟨rfl, rfl⟩, hszq⟩ := hq
 obtain rfl := Nat.eq_of_beq_eq_true hszq
 obtain ⟨_, g7, a7, h7⟩ := done_of h6
 have k7 := k4.trans (ck_done a7)
 obtain ⟨_, g8, a8, h8⟩ := done_of h7
 obtain ⟨nm, g9, a9, h9⟩ := done_of h8
 obtain ⟨rfl, rfl⟩ := ret_done h9
 obtain ⟨hnm, hH, hnx, hcs⟩ := newB_done a9
 obtain ⟨hH8, hnx8, hcs8⟩ := delB_done a8
 have hk := Keep.of_newB k7 (hcs.trans hcs8)
 refine ⟨z.1.length, bn, c, by rw [← k4.1]; exact hb, fun hc μ w cx cy hg hx hy c' w' hrun' => ?_⟩
 obtain ⟨hp, hlen, hb48, hb63⟩ := (hk hc).2
 obtain ⟨B, D, rfl, hnews⟩ := hsrc hp g.nx μ w cy hg hy
 have hg7 : GOk g7.nx μ w.heap g7.H := by rw [k7.1, k7.2.1]; exact hg
 have hb7 : g7.H.get a.g = some (.cells true z.1.length bn c) := by rw [k7.1, ← k4.1]; exact hb
 simp only [Rep] at hx
 obtain ⟨hag, A, C, rfl, hlC, hA, hnn, hown⟩ := hx
 obtain ⟨hai, hao, hAC⟩ := hown rfl
 obtain ⟨olds, hol, hoc, horow⟩ := olds_ok (hg7.ok _ _ hb7) rfl hlen
 rcases Nat.eq_zero_or_pos m with rfl | hm
 ·have hrun := run_append_none (P := P) ht' hi ty w A B len C D hlC
  rw [hrun] at hrun'
  cases hrun'
  exact Keeps.refl _ _ _
 ·obtain ⟨ad, news, rfl, hnl, hcell, h1c, hrow⟩ := hnews hm
  rcases hAC with ⟨rfl, rfl, rfl⟩ | ⟨rfl, rfl⟩
  ·have hrun := run_append_nil (P := P) w t ty e i zv ht' hi hzv ad m D news (by rw [hsz]; exact hnl) hcell hm (by omega) (by rw [hby]; simp only [Nat.zero_add] at hb48; omega)
   rw [hrun] at hrun'
   cases hrun'
   exact Keeps.alloc _ _ _ _
  ·by_cases hroom : len + m ≤ μ.cap a.g
   ·have hreal : 0 < bn ∨ 0 < μ.cap a.g := .inr (by omega)
    obtain ⟨_, _, hcur⟩ := hg7.ok _ _ hb7
    obtain ⟨cur, ty', fz, hB, hfit, hfz, hro⟩ := hcur (hreal.imp id fun h => ⟨rfl, h⟩)
    obtain ⟨rfl, hcap, hb0⟩ := hfz rfl
    have hlm : (len + m) * z.1.length ≤ μ.cap a.g * z.1.length := Nat.mul_le_mul_right _ hroom
    rw [Nat.add_mul] at hlm
    have hfit2 : len * z.1.length + news.length ≤ cur.toList.length := by rw [hnl, Array.length_toList, hcap]; exact hlm
    have hrun := run_append_fits (P := P) (ty := ty) (c := D) ht' hi hB (by rw [hsz]; exact hnl) hcell h1c hroom (by rw [hsz]; simpa using hfit2)
    rw [hsz] at hrun
    rw [hrun] at hrun'
    cases hrun'
    have hget := fun p => splice_get cur.toList (len * z.1.length) news hfit2 p
    refine ⟨fun B hB hne => setRow_other w _ _ _ hne, fun cur1 ty1 fz1 h1 => ?_⟩
    rw [hB] at h1
    cases h1
    refine ⟨_, setRow_heap w _ cur _ ty' _ hB, by simp at hfit2 ⊢; omega, fun o ho => ?_⟩
    rw [List.getElem?_toArray, hget, if_pos (by omega)]
    simp
   ·have hrun := run_append_grow (P := P) w t ty e i zv ht' hi hzv ⟨μ.blk a.g, 0, none⟩ len (μ.cap a.g) olds (by rw [hsz]; exact hol) hoc ad m D news (by rw [hsz]; exact hnl) hcell (by omega) (by omega)
     (growslice_fits (by omega) (by rw [hby]; exact hb48))
    rw [hrun] at hrun'
    cases hrun'
    exact Keeps.alloc _ _ _ _
variable {P : Program} {n B K K' : Nat}
structure VX (B j sz m : Nat) (c : Cont) (μ : MM) (w : World) : Prop where
 ok : BkOk B μ w.heap j (.cells false sz m c)
 base : 0 < m → μ.base j = 0
theorem VX.real {j sz m : Nat} {c : Cont} {μ : MM} (h : (ABk.cells false sz m c).real μ j) : 0 < m := by
 rcases h with h | ⟨h, _⟩
 ·exact h
 ·cases h
theorem VX.stab {j sz m : Nat} {c : Cont} {μ μ' : MM} {w w' : World} (h : VX B j sz m c μ w) (hj : j < B) (hl : (ABk.cells false sz m c).lowR B) (hu : MM.upto B μ μ') (hs : ∀ b, b < w.heap.size → w'.heap[b]? = w.heap[b]?) : VX B j sz m c μ' w' :=
 ⟨h.ok.lowB hl hu hj (Nat.le_refl _) fun hr => hs _ (h.ok.lt_size hr), fun hm => by rw [hu.base j hj]; exact h.base hm⟩
theorem VX.keep {j sz m : Nat} {c : Cont} {μ μ' : MM} {w w' : World} {b k : Nat} (h : VX B j sz m c μ w) (hj : j < B) (hl : (ABk.cells false sz m c).lowR B) (hu : MM.upto B μ μ') (hk : Keeps w w' b k) (hm : m * sz ≤ k) : VX B j sz m c μ' w' := by
 refine ⟨⟨by rw [hu.sz j hj]; exact h.ok.1, h.ok.2.1, fun hr => ?_⟩, fun hm => by rw [hu.base j hj]; exact h.base hm⟩
 have h0 : 0 < m := by
  rcases hr with hr | ⟨hr, _⟩
  ·exact hr
  ·cases hr
 obtain ⟨cur, ty, fz, h1, h2, h3, h4⟩ := h.ok.2.2 (.inl h0)
 have hb0 := h.base h0
 have hlt := (Array.getElem?_eq_some_iff.1 h1).1
 obtain ⟨cur', e1, e2, e3⟩ : ∃ cur', w'.heap[μ.blk j]? = some (.cells cur' ty fz) ∧ cur'.size = cur.size ∧ ∀ o, o < k → cur'[o]? = cur[o]? := by
  by_cases hb : μ.blk j = b
  ·rw [hb] at h1 ⊢; exact hk.low _ _ _ h1
  ·exact ⟨cur, by rw [hk.other _ hlt hb]; exact h1, rfl, fun _ _ => rfl⟩
 refine ⟨cur', ty, fz, by rw [hu.blk j hj]; exact e1, by rw [hu.base j hj, e2]; exact h2, fun h => (by cases h), fun i hi => ⟨(h4 i hi).1, fun o v hv => ?_⟩⟩
 obtain ⟨k1, cv, k2, k3⟩ := (h4 i hi).2 o v hv
 have ho : o < sz := by have := (List.getElem?_eq_some_iff.1 hv).1; have := (h4 i hi).1; omega
 have hfit : (i + 1) * sz ≤ m * sz := Nat.mul_le_mul_right _ hi
 rw [Nat.add_mul] at hfit
 rw [hb0] at k2
 refine ⟨k1, cv, by rw [hu.base j hj, hb0, e3 _ (by omega)]; exact k2, ?_⟩
 exact (Rep.ofLow (.refl _ _) (fun _ _ => rfl) (hl i hi v (List.mem_of_getElem? hv)) k3).later hu (Nat.le_refl _)
structure AtX (n B K : Nat) (X : MM → World → Prop) (H : T ABk) (μ : MM) (w : World) (H' : T ABk) (fr' : Fr) (a a' : Act) (w' : World) : Prop where
 of : ∃ μ', GOk K μ' w'.heap H' ∧ ExtB B H μ w H' μ' w' ∧ FrOk K μ' fr' a'.tmps n ∧ a'.defers = a.defers ∧ X μ' w'
def GoesX (P : Program) (c : Code) (n B K K' : Nat) (X : MM → World → Prop) (fr : Fr) (H : T ABk) (Post : Po) : Prop :=
 ∀ μ w (a : Act), GOk K μ w.heap H → FrOk K μ fr a.tmps n → X μ w → ∀ Q : Exit → Act → World → Prop, (∀ e fr' H' a' w', Post e fr' H' → AtX n B K' X H μ w H' fr' a a' w' → Q e.ex a' w') → c.wp P Q a w
section
variable {X : MM → World → Prop}
theorem AtX.trans {H H' H'' : T ABk} {μ : MM} {w w' w'' : World} {fr'' : Fr} {a a' a'' : Act} {μ' : MM} (h1 : ExtB B H μ w H' μ' w') (h2 : a'.defers = a.defers) (h : AtX n B K X H' μ' w' H'' fr'' a' a'' w'') : AtX n B K X H μ w H'' fr'' a a'' w'' := by
 obtain ⟨μ'', k1, k2, k3, k4, k5⟩ := h.of
 exact ⟨μ'', k1, h1.trans k2, k3, k4.trans h2, k5⟩
theorem AtX.up {H H' : T ABk} {μ : MM} {w w' : World} {fr' : Fr} {a a' : Act} (h : AtX n B K X H μ w H' fr' a a' w') (hK : K ≤ K') : AtX n B K' X H μ w H' fr' a a' w' := by
 obtain ⟨μ', k1, k2, k3, k4, k5⟩ := h.of
 exact ⟨μ', k1.up hK fun _ _ h => h, k2, k3.later (.refl _ _) hK, k4, k5⟩
theorem GoesX.mono {c : Code} {fr : Fr} {H : T ABk} {Post Post' : Po} (h : GoesX P c n B K K' X fr H Post) (k : ∀ e fr' H', Post e fr' H' → Post' e fr' H') : GoesX P c n B K K' X fr H Post' :=
 fun μ w a hg hf hx Q hQ => h μ w a hg hf hx Q fun e fr' H' a' w' hp ha => hQ e fr' H' a' w' (k _ _ _ hp) ha
theorem GoesX.seq {K1 : Nat} {x y : Code} {fr : Fr} {H : T ABk} {Post : Po} (hK : K1 ≤ K')
  (h : GoesX P x n B K K1 X fr H fun e fr' H' => match e with
   | .normal => GoesX P y n B K1 K' X fr' H' Post
   | e => Post e fr' H') : GoesX P (.seq x y) n B K K' X fr H Post := by
 intro μ w a hg hf hx Q hQ
 refine wp_seq (h μ w a hg hf hx _ fun e fr' H' a' w' hp ha => ?_)
 cases e with
 | normal =>
  obtain ⟨μ', k1, k2, k3, k4, k5⟩ := ha.of
  exact hp μ' w' a' k1 k3 k5 Q fun e'' fr'' H'' a'' w'' hp' ha' => hQ _ _ _ _ _ hp' (AtX.trans k2 k4 ha')
 | exit id => exact hQ _ _ _ _ _ hp (ha.up hK)
 | ret => exact hQ _ _ _ _ _ hp (ha.up hK)
theorem GoesX.block {id : Nat} {c : Code} {fr : Fr} {H : T ABk} {Post : Po}
  (h : GoesX P c n B K K' X fr H fun e fr' H' => match e with
   | .exit id' => if id' = id then Post .normal fr' H' else Post (.exit id') fr' H'
   | e => Post e fr' H') : GoesX P (.block id c) n B K K' X fr H Post := by
 intro μ w a hg hf hx Q hQ
 refine wp_block (h μ w a hg hf hx _ fun e fr' H' a' w' hp ha => ?_)
 cases e with
 | normal => exact hQ _ _ _ _ _ hp ha
 | ret => exact hQ _ _ _ _ _ hp ha
 | exit id' =>
  simp only [Ex.ex, Exit.inBlock]
  by_cases he : id' = id
  ·simp only [he, if_true] at hp ⊢
   exact hQ .normal _ _ _ _ hp ha
  ·simp only [if_neg he] at hp ⊢
   exact hQ (.exit id') _ _ _ _ hp ha
theorem GoesX.loop {c : Code} {Post : Po} (I : Nat → Fr → T ABk → Prop)
  (h : ∀ k fr H, I k fr H → GoesX P c n B K K X fr H fun e fr' H' => match e with
   | .normal => ∃ k', k' < k ∧ I k' fr' H'
   | e => Post e fr' H') : ∀ k fr H, I k fr H → GoesX P (.loop c) n B K K X fr H Post := by
 have key : ∀ R k fr H, k < R → I k fr H → ∀ μ w (a : Act), GOk K μ w.heap H → FrOk K μ fr a.tmps n → X μ w → ∀ Q : Exit → Act → World → Prop, (∀ e fr' H' a' w', Post e fr' H' → AtX n B K X H μ w H' fr' a a' w' → Q e.ex a' w') → Code.rounds P c Q R a w := by
  intro R
  induction R with
  | zero => intro k fr H hk; omega
  | succ R ih =>
   intro k fr H hkR hI μ w a hg hf hx Q hQ
   rw [rounds_succ]
   refine wp_mono (h k fr H hI μ w a hg hf hx (fun e a' w' => (e = .normal ∧ ∃ k' fr' H', k' < k ∧ I k' fr' H' ∧ AtX n B K X H μ w H' fr' a a' w') ∨ (e ≠ .normal ∧ Q e a' w')) fun e fr' H' a' w' hp ha => ?_) ?_
   ·cases e with
    | normal =>
     obtain ⟨k', hk, hI'⟩ := hp
     exact .inl ⟨rfl, k', fr', H', hk, hI', ha⟩
    | exit id => exact .inr ⟨by simp [Ex.ex], hQ (.exit id) _ _ _ _ hp ha⟩
    | ret => exact .inr ⟨by simp [Ex.ex], hQ .ret _ _ _ _ hp ha⟩
   ·rintro e a' w' (⟨rfl, k', fr', H', hk, hI', ha⟩ | ⟨hne, hq⟩)
    ·obtain ⟨μ', k1, k2, k3, k4, k5⟩ := ha.of
     exact ih k' fr' H' (by omega) hI' μ' w' a' k1 k3 k5 Q fun e'' fr'' H'' a'' w'' hp' ha' => hQ _ _ _ _ _ hp' (AtX.trans k2 k4 ha')
    ·cases e <;> first | exact absurd rfl hne | exact hq
 intro k fr H hI μ w a hg hf hx Q hQ
 exact wp_loop_rounds (k + 1) (key (k + 1) k fr H (by omega) hI μ w a hg hf hx Q hQ)
end
section
variable {j sz m : Nat} {cj : Cont}
theorem GoesX.pure {B' : Nat} {c : Code} {fr : Fr} {bl xl : List (Nat × ABk)} {Post Post' : Po} (hj : j < B) (hl : (ABk.cells false sz m cj).lowR B) (hBB : B ≤ B') (h : GoesB P c n B' K K' fr (hpL bl) Post) (hB : B' ≤ K') (hv : ∀ p ∈ bl, p.2.owned = false) (hx : LowL B' xl) (hd : dis bl xl = true)
  (k : ∀ e fr' H0', Post e fr' H0' → ∃ bl', H0' = hpL bl' ∧ dis bl' xl = true ∧ OwnL B' bl bl' ∧ Post' e fr' (hpL (bl' ++ xl))) : GoesX P c n B K K' (VX B j sz m cj) fr (hpL (bl ++ xl)) Post' := by
 intro μ w a hg hf hX Q hQ
 refine h μ w a (hg.sub fun i b hb => by rw [hpL_app, hb]; rfl) hf Q fun e fr' H0' a' w' hp ha => ?_
 obtain ⟨bl', rfl, h1, h2, h3⟩ := k _ _ _ hp
 obtain ⟨μ', k1, k2, k3, k4⟩ := ha.of
 have nm : ∀ b, ¬ May μ (hpL bl) b := fun b ⟨i, x, m1, m2, _⟩ => by
  have := hv _ (hpL_get m1)
  rw [m2] at this; cases this
 obtain ⟨μ2, q1, q2, q3, q4⟩ : ∃ μ2, GOk K' μ2 w'.heap (hpL (bl' ++ xl)) ∧ ExtB B (hpL (bl ++ xl)) μ w (hpL (bl' ++ xl)) μ2 w' ∧ FrOk K' μ2 fr' a'.tmps n ∧ VX B j sz m cj μ2 w' := by
  have q := frame_at (H' := hpL (bl' ++ xl)) hg (fun i b hb => by rw [hpL_app, hb]; rfl) (fun i b hb h0 => by
   rw [hpL_app, h0] at hb
   exact hx.get _ (hpL_get hb)) hB (fun i b hb => by
   rw [hpL_app] at hb
   cases h1 : (hpL bl').get i with
   | some b1 =>
    rw [h1] at hb
    cases hb
    exact .inl ⟨rfl, h2.get _ (hpL_get h1)⟩
   | none =>
    rw [h1] at hb
    refine .inr ?_
    cases h2 : (hpL bl).get i with
    | some b2 => exact (dis_ne hd h2 hb).elim
    | none => exact ⟨rfl, by rw [hpL_app, h2]; exact hb⟩) k1 k2
  exact ⟨μ', q.1, ⟨q.2.names.mono hBB, q.2.os, q.2.tape, q.2.output, q.2.size, q.2.block, q.2.may, q.2.fz⟩, k3, hX.stab hj hl (k2.names.mono hBB) fun b hb => k2.block b hb (nm b)⟩
 exact hQ e fr' _ a' w' h3 ⟨μ2, q1, q2, q3, k4, q4⟩
theorem GoesX.renG {K'' : Nat} {c : Code} {fr : Fr} {H : T ABk} {Post Post' : Po} (hj : j < B) (hl : (ABk.cells false sz m cj).lowR B) (h : GoesX P c n B K K' (VX B j sz m cj) fr H Post)
  (k : ∀ e fr' H', Post e fr' H' → ∃ σ fl bl, (∀ g, g < B → σ g = g) ∧ RenF K'' σ fr' fl ∧ RenG K'' σ H' bl ∧ (∀ i j, i < K'' → j < K'' → σ i = σ j → i = j) ∧ Post' e (frL fl) (hpL bl)) : GoesX P c n B K K'' (VX B j sz m cj) fr H Post' := by
 intro μ w a hg hf hX Q hQ
 refine h μ w a hg hf hX Q fun e fr' H' a' w' hp ha => ?_
 obtain ⟨σ, fl, bl, hk, hF, hB, hinj, hp'⟩ := k _ _ _ hp
 obtain ⟨μ', k1, k2, k3, k4, k5⟩ := ha.of
 have G := fun i b (hb : (hpL bl).get i = some b) => hB.get _ (hpL_get hb)
 have u : MM.upto B μ' (μ'.via σ) := ⟨fun g hg => by show μ'.blk (σ g) = _; rw [hk g hg], fun g hg => by show μ'.cap (σ g) = _; rw [hk g hg], fun g hg => by show μ'.sz (σ g) = _; rw [hk g hg], fun g hg => by show μ'.base (σ g) = _; rw [hk g hg], fun _ _ q => q⟩
 have mayT : ∀ b, May (μ'.via σ) (hpL bl) b → May μ' H' b := fun b hm => by
  obtain ⟨i, x, m1, m2, m3, m4⟩ := hm
  obtain ⟨b0, h1, h2, h3, h4⟩ := G i x m1
  exact ⟨σ i, b0, h1, by rw [h2.owned, ABk.ren_owned]; exact m2, (h2.real _ _).2 ((ABk.ren_real _ _ _ _).2 ((ABk.real_eq rfl x).1 m3)), m4⟩
 refine hQ e _ _ a' w' hp' ⟨μ'.via σ, ⟨fun i b hb => ?_, fun i b hb => ?_, fun i b j b' hi hj ho hr hr' he => ?_, fun b o q => ⟨(k1.fz b o q).1, fun hm => (k1.fz b o q).2 (mayT b hm)⟩⟩, ⟨k2.names.trans u (Nat.le_refl _), k2.os, k2.tape, k2.output, k2.size, k2.block, fun b hb hm => k2.may b hb (mayT b hm), k2.fz⟩, ⟨k3.size, fun t v ht => ?_⟩, k4, k5.stab hj hl u fun _ _ => rfl⟩
 ·obtain ⟨b0, h1, h2, h3, h4⟩ := G i b hb; exact h4
 ·obtain ⟨b0, h1, h2, h3, h4⟩ := G i b hb
  exact (h2.ok (k1.ok _ _ h1)).unren h3 (fun i _ => ⟨rfl, rfl, rfl, rfl, fun _ _ q => q⟩) rfl rfl rfl rfl
 ·obtain ⟨b0, h1, h2, h3, h4⟩ := G i b hi
  obtain ⟨b1, l1, l2, l3, l4⟩ := G j b' hj
  exact hinj i j h4 l4 (k1.sep _ _ _ _ h1 l1 (by rw [h2.owned, ABk.ren_owned]; exact ho) ((h2.real _ _).2 ((ABk.ren_real _ _ _ _).2 ((ABk.real_eq rfl b).1 hr))) ((l2.real _ _).2 ((ABk.ren_real _ _ _ _).2 ((ABk.real_eq rfl b').1 hr'))) he)
 ·obtain ⟨u, h1, h2, h3⟩ := hF.get _ (frL_get ht)
  exact (h2 _ _ _ (k3.val t u h1)).unren h3
theorem opsPre {call : Calls'} (hcall : CallOk P call) {ops : Array Oper} {Q : Exit → Act → World → Prop} {l2 all : List Oper} : ∀ (l1 : List Oper) (fr fr' : Fr) (g g' : G), (∀ o ∈ l1, o.guard = none) → opsA0 P call n all l1 fr g = .done fr' g' →
  (g'.cs → g.cs) ∧ (g'.cs → ∀ μ w (a : Act), GOk g.nx μ w.heap g.H → FrOk g.nx μ fr a.tmps n → (∀ a' w', FrAfter n g μ w g' fr' a a' w' → wpList P ops Q l2 a' w') → wpList P ops Q (l1 ++ l2) a w)
 | [], fr, fr', g, g', _, h => by
  obtain ⟨rfl, rfl⟩ := ret_done h
  exact ⟨id, fun _ μ w a hg hf hK => hK a w ⟨μ, hg, Ext.refl _ _ _, hf, rfl⟩⟩
 | o :: rest, fr, fr', g, g', hgd, h => by
  unfold opsA0 at h
  have h0 := hgd o List.mem_cons_self
  rw [h0] at h
  obtain ⟨v, g1, a1, h1⟩ := done_of h
  obtain ⟨fr1, g2, a2, h2⟩ := done_of h1
  obtain ⟨hc1, hs1⟩ := opA_sound hcall a1
  obtain ⟨rfl, hp⟩ := putA_sound a2
  obtain ⟨hc2, hs2⟩ := opsPre hcall (ops := ops) (Q := Q) (l2 := l2) rest _ _ _ _ (fun o ho => hgd o (List.mem_cons_of_mem _ ho)) h2
  refine ⟨fun hc => hc1 (hc2 hc), fun hc μ w a hg hf hK => wpList_plain h0 fun K hK' => hs1 (hc2 hc) μ w a n hg hf _ _ fun c w' ha => ?_⟩
  obtain ⟨μ', hv, hg', hext⟩ := ha
  exact hK' _ _ (hs2 hc μ' w' _ hg' (hp _ _ _ _ (hf.later hext.names hext.nx) hv) fun a' w'' hk => hK _ _ (hk.trans hext (Act.put_defers _ _ _)))
theorem GoesX.app {call : Calls'} (hcall : CallOk P call) {region : List Oper → Fr → M Fr} {loops : Loops} {rounds : Nat} {ops : Array Oper} {id id' : Nat} {l1 : List Oper} {o1 o2 : Oper} (hops : ops.toList = l1 ++ [o1, o2]) (hgd : ∀ o ∈ l1, o.guard = none) (g1 : o1.guard = none) (g2 : o2.guard = none)
  {ty : TypeId} {tx tY d1 d2 : Nat} (h1 : o1.op = .call ⟨.builtin .append, #[.tmp tx, .tmp tY], #[ty, ty]⟩) (e1 : o1.dst = some d1) (h2 : o2.op = .assign (.tmp d1)) (e2 : o2.dst = some d2) (hd1 : d1 < n) (hd2 : d2 < n)
  {B' K1 : Nat} {fr : Fr} {fl : List (Nat × AV)} {bl bl1 xl : List (Nat × ABk)} {path : List Bool} (hrun : PieceN K1 .normal fl bl1 (codeA P call region loops n rounds (.region id' l1.toArray false) fr ⟨hpL bl, K, [], path, True⟩))
  (hj : j < B) (hl : (ABk.cells false sz m cj).lowR B) (hBB : B ≤ B') (hB : B' ≤ K) (hv : ∀ p ∈ bl, p.2.owned = false) (hx : LowL B' xl) (hd : dis bl xl = true) (hd' : dis bl1 xl = true) (ho : OwnL B' bl bl1)
  {s : Bool} {q len : Nat} {vy v : AV} {c : Cont} (ex : (frL fl).get tx = some (.slc s true ⟨false, q, 0, 0⟩ len)) (ey : (frL fl).get tY = some vy) (hvy : vy.fl = vy) (hq : (hpL (bl1 ++ xl)).get q = some (.cells true sz len c)) (hml : m ≤ len)
  {g2' : G} (happ : appendA P ty ty (.slc s true ⟨false, q, 0, 0⟩ len) vy ⟨hpL (bl1 ++ xl), K1, [], [], True⟩ = .done v g2') (hcs : g2'.cs) :
  GoesX P (.region id ops false) n B K g2'.nx (VX B j sz m cj) fr (hpL (bl ++ xl)) fun e fr' H' => e = .normal ∧ fr' = ((frL fl).upd d1 (some v)).upd d2 (some v) ∧ H' = g2'.H := by
 intro μ w a hg hf hX Q hQ
 refine wp_region_list ?_
 rw [hops]
 have hr := hrun.of
 have hgg : GOk K μ w.heap (hpL bl) := hg.sub fun i b hb => by rw [hpL_app, hb]; rfl
 generalize hres : codeA P call region loops n rounds (.region id' l1.toArray false) fr ⟨hpL bl, K, [], path, True⟩ = res at hr
 unfold pieceN at hr
 split at hr
 ·rename_i r g
  obtain ⟨hre, hw, hh, hnx, hcs1⟩ := hr
  have hnx := Nat.le_of_ble_eq_true hnx
  unfold codeA at hres
  obtain ⟨fr1, g1', b1, b2⟩ := done_of hres
  obtain ⟨rfl, rfl⟩ := ret_done b2
  have b1' : opsA0 P call n l1 l1 fr ⟨hpL bl, K, [], path, True⟩ = .done fr1 g1' := by rw [← opsA_eq]; simpa using b1
  obtain ⟨_, hs⟩ := opsPre hcall (ops := ops) (Q := Q) (l2 := [o1, o2]) l1 _ _ _ _ hgd b1'
  refine hs hcs1 μ w a hgg hf fun a' w' hk => ?_
  obtain ⟨μ', k1, k2, k3, k4⟩ := hk
  have sub : ∀ i b, (hpL bl1).get i = some b → g1'.H.get i = some b := fun i b hb => hh.get (hpL_get hb)
  have k1' : GOk K1 μ' w'.heap (hpL bl1) := k1.up hnx sub
  have k2' : ExtB B' (hpL bl) μ w (hpL bl1) μ' w' := ⟨k2.names.mono hB, k2.os, k2.tape, k2.output, k2.size, k2.block, fun b hb hm => k2.may b hb (by
   obtain ⟨i, x, m1, m2, m3, m4⟩ := hm
   exact ⟨i, x, sub i x m1, m2, m3, m4⟩), k2.fz⟩
  have k3' : FrOk K1 μ' (frL fl) a'.tmps n := ⟨k3.size, fun t v ht => (k3.val t v (hw.get (frL_get ht))).later (.refl _ _) hnx⟩
  have nm : ∀ b, ¬ May μ (hpL bl) b := fun b ⟨i, x, m1, m2, _⟩ => by
   have := hv _ (hpL_get m1)
   rw [m2] at this; cases this
  have hX' := hX.stab hj hl (k2'.names.mono hBB) fun b hb => k2'.block b hb (nm b)
  have hKK : K ≤ K1 := Nat.le_trans k2.nx hnx
  have qf := frame_at (H' := hpL (bl1 ++ xl)) hg (fun i b hb => by rw [hpL_app, hb]; rfl) (fun i b hb h0 => by
   rw [hpL_app, h0] at hb
   exact hx.get _ (hpL_get hb)) (Nat.le_trans hB hKK) (fun i b hb => by
   rw [hpL_app] at hb
   cases h1 : (hpL bl1).get i with
   | some b1 =>
    rw [h1] at hb
    cases hb
    exact .inl ⟨rfl, ho.get _ (hpL_get h1)⟩
   | none =>
    rw [h1] at hb
    refine .inr ?_
    cases h2 : (hpL bl).get i with
    | some b2 => exact (dis_ne hd h2 hb).elim
    | none => exact ⟨rfl, by rw [hpL_app, h2]; exact hb⟩) k1' k2'
  -- the append
  refine wpList_plain g1 fun KK hKK' => ?_
  have rx := k3'.val _ _ ex
  have ry := k3'.val _ _ ey
  obtain ⟨_, happs⟩ := appendA_sound (ty := o1.type) happ
  obtain ⟨cv, w2, μ2, er, r1, r2, r3⟩ := happs hcs μ' w' _ _ qf.1 rx ry
  obtain ⟨sz0, bn, c0, hq0, hkeep⟩ := appendK (ty := o1.type) happ
  have hq1 : (hpL (bl1 ++ xl)).get q = some (.cells true sz0 bn c0) := hq0
  rw [hq] at hq1
  cases hq1
  have hK := hkeep hcs μ' w' _ _ qf.1 rx ry cv w2 er
  have hX2 := hX'.keep hj hl (r3.names.mono (show B ≤ K1 by omega)) hK (Nat.mul_le_mul_right _ hml)
  have hrun1 : (execOp a'.eval o1).run P w' = .ok (.value cv) w2 := by
   have e1 : (builtin .append #[ty, ty] o1.type #[false, false] #[a'.tmps.getD tx undef, a'.tmps.getD tY undef]).run P w' = .ok (.value cv) w2 := run_val er
   simp only [execOp, h1, resolve, Sem.run_bind, Sem.run_pure, List.map_toArray, List.map_cons, List.map_nil, Result.andThen]
   exact e1
  unfold Oper.wp
  rw [hrun1]
  refine hKK' _ _ (wpList_plain g2 fun KK2 hKK2 => ?_)
  have f1 : FrOk g2'.nx μ2 ((frL fl).upd d1 (some v)) (a'.put o1.dst cv).tmps n := by
   rw [e1]
   exact (k3'.later r3.names r3.nx).upd hd1 r1
  have hrun2 : (execOp (a'.put o1.dst cv).eval o2).run P w2 = .ok (.value ((a'.put o1.dst cv).eval (.tmp d1))) w2 := by
   simp only [execOp, h2, Sem.run_pure]
  unfold Oper.wp
  rw [hrun2]
  refine hKK2 _ _ (wpList_nil (hQ .normal _ _ _ _ ⟨rfl, rfl, rfl⟩ ⟨μ2, r2, ?_, ?_, ?_, hX2⟩))
  ·have x1 : ExtB B (hpL (bl ++ xl)) μ w (hpL (bl1 ++ xl)) μ' w' := ⟨qf.2.names.mono hBB, qf.2.os, qf.2.tape, qf.2.output, qf.2.size, qf.2.block, qf.2.may, qf.2.fz⟩
   exact x1.trans ⟨r3.names.mono (show B ≤ K1 by omega), r3.os, r3.tape, r3.output, r3.size, r3.block, r3.may, r3.fz⟩
  ·have hv2 : Rep g2'.nx μ2 v ((a'.put o1.dst cv).eval (.tmp d1)) := f1.val d1 v (by rw [T.get_upd, if_pos rfl])
   have := f1.upd hd2 hv2
   rw [e2]
   exact this
  ·rw [Act.put_defers, Act.put_defers]; exact k4
 ·exact hr.elim
theorem BkOk.view {N : Nat} {μ : MM} {hp : Array Obj} {g sz m : Nat} {c : Cont} (h : BkOk N μ hp g (.cells true sz m c)) : BkOk N μ hp g (.cells false sz m c) := by
 refine ⟨h.1, h.2.1, fun hr => ?_⟩
 obtain ⟨cur, ty, fz, h1, h2, h3, h4⟩ := h.2.2 (.inl (by
  rcases hr with hr | ⟨hr, _⟩
  ·exact hr
  ·cases hr))
 exact ⟨cur, ty, fz, h1, h2, fun h => (by cases h), h4⟩
end
end Go.Sx
namespace Go.Sx
open M
variable {P : Program} {n B K K' : Nat}
abbrev Nm (F : List (Nat × AV)) (H : List (Nat × ABk)) : Po := fun e fr' H' => e = .normal ∧ fr' = frL F ∧ H' = hpL H
abbrev Xm (id : Nat) (F : List (Nat × AV)) (H : List (Nat × ABk)) : Po := fun e fr' H' => e = .exit id ∧ fr' = frL F ∧ H' = hpL H
theorem GoesB.lower {B' : Nat} {c : Code} {fr : Fr} {H : T ABk} {Post : Po} (h : GoesB P c n B' K K' fr H Post) (hB : B ≤ B') : GoesB P c n B K K' fr H Post :=
 fun μ w a hg hf Q hQ => h μ w a hg hf Q fun e fr' H' a' w' hp ha => hQ e fr' H' a' w' hp (by
  obtain ⟨μ', k1, k2, k3, k4⟩ := ha.of
  exact ⟨μ', k1, ⟨k2.names.mono hB, k2.os, k2.tape, k2.output, k2.size, k2.block, k2.may, k2.fz⟩, k3, k4⟩)
theorem GoesB.seqN {K1 : Nat} {x y : Code} {fr : Fr} {H : T ABk} {F1 : List (Nat × AV)} {H1 : List (Nat × ABk)} {Post : Po} (h1 : GoesB P x n B K K1 fr H (Nm F1 H1)) (hK : K1 ≤ K') (h2 : GoesB P y n B K1 K' (frL F1) (hpL H1) Post) : GoesB P (.seq x y) n B K K' fr H Post :=
 GoesB.seq hK (h1.mono fun e fr' H' ⟨e1, e2, e3⟩ => by subst e1 e2 e3; exact h2)
theorem GoesB.blockN {id : Nat} {c : Code} {fr : Fr} {H : T ABk} {F1 : List (Nat × AV)} {H1 : List (Nat × ABk)} (h : GoesB P c n B K K' fr H (Nm F1 H1)) : GoesB P (.block id c) n B K K' fr H (Nm F1 H1) :=
 GoesB.block (h.mono fun e fr' H' ⟨e1, e2, e3⟩ => by subst e1; exact ⟨rfl, e2, e3⟩)
theorem GoesB.toN {c : Code} {fr : Fr} {H : T ABk} {F F' : List (Nat × AV)} {H1 H1' : List (Nat × ABk)} (h : GoesB P c n B K K' fr H (Nm F H1)) (hf : Ge (frL F) F') (hh : GeH (hpL H1) H1') : GoesB P c n B K K' fr H (Nm F' H1') :=
 h.post fun e fr' H' ⟨e1, e2, e3⟩ => by subst e1 e2 e3; exact ⟨F', H1', hf, hh, rfl, rfl, rfl⟩
theorem GoesB.frameN {c : Code} {fr : Fr} {F : List (Nat × AV)} {bl bl' xl : List (Nat × ABk)} (h : GoesB P c n B K K' fr (hpL bl) (Nm F bl')) (hB : B ≤ K') (hx : LowL B xl) (hd : dis bl xl = true) (hd' : dis bl' xl = true) (ho : OwnL B bl bl') : GoesB P c n B K K' fr (hpL (bl ++ xl)) (Nm F (bl' ++ xl)) :=
 h.frameL hB hx hd fun e fr' H0' ⟨e1, e2, e3⟩ => ⟨bl', e3, hd', ho, e1, e2, rfl⟩
theorem GoesB.idleN {c : Code} {fr : Fr} {F : List (Nat × AV)} {xl : List (Nat × ABk)} (h : GoesB P c n B K K' fr (hpL []) (Nm F [])) (hB : B ≤ K') (hx : LowL B xl) : GoesB P c n B K K' fr (hpL xl) (Nm F xl) :=
 h.frameN (bl := []) (bl' := []) hB hx rfl rfl trivial
theorem GoesB.idleX {c : Code} {id : Nat} {fr : Fr} {F : List (Nat × AV)} {xl : List (Nat × ABk)} (h : GoesB P c n B K K' fr (hpL []) (Xm id F [])) (hB : B ≤ K') (hx : LowL B xl) : GoesB P c n B K K' fr (hpL xl) (Xm id F xl) :=
 h.frameL (bl := []) hB hx rfl fun e fr' H0' ⟨e1, e2, e3⟩ => ⟨[], e3, rfl, trivial, e1, e2, rfl⟩
theorem GoesB.seqX {K1 id : Nat} {x y : Code} {fr : Fr} {H : T ABk} {F1 : List (Nat × AV)} {H1 : List (Nat × ABk)} (h1 : GoesB P x n B K K1 fr H (Xm id F1 H1)) (hK : K1 ≤ K') : GoesB P (.seq x y) n B K K' fr H (Xm id F1 H1) :=
 GoesB.seq hK (h1.mono fun e fr' H' ⟨e1, e2, e3⟩ => by subst e1; exact ⟨rfl, e2, e3⟩)
theorem GoesB.rounds {c : Code} {id : Nat} (len : Nat) (F : Nat → List (Nat × AV)) (Hh : Nat → List (Nat × ABk)) {Z : List (Nat × AV)} {ZH : List (Nat × ABk)} (h : ∀ i, i < len → GoesB P c n B K K (frL (F i)) (hpL (Hh i)) (Nm (F (i + 1)) (Hh (i + 1)))) (hz : GoesB P c n B K K (frL (F len)) (hpL (Hh len)) (Xm id Z ZH)) :
  GoesB P (.block id (.loop c)) n B K K (frL (F 0)) (hpL (Hh 0)) (Nm Z ZH) :=
 (GoesB.count len F Hh Z ZH (fun _ => True) (fun _ _ => False) trivial fun i hi _ => by
  by_cases e : i < len
  ·exact (h i e).mono fun e' fr H ⟨e1, e2, e3⟩ => .inl ⟨e1, e, trivial, e2, e3⟩
  ·obtain rfl : i = len := by omega
   exact hz.mono fun e' fr H ⟨e1, e2, e3⟩ => .inr (.inl ⟨e1, trivial, e2, e3⟩)).mono fun e fr H h => by
  rcases h with ⟨e1, _, e2, e3⟩ | ⟨_, h⟩
  ·exact ⟨e1, e2, e3⟩
  ·exact h.elim
theorem GoesX.seqN {X : MM → World → Prop} {K1 : Nat} {x y : Code} {fr : Fr} {H : T ABk} {F1 : List (Nat × AV)} {H1 : List (Nat × ABk)} {Post : Po} (h1 : GoesX P x n B K K1 X fr H (Nm F1 H1)) (hK : K1 ≤ K') (h2 : GoesX P y n B K1 K' X (frL F1) (hpL H1) Post) : GoesX P (.seq x y) n B K K' X fr H Post :=
 GoesX.seq hK (h1.mono fun e fr' H' ⟨e1, e2, e3⟩ => by subst e1 e2 e3; exact h2)
theorem GoesX.blockN {X : MM → World → Prop} {id : Nat} {c : Code} {fr : Fr} {H : T ABk} {F1 : List (Nat × AV)} {H1 : List (Nat × ABk)} (h : GoesX P c n B K K' X fr H (Nm F1 H1)) : GoesX P (.block id c) n B K K' X fr H (Nm F1 H1) :=
 GoesX.block (h.mono fun e fr' H' ⟨e1, e2, e3⟩ => by subst e1; exact ⟨rfl, e2, e3⟩)
theorem GoesX.seqX {X : MM → World → Prop} {K1 id : Nat} {x y : Code} {fr : Fr} {H : T ABk} {F1 : List (Nat × AV)} {H1 : List (Nat × ABk)} (h1 : GoesX P x n B K K1 X fr H (Xm id F1 H1)) (hK : K1 ≤ K') : GoesX P (.seq x y) n B K K' X fr H (Xm id F1 H1) :=
 GoesX.seq hK (h1.mono fun e fr' H' ⟨e1, e2, e3⟩ => by subst e1; exact ⟨rfl, e2, e3⟩)
theorem GoesX.rounds {X : MM → World → Prop} {c : Code} {id : Nat} (len : Nat) (F : Nat → List (Nat × AV)) (Hh : Nat → List (Nat × ABk)) {Z : List (Nat × AV)} {ZH : List (Nat × ABk)} (h : ∀ i, i < len → GoesX P c n B K K X (frL (F i)) (hpL (Hh i)) (Nm (F (i + 1)) (Hh (i + 1)))) (hz : GoesX P c n B K K X (frL (F len)) (hpL (Hh len)) (Xm id Z ZH)) :
  GoesX P (.block id (.loop c)) n B K K X (frL (F 0)) (hpL (Hh 0)) (Nm Z ZH) := by
 refine GoesX.block ((GoesX.loop (fun m fr H => ∃ i, m = len - i ∧ i ≤ len ∧ fr = frL (F i) ∧ H = hpL (Hh i)) (Post := Xm id Z ZH) ?_ _ _ _ ⟨0, rfl, by omega, rfl, rfl⟩).mono fun e fr H ⟨e1, e2, e3⟩ => ?_)
 ·rintro k fr H ⟨i, rfl, hi, rfl, rfl⟩
  by_cases e : i < len
  ·exact (h i e).mono fun e' fr H ⟨e1, e2, e3⟩ => by subst e1; exact ⟨len - (i + 1), by omega, i + 1, rfl, by omega, e2, e3⟩
  ·obtain rfl : i = len := by omega
   exact hz.mono fun e' fr H ⟨e1, e2, e3⟩ => by subst e1; exact ⟨rfl, e2, e3⟩
 ·subst e1; simp only [if_true]; exact ⟨rfl, e2, e3⟩
theorem GoesX.toN {j sz m : Nat} {cj : Cont} {K'' : Nat} {c : Code} {fr : Fr} {H : T ABk} {Post : Po} {F : List (Nat × AV)} {H1 : List (Nat × ABk)} (σ : Nat → Nat) (hj : j < B) (hl : (ABk.cells false sz m cj).lowR B) (h : GoesX P c n B K K' (VX B j sz m cj) fr H Post)
  (hσ : ∀ g, g < B → σ g = g) (hinj : ∀ i j, i < K'' → j < K'' → σ i = σ j → i = j) (k : ∀ e fr' H', Post e fr' H' → e = .normal ∧ RenF K'' σ fr' F ∧ RenG K'' σ H' H1) : GoesX P c n B K K'' (VX B j sz m cj) fr H (Nm F H1) :=
 GoesX.renG hj hl h fun e fr' H' hp => let ⟨e1, h1, h2⟩ := k e fr' H' hp; ⟨σ, F, H1, hσ, h1, h2, hinj, e1, rfl, rfl⟩
end Go.Sx
namespace Go.Sx
open M
structure Told (g : G) (ρ : Nat → Nat) (K0 i : Nat) (b : ABk) : Prop where
 lt : i < K0
 low : b.lowR K0
 of : ∃ b1, g.H.get (ρ i) = some b1 ∧ (∀ N μ hp, BkOk N μ hp (ρ i) b1 → BkOk N μ hp (ρ i) (b.ren ρ)) ∧ (b.owned = true → b1.owned = true) ∧ ∀ μ m, b.real μ m → b1.real μ m
theorem smallCall {P : Program} {f : FuncId} {fn : Func} {c : Code} (hf : P.funcs[f]? = some fn) (hb : fn.body = some c) (hname : (fn.name == "runtime.NumGoroutine") = false) {args argsC : List AV} {g g' : G} {p : Prop} (hcs : g'.cs → g.cs ∧ p) (hnx : g'.nx = g.nx)
  {bl bl' : List (Nat × ABk)} {B0 K0 K' : Nat} (ρ : Nat → Nat) {v : AV} (hA : p → ∀ N μ (cs : List Value), Reps N μ args cs → Reps K0 (μ.via ρ) argsC cs)
  (hsub : p → ∀ i b, (hpL bl).get i = some b → Told g ρ K0 i b) (inj : p → ∀ i j b b', (hpL bl).get i = some b → (hpL bl).get j = some b' → ρ i = ρ j → i = j)
  (h : p → GoesB P c fn.ntmps B0 K0 K' (frameOf argsC 0 .e) (hpL bl) fun e fr' H' => (e = .ret ∨ e = .normal) ∧ ∃ vs gr, resultsA P fr' fn.results.toList ⟨H', K', [], [], True⟩ = .done vs gr ∧ gr.cs ∧ AV.ge (packA vs) v ∧ GeH H' bl') (hv : v.low 0 = true)
  (hg' : p → ∀ i b, g'.H.get i = some b → (g.H.get i = some b ∧ ∀ j bj, (hpL bl).get j = some bj → bj.owned = true → ρ j ≠ i) ∨ ∃ j bj, j < B0 ∧ ρ j = i ∧ (hpL bl').get j = some b ∧ b.bare ∧ (hpL bl).get j = some bj ∧ bj.owned = true ∧ ∀ μ m, b.real μ m → bj.real μ m) :
  CallIs P f args v g g' := by
 refine ⟨fun hc => (hcs hc).1, fun hc μ w cargs hg ha => ?_⟩
 obtain ⟨_, hp⟩ := hcs hc
 have T := fun i b hb => hsub hp i b hb
 have real1 : ∀ {i : Nat} {b : ABk}, b.real (μ.via ρ) i ↔ b.real μ (ρ i) := fun {i b} => ABk.real_eq rfl b
 have hgc : GOk K0 (μ.via ρ) w.heap (hpL bl) := by
  refine ⟨fun i b hb => (T i b hb).lt, fun i b hb => ?_, fun i b j b' hi hj ho hr hr' he => ?_, fun b o q => ⟨(hg.fz b o q).1, fun ⟨j, bj, m1, m2, m3, m4⟩ => by
   obtain ⟨b1, h1, h2, h3, h4⟩ := (T j bj m1).of
   exact (hg.fz b o q).2 ⟨ρ j, b1, h1, h3 m2, h4 _ _ (real1.1 m3), m4⟩⟩⟩
  ·obtain ⟨b1, h1, h2, h3, h4⟩ := (T i b hb).of
   exact (h2 _ _ _ (hg.ok _ _ h1)).unren (T i b hb).low (fun i _ => ⟨rfl, rfl, rfl, rfl, fun _ _ q => q⟩) rfl rfl rfl rfl
  ·obtain ⟨b1, h1, h2, h3, h4⟩ := (T i b hi).of
   obtain ⟨b2, k1, k2, k3, k4⟩ := (T j b' hj).of
   exact inj hp i j b b' hi hj (hg.sep _ _ _ _ h1 k1 (h3 ho) (h4 _ _ (real1.1 hr)) (k4 _ _ (real1.1 hr')) he)
 have may1 : ∀ b, May (μ.via ρ) (hpL bl) b → ∃ j bj b1, (hpL bl).get j = some bj ∧ bj.owned = true ∧ g.H.get (ρ j) = some b1 ∧ b1.owned = true ∧ b1.real μ (ρ j) ∧ μ.blk (ρ j) = b := fun b ⟨j, bj, m1, m2, m3, m4⟩ => by
  obtain ⟨b1, h1, h2, h3, h4⟩ := (T j bj m1).of
  exact ⟨j, bj, b1, m1, m2, h1, h3 m2, h4 _ _ (real1.1 m3), m4⟩
 refine (GoesB.call hf hb hname (V := fun u H' => AV.ge u v ∧ GeH H' bl') ((h hp).mono fun e fr' H' ⟨k1, vs, gr, k2, k3, k4, k5⟩ => ⟨k1, vs, gr, k2, k3, k4, k5⟩) (μ.via ρ) w hgc (hA hp _ _ _ ha)).mono ?_
 rintro cv w' ⟨u, μ', H', ⟨hge, hG⟩, hrep, hgk, hE⟩
 -- what is told behind
 have told : ∀ j b, j < B0 → (hpL bl').get j = some b → b.bare → BkOk g'.nx μ w'.heap (ρ j) b := fun j b hj hb hbare => by
  obtain ⟨b0, e1, e2⟩ := hG.get _ (hpL_get hb)
  exact (e2.ok (hgk.ok j b0 e1)).bare hbare (hE.names.blk j hj).symm (hE.names.cap j hj).symm (hE.names.sz j hj).symm (hE.names.base j hj).symm
 have keep : ∀ i b, g.H.get i = some b → (∀ j bj, (hpL bl).get j = some bj → bj.owned = true → ρ j ≠ i) → b.real μ i → ¬ May (μ.via ρ) (hpL bl) (μ.blk i) := fun i b hb hn hr hm => by
  obtain ⟨j, bj, b1, m1, m2, m3, m4, m5, m6⟩ := may1 _ hm
  exact hn j bj m1 m2 (hg.sep _ _ _ _ m3 hb m4 m5 hr m6)
 have mayG : ∀ b, May μ g'.H b → May μ g.H b := fun b hm => by
  obtain ⟨i, x, m1, m2, m3, m4⟩ := hm
  rcases hg' hp i x m1 with ⟨h1, hn⟩ | ⟨j, bj, h1, h2, h3, h4, h5, h6, h7⟩
  ·exact ⟨i, x, h1, m2, m3, m4⟩
  ·obtain ⟨b1, q1, q2, q3, q4⟩ := (T j bj h5).of
   exact ⟨i, b1, by rw [← h2]; exact q1, q3 h6, q4 _ _ (h7 _ _ m3), m4⟩
 refine ⟨μ, (hge _ _ _ hrep).bare hv, ⟨fun i b hb => ?_, fun i b hb => ?_, fun i b j b' hi hj ho hr hr' he => ?_, fun b o q => ⟨(hgk.fz b o (hE.names.fz b o q)).1, fun hm => (hg.fz b o q).2 (mayG b hm)⟩⟩, ⟨by omega, .refl _ _, hE.os, hE.tape, hE.output, hE.size, fun b hb hn => hE.block b hb fun hm => hn ?_, fun b hb hm => mayG b hm, fun _ _ q => .inl q⟩⟩
 ·rcases hg' hp i b hb with ⟨h1, _⟩ | ⟨j, bj, h1, h2, h3, h4, h5, h6, h7⟩
  ·rw [hnx]; exact hg.lt _ _ h1
  ·obtain ⟨b1, q1, _⟩ := (T j bj h5).of
   rw [hnx, ← h2]; exact hg.lt _ _ q1
 ·rcases hg' hp i b hb with ⟨h1, hn⟩ | ⟨j, bj, h1, h2, h3, h4, h5, h6, h7⟩
  ·exact (hg.ok i b h1).later (.refl _ _) (by omega) (hg.lt _ _ h1) fun hr => hE.block _ ((hg.ok i b h1).lt_size hr) (keep i b h1 hn hr)
  ·rw [← h2]; exact told j b h1 h3 h4
 ·-- apart
  have orig : ∀ i b, g'.H.get i = some b → b.real μ i → ∃ b1, g.H.get i = some b1 ∧ b1.real μ i ∧ (b.owned = true → b1.owned = true) := fun i b hb hr => by
   rcases hg' hp i b hb with ⟨h1, hn⟩ | ⟨j, bj, h1, h2, h3, h4, h5, h6, h7⟩
   ·exact ⟨b, h1, hr, id⟩
   ·obtain ⟨b1, q1, q2, q3, q4⟩ := (T j bj h5).of
    exact ⟨b1, by rw [← h2]; exact q1, q4 _ _ (h7 _ _ hr), fun _ => q3 h6⟩
  obtain ⟨b1, e1, e2, e3⟩ := orig i b hi hr
  obtain ⟨b2, k1, k2, k3⟩ := orig j b' hj hr'
  exact hg.sep i b1 j b2 e1 k1 (e3 ho) e2 k2 he
 ·obtain ⟨j, bj, b1, m1, m2, m3, m4, m5, m6⟩ := may1 _ hm
  exact ⟨ρ j, b1, m3, m4, m5, m6⟩
def nodupB : List Nat → Bool
 | [] => true
 | x :: l => l.all (fun y => !Nat.beq x y) && nodupB l
theorem nodup_of : ∀ {l : List Nat}, nodupB l = true → l.Nodup
 | [], _ => List.nodup_nil
 | x :: l, h => by
  simp only [nodupB, Bool.and_eq_true] at h
  refine List.nodup_cons.2 ⟨fun hx => ?_, nodup_of h.2⟩
  have := List.all_eq_true.1 h.1 x hx
  simp at this
theorem rep_slc0 {N K0 : Nat} {μ : MM} {ρ : Nat → Nat} {s own : Bool} {a : AA} {n i : Nat} {c : Value} (h : Rep N μ (.slc s own a n) c) (h1 : a.i = 0) (h2 : a.o = 0) (hi : i < K0) (e : ρ i = a.g) : Rep K0 (μ.via ρ) (.slc s own ⟨false, i, 0, 0⟩ n) c := by
 simp only [Rep, RepS] at h ⊢
 obtain ⟨h0, A, C, e1, e2, e3, e4, e5⟩ := h
 have ad : (μ.via ρ).addr ⟨false, i, 0, 0⟩ = μ.addr a := by
  simp only [MM.addr, MM.via, e, h1, h2]
  try simp
 refine ⟨hi, A, C, e1, e2, fun hl => by rw [ad]; exact e3 hl, e4, fun ho => ?_⟩
 obtain ⟨_, _, e6⟩ := e5 ho
 refine ⟨trivial, trivial, ?_⟩
 show (A = none ∧ C = 0 ∧ n = 0) ∨ (A = some ⟨μ.blk (ρ i), 0, none⟩ ∧ C = μ.cap (ρ i))
 rw [e]; exact e6
theorem RowOk.ge {N : Nat} {μ : MM} {row row' : List AV} {sz : Nat} {cur : Array Value} {base : Nat} (h : RowOk N μ row sz cur base) (k : RowGe row row') : RowOk N μ row' sz cur base :=
 ⟨k.length.trans h.1, fun o v hv => by
  obtain ⟨u, e1, e2, e3⟩ := k.get hv
  obtain ⟨_, cv, e4, e5⟩ := h.2 o u e1
  exact ⟨e3, cv, e4, e2 _ _ _ e5⟩⟩
theorem AV.ge.hdr {s own : Bool} {a : AA} {n q : Nat} (h1 : a.g = q) (h2 : a.i = 0) (h3 : a.o = 0) : AV.ge (.slc s own a n) (.slc true own ⟨false, q, 0, 0⟩ n) := fun N μ c h => by
 simp only [Rep, RepS] at h ⊢
 obtain ⟨h0, A, C, e1, e2, e3, e4, e5⟩ := h
 have ad : μ.addr ⟨false, q, 0, 0⟩ = μ.addr a := by simp only [MM.addr, h1, h2, h3]
 refine ⟨by rw [← h1]; exact h0, A, C, e1, e2, fun hl => by rw [ad]; exact e3 hl, fun h => (by cases h), fun ho => ?_⟩
 obtain ⟨_, _, e6⟩ := e5 ho
 exact ⟨trivial, trivial, by rw [← h1]; exact e6⟩
theorem CallIs.as {P : Program} {f : FuncId} {args : List AV} {u v : AV} {g g1 g' : G} {p : Prop} (h : CallIs P f args u g g1) (k : Keep g1 g' p) (hv : p → AV.ge u v) : CallIs P f args v g g' := by
 refine ⟨fun hc => h.1 (k.2.2 hc).1, fun hc μ w cargs hg ha => ?_⟩
 obtain ⟨h1, hp⟩ := k.2.2 hc
 refine (h.2 h1 μ w cargs hg ha).mono fun cv w' hA => ?_
 obtain ⟨μ', r1, r2, r3⟩ := hA
 refine ⟨μ', by rw [k.2.1]; exact hv hp _ _ _ r1, by rw [k.1, k.2.1]; exact r2, ?_⟩
 exact ⟨by rw [k.2.1]; exact r3.nx, r3.names, r3.os, r3.tape, r3.output, r3.size, r3.block, fun b hb hm => r3.may b hb (by rw [← k.1]; exact hm), r3.fz⟩
end Go.Sx
namespace Go.Sx
open M
variable {P : Program} {n B K K' : Nat}
theorem AV.ge.raw {x : Nat} (s s' : Bool) (h : cn x = x) : AV.ge (.raw s x) (.flt s' x) := fun N μ c hr => by
 simp only [Rep] at hr ⊢
 obtain ⟨rfl, h2⟩ := hr
 exact ⟨x, rfl, h, h2⟩
theorem CallIs.by {f : FuncId} {args : List AV} {u v : AV} {g g1 g' : G} (h : CallIs P f args u g g1) (e1 : g'.H = g1.H) (e2 : g'.nx = g1.nx) (k : g'.cs → g1.cs ∧ AV.ge u v) (k0 : g'.cs → g.cs) : CallIs P f args v g g' := by
 refine ⟨k0, fun hc μ w cargs hg ha => ?_⟩
 obtain ⟨h1, hp⟩ := k hc
 refine (h.2 h1 μ w cargs hg ha).mono fun cv w' hA => ?_
 obtain ⟨μ', r1, r2, r3⟩ := hA
 refine ⟨μ', by rw [e2]; exact hp _ _ _ r1, by rw [e1, e2]; exact r2, ?_⟩
 exact ⟨by rw [e2]; exact r3.nx, r3.names, r3.os, r3.tape, r3.output, r3.size, r3.block, fun b hb hm => r3.may b hb (by rw [← e1]; exact hm), r3.fz⟩
theorem GoesB.callR {call : Calls'} (hcall : CallOk P call) {region : List Oper → Fr → M Fr} {loops : Loops} {rounds : Nat} {ops : Array Oper} {id id1 id2 : Nat} {l1 l2 : List Oper} {o : Oper} (hops : ops.toList = l1 ++ (o :: l2))
  (hgd : ∀ o ∈ l1, o.guard = none) (hgo : o.guard = none) (hg2 : ∀ o ∈ l2, o.guard = none)
  {cl : Call} (ho : o.op = .call cl) {fop : Operand} (hcal : cl.callee = .value fop) {d : Nat} (hdst : o.dst = some d) (hd : d < n)
  {K1 K2 : Nat} (hKle : K1 ≤ K2) {fr : Fr} {H : T ABk} {fl1 : List (Nat × AV)} {bl1 : List (Nat × ABk)} {path : List Bool}
  (hrun : PieceN K1 .normal fl1 bl1 (codeA P call region loops n rounds (.region id1 l1.toArray false) fr ⟨H, K, [], path, True⟩))
  {f : FuncId} {fn : Func} {body : Code} (hf : P.funcs[f]? = some fn) (hb : fn.body = some body) (hname : (fn.name == "runtime.NumGoroutine") = false)
  {pre cap : List AV} (hfv : evalA (frL fl1) fop = .fn (.func f) pre cap) (hBK : B ≤ K) {V : AV → T ABk → Prop}
  (hcallee : GoesB P body fn.ntmps K1 K1 K2 (frameOf (pre ++ cl.args.toList.map (evalA (frL fl1)) ++ cap) 0 .e) (hpL bl1) fun e fr' H' => (e = .ret ∨ e = .normal) ∧ ∃ vs g', resultsA P fr' fn.results.toList ⟨H', K2, [], [], True⟩ = .done vs g' ∧ g'.cs ∧ ∃ u, AV.ge (packA vs) u ∧ V u H')
  {Post : Po} (hpost : ∀ v H', V v H' → ∃ path2 fl2 bl2, PieceN K' .normal fl2 bl2 (codeA P call region loops n rounds (.region id2 l2.toArray false) ((frL fl1).upd d (some v)) ⟨H', K2, [], path2, True⟩) ∧ Post .normal (frL fl2) (hpL bl2)) :
  GoesB P (.region id ops false) n B K K' fr H Post := by
 intro μ w a hg hf0 Q hQ
 refine wp_region_list ?_
 rw [hops]
 have hr := hrun.of
 generalize hres : codeA P call region loops n rounds (.region id1 l1.toArray false) fr ⟨H, K, [], path, True⟩ = res at hr
 unfold pieceN at hr
 split at hr
 ·rename_i r g
  obtain ⟨hre, hw, hh, hnx, hcs1⟩ := hr
  have hnx := Nat.le_of_ble_eq_true hnx
  unfold codeA at hres
  obtain ⟨fr1, g1, b1, b2⟩ := done_of hres
  obtain ⟨rfl, rfl⟩ := ret_done b2
  have b1' : opsA0 P call n l1 l1 fr ⟨H, K, [], path, True⟩ = .done fr1 g1 := by rw [← opsA_eq]; simpa using b1
  obtain ⟨_, hs⟩ := opsPre hcall (ops := ops) (Q := Q) (l2 := o :: l2) l1 _ _ _ _ hgd b1'
  refine hs hcs1 μ w a hg hf0 fun a1 w1 hk => ?_
  obtain ⟨μ1, k1, k2, k3, k4⟩ := hk
  have sub : ∀ i b, (hpL bl1).get i = some b → g1.H.get i = some b := fun i b hb => hh.get (hpL_get hb)
  have k1' : GOk K1 μ1 w1.heap (hpL bl1) := k1.up hnx sub
  have x1 : ExtB B H μ w (hpL bl1) μ1 w1 := ⟨k2.names.mono hBK, k2.os, k2.tape, k2.output, k2.size, k2.block, fun b hb hm => k2.may b hb (by
   obtain ⟨i, x, m1, m2, m3, m4⟩ := hm
   exact ⟨i, x, sub i x m1, m2, m3, m4⟩), k2.fz⟩
  have k3' : FrOk K1 μ1 (frL fl1) a1.tmps n := ⟨k3.size, fun t v ht => (k3.val t v (hw.get (frL_get ht))).later (.refl _ _) hnx⟩
  have hKK : K ≤ K1 := Nat.le_trans k2.nx hnx
  refine wpList_plain hgo fun KK hKK' => ?_
  -- the call
  have hxv := k3'.eval fop
  rw [hfv] at hxv
  simp only [Rep] at hxv
  obtain ⟨fs, cs, e, h1, h2⟩ := hxv
  have hargs : Reps K1 μ1 (pre ++ cl.args.toList.map (evalA (frL fl1)) ++ cap) ((fs ++ cl.args.map a1.eval) ++ cs).toList := by
   simp only [Array.toList_append]
   exact (h1.append (k3'.evals _)).append h2
  have hcf := GoesB.call hf hb hname (V := fun v H' => ∃ u, AV.ge v u ∧ V u H') hcallee μ1 w1 k1' hargs
  have hrunop : (execOp a1.eval o).run P w1 = (callFunc f ((fs ++ cl.args.map a1.eval) ++ cs)).run P w1 := by
   simp only [execOp, ho, resolve, hcal, e, Deferred.ofValue, Sem.run_bind]
   rfl
  have fin : ∀ c w', (∃ v μ' H', (∃ u, AV.ge v u ∧ V u H') ∧ Rep K2 μ' v c ∧ GOk K2 μ' w'.heap H' ∧ ExtB K1 (hpL bl1) μ1 w1 H' μ' w') → KK (a1.put o.dst c) w' := by
   rintro c w' ⟨v0, μ2, H2, ⟨v, hge, hV⟩, r1, r2, r3⟩
   replace r1 := hge _ _ _ r1
   refine hKK' _ _ ?_
   obtain ⟨path2, fl2, bl2, hp2, hP⟩ := hpost v H2 hV
   have hr2 := hp2.of
   generalize hres2 : codeA P call region loops n rounds (.region id2 l2.toArray false) ((frL fl1).upd d (some v)) ⟨H2, K2, [], path2, True⟩ = res2 at hr2
   unfold pieceN at hr2
   split at hr2
   ·rename_i r' g'
    obtain ⟨hre', hw', hh', hnx', hcs2⟩ := hr2
    have hnx' := Nat.le_of_ble_eq_true hnx'
    unfold codeA at hres2
    obtain ⟨fr3, g3, b3, b4⟩ := done_of hres2
    obtain ⟨rfl, rfl⟩ := ret_done b4
    have b3' : opsA0 P call n l2 l2 ((frL fl1).upd d (some v)) ⟨H2, K2, [], path2, True⟩ = .done fr3 g3 := by rw [← opsA_eq]; simpa using b3
    obtain ⟨_, hs2⟩ := opsPre hcall (ops := ops) (Q := Q) (l2 := []) l2 _ _ _ _ hg2 b3'
    rw [List.append_nil] at hs2
    have f1 : FrOk K2 μ2 ((frL fl1).upd d (some v)) (a1.put o.dst c).tmps n := by
     rw [hdst]
     exact (k3'.later r3.names hKle).upd hd r1
    refine hs2 hcs2 μ2 w' _ r2 f1 fun a3 w3 hk3 => ?_
    obtain ⟨μ3, q1, q2, q3, q4⟩ := hk3
    have sub3 : ∀ i b, (hpL bl2).get i = some b → g3.H.get i = some b := fun i b hb => hh'.get (hpL_get hb)
    refine wpList_nil (hQ .normal _ _ _ _ hP ⟨μ3, q1.up hnx' sub3, ?_, ⟨q3.size, fun t v ht => (q3.val t v (hw'.get (frL_get ht))).later (.refl _ _) hnx'⟩, ?_⟩)
    ·have x2 : ExtB B (hpL bl1) μ1 w1 H2 μ2 w' := ⟨r3.names.mono (Nat.le_trans hBK hKK), r3.os, r3.tape, r3.output, r3.size, r3.block, r3.may, r3.fz⟩
     have x3 : ExtB B H2 μ2 w' (hpL bl2) μ3 w3 := ⟨q2.names.mono (Nat.le_trans hBK (Nat.le_trans hKK hKle)), q2.os, q2.tape, q2.output, q2.size, q2.block, fun b hb hm => q2.may b hb (by
      obtain ⟨i, x, m1, m2, m3, m4⟩ := hm
      exact ⟨i, x, sub3 i x m1, m2, m3, m4⟩), q2.fz⟩
     exact (x1.trans x2).trans x3
    ·rw [q4, Act.put_defers]; exact k4
   ·exact hr2.elim
  unfold Oper.wp
  rw [hrunop]
  rcases hcf with ⟨c, w', e, ha⟩ | ⟨f', args', w', e, hcalls⟩
  ·rw [e]; exact fin c w' ha
  ·rw [e, Oper.upon_enter]
   refine hcalls.mono ?_
   rintro e1 w2 ⟨c, rfl, ha⟩
   exact fin c w2 ha
 ·exact hr.elim
def LtG (g : G) : Prop := ∀ i b, g.H.get i = some b → i < g.nx
theorem smallCallN {f : FuncId} {fn : Func} {c : Code} (hf : P.funcs[f]? = some fn) (hb : fn.body = some c) (hname : (fn.name == "runtime.NumGoroutine") = false) {args argsC : List AV} {g g' : G} {p : Prop} (hcs : g'.cs → g.cs ∧ p)
  {bl bl' : List (Nat × ABk)} {K0 K' : Nat} (ρ κ : Nat → Nat) {nms : List Nat} (hnx : g'.nx = g.nx + nms.length) {v : AV} (S : Nat → Prop)
  (hA : p → ∀ N μ (cs : List Value), Reps N μ args cs → Reps K0 (μ.via ρ) argsC cs)
  (hsub : p → ∀ i b, (hpL bl).get i = some b → Told g ρ K0 i b) (inj : p → ∀ i j b b', (hpL bl).get i = some b → (hpL bl).get j = some b' → ρ i = ρ j → i = j)
  (hnew : ∀ nm ∈ nms, K0 ≤ nm) (hnd : nms.Nodup) (hκ : p → LtG g → ∀ j, j < nms.length → κ (g.nx + j) = nms.getD j 0)
  (hS : p → LtG g → ∀ i, S i → i < g'.nx ∧ (i < g.nx → κ i < K0 ∧ ρ (κ i) = i))
  (h : p → LtG g → GoesB P c fn.ntmps K0 K0 K' (frameOf argsC 0 .e) (hpL bl) fun e fr' H' => (e = .ret ∨ e = .normal) ∧ ∃ vs gr, resultsA P fr' fn.results.toList ⟨H', K', [], [], True⟩ = .done vs gr ∧ gr.cs ∧ AV.ge (packA vs) (v.ren κ) ∧ ∀ q ∈ bl', ∃ b, H'.get (κ q.1) = some b ∧ SameC b (q.2.ren κ))
  (hv : p → LtG g → v.low g'.nx = true) (hvS : p → LtG g → v.inS S)
  (hbl' : p → LtG g → ∀ q ∈ bl', S q.1 ∧ q.2.inS S ∧ q.2.lowR g'.nx ∧ (q.1 < g.nx → ∃ bj, (hpL bl).get (κ q.1) = some bj ∧ bj.owned = true ∧ ∀ μ m, q.2.real μ m → bj.real μ m) ∧ (g.nx ≤ q.1 → q.2.owned = true))
  (hg' : p → LtG g → ∀ i b, g'.H.get i = some b → (g.H.get i = some b ∧ ∀ j bj, (hpL bl).get j = some bj → bj.owned = true → ρ j ≠ i) ∨ (i, b) ∈ bl') :
  CallIs P f args v g g' := by
 refine ⟨fun hc => (hcs hc).1, fun hc μ w cargs hg ha => ?_⟩
 obtain ⟨_, hp⟩ := hcs hc
 have T := fun i b hb => hsub hp i b hb
 have hL : LtG g := fun i b hb => hg.lt i b hb
 have real1 : ∀ {i : Nat} {b : ABk}, b.real (μ.via ρ) i ↔ b.real μ (ρ i) := fun {i b} => ABk.real_eq rfl b
 have hgc : GOk K0 (μ.via ρ) w.heap (hpL bl) := by
  refine ⟨fun i b hb => (T i b hb).lt, fun i b hb => ?_, fun i b j b' hi hj ho hr hr' he => ?_, fun b o q => ⟨(hg.fz b o q).1, fun ⟨j, bj, m1, m2, m3, m4⟩ => by
   obtain ⟨b1, h1, h2, h3, h4⟩ := (T j bj m1).of
   exact (hg.fz b o q).2 ⟨ρ j, b1, h1, h3 m2, h4 _ _ (real1.1 m3), m4⟩⟩⟩
  ·obtain ⟨b1, h1, h2, h3, h4⟩ := (T i b hb).of
   exact (h2 _ _ _ (hg.ok _ _ h1)).unren (T i b hb).low (fun i _ => ⟨rfl, rfl, rfl, rfl, fun _ _ q => q⟩) rfl rfl rfl rfl
  ·obtain ⟨b1, h1, h2, h3, h4⟩ := (T i b hi).of
   obtain ⟨b2, k1, k2, k3, k4⟩ := (T j b' hj).of
   exact inj hp i j b b' hi hj (hg.sep _ _ _ _ h1 k1 (h3 ho) (h4 _ _ (real1.1 hr)) (k4 _ _ (real1.1 hr')) he)
 have may1 : ∀ b, May (μ.via ρ) (hpL bl) b → ∃ j bj b1, (hpL bl).get j = some bj ∧ bj.owned = true ∧ g.H.get (ρ j) = some b1 ∧ b1.owned = true ∧ b1.real μ (ρ j) ∧ μ.blk (ρ j) = b := fun b ⟨j, bj, m1, m2, m3, m4⟩ => by
  obtain ⟨b1, h1, h2, h3, h4⟩ := (T j bj m1).of
  exact ⟨j, bj, b1, m1, m2, h1, h3 m2, h4 _ _ (real1.1 m3), m4⟩
 refine (GoesB.call hf hb hname (V := fun u H' => AV.ge u (v.ren κ) ∧ ∀ q ∈ bl', ∃ b, H'.get (κ q.1) = some b ∧ SameC b (q.2.ren κ)) ((h hp hL).mono fun e fr' H' ⟨k1, vs, gr, k2, k3, k4, k5⟩ => ⟨k1, vs, gr, k2, k3, k4, k5⟩) (μ.via ρ) w hgc (hA hp _ _ _ ha)).mono ?_
 rintro cv w' ⟨u, μ', H', ⟨hge, hG⟩, hrep, hgk, hE⟩
 -- the names behind it
 have at' : ∀ i, S i → AtN (μ'.via κ) (newMM μ μ' g.nx nms) i := fun i hi => by
  obtain ⟨q1, q2⟩ := hS hp hL i hi
  by_cases hlt : i < g.nx
  ·obtain ⟨q3, q4⟩ := q2 hlt
   have hu : MM.upto g.nx μ (newMM μ μ' g.nx nms) := newMM_lt fun b o q => hE.names.fz b o q
   refine ⟨?_, ?_, ?_, ?_, fun _ _ q => q⟩
   ·rw [hu.blk i hlt]; show _ = μ'.blk (κ i); rw [hE.names.blk _ q3]; show _ = μ.blk (ρ (κ i)); rw [q4]
   ·rw [hu.cap i hlt]; show _ = μ'.cap (κ i); rw [hE.names.cap _ q3]; show _ = μ.cap (ρ (κ i)); rw [q4]
   ·rw [hu.sz i hlt]; show _ = μ'.sz (κ i); rw [hE.names.sz _ q3]; show _ = μ.sz (ρ (κ i)); rw [q4]
   ·rw [hu.base i hlt]; show _ = μ'.base (κ i); rw [hE.names.base _ q3]; show _ = μ.base (ρ (κ i)); rw [q4]
  ·obtain ⟨j, rfl⟩ := Nat.exists_eq_add_of_le (Nat.le_of_not_lt hlt)
   have e := hκ hp hL j (by omega)
   have hge : ¬ g.nx + j < g.nx := by omega
   refine ⟨?_, ?_, ?_, ?_, fun _ _ q => q⟩ <;> simp only [newMM, if_neg hge, MM.via, e, show g.nx + j - g.nx = j by omega]
 have atS : ∀ i, S i → i < g'.nx → i < g'.nx ∧ AtN (μ'.via κ) (newMM μ μ' g.nx nms) i := fun i hi hl => ⟨hl, at' i hi⟩
 -- what is told behind
 have told : ∀ i b, (i, b) ∈ bl' → BkOk g'.nx (newMM μ μ' g.nx nms) w'.heap i b ∧ ∃ b0, H'.get (κ i) = some b0 ∧ b0.owned = b.owned ∧ (b.real (newMM μ μ' g.nx nms) i ↔ b0.real μ' (κ i)) ∧ (newMM μ μ' g.nx nms).blk i = μ'.blk (κ i) := fun i b hm => by
  obtain ⟨b0, e1, e2⟩ := hG _ hm
  obtain ⟨s1, s2, s3, s4, s5⟩ := hbl' hp hL _ hm
  have hat := at' i s1
  have r1 : BkOk g'.nx (μ'.via κ) w'.heap i b := (e2.ok (hgk.ok _ _ e1)).unren s3 (fun i _ => ⟨rfl, rfl, rfl, rfl, fun _ _ q => q⟩) rfl rfl rfl rfl
  refine ⟨BkOk.on atS hat s2 (fun _ => rfl) r1, b0, e1, by rw [e2.owned, ABk.ren_owned], ?_, hat.blk⟩
  rw [ABk.real_at hat, e2.real, ABk.ren_real]
  exact ABk.real_eq rfl b
 have hu : MM.upto g.nx μ (newMM μ μ' g.nx nms) := newMM_lt fun b o q => hE.names.fz b o q
 have keep : ∀ i b, g.H.get i = some b → (∀ j bj, (hpL bl).get j = some bj → bj.owned = true → ρ j ≠ i) → b.real μ i → ¬ May (μ.via ρ) (hpL bl) (μ.blk i) := fun i b hb hn hr hm => by
  obtain ⟨j, bj, b1, m1, m2, m3, m4, m5, m6⟩ := may1 _ hm
  exact hn j bj m1 m2 (hg.sep _ _ _ _ m3 hb m4 m5 hr m6)
 refine ⟨newMM μ μ' g.nx nms, ((hge _ _ _ hrep).unren (hv hp hL)).on atS (hvS hp hL), ⟨fun i b hb => ?_, fun i b hb => ?_, fun i b j b' hi hj ho hr hr' he => ?_, fun b o q => ⟨(hgk.fz b o q).1, fun ⟨i, x, m1, m2, m3, m4⟩ => by
  rcases hg' hp hL i x m1 with ⟨h1, hn⟩ | hm
  ·have l1 := hg.lt _ _ h1
   have m3' := (ABk.real_later hu l1 x).1 m3
   have m4' : μ.blk i = b := by rw [← hu.blk i l1]; exact m4
   rcases hE.fz b o q with q1 | q1 | q1
   ·exact (hg.fz b o q1).2 ⟨i, x, h1, m2, m3', m4'⟩
   ·have := (hg.ok i x h1).lt_size m3'
    omega
   ·exact keep i x h1 hn m3' (by rw [m4']; exact q1)
  ·obtain ⟨_, b0, e1, e2, e3, e4⟩ := told i x hm
   exact (hgk.fz b o q).2 ⟨κ i, b0, e1, e2.trans m2, e3.1 m3, by rw [← e4]; exact m4⟩⟩⟩, ⟨by omega, hu, hE.os, hE.tape, hE.output, hE.size, fun b hb hn => hE.block b hb fun hm => hn ?_, fun B hb hm => ?_, fun b o q => (hE.fz b o q).imp id fun q => q.imp id fun hm => let ⟨j, bj, b1, m1, m2, m3, m4, m5, m6⟩ := may1 _ hm; ⟨ρ j, b1, m3, m4, m5, m6⟩⟩⟩
 ·rcases hg' hp hL i b hb with ⟨h1, _⟩ | hm
  ·have := hg.lt _ _ h1; omega
  ·exact (hS hp hL i (hbl' hp hL _ hm).1).1
 ·rcases hg' hp hL i b hb with ⟨h1, hn⟩ | hm
  ·exact (hg.ok i b h1).later hu (by omega) (hg.lt _ _ h1) fun hr => hE.block _ ((hg.ok i b h1).lt_size hr) (keep i b h1 hn hr)
  ·exact (told i b hm).1
 ·-- apart
  have high : ∀ i b, (i, b) ∈ bl' → b.real (newMM μ μ' g.nx nms) i → (newMM μ μ' g.nx nms).blk i < w.heap.size → b.owned = true → May (μ.via ρ) (hpL bl) ((newMM μ μ' g.nx nms).blk i) := fun i b hm hr hlt ho => by
   obtain ⟨_, b0, e1, e2, e3, e4⟩ := told i b hm
   rw [e4] at hlt ⊢
   exact hE.may _ hlt ⟨κ i, b0, e1, e2.trans ho, e3.1 hr, rfl⟩
  have mixed : ∀ i b j b', g.H.get i = some b → (∀ j bj, (hpL bl).get j = some bj → bj.owned = true → ρ j ≠ i) → b.real (newMM μ μ' g.nx nms) i → (j, b') ∈ bl' → b'.real (newMM μ μ' g.nx nms) j → (b'.owned = true ∨ j < g.nx) → (b.owned = true ∨ b'.owned = true) → (newMM μ μ' g.nx nms).blk i = (newMM μ μ' g.nx nms).blk j → False := fun i b j b' h1 hn hr hm hr' hoj hob he => by
   have hlt := hg.lt _ _ h1
   rw [ABk.real_later hu hlt] at hr
   have hsz := (hg.ok _ _ h1).lt_size hr
   rw [hu.blk i hlt] at he
   by_cases hj : j < g.nx
   ·obtain ⟨s1, s2, s3, s4, s5⟩ := hbl' hp hL _ hm
    obtain ⟨bj, q1, q2, q3⟩ := s4 hj
    obtain ⟨_, q4⟩ := hS hp hL j s1
    obtain ⟨_, q5⟩ := q4 hj
    obtain ⟨b1, t1, t2, t3, t4⟩ := (T _ _ q1).of
    rw [q5] at t1
    rw [hu.blk j hj] at he
    rw [ABk.real_later hu hj] at hr'
    exact hn _ _ q1 q2 (q5.trans (hg.sep _ _ _ _ t1 h1 (t3 q2) (t4 μ j (q3 μ j hr')) hr he.symm))
   ·have ho : b'.owned = true := hoj.resolve_right hj
    have := high j b' hm hr' (by rw [← he]; exact hsz) ho
    rw [← he] at this
    exact keep i b h1 hn hr this
  rcases hg' hp hL i b hi with ⟨h1, hn⟩ | hm
  ·rcases hg' hp hL j b' hj with ⟨h2, hn'⟩ | hm'
   ·have l1 := hg.lt _ _ h1
    have l2 := hg.lt _ _ h2
    rw [ABk.real_later hu l1] at hr
    rw [ABk.real_later hu l2] at hr'
    rw [hu.blk i l1, hu.blk j l2] at he
    exact hg.sep _ _ _ _ h1 h2 ho hr hr' he
   ·exact (mixed i b j b' h1 hn hr hm' hr' (by
     by_cases q : j < g.nx
     ·exact .inr q
     ·exact .inl ((hbl' hp hL _ hm').2.2.2.2 (by omega))) (.inl ho) he).elim
  ·rcases hg' hp hL j b' hj with ⟨h2, hn'⟩ | hm'
   ·exact (mixed j b' i b h2 hn' hr' hm hr (.inl ho) (.inr ho) he.symm).elim
   ·obtain ⟨_, b0, e1, e2, e3, e4⟩ := told i b hm
    obtain ⟨_, b1, l1, l2, l3, l4⟩ := told j b' hm'
    have e : κ i = κ j := hgk.sep _ _ _ _ e1 l1 (e2.trans ho) (e3.1 hr) (l3.1 hr') (by rw [← e4, ← l4]; exact he)
    obtain ⟨p1, p2⟩ := hS hp hL i (hbl' hp hL _ hm).1
    obtain ⟨p3, p4⟩ := hS hp hL j (hbl' hp hL _ hm').1
    by_cases c1 : i < g.nx
    ·by_cases c2 : j < g.nx
     ·rw [← (p2 c1).2, ← (p4 c2).2, e]
     ·obtain ⟨y, rfl⟩ := Nat.exists_eq_add_of_le (Nat.le_of_not_lt c2)
      have hy : y < nms.length := by omega
      have k1 := hκ hp hL y hy
      have k2 := hnew (nms.getD y 0) (by rw [List.getD_eq_getElem?_getD, List.getElem?_eq_getElem hy]; exact List.getElem_mem hy)
      have := (p2 c1).1
      omega
    ·obtain ⟨x, rfl⟩ := Nat.exists_eq_add_of_le (Nat.le_of_not_lt c1)
     have hx : x < nms.length := by omega
     have k1 := hκ hp hL x hx
     have k2 := hnew (nms.getD x 0) (by rw [List.getD_eq_getElem?_getD, List.getElem?_eq_getElem hx]; exact List.getElem_mem hx)
     by_cases c2 : j < g.nx
     ·have := (p4 c2).1
      omega
     ·obtain ⟨y, rfl⟩ := Nat.exists_eq_add_of_le (Nat.le_of_not_lt c2)
      have hy : y < nms.length := by omega
      have k3 := hκ hp hL y hy
      have : nms.getD x 0 = nms.getD y 0 := by omega
      rw [List.getD_eq_getElem?_getD, List.getD_eq_getElem?_getD, List.getElem?_eq_getElem hx, List.getElem?_eq_getElem hy] at this
      have := (List.getElem_inj hnd).1 this
      omega
 ·obtain ⟨j, bj, b1, m1, m2, m3, m4, m5, m6⟩ := may1 _ hm
  exact ⟨ρ j, b1, m3, m4, m5, m6⟩
 ·obtain ⟨i, x, m1, m2, m3, m4⟩ := hm
  rcases hg' hp hL i x m1 with ⟨h1, hn⟩ | hmm
  ·have l1 := hg.lt _ _ h1
   exact ⟨i, x, h1, m2, (ABk.real_later hu l1 x).1 m3, by rw [← hu.blk i l1]; exact m4⟩
  ·obtain ⟨_, b0, e1, e2, e3, e4⟩ := told i x hmm
   obtain ⟨j, bj, b1, q1, q2, q3, q4, q5, q6⟩ := may1 _ (hE.may B hb ⟨κ i, b0, e1, e2.trans m2, e3.1 m3, by rw [← e4]; exact m4⟩)
   exact ⟨ρ j, b1, q3, q4, q5, q6⟩
theorem GoesB.phantomB {c : Code} {fr : Fr} {H : T ABk} {Post : Po} (q esz : Nat) (rows : Nat → List AV) {own : Bool} {c0 : Cont} (ht : H.get q = some (.cells own 1 1 c0)) (h0 : c0.row 0 = [.nils]) (hpos : 0 < esz) (hB : B ≤ K)
  (h : GoesB P c n B (K + 1) K' fr ((H.upd K (some (.cells true esz 0 (.fn rows)))).upd q (some (.cells own 1 1 (.fn fun _ => [noSlc K])))) Post) : GoesB P c n B K K' fr H Post := by
 intro μ w a hg hf Q hQ
 have hu := MM.at_upto μ K esz
 have hqK := hg.lt _ _ ht
 have case : ∀ i b, ((H.upd K (some (.cells true esz 0 (.fn rows)))).upd q (some (.cells own 1 1 (.fn fun _ => [noSlc K])))).get i = some b → (i = K ∧ b = .cells true esz 0 (.fn rows)) ∨ ∃ b0, i < K ∧ H.get i = some b0 ∧ b0.owned = b.owned ∧ (∀ μ m, b.real μ m ↔ b0.real μ m) ∧ (b = b0 ∨ (i = q ∧ b = .cells own 1 1 (.fn fun _ => [noSlc K]))) := fun i b hb => by
  rw [T.get_upd] at hb
  split at hb
  ·cases hb; rename_i e; subst e
   exact .inr ⟨_, hqK, ht, rfl, fun μ m => Iff.rfl, .inr ⟨rfl, rfl⟩⟩
  ·rw [T.get_upd] at hb
   split at hb
   ·cases hb; exact .inl ⟨‹_›, rfl⟩
   ·exact .inr ⟨b, hg.lt _ _ hb, hb, rfl, fun μ m => Iff.rfl, .inl rfl⟩
 have unreal : ∀ b, b = ABk.cells true esz 0 (.fn rows) → ¬ b.real (μ.at K esz) K := by
  rintro b rfl hr
  simp [ABk.real, MM.at] at hr
 have may : ∀ b, May (μ.at K esz) ((H.upd K (some (.cells true esz 0 (.fn rows)))).upd q (some (.cells own 1 1 (.fn fun _ => [noSlc K])))) b → May μ H b := by
  rintro b ⟨i, x, m1, m2, m3, m4⟩
  rcases case i x m1 with ⟨rfl, rfl⟩ | ⟨b0, hi, hx, e1, e2, _⟩
  ·exact (unreal _ rfl m3).elim
  ·rw [ABk.real_later hu hi] at m3
   rw [hu.blk i hi] at m4
   exact ⟨i, b0, hx, e1.trans m2, (e2 _ _).1 m3, m4⟩
 have hE : ExtB B H μ w ((H.upd K (some (.cells true esz 0 (.fn rows)))).upd q (some (.cells own 1 1 (.fn fun _ => [noSlc K])))) (μ.at K esz) w := ⟨hu.mono hB, rfl, rfl, rfl, Nat.le_refl _, fun b _ _ => rfl, fun b _ hm => may b hm, fun _ _ q => .inl q⟩
 refine h (μ.at K esz) w a ⟨fun i b hb => ?_, fun i b hb => ?_, fun i b j b' hi hj ho hr hr' he => ?_, fun b o q => ⟨(hg.fz b o q).1, fun hm => (hg.fz b o q).2 (may b hm)⟩⟩ ⟨hf.size, fun t' v hv => (hf.val t' v hv).later hu (by omega)⟩ Q fun e fr' H' a' w' hp ha => hQ e fr' H' a' w' hp (AtB.trans hE rfl ha)
 ·rcases case i b hb with ⟨rfl, _⟩ | ⟨b0, hi, _⟩ <;> omega
 ·rcases case i b hb with ⟨rfl, rfl⟩ | ⟨b0, hi, hx, e1, e2, rfl | ⟨rfl, rfl⟩⟩
  ·refine ⟨by simp [MM.at], hpos, fun hr => ?_⟩
   simp [MM.at] at hr
  ·exact (hg.ok i b hx).later hu (by omega) hi fun _ => rfl
  ·have ok := (hg.ok _ _ ht).later hu (Nat.le_succ K) hqK (fun _ => rfl)
   refine ⟨ok.1, ok.2.1, fun hr => ?_⟩
   obtain ⟨cur, ty, fz, k1, k2, k3, k4⟩ := ok.2.2 hr
   refine ⟨cur, ty, fz, k1, k2, k3, fun j hj => ?_⟩
   obtain rfl : j = 0 := by omega
   have k5 := k4 0 (by omega)
   rw [h0] at k5
   refine ⟨rfl, fun o v hv => ?_⟩
   match o, hv with
   | 0, hv =>
    cases hv
    obtain ⟨_, cv, k6, k7⟩ := k5.2 0 .nils rfl
    refine ⟨rfl, cv, k6, ?_⟩
    simp only [Rep] at k7
    rw [k7]
    simp only [noSlc, Rep]
    exact ⟨by omega, none, 0, rfl, Nat.le_refl _, fun h => absurd h (by omega), fun h => (by cases h), fun _ => ⟨rfl, rfl, .inl ⟨rfl, rfl, rfl⟩⟩⟩
 ·rcases case i b hi with ⟨rfl, rfl⟩ | ⟨b0, hi1, hx, e1, e2, _⟩
  ·exact (unreal _ rfl hr).elim
  ·rcases case j b' hj with ⟨rfl, rfl⟩ | ⟨b1, hj1, hy, e3, e4, _⟩
   ·exact (unreal _ rfl hr').elim
   ·rw [ABk.real_later hu hi1] at hr
    rw [ABk.real_later hu hj1] at hr'
    rw [hu.blk i hi1, hu.blk j hj1] at he
    exact hg.sep _ _ _ _ hx hy (e1.trans ho) ((e2 _ _).1 hr) ((e4 _ _).1 hr') he
def regPre (m : Nat) : Code → Code
 | .region i ops d => .region i (ops.toList.take m).toArray d
 | c => c
def regPost (m : Nat) : Code → Code
 | .region i ops d => .region i (ops.toList.drop m).toArray d
 | c => c
def regOps : Code → List Oper
 | .region _ ops _ => ops.toList
 | _ => []
def regId : Code → Nat
 | .region i _ _ => i
 | _ => 0
end Go.Sx
namespace Go.Sx
open M
variable {P : Program} {n B K K' : Nat}
theorem GoesB.phantomR {c : Code} {fr : Fr} {H : T ABk} {Post : Po} (q esz : Nat) (rows : Nat → List AV) {own : Bool} {c0 : Cont} {sz1 : Nat} (o0 : Nat) (l : List AV) (ht : H.get q = some (.cells own sz1 1 c0)) (h0 : c0.row 0 = l) (hl : l[o0]? = some .nils) (hpos : 0 < esz) (hB : B ≤ K)
  (h : GoesB P c n B (K + 1) K' fr ((H.upd K (some (.cells true esz 0 (.fn rows)))).upd q (some (.cells own sz1 1 (.fn fun _ => l.set o0 (noSlc K))))) Post) : GoesB P c n B K K' fr H Post := by
 intro μ w a hg hf Q hQ
 have hu := MM.at_upto μ K esz
 have hqK := hg.lt _ _ ht
 have case : ∀ i b, ((H.upd K (some (.cells true esz 0 (.fn rows)))).upd q (some (.cells own sz1 1 (.fn fun _ => l.set o0 (noSlc K))))).get i = some b → (i = K ∧ b = .cells true esz 0 (.fn rows)) ∨ ∃ b0, i < K ∧ H.get i = some b0 ∧ b0.owned = b.owned ∧ (∀ μ m, b.real μ m ↔ b0.real μ m) ∧ (b = b0 ∨ (i = q ∧ b = .cells own sz1 1 (.fn fun _ => l.set o0 (noSlc K)))) := fun i b hb => by
  rw [T.get_upd] at hb
  split at hb
  ·cases hb; rename_i e; subst e
   exact .inr ⟨_, hqK, ht, rfl, fun μ m => Iff.rfl, .inr ⟨rfl, rfl⟩⟩
  ·rw [T.get_upd] at hb
   split at hb
   ·cases hb; exact .inl ⟨‹_›, rfl⟩
   ·exact .inr ⟨b, hg.lt _ _ hb, hb, rfl, fun μ m => Iff.rfl, .inl rfl⟩
 have unreal : ∀ b, b = ABk.cells true esz 0 (.fn rows) → ¬ b.real (μ.at K esz) K := by
  rintro b rfl hr
  simp [ABk.real, MM.at] at hr
 have may : ∀ b, May (μ.at K esz) ((H.upd K (some (.cells true esz 0 (.fn rows)))).upd q (some (.cells own sz1 1 (.fn fun _ => l.set o0 (noSlc K))))) b → May μ H b := by
  rintro b ⟨i, x, m1, m2, m3, m4⟩
  rcases case i x m1 with ⟨rfl, rfl⟩ | ⟨b0, hi, hx, e1, e2, _⟩
  ·exact (unreal _ rfl m3).elim
  ·rw [ABk.real_later hu hi] at m3
   rw [hu.blk i hi] at m4
   exact ⟨i, b0, hx, e1.trans m2, (e2 _ _).1 m3, m4⟩
 have hE : ExtB B H μ w ((H.upd K (some (.cells true esz 0 (.fn rows)))).upd q (some (.cells own sz1 1 (.fn fun _ => l.set o0 (noSlc K))))) (μ.at K esz) w := ⟨hu.mono hB, rfl, rfl, rfl, Nat.le_refl _, fun b _ _ => rfl, fun b _ hm => may b hm, fun _ _ q => .inl q⟩
 refine h (μ.at K esz) w a ⟨fun i b hb => ?_, fun i b hb => ?_, fun i b j b' hi hj ho hr hr' he => ?_, fun b o q => ⟨(hg.fz b o q).1, fun hm => (hg.fz b o q).2 (may b hm)⟩⟩ ⟨hf.size, fun t' v hv => (hf.val t' v hv).later hu (by omega)⟩ Q fun e fr' H' a' w' hp ha => hQ e fr' H' a' w' hp (AtB.trans hE rfl ha)
 ·rcases case i b hb with ⟨rfl, _⟩ | ⟨b0, hi, _⟩ <;> omega
 ·rcases case i b hb with ⟨rfl, rfl⟩ | ⟨b0, hi, hx, e1, e2, rfl | ⟨rfl, rfl⟩⟩
  ·refine ⟨by simp [MM.at], hpos, fun hr => ?_⟩
   simp [MM.at] at hr
  ·exact (hg.ok i b hx).later hu (by omega) hi fun _ => rfl
  ·have ok := (hg.ok _ _ ht).later hu (Nat.le_succ K) hqK (fun _ => rfl)
   refine ⟨ok.1, ok.2.1, fun hr => ?_⟩
   obtain ⟨cur, ty, fz, k1, k2, k3, k4⟩ := ok.2.2 hr
   refine ⟨cur, ty, fz, k1, k2, k3, fun j hj => ?_⟩
   obtain rfl : j = 0 := by omega
   have k5 := k4 0 (by omega)
   rw [h0] at k5
   refine ⟨(List.length_set (as := l) (i := o0) (a := noSlc K)).trans k5.1, fun o v hv => ?_⟩
   have hv : (l.set o0 (noSlc K))[o]? = some v := hv
   by_cases q : o = o0
   ·subst q
    have hlt : o < l.length := (List.getElem?_eq_some_iff.1 hl).1
    rw [List.getElem?_set_self hlt] at hv
    cases hv
    obtain ⟨_, cv, k6, k7⟩ := k5.2 o .nils hl
    refine ⟨rfl, cv, k6, ?_⟩
    simp only [Rep] at k7
    rw [k7]
    simp only [noSlc, Rep]
    exact ⟨by omega, none, 0, rfl, Nat.le_refl _, fun h => absurd h (by omega), fun h => (by cases h), fun _ => ⟨rfl, rfl, .inl ⟨rfl, rfl, rfl⟩⟩⟩
   ·rw [List.getElem?_set_ne (by omega)] at hv
    exact k5.2 o v hv
 ·rcases case i b hi with ⟨rfl, rfl⟩ | ⟨b0, hi1, hx, e1, e2, _⟩
  ·exact (unreal _ rfl hr).elim
  ·rcases case j b' hj with ⟨rfl, rfl⟩ | ⟨b1, hj1, hy, e3, e4, _⟩
   ·exact (unreal _ rfl hr').elim
   ·rw [ABk.real_later hu hi1] at hr
    rw [ABk.real_later hu hj1] at hr'
    rw [hu.blk i hi1, hu.blk j hj1] at he
    exact hg.sep _ _ _ _ hx hy (e1.trans ho) ((e2 _ _).1 hr) ((e4 _ _).1 hr') he
theorem GoesB.callRL {call : Calls'} (hcall : CallOk P call) {region : List Oper → Fr → M Fr} {loops : Loops} {rounds : Nat} {ops : Array Oper} {id id1 id2 : Nat} {l1 l2 : List Oper} {o : Oper} (hops : ops.toList = l1 ++ (o :: l2))
  (hgd : ∀ o ∈ l1, o.guard = none) (hgo : o.guard = none) (hg2 : ∀ o ∈ l2, o.guard = none)
  {cl : Call} (ho : o.op = .call cl) {fop : Operand} (hcal : cl.callee = .value fop) {d : Nat} (hdst : o.dst = some d) (hd : d < n)
  {K1 K2 : Nat} (hKle : K1 ≤ K2) {fr : Fr} {H : T ABk} {fl1 : List (Nat × AV)} {bl1 : List (Nat × ABk)} {path : List Bool}
  (hrun : PieceN K1 .normal fl1 bl1 (codeA P call region loops n rounds (.region id1 l1.toArray false) fr ⟨H, K, [], path, True⟩))
  {f : FuncId} {fn : Func} {body : Code} (hf : P.funcs[f]? = some fn) (hb : fn.body = some body) (hname : (fn.name == "runtime.NumGoroutine") = false)
  {pre cap : List AV} (hfv : evalA (frL fl1) fop = .fn (.func f) pre cap) {B0 : Nat} (hB0 : B ≤ B0) (hBK : B0 ≤ K1) (hBB : B ≤ K) {flk : List (Nat × AV)} (hk1 : flk.all (fun p => p.2.low B0) = true) (hk2 : Ge (frL fl1) flk) {V : AV → T ABk → Prop}
  (hcallee : GoesB P body fn.ntmps B0 K1 K2 (frameOf (pre ++ cl.args.toList.map (evalA (frL fl1)) ++ cap) 0 .e) (hpL bl1) fun e fr' H' => (e = .ret ∨ e = .normal) ∧ ∃ vs g', resultsA P fr' fn.results.toList ⟨H', K2, [], [], True⟩ = .done vs g' ∧ g'.cs ∧ ∃ u, AV.ge (packA vs) u ∧ V u H')
  {Post : Po} (hpost : ∀ v H', V v H' → ∃ path2 fl2 bl2, PieceN K' .normal fl2 bl2 (codeA P call region loops n rounds (.region id2 l2.toArray false) ((frL flk).upd d (some v)) ⟨H', K2, [], path2, True⟩) ∧ Post .normal (frL fl2) (hpL bl2)) :
  GoesB P (.region id ops false) n B K K' fr H Post := by
 intro μ w a hg hf0 Q hQ
 refine wp_region_list ?_
 rw [hops]
 have hr := hrun.of
 generalize hres : codeA P call region loops n rounds (.region id1 l1.toArray false) fr ⟨H, K, [], path, True⟩ = res at hr
 unfold pieceN at hr
 split at hr
 ·rename_i r g
  obtain ⟨hre, hw, hh, hnx, hcs1⟩ := hr
  have hnx := Nat.le_of_ble_eq_true hnx
  unfold codeA at hres
  obtain ⟨fr1, g1, b1, b2⟩ := done_of hres
  obtain ⟨rfl, rfl⟩ := ret_done b2
  have b1' : opsA0 P call n l1 l1 fr ⟨H, K, [], path, True⟩ = .done fr1 g1 := by rw [← opsA_eq]; simpa using b1
  obtain ⟨_, hs⟩ := opsPre hcall (ops := ops) (Q := Q) (l2 := o :: l2) l1 _ _ _ _ hgd b1'
  refine hs hcs1 μ w a hg hf0 fun a1 w1 hk => ?_
  obtain ⟨μ1, k1, k2, k3, k4⟩ := hk
  have sub : ∀ i b, (hpL bl1).get i = some b → g1.H.get i = some b := fun i b hb => hh.get (hpL_get hb)
  have k1' : GOk K1 μ1 w1.heap (hpL bl1) := k1.up hnx sub
  have x1 : ExtB B H μ w (hpL bl1) μ1 w1 := ⟨k2.names.mono hBB, k2.os, k2.tape, k2.output, k2.size, k2.block, fun b hb hm => k2.may b hb (by
   obtain ⟨i, x, m1, m2, m3, m4⟩ := hm
   exact ⟨i, x, sub i x m1, m2, m3, m4⟩), k2.fz⟩
  have k3' : FrOk K1 μ1 (frL fl1) a1.tmps n := ⟨k3.size, fun t v ht => (k3.val t v (hw.get (frL_get ht))).later (.refl _ _) hnx⟩
  have hKK : K ≤ K1 := Nat.le_trans k2.nx hnx
  refine wpList_plain hgo fun KK hKK' => ?_
  -- the call
  have hxv := k3'.eval fop
  rw [hfv] at hxv
  simp only [Rep] at hxv
  obtain ⟨fs, cs, e, h1, h2⟩ := hxv
  have hargs : Reps K1 μ1 (pre ++ cl.args.toList.map (evalA (frL fl1)) ++ cap) ((fs ++ cl.args.map a1.eval) ++ cs).toList := by
   simp only [Array.toList_append]
   exact (h1.append (k3'.evals _)).append h2
  have hcf := GoesB.call hf hb hname (V := fun v H' => ∃ u, AV.ge v u ∧ V u H') hcallee μ1 w1 k1' hargs
  have hrunop : (execOp a1.eval o).run P w1 = (callFunc f ((fs ++ cl.args.map a1.eval) ++ cs)).run P w1 := by
   simp only [execOp, ho, resolve, hcal, e, Deferred.ofValue, Sem.run_bind]
   rfl
  have fin : ∀ c w', (∃ v μ' H', (∃ u, AV.ge v u ∧ V u H') ∧ Rep K2 μ' v c ∧ GOk K2 μ' w'.heap H' ∧ ExtB B0 (hpL bl1) μ1 w1 H' μ' w') → KK (a1.put o.dst c) w' := by
   rintro c w' ⟨v0, μ2, H2, ⟨v, hge, hV⟩, r1, r2, r3⟩
   replace r1 := hge _ _ _ r1
   refine hKK' _ _ ?_
   obtain ⟨path2, fl2, bl2, hp2, hP⟩ := hpost v H2 hV
   have hr2 := hp2.of
   generalize hres2 : codeA P call region loops n rounds (.region id2 l2.toArray false) ((frL flk).upd d (some v)) ⟨H2, K2, [], path2, True⟩ = res2 at hr2
   unfold pieceN at hr2
   split at hr2
   ·rename_i r' g'
    obtain ⟨hre', hw', hh', hnx', hcs2⟩ := hr2
    have hnx' := Nat.le_of_ble_eq_true hnx'
    unfold codeA at hres2
    obtain ⟨fr3, g3, b3, b4⟩ := done_of hres2
    obtain ⟨rfl, rfl⟩ := ret_done b4
    have b3' : opsA0 P call n l2 l2 ((frL flk).upd d (some v)) ⟨H2, K2, [], path2, True⟩ = .done fr3 g3 := by rw [← opsA_eq]; simpa using b3
    obtain ⟨_, hs2⟩ := opsPre hcall (ops := ops) (Q := Q) (l2 := []) l2 _ _ _ _ hg2 b3'
    rw [List.append_nil] at hs2
    have f1 : FrOk K2 μ2 ((frL flk).upd d (some v)) (a1.put o.dst c).tmps n := by
     rw [hdst]
     have kk : FrOk K2 μ2 (frL flk) a1.tmps n := ⟨k3'.size, fun t v ht => by
      have hm := frL_get ht
      obtain ⟨u, hu1, hu2⟩ := hk2.get _ hm
      exact ((Rep.ofLow (.refl _ _) (fun _ _ => rfl) (List.all_eq_true.1 hk1 _ hm) (hu2 _ _ _ (k3'.val t u hu1))).later r3.names (Nat.le_refl _)).later (.refl _ _) (Nat.le_trans hBK hKle)⟩
     exact kk.upd hd r1
    refine hs2 hcs2 μ2 w' _ r2 f1 fun a3 w3 hk3 => ?_
    obtain ⟨μ3, q1, q2, q3, q4⟩ := hk3
    have sub3 : ∀ i b, (hpL bl2).get i = some b → g3.H.get i = some b := fun i b hb => hh'.get (hpL_get hb)
    refine wpList_nil (hQ .normal _ _ _ _ hP ⟨μ3, q1.up hnx' sub3, ?_, ⟨q3.size, fun t v ht => (q3.val t v (hw'.get (frL_get ht))).later (.refl _ _) hnx'⟩, ?_⟩)
    ·have x2 : ExtB B (hpL bl1) μ1 w1 H2 μ2 w' := ⟨r3.names.mono hB0, r3.os, r3.tape, r3.output, r3.size, r3.block, r3.may, r3.fz⟩
     have x3 : ExtB B H2 μ2 w' (hpL bl2) μ3 w3 := ⟨q2.names.mono (Nat.le_trans hB0 (Nat.le_trans hBK hKle)), q2.os, q2.tape, q2.output, q2.size, q2.block, fun b hb hm => q2.may b hb (by
      obtain ⟨i, x, m1, m2, m3, m4⟩ := hm
      exact ⟨i, x, sub3 i x m1, m2, m3, m4⟩), q2.fz⟩
     exact (x1.trans x2).trans x3
    ·rw [q4, Act.put_defers]; exact k4
   ·exact hr2.elim
  unfold Oper.wp
  rw [hrunop]
  rcases hcf with ⟨c, w', e, ha⟩ | ⟨f', args', w', e, hcalls⟩
  ·rw [e]; exact fin c w' ha
  ·rw [e, Oper.upon_enter]
   refine hcalls.mono ?_
   rintro e1 w2 ⟨c, rfl, ha⟩
   exact fin c w2 ha
 ·exact hr.elim
theorem GoesB.callL {call : Calls'} (hcall : CallOk P call) {region : List Oper → Fr → M Fr} {loops : Loops} {rounds : Nat} {c : Code} (i : Nat) (hc : c = .region (regId c) (regOps c).toArray false) {o : Oper} (hops : regOps c = (regOps c).take i ++ (o :: (regOps c).drop (i + 1))) (hgd : (regOps c).all (fun o => o.guard.isNone) = true)
  {cl : Call} (ho : o.op = .call cl) {fop : Operand} (hcal : cl.callee = .value fop) {d : Nat} (hdst : o.dst = some d) (hd : d < n)
  {K1 K2 : Nat} (hKle : K1 ≤ K2) {fr : Fr} {H : T ABk} {fl1 : List (Nat × AV)} {bl1 : List (Nat × ABk)} {path : List Bool}
  (hrun : PieceN K1 .normal fl1 bl1 (codeA P call region loops n rounds (regPre i c) fr ⟨H, K, [], path, True⟩))
  {f : FuncId} {fn : Func} {body : Code} (hf : P.funcs[f]? = some fn) (hb : fn.body = some body) (hname : (fn.name == "runtime.NumGoroutine") = false)
  {pre cap : List AV} (hfv : evalA (frL fl1) fop = .fn (.func f) pre cap) {B0 : Nat} (hB0 : B ≤ B0) (hBK : B0 ≤ K1) (hBB : B ≤ K) (flk : List (Nat × AV)) (hk1 : flk.all (fun p => p.2.low B0) = true) (hk2 : Ge (frL fl1) flk) {args : List AV} (hargs : pre ++ cl.args.toList.map (evalA (frL fl1)) ++ cap = args) {V : AV → T ABk → Prop}
  (hcallee : GoesB P body fn.ntmps B0 K1 K2 (frameOf args 0 .e) (hpL bl1) fun e fr' H' => (e = .ret ∨ e = .normal) ∧ ∃ vs g', resultsA P fr' fn.results.toList ⟨H', K2, [], [], True⟩ = .done vs g' ∧ g'.cs ∧ ∃ u, AV.ge (packA vs) u ∧ V u H')
  {Post : Po} (hpost : ∀ v H', V v H' → ∃ path2 fl2 bl2, PieceN K' .normal fl2 bl2 (codeA P call region loops n rounds (regPost (i + 1) c) ((frL flk).upd d (some v)) ⟨H', K2, [], path2, True⟩) ∧ Post .normal (frL fl2) (hpL bl2)) :
  GoesB P c n B K K' fr H Post := by
 have e1 : regPre i c = .region (regId c) ((regOps c).take i).toArray false := by
  rw [hc]; simp only [regPre, regId, regOps]
 have e2 : regPost (i + 1) c = .region (regId c) ((regOps c).drop (i + 1)).toArray false := by
  rw [hc]; simp only [regPost, regId, regOps]
 have gd := List.all_eq_true.1 hgd
 have g : ∀ o ∈ regOps c, o.guard = none := fun o ho => Option.isNone_iff_eq_none.1 (gd o ho)
 rw [e1] at hrun
 subst hargs
 rw [hc]
 refine GoesB.callRL hcall (id1 := regId c) (id2 := regId c) (l1 := (regOps c).take i) (l2 := (regOps c).drop (i + 1)) (o := o) (by simpa using hops) (fun o ho => g o (List.mem_of_mem_take ho)) (g o (by rw [hops]; simp)) (fun o ho => g o (List.mem_of_mem_drop ho)) ho hcal hdst hd hKle hrun hf hb hname hfv hB0 hBK hBB hk1 hk2 hcallee fun v H' hv => ?_
 obtain ⟨p, fl2, bl2, h1, h2⟩ := hpost v H' hv
 rw [e2] at h1
 exact ⟨p, fl2, bl2, h1, h2⟩
def SameM (b b' : ABk) : Prop := SameG b b' ∨ ∃ s s' l, b = .mSI s l ∧ b' = .mSI s' l
theorem SameM.owned {b b' : ABk} (h : SameM b b') : b.owned = b'.owned := by
 rcases h with h | ⟨s, s', l, rfl, rfl⟩
 ·exact h.owned
 ·rfl
theorem SameM.real {b b' : ABk} (h : SameM b b') (μ : MM) (g : Nat) : b.real μ g ↔ b'.real μ g := by
 rcases h with h | ⟨s, s', l, rfl, rfl⟩
 ·exact h.real μ g
 ·exact Iff.rfl
theorem SameM.ok {N : Nat} {μ : MM} {hp : Array Obj} {g : Nat} {b b' : ABk} (h : SameM b b') (k : BkOk N μ hp g b) : BkOk N μ hp g b' := by
 rcases h with h | ⟨s, s', l, rfl, rfl⟩
 ·exact h.ok k
 ·exact k
theorem GoesB.weakM {c : Code} {fr fr0 : Fr} {H H0 : T ABk} {Post : Po} (hf : ∀ t v, fr0.get t = some v → ∃ u, fr.get t = some u ∧ AV.ge u v) (hH : ∀ i b, H0.get i = some b → ∃ b', H.get i = some b' ∧ SameM b' b) (h : GoesB P c n B K K' fr0 H0 Post) : GoesB P c n B K K' fr H Post := by
 intro μ w a hg hfr Q hQ
 refine h μ w a ⟨fun i b hb => let ⟨b', h1, _⟩ := hH i b hb; hg.lt i b' h1, fun i b hb => let ⟨b', h1, h2⟩ := hH i b hb; h2.ok (hg.ok i b' h1), fun i b j b' hi hj ho hr hr' he => ?_, fun b o q => ⟨(hg.fz b o q).1, fun ⟨i, x, m1, m2, m3, m4⟩ => let ⟨b', h1, h2⟩ := hH i x m1; (hg.fz b o q).2 ⟨i, b', h1, by rw [h2.owned]; exact m2, (h2.real μ i).2 m3, m4⟩⟩⟩
  ⟨hfr.size, fun t v ht => let ⟨u, h1, h2⟩ := hf t v ht; h2 _ _ _ (hfr.val t u h1)⟩ Q fun e fr' H' a' w' hp ha => hQ e fr' H' a' w' hp ⟨?_⟩
 ·obtain ⟨b1, h1, h2⟩ := hH i b hi
  obtain ⟨b2, k1, k2⟩ := hH j b' hj
  exact hg.sep i b1 j b2 h1 k1 (by rw [h2.owned]; exact ho) ((h2.real μ i).2 hr) ((k2.real μ j).2 hr') he
 ·obtain ⟨μ', k1, k2, k3, k4⟩ := ha.of
  have may : ∀ b, May μ H0 b → May μ H b := fun b ⟨i, x, m1, m2, m3, m4⟩ => by
   obtain ⟨b', h1, h2⟩ := hH i x m1
   exact ⟨i, b', h1, by rw [h2.owned]; exact m2, (h2.real μ i).2 m3, m4⟩
  exact ⟨μ', k1, ⟨k2.names, k2.os, k2.tape, k2.output, k2.size, fun b hb hn => k2.block b hb fun hm => hn (may b hm), fun b hb hm => may b (k2.may b hb hm), fun b o q => (k2.fz b o q).imp id fun q => q.imp id (may b)⟩, k3, k4⟩
def GeM (H : T ABk) : List (Nat × ABk) → Prop
 | [] => True
 | p :: l => (∃ b, H.get p.1 = some b ∧ SameM b p.2) ∧ GeM H l
theorem GeM.get {H : T ABk} : ∀ {l : List (Nat × ABk)}, GeM H l → ∀ p ∈ l, ∃ b, H.get p.1 = some b ∧ SameM b p.2
 | q :: l, h, p, hp => by
  rcases List.mem_cons.1 hp with rfl | hp
  ·exact h.1
  ·exact GeM.get h.2 p hp
theorem GoesB.weakML {c : Code} {fr : Fr} {H : T ABk} {fl : List (Nat × AV)} {bl : List (Nat × ABk)} {Post : Po} (hf : Ge fr fl) (hH : GeM H bl) (h : GoesB P c n B K K' (frL fl) (hpL bl) Post) : GoesB P c n B K K' fr H Post :=
 h.weakM (fun t v ht => hf.get _ (frL_get ht)) fun i b hb => hH.get _ (hpL_get hb)
structure NewsG (N : Nat) (H' : T ABk) (nms : List Nat) (bs : List ABk) : Prop where
 len : nms.length = bs.length
 at' : ∀ (i : Nat) (b : ABk), bs[i]? = some b → ∃ nm b0, nms[i]? = some nm ∧ H'.get nm = some b0 ∧ SameC b0 (b.ren fun i => nms.getD (i - N) 0) ∧ b.owned = true ∧ b.lowR (N + bs.length) ∧ b.inS (fun i => N ≤ i)
 nodup : nms.Nodup
theorem newsG_ok {g : G} {μ : MM} {w w' : World} (hg : GOk g.nx μ w.heap g.H) {k K' : Nat} {Hc H' : T ABk} {μc μ' : MM} (hno : ∀ B, ¬ May μc Hc B) (hz : ∀ b, μc.fz b = μ.fz b) (hE : ExtB k Hc μc w H' μ' w') (hc : GOk K' μ' w'.heap H') {nms : List Nat} {bs : List ABk} (hn : NewsG g.nx H' nms bs)
  {g' : G} (h1 : g'.H = putNew g.H g.nx bs) (h2 : g'.nx = g.nx + bs.length) :
  GOk g'.nx (newMM μ μ' g.nx nms) w'.heap g'.H ∧ Ext g μ w g' (newMM μ μ' g.nx nms) w' := by
 have old : ∀ B, B < w.heap.size → w'.heap[B]? = w.heap[B]? := fun B hB => hE.block B hB (hno B)
 have lo : MM.upto g.nx μ (newMM μ μ' g.nx nms) := newMM_lt fun b o q => hE.names.fz b o (by rw [hz]; exact q)
 have case : ∀ i b, g'.H.get i = some b → (i < g.nx ∧ g.H.get i = some b) ∨ ∃ j nm b0, i = g.nx + j ∧ bs[j]? = some b ∧ nms[j]? = some nm ∧ H'.get nm = some b0 ∧ SameC b0 (b.ren fun i => nms.getD (i - g.nx) 0) ∧ b.owned = true ∧ b.lowR (g.nx + bs.length) ∧ b.inS (fun i => g.nx ≤ i) := fun i b hb => by
  rw [h1, putNew_get] at hb
  split at hb
  ·rename_i hi
   obtain ⟨nm, b0, k1, k2, k3, k4, k5, k6⟩ := hn.at' _ _ hb
   exact .inr ⟨i - g.nx, nm, b0, by omega, hb, k1, k2, k3, k4, k5, k6⟩
  ·exact .inl ⟨hg.lt _ _ hb, hb⟩
 have nmv : ∀ j nm, nms[j]? = some nm → nms.getD (g.nx + j - g.nx) 0 = nm := fun j nm h => by
  rw [show g.nx + j - g.nx = j by omega, List.getD_eq_getElem?_getD, h]; rfl
 have eqs : ∀ j nm, nms[j]? = some nm → (newMM μ μ' g.nx nms).blk (g.nx + j) = μ'.blk nm ∧ (newMM μ μ' g.nx nms).cap (g.nx + j) = μ'.cap nm ∧ (newMM μ μ' g.nx nms).sz (g.nx + j) = μ'.sz nm ∧ (newMM μ μ' g.nx nms).base (g.nx + j) = μ'.base nm := fun j nm h => by
  have hge : ¬ g.nx + j < g.nx := by omega
  refine ⟨?_, ?_, ?_, ?_⟩ <;> simp only [newMM, if_neg hge, nmv j nm h]
 have high : ∀ (j nm : Nat) (b0 b : ABk), nms[j]? = some nm → H'.get nm = some b0 → SameC b0 (b.ren fun i => nms.getD (i - g.nx) 0) → b.owned = true → b.real (newMM μ μ' g.nx nms) (g.nx + j) → w.heap.size ≤ (newMM μ μ' g.nx nms).blk (g.nx + j) := fun j nm b0 b e1 e2 e3 e4 e5 => by
  obtain ⟨q1, q2, q3, q4⟩ := eqs j nm e1
  rw [q1]
  refine Nat.le_of_not_lt fun hlt => hno _ (hE.may _ hlt ⟨nm, b0, e2, by rw [e3.owned, ABk.ren_owned]; exact e4, (e3.real _ _).2 ((ABk.ren_real _ _ _ _).2 ((ABk.real_eq q2 b).1 e5)), rfl⟩)
 constructor
 ·refine ⟨fun i b hb => ?_, fun i b hb => ?_, fun i b j b' hi hj ho hr hr' he => ?_, fun b o q => ⟨(hc.fz b o q).1, fun ⟨i, bk, m1, m2, m3, m4⟩ => ?_⟩⟩
  ·rw [h2]
   rcases case i b hb with ⟨h, _⟩ | ⟨j, nm, b0, rfl, h, _⟩
   ·omega
   ·have := (List.getElem?_eq_some_iff.1 h).1; omega
  ·rcases case i b hb with ⟨h, hb'⟩ | ⟨j, nm, b0, rfl, e1, e2, e3, e4, e5, e6, e7⟩
   ·have ok := hg.ok _ _ hb'
    exact ok.later lo (by omega) h fun hr => old _ (ok.lt_size hr)
   ·obtain ⟨q1, q2, q3, q4⟩ := eqs j nm e2
    have r1 : BkOk g'.nx (μ'.via fun i => nms.getD (i - g.nx) 0) w'.heap (g.nx + j) b := by
     refine BkOk.unren (σ := fun i => nms.getD (i - g.nx) 0) (μ := μ') (g' := nm) (e4.ok (hc.ok _ _ e3)) (by rw [h2]; exact e6) (fun i _ => ⟨rfl, rfl, rfl, rfl, fun _ _ q => q⟩) ?_ ?_ ?_ ?_ <;> simp only [MM.via, nmv j nm e2]
    refine BkOk.on (S := fun i => g.nx ≤ i) (fun i hi hl => ⟨hl, ?_⟩) ?_ e7 (fun _ => rfl) r1
    ·have hge : ¬ i < g.nx := by omega
     refine ⟨?_, ?_, ?_, ?_, fun _ _ q => q⟩ <;> simp only [newMM, if_neg hge, MM.via]
    ·have hge : ¬ g.nx + j < g.nx := by omega
     refine ⟨?_, ?_, ?_, ?_, fun _ _ q => q⟩ <;> simp only [newMM, if_neg hge, MM.via]
  ·rcases case i b hi with ⟨hlt, hb1⟩ | ⟨i1, nm, b0, rfl, e1, e2, e3, e4, e5, e6, e7⟩
   ·rw [ABk.real_later lo hlt] at hr
    rw [lo.blk i hlt] at he
    rcases case j b' hj with ⟨hlt', hb2⟩ | ⟨j1, nm', b0', rfl, e1', e2', e3', e4', e5', e6', e7'⟩
    ·rw [ABk.real_later lo hlt'] at hr'
     rw [lo.blk j hlt'] at he
     exact hg.sep _ _ _ _ hb1 hb2 ho hr hr' he
    ·have := high j1 nm' b0' b' e2' e3' e4' e5' hr'
     have := (hg.ok _ _ hb1).lt_size hr
     omega
   ·rcases case j b' hj with ⟨hlt', hb2⟩ | ⟨j1, nm', b0', rfl, e1', e2', e3', e4', e5', e6', e7'⟩
    ·rw [ABk.real_later lo hlt'] at hr'
     rw [lo.blk j hlt'] at he
     have := high i1 nm b0 b e2 e3 e4 e5 hr
     have := (hg.ok _ _ hb2).lt_size hr'
     omega
    ·obtain ⟨q1, q2, _⟩ := eqs i1 nm e2
     obtain ⟨q1', q2', _⟩ := eqs j1 nm' e2'
     have e : nm = nm' := hc.sep _ _ _ _ e3 e3' (by rw [e4.owned, ABk.ren_owned]; exact e5) ((e4.real _ _).2 ((ABk.ren_real _ _ _ _).2 ((ABk.real_eq q2 b).1 hr))) ((e4'.real _ _).2 ((ABk.ren_real _ _ _ _).2 ((ABk.real_eq q2' b').1 hr'))) (by rw [← q1, ← q1']; exact he)
     subst e
     have hi1 := (List.getElem?_eq_some_iff.1 e2).1
     have : i1 = j1 := (List.getElem?_inj hi1 hn.nodup).1 (e2.trans e2'.symm)
     rw [this]
  ·rcases case i bk m1 with ⟨hlt, hb1⟩ | ⟨j, nm, b0, rfl, e1, e2, e3, e4, e5, e6, e7⟩
   ·rw [ABk.real_later lo hlt] at m3
    rw [lo.blk i hlt] at m4
    rcases hE.fz b o q with q1 | q1 | q1
    ·rw [hz] at q1; exact (hg.fz b o q1).2 ⟨i, bk, hb1, m2, m3, m4⟩
    ·have := (hg.ok _ _ hb1).lt_size m3
     omega
    ·exact hno b q1
   ·obtain ⟨q1, q2, q3, q4⟩ := eqs j nm e2
    exact (hc.fz b o q).2 ⟨nm, b0, e3, by rw [e4.owned, ABk.ren_owned]; exact e5, (e4.real _ _).2 ((ABk.ren_real _ _ _ _).2 ((ABk.real_eq q2 bk).1 m3)), by rw [← q1]; exact m4⟩
 ·refine ⟨by omega, lo, hE.os, hE.tape, hE.output, hE.size, fun B hB _ => old B hB, fun B hB hm => ?_, fun b o q => (hE.fz b o q).elim (fun q => .inl (by rw [← hz]; exact q)) fun q => .inr (q.elim .inl fun q => absurd q (hno b))⟩
  obtain ⟨i, b, m1, m2, m3, m4⟩ := hm
  rcases case i b m1 with ⟨hlt, hb1⟩ | ⟨j, nm, b0, rfl, e1, e2, e3, e4, e5, e6, e7⟩
  ·rw [ABk.real_later lo hlt] at m3
   rw [lo.blk i hlt] at m4
   exact ⟨i, b, hb1, m2, m3, m4⟩
  ·have := high j nm b0 b e2 e3 e4 e5 m3
   omega
theorem readsG {f : FuncId} {fn : Func} {c : Code} (hf : P.funcs[f]? = some fn) (hb : fn.body = some c) (hname : (fn.name == "runtime.NumGoroutine") = false) {K' : Nat} {args argsC : List AV} {g g1 g' : G} {p : Prop} (kp : Keep g g1 p)
  (l : List Vw) (hl : p → ∀ v ∈ l, v.Ok g) (hargs : p → ∀ N μ (cs : List Value), Reps N μ args cs → Reps l.length (vwMM μ l) argsC cs)
  {nms : List Nat} {bs : List ABk} {v : AV}
  (h : p → GoesB P c fn.ntmps l.length l.length K' (frameOf argsC 0 .e) (hpL (vwL l 0)) fun e fr' H' => (e = .ret ∨ e = .normal) ∧ ∃ vs gr, resultsA P fr' fn.results.toList ⟨H', K', [], [], True⟩ = .done vs gr ∧ gr.cs ∧ AV.ge (packA vs) (v.ren (fun i => nms.getD (i - g.nx) 0)) ∧ NewsG g.nx H' nms bs)
  (hv : v.low (g.nx + bs.length) = true) (hS : v.inS fun i => g.nx ≤ i) (h1 : g'.H = putNew g.H g.nx bs) (h2 : g'.nx = g.nx + bs.length) (h3 : g'.cs → g1.cs) : CallIs P f args v g g' := by
 refine ⟨fun hc => (kp.2.2 (h3 hc)).1, fun hcs μ w cargs hg ha => ?_⟩
 have hp := (kp.2.2 (h3 hcs)).2
 refine (GoesB.call hf hb hname (V := fun u H' => AV.ge u (v.ren (fun i => nms.getD (i - g.nx) 0)) ∧ NewsG g.nx H' nms bs) ((h hp).mono fun e fr' H' ⟨k1, vs, gr, k2, k3, k4, k5⟩ => ⟨k1, vs, gr, k2, k3, k4, k5⟩) (vwMM μ l) w (vw_gok (hl hp) hg) (hargs hp _ _ _ ha)).mono ?_
 rintro cv w' ⟨u, μ', H', ⟨hge, hN⟩, hrep, hgk, hE⟩
 obtain ⟨q1, q2⟩ := newsG_ok (μc := vwMM μ l) hg (fun B => vw_may) (fun _ => rfl) hE hgk hN h1 h2
 refine ⟨newMM μ μ' g.nx nms, ?_, q1, q2⟩
 rw [h2]
 exact news_rep (hge _ _ _ hrep) hv hS
end Go.Sx
namespace Go.Sx
open M
def Ex.ends : Ex → Bool
 | .exit _ => false
 | _ => true
end Go.Sx
namespace Go.Sx
open M
def AA.eqb (a b : AA) : Bool := Nat.beq a.g b.g && Nat.beq a.i b.i && Nat.beq a.o b.o
theorem AA.eqb_of {a b : AA} (h : AA.eqb a b = true) : a.g = b.g ∧ a.i = b.i ∧ a.o = b.o := by
 simp only [AA.eqb, Bool.and_eq_true] at h
 exact ⟨Nat.eq_of_beq_eq_true h.1.1, Nat.eq_of_beq_eq_true h.1.2, Nat.eq_of_beq_eq_true h.2⟩
theorem AA.eqb_addr {a b : AA} (h : AA.eqb a b = true) (μ : MM) : μ.addr a = μ.addr b := by
 obtain ⟨h1, h2, h3⟩ := AA.eqb_of h
 simp [MM.addr, h1, h2, h3]
def beqB (a b : Bool) : Bool := bif a then b else !b
theorem beqB_of {a b : Bool} (h : beqB a b = true) : a = b := by cases a <;> cases b <;> first | rfl | cases h
def AV.eqb : AV → AV → Bool
 | .bool a, .bool b => beqB a b
 | .int _ k n, .int _ k' n' => decide (k = k') && decide (n = n')
 | .flt _ x, .flt _ y => Nat.beq x y
 | .raw _ x, .raw _ y => Nat.beq x y
 | .str _ l, .str _ l' => decide (l = l')
 | .ptr a, .ptr b => AA.eqb a b
 | .slc s own a len, .slc s' own' a' len' => beqB s s' && beqB own own' && AA.eqb a a' && Nat.beq len len'
 | .mp g, .mp g' => Nat.beq g g'
 | .nilp, .nilp => true
 | .nils, .nils => true
 | .nilm, .nilm => true
 | .cpx _ x y, .cpx _ x' y' => Nat.beq x x' && Nat.beq y y'
 | _, _ => false
theorem AV.eqb_of {a b : AV} (h : AV.eqb a b = true) : a.one = b.one ∧ ∀ N μ c, Rep N μ a c ↔ Rep N μ b c := by
 unfold AV.eqb at h
 split at h
 ·exact ⟨rfl, fun N μ c => by rw [beqB_of h]⟩
 ·simp only [Bool.and_eq_true, decide_eq_true_eq] at h
  exact ⟨rfl, fun N μ c => by simp only [Rep, h.1, h.2]⟩
 ·exact ⟨rfl, fun N μ c => by simp only [Rep, Nat.eq_of_beq_eq_true h]⟩
 ·exact ⟨rfl, fun N μ c => by simp only [Rep, Nat.eq_of_beq_eq_true h]⟩
 ·simp only [decide_eq_true_eq] at h
  exact ⟨rfl, fun N μ c => by simp only [Rep, h]⟩
 ·exact ⟨rfl, fun N μ c => by simp only [Rep, AA.eqb_addr h, (AA.eqb_of h).1]⟩
 ·simp only [Bool.and_eq_true] at h
  obtain ⟨h1, h2, h3⟩ := AA.eqb_of h.1.2
  refine ⟨rfl, fun N μ c => ?_⟩
  simp only [Rep, RepS, beqB_of h.1.1.1, beqB_of h.1.1.2, Nat.eq_of_beq_eq_true h.2, h1, h2, h3, AA.eqb_addr h.1.2]
 ·exact ⟨rfl, fun N μ c => by simp only [Rep, Nat.eq_of_beq_eq_true h]⟩
 ·exact ⟨rfl, fun N μ c => Iff.rfl⟩
 ·exact ⟨rfl, fun N μ c => Iff.rfl⟩
 ·exact ⟨rfl, fun N μ c => Iff.rfl⟩
 ·simp only [Bool.and_eq_true] at h
  exact ⟨rfl, fun N μ c => by simp only [Rep, Nat.eq_of_beq_eq_true h.1, Nat.eq_of_beq_eq_true h.2]⟩
 ·cases h
def eqbs : List AV → List AV → Bool
 | [], [] => true
 | a :: l, b :: l' => AV.eqb a b && eqbs l l'
 | _, _ => false
theorem eqbs_of : ∀ {l l' : List AV}, eqbs l l' = true → l.length = l'.length ∧ ∀ (o : Nat) (v : AV), l'[o]? = some v → ∃ u, l[o]? = some u ∧ AV.eqb u v = true
 | [], [], _ => ⟨rfl, fun o v h => by simp at h⟩
 | [], _ :: _, h => by cases h
 | _ :: _, [], h => by cases h
 | a :: l, b :: l', h => by
  simp only [eqbs, Bool.and_eq_true] at h
  obtain ⟨h1, h2⟩ := eqbs_of h.2
  refine ⟨by simp [h1], fun o v hv => ?_⟩
  cases o with
  | zero => simp at hv; subst hv; exact ⟨a, rfl, h.1⟩
  | succ o => simpa using h2 o v (by simpa using hv)
theorem eqbs_of' : ∀ {l l' : List AV}, eqbs l l' = true → ∀ (o : Nat) (u : AV), l[o]? = some u → ∃ v, l'[o]? = some v ∧ AV.eqb u v = true
 | [], [], _ => fun o v h => by simp at h
 | [], _ :: _, h => by cases h
 | _ :: _, [], h => by cases h
 | a :: l, b :: l', h => by
  simp only [eqbs, Bool.and_eq_true] at h
  intro o u hu
  cases o with
  | zero => simp at hu; subst hu; exact ⟨b, rfl, h.1⟩
  | succ o => simpa using eqbs_of' h.2 o u (by simpa using hu)
def rowsEq (r r' : Nat → List AV) : Nat → Bool
 | 0 => true
 | n + 1 => rowsEq r r' n && eqbs (r n) (r' n)
theorem rowsEq_of {r r' : Nat → List AV} : ∀ {n : Nat}, rowsEq r r' n = true → ∀ i, i < n → eqbs (r i) (r' i) = true
 | 0, _, i, hi => absurd hi (by omega)
 | n + 1, h, i, hi => by
  simp only [rowsEq, Bool.and_eq_true] at h
  rcases Nat.lt_or_ge i n with k | k
  ·exact rowsEq_of h.1 i k
  ·rw [show i = n by omega]; exact h.2
def ABk.eqb : ABk → ABk → Bool
 | .cells own sz n c, .cells own' sz' n' c' => beqB own own' && Nat.beq sz sz' && Nat.beq n n' && rowsEq c.row c'.row n
 | .mSI _ l, .mSI _ l' => decide (l = l')
 | .mII _ l, .mII _ l' => decide (l = l')
 | _, _ => false
theorem RowOk.eqb {N : Nat} {μ : MM} {r r' : List AV} {sz : Nat} {cur : Array Value} {base : Nat} (h : eqbs r r' = true) : RowOk N μ r sz cur base ↔ RowOk N μ r' sz cur base := by
 obtain ⟨h1, h2⟩ := eqbs_of h
 have h3 := eqbs_of' h
 constructor
 ·rintro ⟨k1, k2⟩
  refine ⟨by omega, fun o v hv => ?_⟩
  obtain ⟨u, hu, he⟩ := h2 o v hv
  obtain ⟨e1, e2⟩ := AV.eqb_of he
  obtain ⟨q0, c, q1, q2⟩ := k2 o u hu
  exact ⟨by rw [← e1]; exact q0, c, q1, (e2 _ _ _).1 q2⟩
 ·rintro ⟨k1, k2⟩
  refine ⟨by omega, fun o u hu => ?_⟩
  obtain ⟨v, hv, he⟩ := h3 o u hu
  obtain ⟨e1, e2⟩ := AV.eqb_of he
  obtain ⟨q0, c, q1, q2⟩ := k2 o v hv
  exact ⟨by rw [e1]; exact q0, c, q1, (e2 _ _ _).2 q2⟩
theorem ABk.eqb_of {b b' : ABk} (h : ABk.eqb b b' = true) : b.owned = b'.owned ∧ (∀ μ i, b.real μ i ↔ b'.real μ i) ∧ ∀ N μ hp i, BkOk N μ hp i b ↔ BkOk N μ hp i b' := by
 unfold ABk.eqb at h
 split at h
 ·simp only [Bool.and_eq_true] at h
  obtain ⟨⟨⟨h1, h2⟩, h3⟩, h4⟩ := h
  obtain rfl := beqB_of h1
  obtain rfl := Nat.eq_of_beq_eq_true h2
  obtain rfl := Nat.eq_of_beq_eq_true h3
  refine ⟨rfl, fun μ i => Iff.rfl, fun N μ hp i => ?_⟩
  have h5 := rowsEq_of h4
  simp only [BkOk]
  constructor
  ·rintro ⟨k1, k2, k3⟩
   refine ⟨k1, k2, fun hr => ?_⟩
   obtain ⟨cur, ty, fz, q1, q2, q3, q4⟩ := k3 hr
   exact ⟨cur, ty, fz, q1, q2, q3, fun j hj => (RowOk.eqb (h5 j hj)).1 (q4 j hj)⟩
  ·rintro ⟨k1, k2, k3⟩
   refine ⟨k1, k2, fun hr => ?_⟩
   obtain ⟨cur, ty, fz, q1, q2, q3, q4⟩ := k3 hr
   exact ⟨cur, ty, fz, q1, q2, q3, fun j hj => (RowOk.eqb (h5 j hj)).2 (q4 j hj)⟩
 ·simp only [decide_eq_true_eq] at h
  subst h
  exact ⟨rfl, fun μ i => Iff.rfl, fun N μ hp i => Iff.rfl⟩
 ·simp only [decide_eq_true_eq] at h
  subst h
  exact ⟨rfl, fun μ i => Iff.rfl, fun N μ hp i => Iff.rfl⟩
 ·cases h
def bears (H : T ABk) : List (Nat × ABk) → Bool
 | [] => true
 | p :: l => (match H.get p.1 with | some b => ABk.eqb b p.2 | none => false) && bears H l
theorem bears_of {H : T ABk} : ∀ {l : List (Nat × ABk)}, bears H l = true → ∀ p ∈ l, ∃ b, H.get p.1 = some b ∧ ABk.eqb b p.2 = true
 | [], _, p, hp => by cases hp
 | q :: l, h, p, hp => by
  simp only [bears, Bool.and_eq_true] at h
  rcases List.mem_cons.1 hp with rfl | hp
  ·have h1 := h.1
   split at h1
   ·rename_i b hb; exact ⟨b, hb, h1⟩
   ·cases h1
  ·exact bears_of h.2 p hp
def MM.froz (μ μ' : MM) : MM := ⟨μ.blk, μ.cap, μ.sz, μ.base, μ'.fz⟩
theorem MM.froz_up {μ μ' : MM} (hf : ∀ b o, μ.fz b = some o → μ'.fz b = some o) (N : Nat) : MM.upto N μ (μ.froz μ') := ⟨fun _ _ => rfl, fun _ _ => rfl, fun _ _ => rfl, fun _ _ => rfl, hf⟩
theorem MM.froz_of {N : Nat} {μ μ' : MM} (h : MM.upto N μ μ') : MM.upto N μ' (μ.froz μ') :=
 ⟨fun g hg => (h.blk g hg).symm, fun g hg => (h.cap g hg).symm, fun g hg => (h.sz g hg).symm, fun g hg => (h.base g hg).symm, fun _ _ q => q⟩
theorem ABk.froz_real {μ μ' : MM} {g : Nat} (b : ABk) : b.real (μ.froz μ') g ↔ b.real μ g := by cases b <;> exact Iff.rfl
theorem CallIs.frame {P : Program} {f : FuncId} {args args' : List AV} {v : AV} {bl : List (Nat × ABk)} {K : Nat} {path : List Bool} {g0 g : G} (h : CallIs P f args v ⟨hpL bl, K, [], path, True⟩ g0) (hcs : g0.cs) (hv : v.low 0 = true)
  (hlow : ∀ p ∈ bl, p.1 < K ∧ p.2.lowR K) (haft : bears g0.H bl = true) (hK : K ≤ g.nx) (hsub : bears g.H bl = true) (hA : ∀ μ cs, Reps g.nx μ args' cs → Reps K μ args cs) : CallIs P f args' v g g := by
 refine ⟨id, fun _ μ w cargs hg ha => ?_⟩
 have S : ∀ i b, (hpL bl).get i = some b → i < K ∧ b.lowR K ∧ ∃ b1, g.H.get i = some b1 ∧ ABk.eqb b1 b = true := fun i b hb => by
  have hm := hpL_get hb
  exact ⟨(hlow _ hm).1, (hlow _ hm).2, bears_of hsub _ hm⟩
 have hg0 : GOk K μ w.heap (hpL bl) := by
  refine ⟨fun i b hb => (S i b hb).1, fun i b hb => ?_, fun i b j b' hi hj ho hr hr' he => ?_, fun x o q => ⟨(hg.fz x o q).1, fun ⟨j, b, m1, m2, m3, m4⟩ => by
   obtain ⟨_, _, b1, h3, h4⟩ := S j b m1
   obtain ⟨q1, q2, _⟩ := ABk.eqb_of h4
   exact (hg.fz x o q).2 ⟨j, b1, h3, q1.trans m2, (q2 _ _).2 m3, m4⟩⟩⟩
  ·obtain ⟨h1, h2, b1, h3, h4⟩ := S i b hb
   exact (((ABk.eqb_of h4).2.2 _ _ _ _).1 (hg.ok _ _ h3)).lowB h2 (.refl _ _) h1 (Nat.le_refl _) fun _ => rfl
  ·obtain ⟨_, _, b1, h3, h4⟩ := S i b hi
   obtain ⟨_, _, b2, k3, k4⟩ := S j b' hj
   obtain ⟨q1, q2, _⟩ := ABk.eqb_of h4
   obtain ⟨r1, r2, _⟩ := ABk.eqb_of k4
   exact hg.sep i b1 j b2 h3 k3 (q1.trans ho) ((q2 _ _).2 hr) ((r2 _ _).2 hr') he
 have may1 : ∀ B, May μ (hpL bl) B → ∃ j b b1, (hpL bl).get j = some b ∧ g.H.get j = some b1 ∧ b1.owned = true ∧ b1.real μ j ∧ μ.blk j = B := fun B ⟨j, b, m1, m2, m3, m4⟩ => by
  obtain ⟨_, _, b1, h3, h4⟩ := S j b m1
  obtain ⟨q1, q2, _⟩ := ABk.eqb_of h4
  exact ⟨j, b, b1, m1, h3, q1.trans m2, (q2 _ _).2 m3, m4⟩
 have key : ∀ c w', After ⟨hpL bl, K, [], path, True⟩ μ w g0 v c w' → After g μ w g v c w' := by
  rintro c w' ⟨μ', hr, hg', hE⟩
  have up2 := MM.froz_up hE.names.fz
  refine ⟨μ.froz μ', hr.bare hv, ⟨hg.lt, fun i b1 hb1 => ?_, fun i b j b' hi hj ho hr hr' he => hg.sep i b j b' hi hj ho ((ABk.froz_real b).1 hr) ((ABk.froz_real b').1 hr') he, fun x o q => ⟨(hg'.fz x o q).1, fun ⟨i, b1, m1, m2, m3, m4⟩ => ?_⟩⟩, ?_⟩
  ·cases hbl : (hpL bl).get i with
   | none =>
    refine (hg.ok i b1 hb1).later (up2 _) (Nat.le_refl _) (hg.lt _ _ hb1) fun hre => hE.block _ ((hg.ok i b1 hb1).lt_size hre) fun hm => ?_
    obtain ⟨j, b, b2, m1, m2, m3, m4, m5⟩ := may1 _ hm
    have := hg.sep j b2 i b1 m2 hb1 m3 m4 hre m5
    subst this
    rw [hbl] at m1; cases m1
   | some b =>
    obtain ⟨h1, h2, b2, h3, h4⟩ := S i b hbl
    rw [hb1] at h3
    cases h3
    obtain ⟨b3, k3, k4⟩ := bears_of haft _ (hpL_get hbl)
    have q := ((ABk.eqb_of k4).2.2 _ _ _ _).1 (hg'.ok _ _ k3)
    exact ((ABk.eqb_of h4).2.2 _ _ _ _).2 (q.lowB h2 (MM.froz_of hE.names) h1 hK fun _ => by rw [hE.names.blk i h1])
  ·have m3' := (ABk.froz_real b1).1 m3
   have m4' : μ.blk i = x := m4
   rcases hE.fz x o q with q1 | q1 | q1
   ·exact (hg.fz x o q1).2 ⟨i, b1, m1, m2, m3', m4'⟩
   ·have := (hg.ok i b1 m1).lt_size m3'
    omega
   ·obtain ⟨j, b, b2, n1, n2, n3, n4, n5⟩ := may1 _ q1
    have e := hg.sep j b2 i b1 n2 m1 n3 n4 m3' (n5.trans m4'.symm)
    subst e
    obtain ⟨h1, h2, b5, h3, h4⟩ := S j b n1
    rw [n2] at h3
    cases h3
    obtain ⟨b3, k3, k4⟩ := bears_of haft _ (hpL_get n1)
    obtain ⟨p1, p2, _⟩ := ABk.eqb_of h4
    obtain ⟨r1, r2, _⟩ := ABk.eqb_of k4
    refine (hg'.fz x o q).2 ⟨j, b3, k3, r1.trans (p1.symm.trans n3), (r2 _ _).2 ?_, by rw [hE.names.blk j h1]; exact n5⟩
    exact (ABk.real_eq (hE.names.cap j h1) b).2 ((p2 _ _).1 n4)
  ·exact ⟨Nat.le_refl _, up2 _, hE.os, hE.tape, hE.output, hE.size, fun B hB hn => hE.block B hB fun hm => hn (by obtain ⟨j, b, b1, m1, m2, m3, m4, m5⟩ := may1 B hm; exact ⟨j, b1, m2, m3, m4, m5⟩), fun B hB hm => by
    obtain ⟨j, b, m1, m2, m3, m4⟩ := hm
    exact ⟨j, b, m1, m2, (ABk.froz_real b).1 m3, m4⟩, fun x o q => (hE.fz x o q).imp id fun q => q.imp id fun hm => by obtain ⟨j, b, b1, m1, m2, m3, m4, m5⟩ := may1 x hm; exact ⟨j, b1, m2, m3, m4, m5⟩⟩
 rcases h.2 hcs μ w cargs hg0 (hA _ _ ha) with ⟨c, w', e, r⟩ | ⟨f', a', w', e, r⟩
 ·exact .inl ⟨c, w', e, key _ _ r⟩
 ·exact .inr ⟨f', a', w', e, r.mono fun e w'' ⟨c, q, r⟩ => ⟨c, q, key _ _ r⟩⟩
theorem CallIs.rep {P : Program} {f : FuncId} {args : List AV} {v v' : AV} {g g' : G} (h : CallIs P f args v g g') (hv : ∀ N μ c, Rep N μ v c → Rep N μ v' c) : CallIs P f args v' g g' := by
 refine ⟨h.1, fun hc μ w cargs hg ha => ?_⟩
 rcases h.2 hc μ w cargs hg ha with ⟨c, w', e, μ', h1, h2, h3⟩ | ⟨f', a', w', e, r⟩
 ·exact .inl ⟨c, w', e, μ', hv _ _ _ h1, h2, h3⟩
 ·exact .inr ⟨f', a', w', e, r.mono fun e w'' ⟨c, q, μ', h1, h2, h3⟩ => ⟨c, q, μ', hv _ _ _ h1, h2, h3⟩⟩
def allB : List (Bool × Bool) → Bool
 | [] => true
 | p :: l => beqB p.1 p.2 && allB l
theorem Reps.eqbs {N : Nat} {μ : MM} : ∀ {l l' : List AV} {cs : List Value}, Sx.eqbs l l' = true → Reps N μ l cs → Reps N μ l' cs
 | [], [], cs, _, h => h
 | [], _ :: _, _, h, _ => by cases h
 | _ :: _, [], _, h, _ => by cases h
 | a :: l, b :: l', cs, h, hr => by
  simp only [Sx.eqbs, Bool.and_eq_true] at h
  simp only [Reps] at hr ⊢
  obtain ⟨c, r, e, h1, h2⟩ := hr
  exact ⟨c, r, e, ((AV.eqb_of h.1).2 _ _ _).1 h1, Reps.eqbs h.2 h2⟩
end Go.Sx
namespace Go.Sx
open M
variable {P : Program} {n B K K' : Nat}
def LessR (b0 b : ABk) : Prop := SameC b0 b ∨ ∃ own sz m m' c c', b0 = .cells own sz m c ∧ b = .cells own sz m' c' ∧ own = true ∧ m' ≤ m ∧ ∀ i, i < m' → c.row i = c'.row i
theorem LessR.owned {b0 b : ABk} (h : LessR b0 b) : b0.owned = b.owned := by
 rcases h with h | ⟨own, sz, m, m', c, c', rfl, rfl, _⟩
 ·exact h.owned
 ·rfl
theorem LessR.real' {b0 b : ABk} (h : LessR b0 b) {μ : MM} {g : Nat} (hr : b.real μ g) : b0.real μ g := by
 rcases h with h | ⟨own, sz, m, m', c, c', rfl, rfl, ho, hm, _⟩
 ·exact (h.real μ g).2 hr
 ·simp only [ABk.real] at hr ⊢
  rcases hr with hr | hr
  ·exact .inl (by omega)
  ·exact .inr hr
theorem LessR.ok {b0 b : ABk} (h : LessR b0 b) {N : Nat} {μ : MM} {hp : Array Obj} {g : Nat} (k : BkOk N μ hp g b0) : BkOk N μ hp g b := by
 rcases h with h | ⟨own, sz, m, m', c, c', rfl, rfl, ho, hm, hr⟩
 ·exact h.ok k
 ·refine ⟨k.1, k.2.1, fun hre => ?_⟩
  obtain ⟨cur, ty, fz, h1, h2, h3, h4⟩ := k.2.2 (by rcases hre with hre | hre; exact .inl (by omega); exact .inr hre)
  refine ⟨cur, ty, fz, h1, Nat.le_trans (Nat.add_le_add_left (Nat.mul_le_mul_right _ hm) _) h2, h3, fun i hi => ?_⟩
  rw [← hr i hi]
  exact h4 i (by omega)
def LessH (H : T ABk) : List (Nat × ABk) → Prop
 | [] => True
 | p :: l => (∃ b0, H.get p.1 = some b0 ∧ LessR b0 p.2) ∧ LessH H l
theorem LessH.get {H : T ABk} : ∀ {l : List (Nat × ABk)}, LessH H l → ∀ p ∈ l, ∃ b0, H.get p.1 = some b0 ∧ LessR b0 p.2
 | q :: l, h, p, hp => by
  rcases List.mem_cons.1 hp with rfl | hp
  ·exact h.1
  ·exact LessH.get h.2 p hp
theorem GoesB.less {c : Code} {fr : Fr} {H : T ABk} {Post Post' : Po} (h : GoesB P c n B K K' fr H Post) (k : ∀ e fr' H', Post e fr' H' → ∃ bl, LessH H' bl ∧ Post' e fr' (hpL bl)) : GoesB P c n B K K' fr H Post' :=
 fun μ w a hg hf Q hQ => h μ w a hg hf Q fun e fr' H' a' w' hp ha => by
  obtain ⟨bl, h1, h2⟩ := k _ _ _ hp
  obtain ⟨μ', k1, k2, k3, k4⟩ := ha.of
  have G : ∀ i b, (hpL bl).get i = some b → ∃ b0, H'.get i = some b0 ∧ LessR b0 b := fun i b hb => h1.get _ (hpL_get hb)
  have mayT : ∀ b, May μ' (hpL bl) b → May μ' H' b := fun b hm => by
   obtain ⟨i, x, m1, m2, m3, m4⟩ := hm
   obtain ⟨b0, q1, q2⟩ := G i x m1
   exact ⟨i, b0, q1, q2.owned.trans m2, q2.real' m3, m4⟩
  refine hQ e fr' _ a' w' h2 ⟨μ', ⟨fun i b hb => ?_, fun i b hb => ?_, fun i b j b' hi hj ho hr hr' he => ?_, fun b o q => ⟨(k1.fz b o q).1, fun hm => (k1.fz b o q).2 (mayT b hm)⟩⟩, ⟨k2.names, k2.os, k2.tape, k2.output, k2.size, k2.block, fun b hb hm => k2.may b hb (mayT b hm), k2.fz⟩, k3, k4⟩
  ·obtain ⟨b0, q1, q2⟩ := G i b hb
   exact k1.lt _ _ q1
  ·obtain ⟨b0, q1, q2⟩ := G i b hb
   exact q2.ok (k1.ok _ _ q1)
  ·obtain ⟨b0, q1, q2⟩ := G i b hi
   obtain ⟨b1, r1, r2⟩ := G j b' hj
   exact k1.sep _ _ _ _ q1 r1 (q2.owned.trans ho) (q2.real' hr) (r2.real' hr') he
end Go.Sx
namespace Go.Sx
open M
section
variable {P : Program} {n B K K' : Nat}
def FzV (q len : Nat) (f : Nat → List UInt8) (u v : AV) : Prop := AV.ge u v ∨ ∃ s o a, u = .slc s o a len ∧ a.g = q ∧ a.i = 0 ∧ a.o = 0 ∧ v = .txs len f
def FzRow (q len : Nat) (f : Nat → List UInt8) : List AV → List AV → Prop
 | [], [] => True
 | u :: l, v :: l' => FzV q len f u v ∧ v.one = true ∧ FzRow q len f l l'
 | _, _ => False
theorem FzRow.length {q len : Nat} {f : Nat → List UInt8} : ∀ {r r' : List AV}, FzRow q len f r r' → r'.length = r.length
 | [], [], _ => rfl
 | u :: l, v :: l', h => by simp [FzRow.length h.2.2]
 | [], _ :: _, h => h.elim
 | _ :: _, [], h => h.elim
theorem FzRow.get {q len : Nat} {f : Nat → List UInt8} : ∀ {r r' : List AV}, FzRow q len f r r' → ∀ {o : Nat} {v : AV}, r'[o]? = some v → ∃ u, r[o]? = some u ∧ FzV q len f u v ∧ v.one = true
 | [], [], _, o, v, hv => by simp at hv
 | u :: l, v :: l', h, 0, x, hv => by simp at hv; subst hv; exact ⟨u, rfl, h.1, h.2.1⟩
 | u :: l, v :: l', h, o + 1, x, hv => by simpa using FzRow.get h.2.2 (by simpa using hv)
 | [], _ :: _, h, _, _, _ => h.elim
 | _ :: _, [], h, _, _, _ => h.elim
theorem FzRow.refl {q len : Nat} {f : Nat → List UInt8} : ∀ (l : List AV), l.all AV.one = true → FzRow q len f l l
 | [], _ => trivial
 | v :: l, h => by
  simp only [List.all_cons, Bool.and_eq_true] at h
  exact ⟨.inl (AV.ge.refl _), h.1, FzRow.refl l h.2⟩
def FzBk (q len : Nat) (f : Nat → List UInt8) : ABk → ABk → Prop
 | .cells own sz m c, .cells own' sz' m' c' => own = own' ∧ sz = sz' ∧ m = m' ∧ ∀ i, i < m → FzRow q len f (c.row i) (c'.row i)
 | b, b' => b = b'
theorem FzBk.owned {q len : Nat} {f : Nat → List UInt8} {b b' : ABk} (h : FzBk q len f b b') : b.owned = b'.owned := by
 cases b <;> cases b' <;> simp_all [FzBk, ABk.owned]
theorem FzBk.real {q len : Nat} {f : Nat → List UInt8} {b b' : ABk} (h : FzBk q len f b b') (μ : MM) (g : Nat) : b.real μ g ↔ b'.real μ g := by
 cases b <;> cases b' <;> simp_all [FzBk, ABk.real]
def FzF (q len : Nat) (f : Nat → List UInt8) (fr : Fr) : List (Nat × AV) → Prop
 | [] => True
 | p :: l => (∃ u, fr.get p.1 = some u ∧ FzV q len f u p.2) ∧ FzF q len f fr l
theorem FzF.get {q len : Nat} {f : Nat → List UInt8} {fr : Fr} : ∀ {l : List (Nat × AV)}, FzF q len f fr l → ∀ p ∈ l, ∃ u, fr.get p.1 = some u ∧ FzV q len f u p.2
 | x :: l, h, p, hp => by
  rcases List.mem_cons.1 hp with rfl | hp
  ·exact h.1
  ·exact FzF.get h.2 p hp
def FzH (q len : Nat) (f : Nat → List UInt8) (H : T ABk) : List (Nat × ABk) → Prop
 | [] => True
 | p :: l => (p.1 ≠ q ∧ ∃ b, H.get p.1 = some b ∧ FzBk q len f b p.2) ∧ FzH q len f H l
theorem FzH.get {q len : Nat} {f : Nat → List UInt8} {H : T ABk} : ∀ {l : List (Nat × ABk)}, FzH q len f H l → ∀ p ∈ l, p.1 ≠ q ∧ ∃ b, H.get p.1 = some b ∧ FzBk q len f b p.2
 | x :: l, h, p, hp => by
  rcases List.mem_cons.1 hp with rfl | hp
  ·exact h.1
  ·exact FzH.get h.2 p hp
def MM.freeze (μ : MM) (b : Nat) (o : Obj) : MM := ⟨μ.blk, μ.cap, μ.sz, μ.base, fun x => if x = b then some o else μ.fz x⟩
theorem MM.freeze_real {μ : MM} {x : Nat} {o : Obj} {g : Nat} (b : ABk) : b.real (μ.freeze x o) g ↔ b.real μ g := by cases b <;> exact Iff.rfl
theorem AtB.freeze {H H' : T ABk} {μ : MM} {w w' : World} {fr' : Fr} {a a' : Act} {q len : Nat} {cq : Cont} {f : Nat → List UInt8} {fl : List (Nat × AV)} {bl : List (Nat × ABk)} (hlen : 0 < len) (hq : H'.get q = some (.cells true 1 len cq)) (hrow : ∀ i, i < len → ∃ s, cq.row i = [.str s (f i)])
  (hF : FzF q len f fr' fl) (hH : FzH q len f H' bl) (h : AtB n B K' H μ w H' fr' a a' w') : AtB n B K' H μ w (hpL bl) (frL fl) a a' w' := by
 obtain ⟨μ', k1, k2, k3, k4⟩ := h.of
 obtain ⟨hsz, _, hcur⟩ := k1.ok q _ hq
 obtain ⟨cur, ty, z, hB, hfit, hown, hrows⟩ := hcur (.inl hlen)
 obtain ⟨_, hcap, hbase⟩ := hown rfl
 have hqr : (ABk.cells true 1 len cq).real μ' q := .inl hlen
 have hmq : May μ' H' (μ'.blk q) := ⟨q, _, hq, rfl, hqr, rfl⟩
 have hno : μ'.fz (μ'.blk q) = none := by
  cases e : μ'.fz (μ'.blk q) with
  | none => rfl
  | some o => exact absurd hmq (k1.fz _ _ e).2
 have hK0 : 0 < K' := by have := k1.lt q _ hq; omega
 have up : ∀ N, MM.upto N μ' (μ'.freeze (μ'.blk q) (.cells cur ty z)) := fun N => ⟨fun _ _ => rfl, fun _ _ => rfl, fun _ _ => rfl, fun _ _ => rfl, fun b o e => by
  show (if b = μ'.blk q then some _ else μ'.fz b) = some o
  by_cases c : b = μ'.blk q
  ·rw [c, hno] at e; cases e
  ·rw [if_neg c]; exact e⟩
 have hfz : (μ'.freeze (μ'.blk q) (.cells cur ty z)).fz (μ'.blk q) = some (.cells cur ty z) := if_pos rfl
 have htx : ∀ i, i < len → cur[i]? = some (.string ⟨(f i).toArray⟩) := fun i hi => by
  obtain ⟨s, e⟩ := hrow i hi
  obtain ⟨c, h1, h2⟩ := ((hrows i hi).2 0 (.str s (f i)) (by rw [e]; rfl)).2
  simp only [Rep] at h2
  rw [hbase, Nat.zero_add, Nat.mul_one, Nat.add_zero] at h1
  rw [h1, h2]
 have val : ∀ {u v : AV} {c : Value}, FzV q len f u v → Rep K' μ' u c → Rep K' (μ'.freeze (μ'.blk q) (.cells cur ty z)) v c := fun {u v c} h r => by
  rcases h with h | ⟨s, o, a, rfl, e1, e2, e3, rfl⟩
  ·exact (h _ _ _ r).later (up _) (Nat.le_refl _)
  ·simp only [Rep, RepS] at r ⊢
   obtain ⟨_, A, C, rfl, hl, hA, _⟩ := r
   refine ⟨hK0, μ'.blk q, C, cur, ty, z, ?_, hl, hfz, htx⟩
   rw [hA hlen]
   simp only [MM.addr, e1, e2, e3, hbase, Nat.zero_mul, Nat.add_zero]
 have G := fun i b (hb : (hpL bl).get i = some b) => hH.get _ (hpL_get hb)
 have mayT : ∀ b, May (μ'.freeze (μ'.blk q) (.cells cur ty z)) (hpL bl) b → May μ' H' b ∧ b ≠ μ'.blk q := fun b hm => by
  obtain ⟨i, x, m1, m2, m3, m4⟩ := hm
  obtain ⟨hne, b0, h1, h2⟩ := G i x m1
  have r0 : b0.real μ' i := (h2.real _ _).2 ((MM.freeze_real x).1 m3)
  have m4' : μ'.blk i = b := m4
  exact ⟨⟨i, b0, h1, h2.owned.trans m2, r0, m4'⟩, fun e => hne (k1.sep q _ i b0 hq h1 rfl hqr r0 (by rw [m4', e])).symm⟩
 refine ⟨μ'.freeze (μ'.blk q) (.cells cur ty z), ⟨fun i b hb => ?_, fun i b hb => ?_, fun i b j b' hi hj ho hr hr' he => ?_, fun b o e => ?_⟩, ⟨k2.names.trans (up B) (Nat.le_refl _), k2.os, k2.tape, k2.output, k2.size, k2.block, fun b hb hm => k2.may b hb (mayT b hm).1, fun b o e => ?_⟩, ⟨k3.size, fun t v ht => ?_⟩, k4⟩
 ·obtain ⟨_, b0, h1, h2⟩ := G i b hb
  exact k1.lt i b0 h1
 ·obtain ⟨_, b0, h1, h2⟩ := G i b hb
  have r := (k1.ok i b0 h1)
  cases b with
  | cells own sz m c =>
   cases b0 with
   | cells own' sz' m' c' =>
    obtain ⟨rfl, rfl, rfl, hr⟩ := h2
    refine ⟨r.1, r.2.1, fun hh => ?_⟩
    obtain ⟨cu, t, z', p1, p2, p3, p4⟩ := r.2.2 hh
    refine ⟨cu, t, z', p1, p2, p3, fun i hi => ⟨(hr i hi).length.trans (p4 i hi).1, fun o v hv => ?_⟩⟩
    obtain ⟨u, e1, e2, e3⟩ := (hr i hi).get hv
    obtain ⟨_, cv, e4, e5⟩ := (p4 i hi).2 o u e1
    exact ⟨e3, cv, e4, val e2 e5⟩
   | _ => simp [FzBk] at h2
  | _ => cases b0 <;> simp [FzBk] at h2 <;> first | exact h2 ▸ r | (obtain ⟨rfl, rfl⟩ := h2; exact r) | (obtain ⟨rfl, rfl, rfl⟩ := h2; exact r)
 ·obtain ⟨_, b1, h1, h2⟩ := G i b hi
  obtain ⟨_, b2, l1, l2⟩ := G j b' hj
  exact k1.sep i b1 j b2 h1 l1 (h2.owned.trans ho) ((h2.real _ _).2 ((MM.freeze_real b).1 hr)) ((l2.real _ _).2 ((MM.freeze_real b').1 hr')) he
 ·have e' : (if b = μ'.blk q then some _ else μ'.fz b) = some o := e
  by_cases c : b = μ'.blk q
  ·rw [if_pos c] at e'
   cases e'
   exact ⟨by rw [c]; exact hB, fun hm => (mayT b hm).2 c⟩
  ·rw [if_neg c] at e'
   exact ⟨(k1.fz b o e').1, fun hm => (k1.fz b o e').2 (mayT b hm).1⟩
 ·have e' : (if b = μ'.blk q then some _ else μ'.fz b) = some o := e
  by_cases c : b = μ'.blk q
  ·by_cases hlt : b < w.heap.size
   ·exact .inr (.inr (k2.may b hlt (by rw [c]; exact hmq)))
   ·exact .inr (.inl (by omega))
  ·rw [if_neg c] at e'
   exact k2.fz b o e'
 ·obtain ⟨u, h1, h2⟩ := hF.get _ (frL_get ht)
  exact val h2 (k3.val t u h1)
theorem GoesB.freeze {c : Code} {fr : Fr} {H : T ABk} {Post Post' : Po} (h : GoesB P c n B K K' fr H Post)
  (k : ∀ e fr' H', Post e fr' H' → ∃ q len cq f fl bl, 0 < len ∧ H'.get q = some (.cells true 1 len cq) ∧ (∀ i, i < len → ∃ s, cq.row i = [.str s (f i)]) ∧ FzF q len f fr' fl ∧ FzH q len f H' bl ∧ Post' e (frL fl) (hpL bl)) : GoesB P c n B K K' fr H Post' :=
 fun μ w a hg hf Q hQ => h μ w a hg hf Q fun e fr' H' a' w' hp ha => by
  obtain ⟨q, len, cq, f, fl, bl, h1, h2, h3, h4, h5, h6⟩ := k _ _ _ hp
  exact hQ e _ _ a' w' h6 (ha.freeze h1 h2 h3 h4 h5)
end
end Go.Sx
