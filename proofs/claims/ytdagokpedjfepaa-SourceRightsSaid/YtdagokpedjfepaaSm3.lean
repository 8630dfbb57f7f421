/- THE ENGINE, part 3: an interpreter of the program's code over abstract values, and its proof. -/
import Derived.Test.YtdagokpedjfepaaSm2
noncomputable section
set_option linter.unusedSimpArgs false
set_option linter.unusedVariables false
namespace Go.Sx
open M
structure Keeps (w w' : World) (b m : Nat) : Prop where
 other : ∀ B, B < w.heap.size → B ≠ b → w'.heap[B]? = w.heap[B]?
 low : ∀ cur ty fz, w.heap[b]? = some (.cells cur ty fz) → ∃ cur', w'.heap[b]? = some (.cells cur' ty fz) ∧ cur'.size = cur.size ∧ ∀ o, o < m → cur'[o]? = cur[o]?
theorem Keeps.refl (w : World) (b m : Nat) : Keeps w w b m := ⟨fun _ _ _ => rfl, fun cur ty fz h => ⟨cur, h, rfl, fun _ _ => rfl⟩⟩
theorem Keeps.alloc (w : World) (o : Obj) (b m : Nat) : Keeps w (w.drew.alloc o) b m := by
 have e : ∀ B, B < w.heap.size → (w.drew.alloc o).heap[B]? = w.heap[B]? := fun B hB => by
  show (w.heap.push o)[B]? = _
  rw [Array.getElem?_push_lt hB, Array.getElem?_eq_getElem hB]
 exact ⟨fun B hB _ => e B hB, fun cur ty fz h => ⟨cur, by rw [e b ((Array.getElem?_eq_some_iff.1 h).1)]; exact h, rfl, fun _ _ => rfl⟩⟩
theorem YM {P : Program} {t u ty : TypeId} {s own : Bool} {a : AA} {len : Nat} {y v : AV} {g g' : G} (h : nD P t u (.slc s own a len) y g = .done v g') :
  ∃ sz bn c, g.H.get a.g = some (.cells true sz bn c) ∧ (g'.cs → ∀ μ w cx cy, eX g.nx μ w.heap g.H → Rep g.nx μ (.slc s own a len) cx → Rep g.nx μ y cy → ∀ c' w', (Builtin.append_ #[t, u] ty #[cx, cy]).run P w = .ok c' w' → Keeps w w' (μ.blk a.g) (len * sz)) := by
 unfold nD at h
 obtain ⟨e, g1, a1, h1⟩ := au h
 obtain ⟨ht, rfl⟩ := aJ a1
 obtain ⟨_, g2, a2, h2⟩ := au h1
 obtain ⟨htu, rfl⟩ := aU a2
 obtain rfl := Nat.eq_of_beq_eq_true htu
 obtain ⟨z, g3, a3, h3⟩ := au h2
 obtain ⟨hz, rfl⟩ := aJ a3
 obtain ⟨i, zv, hi, hzv, hby, hsz, hpos, hzl, hone, hzr⟩ := oK hz
 have ht' := fJ ht
 obtain ⟨⟨ss, m, r⟩, g4, a4, h4⟩ := au h3
 obtain ⟨p, k4, hsrc⟩ := uO a4 hpos
 simp only at h4 hsrc
 obtain ⟨⟨bo, sz, bn, c⟩, g5, a5, h5⟩ := au h4
 obtain ⟨hb, rfl⟩ := fK a5
 simp only at h5 hb
 obtain ⟨_, g6, a6, h6⟩ := au h5
 obtain ⟨hq, rfl⟩ := aU a6
 simp only [Bool.and_eq_true] at hq
 obtain ⟨⟨rfl, rfl⟩, acI⟩ := hq
 obtain rfl := Nat.eq_of_beq_eq_true acI
 obtain ⟨_, g7, a7, h7⟩ := au h6
 have k7 := k4.trans (dI a7)
 obtain ⟨_, g8, a8, h8⟩ := au h7
 obtain ⟨nm, g9, a9, h9⟩ := au h8
 obtain ⟨rfl, rfl⟩ := aA h9
 obtain ⟨hnm, hH, hnx, hcs⟩ := iE a9
 obtain ⟨hH8, N7, acJ⟩ := mO a8
 have hk := Keep.Cj k7 (hcs.trans acJ)
 refine ⟨z.1.length, bn, c, by rw [← k4.1]; exact hb, fun hc μ w cx cy hg hx hy c' w' hrun' => ?_⟩
 obtain ⟨hp, hlen, hb48, afz⟩ := (hk hc).2
 obtain ⟨B, D, rfl, hnews⟩ := hsrc hp g.nx μ w cy hg hy
 have Yt : eX g7.nx μ w.heap g7.H := by rw [k7.1, k7.2.1]; exact hg
 have hb7 : g7.H.get a.g = some (.cells true z.1.length bn c) := by rw [k7.1, ← k4.1]; exact hb
 simp only [Rep] at hx
 obtain ⟨hag, A, C, rfl, hlC, hA, hnn, hown⟩ := hx
 obtain ⟨hai, hao, hAC⟩ := hown rfl
 obtain ⟨olds, hol, hoc, abD⟩ := Qh (Yt.ok _ _ hb7) rfl hlen
 rcases Nat.eq_zero_or_pos m with rfl | hm
 ·have hrun := kW (P := P) ht' hi ty w A B len C D hlC
  rw [hrun] at hrun'
  cases hrun'
  exact Keeps.refl _ _ _
 ·obtain ⟨ad, news, rfl, hnl, hcell, h1c, hrow⟩ := hnews hm
  rcases hAC with ⟨rfl, rfl, rfl⟩ | ⟨rfl, rfl⟩
  ·have hrun := run_append_nil (P := P) w t ty e i zv ht' hi hzv ad m D news (by rw [hsz]; exact hnl) hcell hm (by omega) (by rw [hby]; simp only [Nat.zero_add] at hb48; omega)
   rw [hrun] at hrun'
   cases hrun'
   exact Keeps.alloc _ _ _ _
  ·by_cases hroom : len + m ≤ μ.cap a.g
   ·have yK : 0 < bn ∨ 0 < μ.cap a.g := .inr (by omega)
    obtain ⟨_, _, hcur⟩ := Yt.ok _ _ hb7
    obtain ⟨cur, ty', fz, hB, hfit, hfz, hro⟩ := hcur (yK.imp id fun h => ⟨rfl, h⟩)
    obtain ⟨rfl, hcap, hb0⟩ := hfz rfl
    have hlm : (len + m) * z.1.length ≤ μ.cap a.g * z.1.length := Nat.mul_le_mul_right _ hroom
    rw [Nat.add_mul] at hlm
    have Bf : len * z.1.length + news.length ≤ cur.toList.length := by rw [hnl, Array.length_toList, hcap]; exact hlm
    have hrun := run_append_fits (P := P) (ty := ty) (c := D) ht' hi hB (by rw [hsz]; exact hnl) hcell h1c hroom (by rw [hsz]; simpa using Bf)
    rw [hsz] at hrun
    rw [hrun] at hrun'
    cases hrun'
    have hget := fun p => rO cur.toList (len * z.1.length) news Bf p
    refine ⟨fun B hB hne => setRow_other w _ _ _ hne, fun akF ty1 fz1 h1 => ?_⟩
    rw [hB] at h1
    cases h1
    refine ⟨_, setRow_heap w _ cur _ ty' _ hB, by simp at Bf ⊢; omega, fun o ho => ?_⟩
    rw [List.getElem?_toArray, hget, if_pos (by omega)]
    simp
   ·have hrun := run_append_grow (P := P) w t ty e i zv ht' hi hzv ⟨μ.blk a.g, 0, none⟩ len (μ.cap a.g) olds (by rw [hsz]; exact hol) hoc ad m D news (by rw [hsz]; exact hnl) hcell (by omega) (by omega)
     (growslice_fits (by omega) (by rw [hby]; exact hb48))
    rw [hrun] at hrun'
    cases hrun'
    exact Keeps.alloc _ _ _ _
variable {P : Program} {n B K K' : Nat}
structure VX (B j sz m : Nat) (c : Cont) (μ : MM) (w : World) : Prop where
 ok : dw B μ w.heap j (.cells false sz m c)
 base : 0 < m → μ.base j = 0
theorem VX.real {j sz m : Nat} {c : Cont} {μ : MM} (h : (aF.cells false sz m c).real μ j) : 0 < m := by
 rcases h with h | ⟨h, _⟩
 ·exact h
 ·cases h
theorem VX.ac4 {j sz m : Nat} {c : Cont} {μ μ' : MM} {w w' : World} (h : VX B j sz m c μ w) (hj : j < B) (hl : (aF.cells false sz m c).kM B) (hu : MM.upto B μ μ') (hs : ∀ b, b < w.heap.size → w'.heap[b]? = w.heap[b]?) : VX B j sz m c μ' w' :=
 ⟨h.ok.YK hl hu hj (Nat.le_refl _) fun hr => hs _ (h.ok.lt_size hr), fun hm => by rw [hu.base j hj]; exact h.base hm⟩
theorem VX.keep {j sz m : Nat} {c : Cont} {μ μ' : MM} {w w' : World} {b k : Nat} (h : VX B j sz m c μ w) (hj : j < B) (hl : (aF.cells false sz m c).kM B) (hu : MM.upto B μ μ') (hk : Keeps w w' b k) (hm : m * sz ≤ k) : VX B j sz m c μ' w' := by
 refine ⟨⟨by rw [hu.sz j hj]; exact h.ok.1, h.ok.2.1, fun hr => ?_⟩, fun hm => by rw [hu.base j hj]; exact h.base hm⟩
 have h0 : 0 < m := by
  rcases hr with hr | ⟨hr, _⟩
  ·exact hr
  ·cases hr
 obtain ⟨cur, ty, fz, h1, h2, h3, h4⟩ := h.ok.2.2 (.inl h0)
 have hb0 := h.base h0
 have hlt := (Array.getElem?_eq_some_iff.1 h1).1
 obtain ⟨cur', e1, e2, e3⟩ : ∃ cur', w'.heap[μ.blk j]? = some (.cells cur' ty fz) ∧ cur'.size = cur.size ∧ ∀ o, o < k → cur'[o]? = cur[o]? := by
  by_cases hb : μ.blk j = b
  ·rw [hb] at h1 ⊢; exact hk.low _ _ _ h1
  ·exact ⟨cur, by rw [hk.other _ hlt hb]; exact h1, rfl, fun _ _ => rfl⟩
 refine ⟨cur', ty, fz, by rw [hu.blk j hj]; exact e1, by rw [hu.base j hj, e2]; exact h2, fun h => (by cases h), fun i hi => ⟨(h4 i hi).1, fun o v hv => ?_⟩⟩
 obtain ⟨k1, cv, k2, k3⟩ := (h4 i hi).2 o v hv
 have ho : o < sz := by have := (List.getElem?_eq_some_iff.1 hv).1; have := (h4 i hi).1; omega
 have hfit : (i + 1) * sz ≤ m * sz := Nat.mul_le_mul_right _ hi
 rw [Nat.add_mul] at hfit
 rw [hb0] at k2
 refine ⟨k1, cv, by rw [hu.base j hj, hb0, e3 _ (by omega)]; exact k2, ?_⟩
 exact (Rep.nO (.refl _ _) (hl i hi v (List.mem_of_getElem? hv)) k3).later hu (Nat.le_refl _)
structure Vm (n B K : Nat) (X : MM → World → Prop) (H : T aF) (μ : MM) (w : World) (H' : T aF) (fr' : Fr) (a a' : Act) (w' : World) : Prop where
 of : ∃ μ', eX K μ' w'.heap H' ∧ mg B H μ w H' μ' w' ∧ dM K μ' fr' a'.tmps n ∧ a'.defers = a.defers ∧ X μ' w'
def bM (P : Program) (c : Code) (n B K K' : Nat) (X : MM → World → Prop) (fr : Fr) (H : T aF) (Post : Po) : Prop :=
 ∀ μ w (a : Act), eX K μ w.heap H → dM K μ fr a.tmps n → X μ w → ∀ Q : Exit → Act → World → Prop, (∀ e fr' H' a' w', Post e fr' H' → Vm n B K' X H μ w H' fr' a a' w' → Q e.ex a' w') → c.wp P Q a w
section
variable {X : MM → World → Prop}
theorem Vm.trans {H H' FX : T aF} {μ : MM} {w w' w'' : World} {qo : Fr} {a a' a'' : Act} {μ' : MM} (h1 : mg B H μ w H' μ' w') (h2 : a'.defers = a.defers) (h : Vm n B K X H' μ' w' FX qo a' a'' w'') : Vm n B K X H μ w FX qo a a'' w'' := by
 obtain ⟨μ'', k1, k2, k3, k4, k5⟩ := h.of
 exact ⟨μ'', k1, h1.trans k2, k3, k4.trans h2, k5⟩
theorem Vm.up {H H' : T aF} {μ : MM} {w w' : World} {fr' : Fr} {a a' : Act} (h : Vm n B K X H μ w H' fr' a a' w') (hK : K ≤ K') : Vm n B K' X H μ w H' fr' a a' w' := by
 obtain ⟨μ', k1, k2, k3, k4, k5⟩ := h.of
 exact ⟨μ', k1.up hK fun _ _ h => h, k2, k3.later (.refl _ _) hK, k4, k5⟩
theorem bM.mono {c : Code} {fr : Fr} {H : T aF} {Post Post' : Po} (h : bM P c n B K K' X fr H Post) (k : ∀ e fr' H', Post e fr' H' → Post' e fr' H') : bM P c n B K K' X fr H Post' :=
 fun μ w a hg hf hx Q hQ => h μ w a hg hf hx Q fun e fr' H' a' w' hp ha => hQ e fr' H' a' w' (k _ _ _ hp) ha
theorem bM.seq {K1 : Nat} {x y : Code} {fr : Fr} {H : T aF} {Post : Po} (hK : K1 ≤ K')
  (h : bM P x n B K K1 X fr H fun e fr' H' => match e with
   | .normal => bM P y n B K1 K' X fr' H' Post
   | e => Post e fr' H') : bM P (.seq x y) n B K K' X fr H Post := by
 intro μ w a hg hf hx Q hQ
 refine wp_seq (h μ w a hg hf hx _ fun e fr' H' a' w' hp ha => ?_)
 cases e with
 | normal =>
  obtain ⟨μ', k1, k2, k3, k4, k5⟩ := ha.of
  exact hp μ' w' a' k1 k3 k5 Q fun e'' qo FX a'' w'' hp' ha' => hQ _ _ _ _ _ hp' (Vm.trans k2 k4 ha')
 | exit id => exact hQ _ _ _ _ _ hp (ha.up hK)
 | ret => exact hQ _ _ _ _ _ hp (ha.up hK)
theorem bM.block {id : Nat} {c : Code} {fr : Fr} {H : T aF} {Post : Po}
  (h : bM P c n B K K' X fr H fun e fr' H' => match e with
   | .exit id' => if id' = id then Post .normal fr' H' else Post (.exit id') fr' H'
   | e => Post e fr' H') : bM P (.block id c) n B K K' X fr H Post := by
 intro μ w a hg hf hx Q hQ
 refine wp_block (h μ w a hg hf hx _ fun e fr' H' a' w' hp ha => ?_)
 cases e with
 | normal => exact hQ _ _ _ _ _ hp ha
 | ret => exact hQ _ _ _ _ _ hp ha
 | exit id' =>
  simp only [Ex.ex, Exit.inBlock]
  by_cases he : id' = id
  ·simp only [he, if_true] at hp ⊢
   exact hQ .normal _ _ _ _ hp ha
  ·simp only [if_neg he] at hp ⊢
   exact hQ (.exit id') _ _ _ _ hp ha
theorem bM.loop {c : Code} {Post : Po} (I : Nat → Fr → T aF → Prop)
  (h : ∀ k fr H, I k fr H → bM P c n B K K X fr H fun e fr' H' => match e with
   | .normal => ∃ k', k' < k ∧ I k' fr' H'
   | e => Post e fr' H') : ∀ k fr H, I k fr H → bM P (.loop c) n B K K X fr H Post := by
 have key : ∀ R k fr H, k < R → I k fr H → ∀ μ w (a : Act), eX K μ w.heap H → dM K μ fr a.tmps n → X μ w → ∀ Q : Exit → Act → World → Prop, (∀ e fr' H' a' w', Post e fr' H' → Vm n B K X H μ w H' fr' a a' w' → Q e.ex a' w') → Code.rounds P c Q R a w := by
  intro R
  induction R with
  | zero => intro k fr H hk; omega
  | succ R ih =>
   intro k fr H hkR hI μ w a hg hf hx Q hQ
   rw [rounds_succ]
   refine wp_mono (h k fr H hI μ w a hg hf hx (fun e a' w' => (e = .normal ∧ ∃ k' fr' H', k' < k ∧ I k' fr' H' ∧ Vm n B K X H μ w H' fr' a a' w') ∨ (e ≠ .normal ∧ Q e a' w')) fun e fr' H' a' w' hp ha => ?_) ?_
   ·cases e with
    | normal =>
     obtain ⟨k', hk, hI'⟩ := hp
     exact .inl ⟨rfl, k', fr', H', hk, hI', ha⟩
    | exit id => exact .inr ⟨by simp [Ex.ex], hQ (.exit id) _ _ _ _ hp ha⟩
    | ret => exact .inr ⟨by simp [Ex.ex], hQ .ret _ _ _ _ hp ha⟩
   ·rintro e a' w' (⟨rfl, k', fr', H', hk, hI', ha⟩ | ⟨hne, hq⟩)
    ·obtain ⟨μ', k1, k2, k3, k4, k5⟩ := ha.of
     exact ih k' fr' H' (by omega) hI' μ' w' a' k1 k3 k5 Q fun e'' qo FX a'' w'' hp' ha' => hQ _ _ _ _ _ hp' (Vm.trans k2 k4 ha')
    ·cases e <;> first | exact absurd rfl hne | exact hq
 intro k fr H hI μ w a hg hf hx Q hQ
 exact wp_loop_rounds (k + 1) (key (k + 1) k fr H (by omega) hI μ w a hg hf hx Q hQ)
end
section
variable {j sz m : Nat} {cj : Cont}
theorem bM.pure {B' : Nat} {c : Code} {fr : Fr} {bl xl : List (Nat × aF)} {Post Post' : Po} (hj : j < B) (hl : (aF.cells false sz m cj).kM B) (SS : B ≤ B') (h : aj P c n B' K K' fr (hpL bl) Post) (hB : B' ≤ K') (hv : ∀ p ∈ bl, p.2.owned = false) (hx : jy B' xl) (hd : OI bl xl = true)
  (k : ∀ e fr' H0', Post e fr' H0' → ∃ iL, H0' = hpL iL ∧ OI iL xl = true ∧ ED B' bl iL ∧ Post' e fr' (hpL (iL ++ xl))) : bM P c n B K K' (VX B j sz m cj) fr (hpL (bl ++ xl)) Post' := by
 intro μ w a hg hf hX Q hQ
 refine h μ w a (hg.sub fun i b hb => by rw [gY, hb]; rfl) hf Q fun e fr' H0' a' w' hp ha => ?_
 obtain ⟨iL, rfl, h1, h2, h3⟩ := k _ _ _ hp
 obtain ⟨μ', k1, k2, k3, k4⟩ := ha.of
 have nm : ∀ b, ¬ May μ (hpL bl) b := fun b ⟨i, x, m1, m2, _⟩ => by
  have := hv _ (bC m1)
  rw [m2] at this; cases this
 obtain ⟨μ2, q1, q2, q3, q4⟩ : ∃ μ2, eX K' μ2 w'.heap (hpL (iL ++ xl)) ∧ mg B (hpL (bl ++ xl)) μ w (hpL (iL ++ xl)) μ2 w' ∧ dM K' μ2 fr' a'.tmps n ∧ VX B j sz m cj μ2 w' := by
  have q := EC (H' := hpL (iL ++ xl)) hg (fun i b hb => by rw [gY, hb]; rfl) (fun i b hb h0 => by
   rw [gY, h0] at hb
   exact hx.get _ (bC hb)) hB (fun i b hb => by
   rw [gY] at hb
   cases h1 : (hpL iL).get i with
   | some b1 =>
    rw [h1] at hb
    cases hb
    exact .inl ⟨rfl, h2.get _ (bC h1)⟩
   | none =>
    rw [h1] at hb
    refine .inr ?_
    cases h2 : (hpL bl).get i with
    | some b2 => exact (Ji hd h2 hb).elim
    | none => exact ⟨rfl, by rw [gY, h2]; exact hb⟩) k1 k2
  exact ⟨μ', q.1, ⟨q.2.names.mono SS, q.2.os, q.2.tape, q.2.output, q.2.size, q.2.block, q.2.may⟩, k3, hX.ac4 hj hl (k2.names.mono SS) fun b hb => k2.block b hb (nm b)⟩
 exact hQ e fr' _ a' w' h3 ⟨μ2, q1, q2, q3, k4, q4⟩
theorem bM.renG {K'' : Nat} {c : Code} {fr : Fr} {H : T aF} {Post Post' : Po} (hj : j < B) (hl : (aF.cells false sz m cj).kM B) (h : bM P c n B K K' (VX B j sz m cj) fr H Post)
  (k : ∀ e fr' H', Post e fr' H' → ∃ σ fl bl, (∀ g, g < B → σ g = g) ∧ Ah K'' σ fr' fl ∧ EF K'' σ H' bl ∧ (∀ i j, i < K'' → j < K'' → σ i = σ j → i = j) ∧ Post' e (aQ fl) (hpL bl)) : bM P c n B K K'' (VX B j sz m cj) fr H Post' := by
 intro μ w a hg hf hX Q hQ
 refine h μ w a hg hf hX Q fun e fr' H' a' w' hp ha => ?_
 obtain ⟨σ, fl, bl, hk, hF, hB, hinj, hp'⟩ := k _ _ _ hp
 obtain ⟨μ', k1, k2, k3, k4, k5⟩ := ha.of
 have G := fun i b (hb : (hpL bl).get i = some b) => hB.get _ (bC hb)
 have u : MM.upto B μ' (μ'.via σ) := ⟨fun g hg => by show μ'.blk (σ g) = _; rw [hk g hg], fun g hg => by show μ'.cap (σ g) = _; rw [hk g hg], fun g hg => by show μ'.sz (σ g) = _; rw [hk g hg], fun g hg => by show μ'.base (σ g) = _; rw [hk g hg]⟩
 refine hQ e _ _ a' w' hp' ⟨μ'.via σ, ⟨fun i b hb => ?_, fun i b hb => ?_, fun i b j b' hi hj ho hr hr' he => ?_⟩, ⟨k2.names.trans u (Nat.le_refl _), k2.os, k2.tape, k2.output, k2.size, k2.block, fun b hb hm => k2.may b hb ?_⟩, ⟨k3.size, fun t v ht => ?_⟩, k4, k5.ac4 hj hl u fun _ _ => rfl⟩
 ·obtain ⟨b0, h1, h2, h3, h4⟩ := G i b hb; exact h4
 ·obtain ⟨b0, h1, h2, h3, h4⟩ := G i b hb
  exact (h2.ok (k1.ok _ _ h1)).kL h3 (fun i _ => ⟨rfl, rfl, rfl, rfl⟩) rfl rfl rfl rfl
 ·obtain ⟨b0, h1, h2, h3, h4⟩ := G i b hi
  obtain ⟨b1, l1, l2, l3, l4⟩ := G j b' hj
  exact hinj i j h4 l4 (k1.sep _ _ _ _ h1 l1 (by rw [h2.owned, aF.mQ]; exact ho) ((h2.real _ _).2 ((aF.kP _ _ _ _).2 ((aF.fC rfl b).1 hr))) ((l2.real _ _).2 ((aF.kP _ _ _ _).2 ((aF.fC rfl b').1 hr'))) he)
 ·obtain ⟨i, x, m1, m2, m3, m4⟩ := hm
  obtain ⟨b0, h1, h2, h3, h4⟩ := G i x m1
  exact ⟨σ i, b0, h1, by rw [h2.owned, aF.mQ]; exact m2, (h2.real _ _).2 ((aF.kP _ _ _ _).2 ((aF.fC rfl x).1 m3)), m4⟩
 ·obtain ⟨u, h1, h2, h3⟩ := hF.get _ (iK ht)
  exact (h2 _ _ _ (k3.val t u h1)).kL h3
theorem Aj {call : Calls'} (hcall : cO P call) {ops : Array Oper} {Q : Exit → Act → World → Prop} {l2 all : List Oper} : ∀ (l1 : List Oper) (fr fr' : Fr) (g g' : G), (∀ o ∈ l1, o.guard = none) → kF P call n all l1 fr g = .done fr' g' →
  (g'.cs → g.cs) ∧ (g'.cs → ∀ μ w (a : Act), eX g.nx μ w.heap g.H → dM g.nx μ fr a.tmps n → (∀ a' w', kX n g μ w g' fr' a a' w' → wpList P ops Q l2 a' w') → wpList P ops Q (l1 ++ l2) a w)
 | [], fr, fr', g, g', _, h => by
  obtain ⟨rfl, rfl⟩ := aA h
  exact ⟨id, fun _ μ w a hg hf hK => hK a w ⟨μ, hg, Ext.refl _ _ _, hf, rfl⟩⟩
 | o :: rest, fr, fr', g, g', hgd, h => by
  unfold kF at h
  have h0 := hgd o List.mem_cons_self
  rw [h0] at h
  obtain ⟨v, g1, a1, h1⟩ := au h
  obtain ⟨xP, g2, a2, h2⟩ := au h1
  obtain ⟨hc1, hs1⟩ := qU hcall a1
  obtain ⟨rfl, hp⟩ := xO a2
  obtain ⟨hc2, hs2⟩ := Aj hcall (ops := ops) (Q := Q) (l2 := l2) rest _ _ _ _ (fun o ho => hgd o (List.mem_cons_of_mem _ ho)) h2
  refine ⟨fun hc => hc1 (hc2 hc), fun hc μ w a hg hf hK => wpList_plain h0 fun K hK' => hs1 (hc2 hc) μ w a n hg hf _ _ fun c w' ha => ?_⟩
  obtain ⟨μ', hv, hg', hext⟩ := ha
  exact hK' _ _ (hs2 hc μ' w' _ hg' (hp _ _ _ _ (hf.later hext.names hext.nx) hv) fun a' w'' hk => hK _ _ (hk.trans hext (Act.put_defers _ _ _)))
theorem bM.app {call : Calls'} (hcall : cO P call) {region : List Oper → Fr → M Fr} {loops : Loops} {rounds : Nat} {ops : Array Oper} {id id' : Nat} {l1 : List Oper} {o1 o2 : Oper} (hops : ops.toList = l1 ++ [o1, o2]) (hgd : ∀ o ∈ l1, o.guard = none) (g1 : o1.guard = none) (g2 : o2.guard = none)
  {ty : TypeId} {tx tY d1 d2 : Nat} (h1 : o1.op = .call ⟨.builtin .append, #[.tmp tx, .tmp tY], #[ty, ty]⟩) (e1 : o1.dst = some d1) (h2 : o2.op = .assign (.tmp d1)) (e2 : o2.dst = some d2) (hd1 : d1 < n) (hd2 : d2 < n)
  {B' K1 : Nat} {fr : Fr} {fl : List (Nat × AV)} {bl xU xl : List (Nat × aF)} {path : List Bool} (hrun : bV K1 .normal fl xU (cu P call region loops n rounds (.region id' l1.toArray false) fr ⟨hpL bl, K, [], path, True⟩))
  (hj : j < B) (hl : (aF.cells false sz m cj).kM B) (SS : B ≤ B') (hB : B' ≤ K) (hv : ∀ p ∈ bl, p.2.owned = false) (hx : jy B' xl) (hd : OI bl xl = true) (hd' : OI xU xl = true) (ho : ED B' bl xU)
  {s : Bool} {q len : Nat} {vy v : AV} {c : Cont} (ex : (aQ fl).get tx = some (.slc s true ⟨false, q, 0, 0⟩ len)) (ey : (aQ fl).get tY = some vy) (hvy : vy.fl = vy) (hq : (hpL (xU ++ xl)).get q = some (.cells true sz len c)) (hml : m ≤ len)
  {g2' : G} (happ : nD P ty ty (.slc s true ⟨false, q, 0, 0⟩ len) vy ⟨hpL (xU ++ xl), K1, [], [], True⟩ = .done v g2') (hcs : g2'.cs) :
  bM P (.region id ops false) n B K g2'.nx (VX B j sz m cj) fr (hpL (bl ++ xl)) fun e fr' H' => e = .normal ∧ fr' = ((aQ fl).upd d1 (some v)).upd d2 (some v) ∧ H' = g2'.H := by
 intro μ w a hg hf hX Q hQ
 refine wp_region_list ?_
 rw [hops]
 have hr := hrun.of
 have hgg : eX K μ w.heap (hpL bl) := hg.sub fun i b hb => by rw [gY, hb]; rfl
 generalize hres : cu P call region loops n rounds (.region id' l1.toArray false) fr ⟨hpL bl, K, [], path, True⟩ = res at hr
 unfold jP at hr
 split at hr
 ·rename_i r g
  obtain ⟨hre, hw, hh, hnx, hcs1⟩ := hr
  have hnx := Nat.le_of_ble_eq_true hnx
  unfold cu at hres
  obtain ⟨xP, g1', b1, b2⟩ := au hres
  obtain ⟨rfl, rfl⟩ := aA b2
  have b1' : kF P call n l1 l1 fr ⟨hpL bl, K, [], path, True⟩ = .done xP g1' := by rw [← rM]; simpa using b1
  obtain ⟨_, hs⟩ := Aj hcall (ops := ops) (Q := Q) (l2 := [o1, o2]) l1 _ _ _ _ hgd b1'
  refine hs hcs1 μ w a hgg hf fun a' w' hk => ?_
  obtain ⟨μ', k1, k2, k3, k4⟩ := hk
  have sub : ∀ i b, (hpL xU).get i = some b → g1'.H.get i = some b := fun i b hb => hh.get (bC hb)
  have k1' : eX K1 μ' w'.heap (hpL xU) := k1.up hnx sub
  have k2' : mg B' (hpL bl) μ w (hpL xU) μ' w' := ⟨k2.names.mono hB, k2.os, k2.tape, k2.output, k2.size, k2.block, fun b hb hm => k2.may b hb (by
   obtain ⟨i, x, m1, m2, m3, m4⟩ := hm
   exact ⟨i, x, sub i x m1, m2, m3, m4⟩)⟩
  have Uu : dM K1 μ' (aQ fl) a'.tmps n := ⟨k3.size, fun t v ht => (k3.val t v (hw.get (iK ht))).later (.refl _ _) hnx⟩
  have nm : ∀ b, ¬ May μ (hpL bl) b := fun b ⟨i, x, m1, m2, _⟩ => by
   have := hv _ (bC m1)
   rw [m2] at this; cases this
  have hX' := hX.ac4 hj hl (k2'.names.mono SS) fun b hb => k2'.block b hb (nm b)
  have hKK : K ≤ K1 := Nat.le_trans k2.nx hnx
  have qf := EC (H' := hpL (xU ++ xl)) hg (fun i b hb => by rw [gY, hb]; rfl) (fun i b hb h0 => by
   rw [gY, h0] at hb
   exact hx.get _ (bC hb)) (Nat.le_trans hB hKK) (fun i b hb => by
   rw [gY] at hb
   cases h1 : (hpL xU).get i with
   | some b1 =>
    rw [h1] at hb
    cases hb
    exact .inl ⟨rfl, ho.get _ (bC h1)⟩
   | none =>
    rw [h1] at hb
    refine .inr ?_
    cases h2 : (hpL bl).get i with
    | some b2 => exact (Ji hd h2 hb).elim
    | none => exact ⟨rfl, by rw [gY, h2]; exact hb⟩) k1' k2'
  -- the append
  refine wpList_plain g1 fun KK Vo => ?_
  have rx := Uu.val _ _ ex
  have ry := Uu.val _ _ ey
  obtain ⟨_, afW⟩ := wW (ty := o1.type) happ
  obtain ⟨cv, w2, μ2, er, r1, r2, r3⟩ := afW hcs μ' w' _ _ qf.1 rx ry
  obtain ⟨sz0, bn, c0, hq0, hkeep⟩ := YM (ty := o1.type) happ
  have hq1 : (hpL (xU ++ xl)).get q = some (.cells true sz0 bn c0) := hq0
  rw [hq] at hq1
  cases hq1
  have hK := hkeep hcs μ' w' _ _ qf.1 rx ry cv w2 er
  have hX2 := hX'.keep hj hl (r3.names.mono (show B ≤ K1 by omega)) hK (Nat.mul_le_mul_right _ hml)
  have hrun1 : (execOp a'.eval o1).run P w' = .ok (.value cv) w2 := by
   have e1 : (builtin .append #[ty, ty] o1.type #[false, false] #[a'.tmps.getD tx undef, a'.tmps.getD tY undef]).run P w' = .ok (.value cv) w2 := eF er
   simp only [execOp, h1, resolve, Sem.run_bind, Sem.run_pure, List.map_toArray, List.map_cons, List.map_nil, Result.andThen]
   exact e1
  unfold Oper.wp
  rw [hrun1]
  refine Vo _ _ (wpList_plain g2 fun KK2 ahT => ?_)
  have f1 : dM g2'.nx μ2 ((aQ fl).upd d1 (some v)) (a'.put o1.dst cv).tmps n := by
   rw [e1]
   exact (Uu.later r3.names r3.nx).upd hd1 r1
  have hrun2 : (execOp (a'.put o1.dst cv).eval o2).run P w2 = .ok (.value ((a'.put o1.dst cv).eval (.tmp d1))) w2 := by
   simp only [execOp, h2, Sem.run_pure]
  unfold Oper.wp
  rw [hrun2]
  refine ahT _ _ (wpList_nil (hQ .normal _ _ _ _ ⟨rfl, rfl, rfl⟩ ⟨μ2, r2, ?_, ?_, ?_, hX2⟩))
  ·have x1 : mg B (hpL (bl ++ xl)) μ w (hpL (xU ++ xl)) μ' w' := ⟨qf.2.names.mono SS, qf.2.os, qf.2.tape, qf.2.output, qf.2.size, qf.2.block, qf.2.may⟩
   exact x1.trans ⟨r3.names.mono (show B ≤ K1 by omega), r3.os, r3.tape, r3.output, r3.size, r3.block, r3.may⟩
  ·have hv2 : Rep g2'.nx μ2 v ((a'.put o1.dst cv).eval (.tmp d1)) := f1.val d1 v (by rw [T.bP, if_pos rfl])
   have := f1.upd hd2 hv2
   rw [e2]
   exact this
  ·rw [Act.put_defers, Act.put_defers]; exact k4
 ·exact hr.elim
theorem dw.view {N : Nat} {μ : MM} {hp : Array Obj} {g sz m : Nat} {c : Cont} (h : dw N μ hp g (.cells true sz m c)) : dw N μ hp g (.cells false sz m c) := by
 refine ⟨h.1, h.2.1, fun hr => ?_⟩
 obtain ⟨cur, ty, fz, h1, h2, h3, h4⟩ := h.2.2 (.inl (by
  rcases hr with hr | ⟨hr, _⟩
  ·exact hr
  ·cases hr))
 exact ⟨cur, ty, fz, h1, h2, fun h => (by cases h), h4⟩
def EG (K j i : Nat) : Nat := if i = K then j else i
theorem Jj {K j i : Nat} (h : i < K) : EG K j i = i := if_neg (by omega)
theorem Jk {K j : Nat} : EG K j K = j := if_pos rfl
theorem aj.fork {c : Code} {fr : Fr} {xl vl : List (Nat × aF)} {fl0 : List (Nat × AV)} {LQ Post : Po} (hj : j < B) (Vp : B ≤ K) (hjl : (aF.cells false sz m cj).kM B) (hx : jy B xl) (hdis : OI [(j, .cells true sz m cj)] xl = true)
  (hvl : ∀ p ∈ vl, (hpL xl).get p.1 = some p.2 ∧ p.2.owned = false) (hF : Ah (K + 1) (EG K j) fr fl0)
  (h : bM P c n B (K + 1) K' (VX B j sz m cj) (aQ fl0) (hpL (vl ++ [(K, .cells true sz m cj)])) LQ)
  (k : ∀ e fr' H', LQ e fr' H' → ∃ len' c', H'.get K = some (.cells true sz len' c') ∧ Post e fr' (hpL ((j, .cells false sz m cj) :: (K, .cells false sz len' c') :: xl))) :
  aj P c n B K K' fr (hpL ((j, .cells true sz m cj) :: xl)) Post := by
 intro μ w a hg hf Q hQ
 have u0 : MM.upto K μ (μ.via (EG K j)) := ⟨fun g hg => by show μ.blk (EG K j g) = _; rw [Jj hg], fun g hg => by show μ.cap (EG K j g) = _; rw [Jj hg], fun g hg => by show μ.sz (EG K j g) = _; rw [Jj hg], fun g hg => by show μ.base (EG K j g) = _; rw [Jj hg]⟩
 have eK : Jb (μ.via (EG K j)) (μ.via (EG K j)) K := ⟨rfl, rfl, rfl, rfl⟩
 have bK : (μ.via (EG K j)).blk K = μ.blk j := by show μ.blk (EG K j K) = _; rw [Jk]
 have cK : (μ.via (EG K j)).cap K = μ.cap j := by show μ.cap (EG K j K) = _; rw [Jk]
 have zK : (μ.via (EG K j)).sz K = μ.sz j := by show μ.sz (EG K j K) = _; rw [Jk]
 have aK : (μ.via (EG K j)).base K = μ.base j := by show μ.base (EG K j K) = _; rw [Jk]
 have Vq : (hpL ((j, aF.cells true sz m cj) :: xl)).get j = some (.cells true sz m cj) := by simp only [hpL, T.bP, if_true]
 have inx : ∀ {i b}, (hpL xl).get i = some b → i ≠ j := fun hb e => by
  subst e
  exact Ji hdis (b := .cells true sz m cj) (by simp only [hpL, T.bP, if_true]) hb
 have Gi : ∀ {i b}, (hpL xl).get i = some b → (hpL ((j, aF.cells true sz m cj) :: xl)).get i = some b := fun hb => by
  simp only [hpL, T.bP]
  rw [if_neg (inx hb)]; exact hb
 have lox : ∀ {i b}, (hpL xl).get i = some b → i < B ∧ b.kM B := fun hb => hx.get _ (bC hb)
 have hjb := hg.ok j _ Vq
 have case0 : ∀ {i b}, (hpL (vl ++ [(K, aF.cells true sz m cj)])).get i = some b → ((hpL xl).get i = some b ∧ b.owned = false) ∨ (i = K ∧ b = .cells true sz m cj) := fun hb => by
  have := bC hb
  rcases List.mem_append.1 this with h | h
  ·exact .inl (hvl _ h)
  ·simp only [List.mem_singleton] at h
   cases h; exact .inr ⟨rfl, rfl⟩
 have hg0 : eX (K + 1) (μ.via (EG K j)) w.heap (hpL (vl ++ [(K, .cells true sz m cj)])) := by
  refine ⟨fun i b hb => ?_, fun i b hb => ?_, fun i b i' b' hi hi' ho hr hr' he => ?_⟩
  ·rcases case0 hb with ⟨h, _⟩ | ⟨rfl, _⟩
   ·have := (lox h).1; omega
   ·omega
  ·rcases case0 hb with ⟨h, _⟩ | ⟨rfl, rfl⟩
   ·exact (hg.ok i b (Gi h)).later u0 (by omega) (by have := (lox h).1; omega) fun _ => rfl
   ·have q := hjb
    simp only [dw] at q ⊢
    rw [bK, cK, zK, aK]
    refine ⟨q.1, q.2.1, fun hr => ?_⟩
    obtain ⟨cur, ty, fz, h1, h2, h3, h4⟩ := q.2.2 hr
    exact ⟨cur, ty, fz, h1, h2, h3, fun i hi => (h4 i hi).later u0 (by omega)⟩
  ·rcases case0 hi with ⟨h, h1⟩ | ⟨rfl, rfl⟩
   ·rw [h1] at ho; cases ho
   ·rcases case0 hi' with ⟨h', h1'⟩ | ⟨rfl, rfl⟩
    ·have hlt := (lox h').1
     rw [aF.bH u0 (by omega)] at hr'
     rw [bK, u0.blk i' (by omega)] at he
     exact (inx h' (hg.sep j _ i' b' Vq (Gi h') rfl ((aF.fC cK _).1 hr) hr' he).symm).elim
    ·rfl
 have hf0 : dM (K + 1) (μ.via (EG K j)) (aQ fl0) a.tmps n := ⟨hf.size, fun t v ht => by
  obtain ⟨u, h1, h2, h3⟩ := hF.get _ (iK ht)
  exact (h2 _ _ _ (hf.val t u h1)).kL h3⟩
 have hX : VX B j sz m cj (μ.via (EG K j)) w := ⟨(dw.view hjb).YK hjl (u0.mono Vp) hj (Nat.le_refl _) fun _ => rfl, fun hm => by
  rw [u0.base j (by omega)]
  obtain ⟨cur, ty, fz, h1, h2, h3, h4⟩ := hjb.2.2 (.inl hm)
  exact (h3 rfl).2.2⟩
 have may0 : ∀ b, May (μ.via (EG K j)) (hpL (vl ++ [(K, .cells true sz m cj)])) b → (aF.cells true sz m cj).real μ j ∧ μ.blk j = b := fun b ⟨i, x, m1, m2, m3, m4⟩ => by
  rcases case0 m1 with ⟨h, h1⟩ | ⟨rfl, rfl⟩
  ·rw [h1] at m2; cases m2
  ·exact ⟨(aF.fC cK _).1 m3, by rw [← bK]; exact m4⟩
 refine h _ w a hg0 hf0 hX Q fun e fr' H' a' w' hp ha => ?_
 obtain ⟨len', c', hK', hp'⟩ := k _ _ _ hp
 obtain ⟨μ', k1, k2, k3, k4, k5⟩ := ha.of
 have hKK : K < K' := k1.lt _ _ hK'
 have uB : MM.upto B μ μ' := (u0.mono Vp).trans k2.names (Nat.le_refl _)
 have LM : ∀ {i b}, (hpL xl).get i = some b → b.real μ i → ¬ May (μ.via (EG K j)) (hpL (vl ++ [(K, .cells true sz m cj)])) (μ.blk i) := fun hb hr hm => by
  obtain ⟨h1, h2⟩ := may0 _ hm
  exact inx hb (hg.sep j _ _ _ Vq (Gi hb) rfl h1 hr h2).symm
 have case1 : ∀ {i b}, (hpL ((j, aF.cells false sz m cj) :: (K, aF.cells false sz len' c') :: xl)).get i = some b → (i = j ∧ b = .cells false sz m cj) ∨ (i = K ∧ b = .cells false sz len' c') ∨ (hpL xl).get i = some b := fun hb => by
  simp only [hpL, T.bP] at hb
  split at hb
  ·cases hb; exact .inl ⟨‹_›, rfl⟩
  ·split at hb
   ·cases hb; exact .inr (.inl ⟨‹_›, rfl⟩)
   ·exact .inr (.inr hb)
 have Vr : ∀ {i b}, (hpL xl).get i = some b → (b.real μ' i ↔ b.real μ i) := fun hb => aF.bH uB (lox hb).1 _
 have ac6 : ∀ {i b}, (hpL xl).get i = some b → μ'.blk i = μ.blk i := fun hb => uB.blk _ (lox hb).1
 refine hQ e fr' _ a' w' hp' ⟨μ', ⟨fun i b hb => ?_, fun i b hb => ?_, fun i b i' b' hi hi' ho hr hr' he => ?_⟩, ⟨uB, k2.os, k2.tape, k2.output, k2.size, fun b hb hn => k2.block b hb fun hm => hn ?_, fun b hb hm => ?_⟩, k3, k4⟩
 ·rcases case1 hb with ⟨rfl, _⟩ | ⟨rfl, _⟩ | h
  ·omega
  ·exact hKK
  ·have := (lox h).1; omega
 ·rcases case1 hb with ⟨rfl, rfl⟩ | ⟨rfl, rfl⟩ | h
  ·exact k5.ok.later (.refl _ _) (by omega) hj fun _ => rfl
  ·exact dw.view (k1.ok _ _ hK')
  ·exact (hg.ok i b (Gi h)).YK (lox h).2 uB (lox h).1 (by omega) fun hr => k2.block _ ((hg.ok i b (Gi h)).lt_size hr) (LM h hr)
 ·rcases case1 hi with ⟨rfl, rfl⟩ | ⟨rfl, rfl⟩ | hq
  ·cases ho
  ·cases ho
  ·have hr := (Vr hq).1 hr
   rw [ac6 hq] at he
   have hlt := (hg.ok i b (Gi hq)).lt_size hr
   rcases case1 hi' with ⟨rfl, rfl⟩ | ⟨rfl, rfl⟩ | h'
   ·have h0 := VX.real hr'
    rw [uB.blk _ hj] at he
    exact hg.sep i b _ _ (Gi hq) Vq ho hr (.inl h0) he
   ·have h0 := VX.real hr'
    have hm := k2.may _ hlt ⟨_, _, hK', rfl, .inl h0, he.symm⟩
    exact (LM hq hr hm).elim
   ·have hr' := (Vr h').1 hr'
    rw [ac6 h'] at he
    exact hg.sep i b i' b' (Gi hq) (Gi h') ho hr hr' he
 ·obtain ⟨h1, h2⟩ := may0 b hm
  exact ⟨j, _, Vq, rfl, h1, h2⟩
 ·obtain ⟨i, x, m1, m2, m3, m4⟩ := hm
  rcases case1 m1 with ⟨rfl, rfl⟩ | ⟨rfl, rfl⟩ | h
  ·cases m2
  ·cases m2
  ·exact ⟨i, x, Gi h, m2, (Vr h).1 m3, by rw [← ac6 h]; exact m4⟩
end
end Go.Sx
namespace Go.Sx
open M
variable {P : Program} {n B K K' : Nat}
abbrev Nm (F : List (Nat × AV)) (H : List (Nat × aF)) : Po := fun e fr' H' => e = .normal ∧ fr' = aQ F ∧ H' = hpL H
abbrev Xm (id : Nat) (F : List (Nat × AV)) (H : List (Nat × aF)) : Po := fun e fr' H' => e = .exit id ∧ fr' = aQ F ∧ H' = hpL H
theorem aj.lower {B' : Nat} {c : Code} {fr : Fr} {H : T aF} {Post : Po} (h : aj P c n B' K K' fr H Post) (hB : B ≤ B') : aj P c n B K K' fr H Post :=
 fun μ w a hg hf Q hQ => h μ w a hg hf Q fun e fr' H' a' w' hp ha => hQ e fr' H' a' w' hp (by
  obtain ⟨μ', k1, k2, k3, k4⟩ := ha.of
  exact ⟨μ', k1, ⟨k2.names.mono hB, k2.os, k2.tape, k2.output, k2.size, k2.block, k2.may⟩, k3, k4⟩)
theorem aj.aV {K1 : Nat} {x y : Code} {fr : Fr} {H : T aF} {F1 : List (Nat × AV)} {H1 : List (Nat × aF)} {Post : Po} (h1 : aj P x n B K K1 fr H (Nm F1 H1)) (hK : K1 ≤ K') (h2 : aj P y n B K1 K' (aQ F1) (hpL H1) Post) : aj P (.seq x y) n B K K' fr H Post :=
 aj.seq hK (h1.mono fun e fr' H' ⟨e1, e2, e3⟩ => by subst e1 e2 e3; exact h2)
theorem aj.jQ {id : Nat} {c : Code} {fr : Fr} {H : T aF} {F1 : List (Nat × AV)} {H1 : List (Nat × aF)} (h : aj P c n B K K' fr H (Nm F1 H1)) : aj P (.block id c) n B K K' fr H (Nm F1 H1) :=
 aj.block (h.mono fun e fr' H' ⟨e1, e2, e3⟩ => by subst e1; exact ⟨rfl, e2, e3⟩)
theorem aj.toN {c : Code} {fr : Fr} {H : T aF} {F F' : List (Nat × AV)} {H1 YN : List (Nat × aF)} (h : aj P c n B K K' fr H (Nm F H1)) (hf : Ge (aQ F) F') (hh : Vd (hpL H1) YN) : aj P c n B K K' fr H (Nm F' YN) :=
 h.post fun e fr' H' ⟨e1, e2, e3⟩ => by subst e1 e2 e3; exact ⟨F', YN, hf, hh, rfl, rfl, rfl⟩
theorem aj.dB {c : Code} {fr : Fr} {F : List (Nat × AV)} {bl iL xl : List (Nat × aF)} (h : aj P c n B K K' fr (hpL bl) (Nm F iL)) (hB : B ≤ K') (hx : jy B xl) (hd : OI bl xl = true) (hd' : OI iL xl = true) (ho : ED B bl iL) : aj P c n B K K' fr (hpL (bl ++ xl)) (Nm F (iL ++ xl)) :=
 h.xR hB hx hd fun e fr' H0' ⟨e1, e2, e3⟩ => ⟨iL, e3, hd', ho, e1, e2, rfl⟩
theorem aj.fP {c : Code} {fr : Fr} {F : List (Nat × AV)} {xl : List (Nat × aF)} (h : aj P c n B K K' fr (hpL []) (Nm F [])) (hB : B ≤ K') (hx : jy B xl) : aj P c n B K K' fr (hpL xl) (Nm F xl) :=
 h.dB (bl := []) (iL := []) hB hx rfl rfl trivial
theorem aj.LU {c : Code} {id : Nat} {fr : Fr} {F : List (Nat × AV)} {xl : List (Nat × aF)} (h : aj P c n B K K' fr (hpL []) (Xm id F [])) (hB : B ≤ K') (hx : jy B xl) : aj P c n B K K' fr (hpL xl) (Xm id F xl) :=
 h.xR (bl := []) hB hx rfl fun e fr' H0' ⟨e1, e2, e3⟩ => ⟨[], e3, rfl, trivial, e1, e2, rfl⟩
theorem aj.Jl {K1 id : Nat} {x y : Code} {fr : Fr} {H : T aF} {F1 : List (Nat × AV)} {H1 : List (Nat × aF)} (h1 : aj P x n B K K1 fr H (Xm id F1 H1)) (hK : K1 ≤ K') : aj P (.seq x y) n B K K' fr H (Xm id F1 H1) :=
 aj.seq hK (h1.mono fun e fr' H' ⟨e1, e2, e3⟩ => by subst e1; exact ⟨rfl, e2, e3⟩)
theorem aj.rounds {c : Code} {id : Nat} (len : Nat) (F : Nat → List (Nat × AV)) (Hh : Nat → List (Nat × aF)) {Z : List (Nat × AV)} {ZH : List (Nat × aF)} (h : ∀ i, i < len → aj P c n B K K (aQ (F i)) (hpL (Hh i)) (Nm (F (i + 1)) (Hh (i + 1)))) (hz : aj P c n B K K (aQ (F len)) (hpL (Hh len)) (Xm id Z ZH)) :
  aj P (.block id (.loop c)) n B K K (aQ (F 0)) (hpL (Hh 0)) (Nm Z ZH) :=
 (aj.count len F Hh Z ZH (fun _ => True) (fun _ _ => False) trivial fun i hi _ => by
  by_cases e : i < len
  ·exact (h i e).mono fun e' fr H ⟨e1, e2, e3⟩ => .inl ⟨e1, e, trivial, e2, e3⟩
  ·obtain rfl : i = len := by omega
   exact hz.mono fun e' fr H ⟨e1, e2, e3⟩ => .inr (.inl ⟨e1, trivial, e2, e3⟩)).mono fun e fr H h => by
  rcases h with ⟨e1, _, e2, e3⟩ | ⟨_, h⟩
  ·exact ⟨e1, e2, e3⟩
  ·exact h.elim
theorem bM.aV {X : MM → World → Prop} {K1 : Nat} {x y : Code} {fr : Fr} {H : T aF} {F1 : List (Nat × AV)} {H1 : List (Nat × aF)} {Post : Po} (h1 : bM P x n B K K1 X fr H (Nm F1 H1)) (hK : K1 ≤ K') (h2 : bM P y n B K1 K' X (aQ F1) (hpL H1) Post) : bM P (.seq x y) n B K K' X fr H Post :=
 bM.seq hK (h1.mono fun e fr' H' ⟨e1, e2, e3⟩ => by subst e1 e2 e3; exact h2)
theorem bM.jQ {X : MM → World → Prop} {id : Nat} {c : Code} {fr : Fr} {H : T aF} {F1 : List (Nat × AV)} {H1 : List (Nat × aF)} (h : bM P c n B K K' X fr H (Nm F1 H1)) : bM P (.block id c) n B K K' X fr H (Nm F1 H1) :=
 bM.block (h.mono fun e fr' H' ⟨e1, e2, e3⟩ => by subst e1; exact ⟨rfl, e2, e3⟩)
theorem bM.Jl {X : MM → World → Prop} {K1 id : Nat} {x y : Code} {fr : Fr} {H : T aF} {F1 : List (Nat × AV)} {H1 : List (Nat × aF)} (h1 : bM P x n B K K1 X fr H (Xm id F1 H1)) (hK : K1 ≤ K') : bM P (.seq x y) n B K K' X fr H (Xm id F1 H1) :=
 bM.seq hK (h1.mono fun e fr' H' ⟨e1, e2, e3⟩ => by subst e1; exact ⟨rfl, e2, e3⟩)
theorem bM.rounds {X : MM → World → Prop} {c : Code} {id : Nat} (len : Nat) (F : Nat → List (Nat × AV)) (Hh : Nat → List (Nat × aF)) {Z : List (Nat × AV)} {ZH : List (Nat × aF)} (h : ∀ i, i < len → bM P c n B K K X (aQ (F i)) (hpL (Hh i)) (Nm (F (i + 1)) (Hh (i + 1)))) (hz : bM P c n B K K X (aQ (F len)) (hpL (Hh len)) (Xm id Z ZH)) :
  bM P (.block id (.loop c)) n B K K X (aQ (F 0)) (hpL (Hh 0)) (Nm Z ZH) := by
 refine bM.block ((bM.loop (fun m fr H => ∃ i, m = len - i ∧ i ≤ len ∧ fr = aQ (F i) ∧ H = hpL (Hh i)) (Post := Xm id Z ZH) ?_ _ _ _ ⟨0, rfl, by omega, rfl, rfl⟩).mono fun e fr H ⟨e1, e2, e3⟩ => ?_)
 ·rintro k fr H ⟨i, rfl, hi, rfl, rfl⟩
  by_cases e : i < len
  ·exact (h i e).mono fun e' fr H ⟨e1, e2, e3⟩ => by subst e1; exact ⟨len - (i + 1), by omega, i + 1, rfl, by omega, e2, e3⟩
  ·obtain rfl : i = len := by omega
   exact hz.mono fun e' fr H ⟨e1, e2, e3⟩ => by subst e1; exact ⟨rfl, e2, e3⟩
 ·subst e1; simp only [if_true]; exact ⟨rfl, e2, e3⟩
theorem bM.G7 {j sz m : Nat} {cj : Cont} {B' : Nat} {c : Code} {fr : Fr} {bl xl : List (Nat × aF)} {F : List (Nat × AV)} (hj : j < B) (hl : (aF.cells false sz m cj).kM B) (SS : B ≤ B') (h : aj P c n B' K K' fr (hpL bl) (Nm F bl)) (hB : B' ≤ K') (hv : ∀ p ∈ bl, p.2.owned = false) (hx : jy B' xl) (hd : OI bl xl = true) (ho : ED B' bl bl) :
  bM P c n B K K' (VX B j sz m cj) fr (hpL (bl ++ xl)) (Nm F (bl ++ xl)) :=
 bM.pure hj hl SS h hB hv hx hd fun e fr' H0' ⟨e1, e2, e3⟩ => ⟨bl, e3, hd, ho, e1, e2, rfl⟩
theorem bM.Vs {j sz m : Nat} {cj : Cont} {B' id : Nat} {c : Code} {fr : Fr} {bl xl : List (Nat × aF)} {F : List (Nat × AV)} (hj : j < B) (hl : (aF.cells false sz m cj).kM B) (SS : B ≤ B') (h : aj P c n B' K K' fr (hpL bl) (Xm id F bl)) (hB : B' ≤ K') (hv : ∀ p ∈ bl, p.2.owned = false) (hx : jy B' xl) (hd : OI bl xl = true) (ho : ED B' bl bl) :
  bM P c n B K K' (VX B j sz m cj) fr (hpL (bl ++ xl)) (Xm id F (bl ++ xl)) :=
 bM.pure hj hl SS h hB hv hx hd fun e fr' H0' ⟨e1, e2, e3⟩ => ⟨bl, e3, hd, ho, e1, e2, rfl⟩
theorem bM.toN {j sz m : Nat} {cj : Cont} {K'' : Nat} {c : Code} {fr : Fr} {H : T aF} {Post : Po} {F : List (Nat × AV)} {H1 : List (Nat × aF)} (σ : Nat → Nat) (hj : j < B) (hl : (aF.cells false sz m cj).kM B) (h : bM P c n B K K' (VX B j sz m cj) fr H Post)
  (hσ : ∀ g, g < B → σ g = g) (hinj : ∀ i j, i < K'' → j < K'' → σ i = σ j → i = j) (k : ∀ e fr' H', Post e fr' H' → e = .normal ∧ Ah K'' σ fr' F ∧ EF K'' σ H' H1) : bM P c n B K K'' (VX B j sz m cj) fr H (Nm F H1) :=
 bM.renG hj hl h fun e fr' H' hp => let ⟨e1, h1, h2⟩ := k e fr' H' hp; ⟨σ, F, H1, hσ, h1, h2, hinj, e1, rfl, rfl⟩
theorem aj.ac7 {K'' : Nat} {c : Code} {fr : Fr} {H : T aF} {F0 F : List (Nat × AV)} {H0 H1 : List (Nat × aF)} (σ : Nat → Nat) (h : aj P c n B K K' fr H (Nm F0 H0))
  (hσ : ∀ g, g < B → σ g = g) (hinj : ∀ i j, i < K'' → j < K'' → σ i = σ j → i = j) (h1 : Ah K'' σ (aQ F0) F) (h2 : EF K'' σ (hpL H0) H1) : aj P c n B K K'' fr H (Nm F H1) :=
 aj.renG h fun e fr' H' ⟨e1, e2, e3⟩ => by subst e1 e2 e3; exact ⟨σ, F, H1, hσ, h1, h2, hinj, rfl, rfl, rfl⟩
end Go.Sx
namespace Go.Sx
open M
structure Told (g : G) (ρ : Nat → Nat) (K0 i : Nat) (b : aF) : Prop where
 lt : i < K0
 low : b.kM K0
 of : ∃ b1, g.H.get (ρ i) = some b1 ∧ (∀ N μ hp, dw N μ hp (ρ i) b1 → dw N μ hp (ρ i) (b.ren ρ)) ∧ (b.owned = true → b1.owned = true) ∧ ∀ μ m, b.real μ m → b1.real μ m
theorem G8 {P : Program} {f : FuncId} {fn : Func} {c : Code} (hf : P.funcs[f]? = some fn) (hb : fn.body = some c) (hname : (fn.name == "runtime.NumGoroutine") = false) {args dY : List AV} {g g' : G} {p : Prop} (hcs : g'.cs → g.cs ∧ p) (hnx : g'.nx = g.nx)
  {bl iL : List (Nat × aF)} {B0 K0 K' : Nat} (ρ : Nat → Nat) {v : AV} (hA : p → ∀ N μ (cs : List Value), aI N μ args cs → aI K0 (μ.via ρ) dY cs)
  (hsub : p → ∀ i b, (hpL bl).get i = some b → Told g ρ K0 i b) (inj : p → ∀ i j b b', (hpL bl).get i = some b → (hpL bl).get j = some b' → ρ i = ρ j → i = j)
  (h : p → aj P c fn.ntmps B0 K0 K' (bJ dY 0 .e) (hpL bl) fun e fr' H' => (e = .ret ∨ e = .normal) ∧ ∃ vs gr, dA P fr' fn.results.toList ⟨H', K', [], [], True⟩ = .done vs gr ∧ gr.cs ∧ AV.ge (mG vs) v ∧ Vd H' iL) (hv : v.low 0 = true)
  (hg' : p → ∀ i b, g'.H.get i = some b → (g.H.get i = some b ∧ ∀ j bj, (hpL bl).get j = some bj → bj.owned = true → ρ j ≠ i) ∨ ∃ j bj, j < B0 ∧ ρ j = i ∧ (hpL iL).get j = some b ∧ b.bare ∧ (hpL bl).get j = some bj ∧ bj.owned = true ∧ ∀ μ m, b.real μ m → bj.real μ m) :
  bf P f args v g g' := by
 refine ⟨fun hc => (hcs hc).1, fun hc μ w bT hg ha => ?_⟩
 obtain ⟨_, hp⟩ := hcs hc
 have T := fun i b hb => hsub hp i b hb
 have real1 : ∀ {i : Nat} {b : aF}, b.real (μ.via ρ) i ↔ b.real μ (ρ i) := fun {i b} => aF.fC rfl b
 have hgc : eX K0 (μ.via ρ) w.heap (hpL bl) := by
  refine ⟨fun i b hb => (T i b hb).lt, fun i b hb => ?_, fun i b j b' hi hj ho hr hr' he => ?_⟩
  ·obtain ⟨b1, h1, h2, h3, h4⟩ := (T i b hb).of
   exact (h2 _ _ _ (hg.ok _ _ h1)).kL (T i b hb).low (fun i _ => ⟨rfl, rfl, rfl, rfl⟩) rfl rfl rfl rfl
  ·obtain ⟨b1, h1, h2, h3, h4⟩ := (T i b hi).of
   obtain ⟨b2, k1, k2, k3, k4⟩ := (T j b' hj).of
   exact inj hp i j b b' hi hj (hg.sep _ _ _ _ h1 k1 (h3 ho) (h4 _ _ (real1.1 hr)) (k4 _ _ (real1.1 hr')) he)
 have may1 : ∀ b, May (μ.via ρ) (hpL bl) b → ∃ j bj b1, (hpL bl).get j = some bj ∧ bj.owned = true ∧ g.H.get (ρ j) = some b1 ∧ b1.owned = true ∧ b1.real μ (ρ j) ∧ μ.blk (ρ j) = b := fun b ⟨j, bj, m1, m2, m3, m4⟩ => by
  obtain ⟨b1, h1, h2, h3, h4⟩ := (T j bj m1).of
  exact ⟨j, bj, b1, m1, m2, h1, h3 m2, h4 _ _ (real1.1 m3), m4⟩
 refine (aj.call hf hb hname (V := fun u H' => AV.ge u v ∧ Vd H' iL) ((h hp).mono fun e fr' H' ⟨k1, vs, gr, k2, k3, k4, k5⟩ => ⟨k1, vs, gr, k2, k3, k4, k5⟩) (μ.via ρ) w hgc (hA hp _ _ _ ha)).mono ?_
 rintro cv w' ⟨u, μ', H', ⟨hge, hG⟩, hrep, hgk, hE⟩
 -- what is told behind
 have told : ∀ j b, j < B0 → (hpL iL).get j = some b → b.bare → dw g'.nx μ w'.heap (ρ j) b := fun j b hj hb hbare => by
  obtain ⟨b0, e1, e2⟩ := hG.get _ (bC hb)
  exact (e2.ok (hgk.ok j b0 e1)).bare hbare (hE.names.blk j hj).symm (hE.names.cap j hj).symm (hE.names.sz j hj).symm (hE.names.base j hj).symm
 have keep : ∀ i b, g.H.get i = some b → (∀ j bj, (hpL bl).get j = some bj → bj.owned = true → ρ j ≠ i) → b.real μ i → ¬ May (μ.via ρ) (hpL bl) (μ.blk i) := fun i b hb hn hr hm => by
  obtain ⟨j, bj, b1, m1, m2, m3, m4, m5, m6⟩ := may1 _ hm
  exact hn j bj m1 m2 (hg.sep _ _ _ _ m3 hb m4 m5 hr m6)
 refine ⟨μ, (Rep.nO (N := 0) (μ := μ) ⟨fun g hg => by omega, fun g hg => by omega, fun g hg => by omega, fun g hg => by omega⟩ hv (hge _ _ _ hrep)).later (.refl _ _) (Nat.zero_le _), ⟨fun i b hb => ?_, fun i b hb => ?_, fun i b j b' hi hj ho hr hr' he => ?_⟩, ⟨by omega, .refl _ _, hE.os, hE.tape, hE.output, hE.size, fun b hb hn => hE.block b hb fun hm => hn ?_, fun b hb hm => ?_⟩⟩
 ·rcases hg' hp i b hb with ⟨h1, _⟩ | ⟨j, bj, h1, h2, h3, h4, h5, h6, h7⟩
  ·rw [hnx]; exact hg.lt _ _ h1
  ·obtain ⟨b1, q1, _⟩ := (T j bj h5).of
   rw [hnx, ← h2]; exact hg.lt _ _ q1
 ·rcases hg' hp i b hb with ⟨h1, hn⟩ | ⟨j, bj, h1, h2, h3, h4, h5, h6, h7⟩
  ·exact (hg.ok i b h1).later (.refl _ _) (by omega) (hg.lt _ _ h1) fun hr => hE.block _ ((hg.ok i b h1).lt_size hr) (keep i b h1 hn hr)
  ·rw [← h2]; exact told j b h1 h3 h4
 ·-- apart
  have orig : ∀ i b, g'.H.get i = some b → b.real μ i → ∃ b1, g.H.get i = some b1 ∧ b1.real μ i ∧ (b.owned = true → b1.owned = true) := fun i b hb hr => by
   rcases hg' hp i b hb with ⟨h1, hn⟩ | ⟨j, bj, h1, h2, h3, h4, h5, h6, h7⟩
   ·exact ⟨b, h1, hr, id⟩
   ·obtain ⟨b1, q1, q2, q3, q4⟩ := (T j bj h5).of
    exact ⟨b1, by rw [← h2]; exact q1, q4 _ _ (h7 _ _ hr), fun _ => q3 h6⟩
  obtain ⟨b1, e1, e2, e3⟩ := orig i b hi hr
  obtain ⟨b2, k1, k2, k3⟩ := orig j b' hj hr'
  exact hg.sep i b1 j b2 e1 k1 (e3 ho) e2 k2 he
 ·obtain ⟨j, bj, b1, m1, m2, m3, m4, m5, m6⟩ := may1 _ hm
  exact ⟨ρ j, b1, m3, m4, m5, m6⟩
 ·obtain ⟨i, x, m1, m2, m3, m4⟩ := hm
  rcases hg' hp i x m1 with ⟨h1, hn⟩ | ⟨j, bj, h1, h2, h3, h4, h5, h6, h7⟩
  ·exact ⟨i, x, h1, m2, m3, m4⟩
  ·obtain ⟨b1, q1, q2, q3, q4⟩ := (T j bj h5).of
   exact ⟨i, b1, by rw [← h2]; exact q1, q3 h6, q4 _ _ (h7 _ _ m3), m4⟩
def nmL (l : List Nat) (i : Nat) : Nat := l.getD i 0
theorem YO {l : List Nat} (h : l.Nodup) {i j : Nat} (hi : i < l.length) (hj : j < l.length) (e : nmL l i = nmL l j) : i = j := by
 unfold nmL at e
 rw [List.getD_eq_getElem?_getD, List.getD_eq_getElem?_getD, List.getElem?_eq_getElem hi, List.getElem?_eq_getElem hj] at e
 exact (List.getElem_inj h).1 e
def nodupB : List Nat → Bool
 | [] => true
 | x :: l => l.all (fun y => !Nat.beq x y) && nodupB l
theorem EH : ∀ {l : List Nat}, nodupB l = true → l.Nodup
 | [], _ => List.nodup_nil
 | x :: l, h => by
  simp only [nodupB, Bool.and_eq_true] at h
  refine List.nodup_cons.2 ⟨fun hx => ?_, EH h.2⟩
  have := List.all_eq_true.1 h.1 x hx
  simp at this
theorem LV {N K0 : Nat} {μ : MM} {ρ : Nat → Nat} {s own : Bool} {a : AA} {n i : Nat} {c : Value} (h : Rep N μ (.slc s own a n) c) (h1 : a.i = 0) (h2 : a.o = 0) (hi : i < K0) (e : ρ i = a.g) : Rep K0 (μ.via ρ) (.slc s own ⟨false, i, 0, 0⟩ n) c := by
 simp only [Rep, yH] at h ⊢
 obtain ⟨h0, A, C, e1, e2, e3, e4, e5⟩ := h
 have ad : (μ.via ρ).addr ⟨false, i, 0, 0⟩ = μ.addr a := by
  simp only [MM.addr, MM.via, e, h1, h2]
  try simp
 refine ⟨hi, A, C, e1, e2, fun hl => by rw [ad]; exact e3 hl, e4, fun ho => ?_⟩
 obtain ⟨_, _, e6⟩ := e5 ho
 refine ⟨trivial, trivial, ?_⟩
 show (A = none ∧ C = 0 ∧ n = 0) ∨ (A = some ⟨μ.blk (ρ i), 0, none⟩ ∧ C = μ.cap (ρ i))
 rw [e]; exact e6
theorem jv.ge {N : Nat} {μ : MM} {row row' : List AV} {sz : Nat} {cur : Array Value} {base : Nat} (h : jv N μ row sz cur base) (k : gy row row') : jv N μ row' sz cur base :=
 ⟨k.length.trans h.1, fun o v hv => by
  obtain ⟨u, e1, e2, e3⟩ := k.get hv
  obtain ⟨_, cv, e4, e5⟩ := h.2 o u e1
  exact ⟨e3, cv, e4, e2 _ _ _ e5⟩⟩
theorem AV.ge.hdr {s own : Bool} {a : AA} {n q : Nat} (h1 : a.g = q) (h2 : a.i = 0) (h3 : a.o = 0) : AV.ge (.slc s own a n) (.slc true own ⟨false, q, 0, 0⟩ n) := fun N μ c h => by
 simp only [Rep, yH] at h ⊢
 obtain ⟨h0, A, C, e1, e2, e3, e4, e5⟩ := h
 have ad : μ.addr ⟨false, q, 0, 0⟩ = μ.addr a := by simp only [MM.addr, h1, h2, h3]
 refine ⟨by rw [← h1]; exact h0, A, C, e1, e2, fun hl => by rw [ad]; exact e3 hl, fun h => (by cases h), fun ho => ?_⟩
 obtain ⟨_, _, e6⟩ := e5 ho
 exact ⟨trivial, trivial, by rw [← h1]; exact e6⟩
def Vt (S : List AV → M AV) (args : List AV) : M AV := (S args).andThen fun v =>
 match v with
 | .aP b => (req (b = true)).andThen fun _ => ret (.bool true)
 | .bool b => (req (b = true)).andThen fun _ => ret (.bool true)
 | _ => no
theorem LW {S : List AV → M AV} (h : ∀ args, aC (S args)) : ∀ args, aC (Vt S args) := fun args => (h args).andThen fun v => by
 cases v <;> first | exact (aC.req _).andThen fun _ => aC.ret _ | exact aC.no
theorem bf.as {P : Program} {f : FuncId} {args : List AV} {u v : AV} {g g1 g' : G} {p : Prop} (h : bf P f args u g g1) (k : Keep g1 g' p) (hv : p → AV.ge u v) : bf P f args v g g' := by
 refine ⟨fun hc => h.1 (k.2.2 hc).1, fun hc μ w bT hg ha => ?_⟩
 obtain ⟨h1, hp⟩ := k.2.2 hc
 refine (h.2 h1 μ w bT hg ha).mono fun cv w' hA => ?_
 obtain ⟨μ', r1, r2, r3⟩ := hA
 refine ⟨μ', by rw [k.2.1]; exact hv hp _ _ _ r1, by rw [k.1, k.2.1]; exact r2, ?_⟩
 exact ⟨by rw [k.2.1]; exact r3.nx, r3.names, r3.os, r3.tape, r3.output, r3.size, r3.block, fun b hb hm => r3.may b hb (by rw [← k.1]; exact hm)⟩
theorem QA {P : Program} {f : FuncId} {S : List AV → M AV} (h : ∀ args v g g', S args g = .done v g' → bf P f args v g g') : ∀ args v g g', Vt S args g = .done v g' → bf P f args v g g' := by
 intro args v g g' hd
 unfold Vt at hd
 obtain ⟨u, g1, a1, h1⟩ := au hd
 cases u with
 | aP b =>
  obtain ⟨_, g2, a2, h2⟩ := au h1
  obtain ⟨rfl, rfl⟩ := aA h2
  exact (h _ _ _ _ a1).as (dR a2) fun e => AV.ge.ac0 e
 | bool b =>
  obtain ⟨_, g2, a2, h2⟩ := au h1
  obtain ⟨rfl, rfl⟩ := aA h2
  exact (h _ _ _ _ a1).as (dR a2) fun e => by subst e; exact AV.ge.refl _
 | _ => exact (aY h1).elim
end Go.Sx
namespace Go.Sx
open M
variable {P : Program} {n B K K' : Nat}
theorem AV.ge.raw {x : Nat} (s s' : Bool) (h : cn x = x) : AV.ge (.raw s x) (.flt s' x) := fun N μ c hr => by
 simp only [Rep] at hr ⊢
 obtain ⟨rfl, h2⟩ := hr
 exact ⟨x, rfl, h, h2⟩
theorem bf.by {f : FuncId} {args : List AV} {u v : AV} {g g1 g' : G} (h : bf P f args u g g1) (e1 : g'.H = g1.H) (e2 : g'.nx = g1.nx) (k : g'.cs → g1.cs ∧ AV.ge u v) (k0 : g'.cs → g.cs) : bf P f args v g g' := by
 refine ⟨k0, fun hc μ w bT hg ha => ?_⟩
 obtain ⟨h1, hp⟩ := k hc
 refine (h.2 h1 μ w bT hg ha).mono fun cv w' hA => ?_
 obtain ⟨μ', r1, r2, r3⟩ := hA
 refine ⟨μ', by rw [e2]; exact hp _ _ _ r1, by rw [e1, e2]; exact r2, ?_⟩
 exact ⟨by rw [e2]; exact r3.nx, r3.names, r3.os, r3.tape, r3.output, r3.size, r3.block, fun b hb hm => r3.may b hb (by rw [← e1]; exact hm)⟩
theorem aj.EI {call : Calls'} (hcall : cO P call) {region : List Oper → Fr → M Fr} {loops : Loops} {rounds : Nat} {ops : Array Oper} {id id1 id2 : Nat} {l1 l2 : List Oper} {o : Oper} (hops : ops.toList = l1 ++ (o :: l2))
  (hgd : ∀ o ∈ l1, o.guard = none) (hgo : o.guard = none) (hg2 : ∀ o ∈ l2, o.guard = none)
  {cl : Call} (ho : o.op = .call cl) {FY : Operand} (Vu : cl.callee = .value FY) {d : Nat} (hdst : o.dst = some d) (hd : d < n)
  {K1 K2 : Nat} (OJ : K1 ≤ K2) {fr : Fr} {H : T aF} {ql : List (Nat × AV)} {xU : List (Nat × aF)} {path : List Bool}
  (hrun : bV K1 .normal ql xU (cu P call region loops n rounds (.region id1 l1.toArray false) fr ⟨H, K, [], path, True⟩))
  {f : FuncId} {fn : Func} {body : Code} (hf : P.funcs[f]? = some fn) (hb : fn.body = some body) (hname : (fn.name == "runtime.NumGoroutine") = false)
  {pre cap : List AV} (hfv : bZ (aQ ql) FY = .fn (.func f) pre cap) (Vp : B ≤ K) {V : AV → T aF → Prop}
  (zC : aj P body fn.ntmps K1 K1 K2 (bJ (pre ++ cl.args.toList.map (bZ (aQ ql)) ++ cap) 0 .e) (hpL xU) fun e fr' H' => (e = .ret ∨ e = .normal) ∧ ∃ vs g', dA P fr' fn.results.toList ⟨H', K2, [], [], True⟩ = .done vs g' ∧ g'.cs ∧ ∃ u, AV.ge (mG vs) u ∧ V u H')
  {Post : Po} (hpost : ∀ v H', V v H' → ∃ uY Uw NH, bV K' .normal Uw NH (cu P call region loops n rounds (.region id2 l2.toArray false) ((aQ ql).upd d (some v)) ⟨H', K2, [], uY, True⟩) ∧ Post .normal (aQ Uw) (hpL NH)) :
  aj P (.region id ops false) n B K K' fr H Post := by
 intro μ w a hg hf0 Q hQ
 refine wp_region_list ?_
 rw [hops]
 have hr := hrun.of
 generalize hres : cu P call region loops n rounds (.region id1 l1.toArray false) fr ⟨H, K, [], path, True⟩ = res at hr
 unfold jP at hr
 split at hr
 ·rename_i r g
  obtain ⟨hre, hw, hh, hnx, hcs1⟩ := hr
  have hnx := Nat.le_of_ble_eq_true hnx
  unfold cu at hres
  obtain ⟨xP, g1, b1, b2⟩ := au hres
  obtain ⟨rfl, rfl⟩ := aA b2
  have b1' : kF P call n l1 l1 fr ⟨H, K, [], path, True⟩ = .done xP g1 := by rw [← rM]; simpa using b1
  obtain ⟨_, hs⟩ := Aj hcall (ops := ops) (Q := Q) (l2 := o :: l2) l1 _ _ _ _ hgd b1'
  refine hs hcs1 μ w a hg hf0 fun a1 w1 hk => ?_
  obtain ⟨μ1, k1, k2, k3, k4⟩ := hk
  have sub : ∀ i b, (hpL xU).get i = some b → g1.H.get i = some b := fun i b hb => hh.get (bC hb)
  have k1' : eX K1 μ1 w1.heap (hpL xU) := k1.up hnx sub
  have x1 : mg B H μ w (hpL xU) μ1 w1 := ⟨k2.names.mono Vp, k2.os, k2.tape, k2.output, k2.size, k2.block, fun b hb hm => k2.may b hb (by
   obtain ⟨i, x, m1, m2, m3, m4⟩ := hm
   exact ⟨i, x, sub i x m1, m2, m3, m4⟩)⟩
  have Uu : dM K1 μ1 (aQ ql) a1.tmps n := ⟨k3.size, fun t v ht => (k3.val t v (hw.get (iK ht))).later (.refl _ _) hnx⟩
  have hKK : K ≤ K1 := Nat.le_trans k2.nx hnx
  refine wpList_plain hgo fun KK Vo => ?_
  -- the call
  have hxv := Uu.eval FY
  rw [hfv] at hxv
  simp only [Rep] at hxv
  obtain ⟨fs, cs, e, h1, h2⟩ := hxv
  have hargs : aI K1 μ1 (pre ++ cl.args.toList.map (bZ (aQ ql)) ++ cap) ((fs ++ cl.args.map a1.eval) ++ cs).toList := by
   simp only [Array.toList_append]
   exact (h1.append (Uu.KO _)).append h2
  have hcf := aj.call hf hb hname (V := fun v H' => ∃ u, AV.ge v u ∧ V u H') zC μ1 w1 k1' hargs
  have OL : (execOp a1.eval o).run P w1 = (callFunc f ((fs ++ cl.args.map a1.eval) ++ cs)).run P w1 := by
   simp only [execOp, ho, resolve, Vu, e, Deferred.ofValue, Sem.run_bind]
   rfl
  have fin : ∀ c w', (∃ v μ' H', (∃ u, AV.ge v u ∧ V u H') ∧ Rep K2 μ' v c ∧ eX K2 μ' w'.heap H' ∧ mg K1 (hpL xU) μ1 w1 H' μ' w') → KK (a1.put o.dst c) w' := by
   rintro c w' ⟨v0, μ2, H2, ⟨v, hge, hV⟩, r1, r2, r3⟩
   replace r1 := hge _ _ _ r1
   refine Vo _ _ ?_
   obtain ⟨uY, Uw, NH, hp2, hP⟩ := hpost v H2 hV
   have hr2 := hp2.of
   generalize hres2 : cu P call region loops n rounds (.region id2 l2.toArray false) ((aQ ql).upd d (some v)) ⟨H2, K2, [], uY, True⟩ = res2 at hr2
   unfold jP at hr2
   split at hr2
   ·rename_i r' g'
    obtain ⟨ahV, hw', hh', Jm, hcs2⟩ := hr2
    have Jm := Nat.le_of_ble_eq_true Jm
    unfold cu at hres2
    obtain ⟨fr3, g3, b3, b4⟩ := au hres2
    obtain ⟨rfl, rfl⟩ := aA b4
    have b3' : kF P call n l2 l2 ((aQ ql).upd d (some v)) ⟨H2, K2, [], uY, True⟩ = .done fr3 g3 := by rw [← rM]; simpa using b3
    obtain ⟨_, hs2⟩ := Aj hcall (ops := ops) (Q := Q) (l2 := []) l2 _ _ _ _ hg2 b3'
    rw [List.append_nil] at hs2
    have f1 : dM K2 μ2 ((aQ ql).upd d (some v)) (a1.put o.dst c).tmps n := by
     rw [hdst]
     exact (Uu.later r3.names OJ).upd hd r1
    refine hs2 hcs2 μ2 w' _ r2 f1 fun a3 w3 hk3 => ?_
    obtain ⟨μ3, q1, q2, q3, q4⟩ := hk3
    have Vx : ∀ i b, (hpL NH).get i = some b → g3.H.get i = some b := fun i b hb => hh'.get (bC hb)
    refine wpList_nil (hQ .normal _ _ _ _ hP ⟨μ3, q1.up Jm Vx, ?_, ⟨q3.size, fun t v ht => (q3.val t v (hw'.get (iK ht))).later (.refl _ _) Jm⟩, ?_⟩)
    ·have x2 : mg B (hpL xU) μ1 w1 H2 μ2 w' := ⟨r3.names.mono (Nat.le_trans Vp hKK), r3.os, r3.tape, r3.output, r3.size, r3.block, r3.may⟩
     have x3 : mg B H2 μ2 w' (hpL NH) μ3 w3 := ⟨q2.names.mono (Nat.le_trans Vp (Nat.le_trans hKK OJ)), q2.os, q2.tape, q2.output, q2.size, q2.block, fun b hb hm => q2.may b hb (by
      obtain ⟨i, x, m1, m2, m3, m4⟩ := hm
      exact ⟨i, x, Vx i x m1, m2, m3, m4⟩)⟩
     exact (x1.trans x2).trans x3
    ·rw [q4, Act.put_defers]; exact k4
   ·exact hr2.elim
  unfold Oper.wp
  rw [OL]
  rcases hcf with ⟨c, w', e, ha⟩ | ⟨f', args', w', e, DK⟩
  ·rw [e]; exact fin c w' ha
  ·rw [e, Oper.upon_enter]
   refine DK.mono ?_
   rintro e1 w2 ⟨c, rfl, ha⟩
   exact fin c w2 ha
 ·exact hr.elim
def LtG (g : G) : Prop := ∀ i b, g.H.get i = some b → i < g.nx
theorem sJ {f : FuncId} {fn : Func} {c : Code} (hf : P.funcs[f]? = some fn) (hb : fn.body = some c) (hname : (fn.name == "runtime.NumGoroutine") = false) {args dY : List AV} {g g' : G} {p : Prop} (hcs : g'.cs → g.cs ∧ p)
  {bl iL : List (Nat × aF)} {K0 K' : Nat} (ρ κ : Nat → Nat) {nms : List Nat} (hnx : g'.nx = g.nx + nms.length) {v : AV} (S : Nat → Prop)
  (hA : p → ∀ N μ (cs : List Value), aI N μ args cs → aI K0 (μ.via ρ) dY cs)
  (hsub : p → ∀ i b, (hpL bl).get i = some b → Told g ρ K0 i b) (inj : p → ∀ i j b b', (hpL bl).get i = some b → (hpL bl).get j = some b' → ρ i = ρ j → i = j)
  (hnew : ∀ nm ∈ nms, K0 ≤ nm) (hnd : nms.Nodup) (hκ : p → LtG g → ∀ j, j < nms.length → κ (g.nx + j) = nms.getD j 0)
  (hS : p → LtG g → ∀ i, S i → i < g'.nx ∧ (i < g.nx → κ i < K0 ∧ ρ (κ i) = i))
  (h : p → LtG g → aj P c fn.ntmps K0 K0 K' (bJ dY 0 .e) (hpL bl) fun e fr' H' => (e = .ret ∨ e = .normal) ∧ ∃ vs gr, dA P fr' fn.results.toList ⟨H', K', [], [], True⟩ = .done vs gr ∧ gr.cs ∧ AV.ge (mG vs) (v.ren κ) ∧ ∀ q ∈ iL, ∃ b, H'.get (κ q.1) = some b ∧ dN b (q.2.ren κ))
  (hv : p → LtG g → v.low g'.nx = true) (hvS : p → LtG g → v.ji S)
  (SV : p → LtG g → ∀ q ∈ iL, S q.1 ∧ q.2.ji S ∧ q.2.kM g'.nx ∧ (q.1 < g.nx → ∃ bj, (hpL bl).get (κ q.1) = some bj ∧ bj.owned = true ∧ ∀ μ m, q.2.real μ m → bj.real μ m) ∧ (g.nx ≤ q.1 → q.2.owned = true))
  (hg' : p → LtG g → ∀ i b, g'.H.get i = some b → (g.H.get i = some b ∧ ∀ j bj, (hpL bl).get j = some bj → bj.owned = true → ρ j ≠ i) ∨ (i, b) ∈ iL) :
  bf P f args v g g' := by
 refine ⟨fun hc => (hcs hc).1, fun hc μ w bT hg ha => ?_⟩
 obtain ⟨_, hp⟩ := hcs hc
 have T := fun i b hb => hsub hp i b hb
 have hL : LtG g := fun i b hb => hg.lt i b hb
 have real1 : ∀ {i : Nat} {b : aF}, b.real (μ.via ρ) i ↔ b.real μ (ρ i) := fun {i b} => aF.fC rfl b
 have hgc : eX K0 (μ.via ρ) w.heap (hpL bl) := by
  refine ⟨fun i b hb => (T i b hb).lt, fun i b hb => ?_, fun i b j b' hi hj ho hr hr' he => ?_⟩
  ·obtain ⟨b1, h1, h2, h3, h4⟩ := (T i b hb).of
   exact (h2 _ _ _ (hg.ok _ _ h1)).kL (T i b hb).low (fun i _ => ⟨rfl, rfl, rfl, rfl⟩) rfl rfl rfl rfl
  ·obtain ⟨b1, h1, h2, h3, h4⟩ := (T i b hi).of
   obtain ⟨b2, k1, k2, k3, k4⟩ := (T j b' hj).of
   exact inj hp i j b b' hi hj (hg.sep _ _ _ _ h1 k1 (h3 ho) (h4 _ _ (real1.1 hr)) (k4 _ _ (real1.1 hr')) he)
 have may1 : ∀ b, May (μ.via ρ) (hpL bl) b → ∃ j bj b1, (hpL bl).get j = some bj ∧ bj.owned = true ∧ g.H.get (ρ j) = some b1 ∧ b1.owned = true ∧ b1.real μ (ρ j) ∧ μ.blk (ρ j) = b := fun b ⟨j, bj, m1, m2, m3, m4⟩ => by
  obtain ⟨b1, h1, h2, h3, h4⟩ := (T j bj m1).of
  exact ⟨j, bj, b1, m1, m2, h1, h3 m2, h4 _ _ (real1.1 m3), m4⟩
 refine (aj.call hf hb hname (V := fun u H' => AV.ge u (v.ren κ) ∧ ∀ q ∈ iL, ∃ b, H'.get (κ q.1) = some b ∧ dN b (q.2.ren κ)) ((h hp hL).mono fun e fr' H' ⟨k1, vs, gr, k2, k3, k4, k5⟩ => ⟨k1, vs, gr, k2, k3, k4, k5⟩) (μ.via ρ) w hgc (hA hp _ _ _ ha)).mono ?_
 rintro cv w' ⟨u, μ', H', ⟨hge, hG⟩, hrep, hgk, hE⟩
 -- the names behind it
 have at' : ∀ i, S i → Jb (μ'.via κ) (fO μ μ' g.nx nms) i := fun i hi => by
  obtain ⟨q1, q2⟩ := hS hp hL i hi
  by_cases hlt : i < g.nx
  ·obtain ⟨q3, q4⟩ := q2 hlt
   have hu : MM.upto g.nx μ (fO μ μ' g.nx nms) := eP
   refine ⟨?_, ?_, ?_, ?_⟩
   ·rw [hu.blk i hlt]; show _ = μ'.blk (κ i); rw [hE.names.blk _ q3]; show _ = μ.blk (ρ (κ i)); rw [q4]
   ·rw [hu.cap i hlt]; show _ = μ'.cap (κ i); rw [hE.names.cap _ q3]; show _ = μ.cap (ρ (κ i)); rw [q4]
   ·rw [hu.sz i hlt]; show _ = μ'.sz (κ i); rw [hE.names.sz _ q3]; show _ = μ.sz (ρ (κ i)); rw [q4]
   ·rw [hu.base i hlt]; show _ = μ'.base (κ i); rw [hE.names.base _ q3]; show _ = μ.base (ρ (κ i)); rw [q4]
  ·obtain ⟨j, rfl⟩ := Nat.exists_eq_add_of_le (Nat.le_of_not_lt hlt)
   have e := hκ hp hL j (by omega)
   have hge : ¬ g.nx + j < g.nx := by omega
   refine ⟨?_, ?_, ?_, ?_⟩ <;> simp only [fO, if_neg hge, MM.via, e, show g.nx + j - g.nx = j by omega]
 have atS : ∀ i, S i → i < g'.nx → i < g'.nx ∧ Jb (μ'.via κ) (fO μ μ' g.nx nms) i := fun i hi hl => ⟨hl, at' i hi⟩
 -- what is told behind
 have told : ∀ i b, (i, b) ∈ iL → dw g'.nx (fO μ μ' g.nx nms) w'.heap i b ∧ ∃ b0, H'.get (κ i) = some b0 ∧ b0.owned = b.owned ∧ (b.real (fO μ μ' g.nx nms) i ↔ b0.real μ' (κ i)) ∧ (fO μ μ' g.nx nms).blk i = μ'.blk (κ i) := fun i b hm => by
  obtain ⟨b0, e1, e2⟩ := hG _ hm
  obtain ⟨s1, s2, s3, s4, s5⟩ := SV hp hL _ hm
  have hat := at' i s1
  have r1 : dw g'.nx (μ'.via κ) w'.heap i b := (e2.ok (hgk.ok _ _ e1)).kL s3 (fun i _ => ⟨rfl, rfl, rfl, rfl⟩) rfl rfl rfl rfl
  refine ⟨dw.on atS hat s2 (fun _ => rfl) r1, b0, e1, by rw [e2.owned, aF.mQ], ?_, hat.blk⟩
  rw [aF.nJ hat, e2.real, aF.kP]
  exact aF.fC rfl b
 have hu : MM.upto g.nx μ (fO μ μ' g.nx nms) := eP
 have keep : ∀ i b, g.H.get i = some b → (∀ j bj, (hpL bl).get j = some bj → bj.owned = true → ρ j ≠ i) → b.real μ i → ¬ May (μ.via ρ) (hpL bl) (μ.blk i) := fun i b hb hn hr hm => by
  obtain ⟨j, bj, b1, m1, m2, m3, m4, m5, m6⟩ := may1 _ hm
  exact hn j bj m1 m2 (hg.sep _ _ _ _ m3 hb m4 m5 hr m6)
 refine ⟨fO μ μ' g.nx nms, ((hge _ _ _ hrep).kL (hv hp hL)).on atS (hvS hp hL), ⟨fun i b hb => ?_, fun i b hb => ?_, fun i b j b' hi hj ho hr hr' he => ?_⟩, ⟨by omega, hu, hE.os, hE.tape, hE.output, hE.size, fun b hb hn => hE.block b hb fun hm => hn ?_, fun B hb hm => ?_⟩⟩
 ·rcases hg' hp hL i b hb with ⟨h1, _⟩ | hm
  ·have := hg.lt _ _ h1; omega
  ·exact (hS hp hL i (SV hp hL _ hm).1).1
 ·rcases hg' hp hL i b hb with ⟨h1, hn⟩ | hm
  ·exact (hg.ok i b h1).later hu (by omega) (hg.lt _ _ h1) fun hr => hE.block _ ((hg.ok i b h1).lt_size hr) (keep i b h1 hn hr)
  ·exact (told i b hm).1
 ·-- apart
  have high : ∀ i b, (i, b) ∈ iL → b.real (fO μ μ' g.nx nms) i → (fO μ μ' g.nx nms).blk i < w.heap.size → b.owned = true → May (μ.via ρ) (hpL bl) ((fO μ μ' g.nx nms).blk i) := fun i b hm hr hlt ho => by
   obtain ⟨_, b0, e1, e2, e3, e4⟩ := told i b hm
   rw [e4] at hlt ⊢
   exact hE.may _ hlt ⟨κ i, b0, e1, e2.trans ho, e3.1 hr, rfl⟩
  have mixed : ∀ i b j b', g.H.get i = some b → (∀ j bj, (hpL bl).get j = some bj → bj.owned = true → ρ j ≠ i) → b.real (fO μ μ' g.nx nms) i → (j, b') ∈ iL → b'.real (fO μ μ' g.nx nms) j → (b'.owned = true ∨ j < g.nx) → (b.owned = true ∨ b'.owned = true) → (fO μ μ' g.nx nms).blk i = (fO μ μ' g.nx nms).blk j → False := fun i b j b' h1 hn hr hm hr' hoj hob he => by
   have hlt := hg.lt _ _ h1
   rw [aF.bH hu hlt] at hr
   have hsz := (hg.ok _ _ h1).lt_size hr
   rw [hu.blk i hlt] at he
   by_cases hj : j < g.nx
   ·obtain ⟨s1, s2, s3, s4, s5⟩ := SV hp hL _ hm
    obtain ⟨bj, q1, q2, q3⟩ := s4 hj
    obtain ⟨_, q4⟩ := hS hp hL j s1
    obtain ⟨_, q5⟩ := q4 hj
    obtain ⟨b1, t1, t2, t3, t4⟩ := (T _ _ q1).of
    rw [q5] at t1
    rw [hu.blk j hj] at he
    rw [aF.bH hu hj] at hr'
    exact hn _ _ q1 q2 (q5.trans (hg.sep _ _ _ _ t1 h1 (t3 q2) (t4 μ j (q3 μ j hr')) hr he.symm))
   ·have ho : b'.owned = true := hoj.resolve_right hj
    have := high j b' hm hr' (by rw [← he]; exact hsz) ho
    rw [← he] at this
    exact keep i b h1 hn hr this
  rcases hg' hp hL i b hi with ⟨h1, hn⟩ | hm
  ·rcases hg' hp hL j b' hj with ⟨h2, hn'⟩ | hm'
   ·have l1 := hg.lt _ _ h1
    have l2 := hg.lt _ _ h2
    rw [aF.bH hu l1] at hr
    rw [aF.bH hu l2] at hr'
    rw [hu.blk i l1, hu.blk j l2] at he
    exact hg.sep _ _ _ _ h1 h2 ho hr hr' he
   ·exact (mixed i b j b' h1 hn hr hm' hr' (by
     by_cases q : j < g.nx
     ·exact .inr q
     ·exact .inl ((SV hp hL _ hm').2.2.2.2 (by omega))) (.inl ho) he).elim
  ·rcases hg' hp hL j b' hj with ⟨h2, hn'⟩ | hm'
   ·exact (mixed j b' i b h2 hn' hr' hm hr (.inl ho) (.inr ho) he.symm).elim
   ·obtain ⟨_, b0, e1, e2, e3, e4⟩ := told i b hm
    obtain ⟨_, b1, l1, l2, l3, l4⟩ := told j b' hm'
    have e : κ i = κ j := hgk.sep _ _ _ _ e1 l1 (e2.trans ho) (e3.1 hr) (l3.1 hr') (by rw [← e4, ← l4]; exact he)
    obtain ⟨p1, p2⟩ := hS hp hL i (SV hp hL _ hm).1
    obtain ⟨p3, p4⟩ := hS hp hL j (SV hp hL _ hm').1
    by_cases c1 : i < g.nx
    ·by_cases c2 : j < g.nx
     ·rw [← (p2 c1).2, ← (p4 c2).2, e]
     ·obtain ⟨y, rfl⟩ := Nat.exists_eq_add_of_le (Nat.le_of_not_lt c2)
      have hy : y < nms.length := by omega
      have k1 := hκ hp hL y hy
      have k2 := hnew (nms.getD y 0) (by rw [List.getD_eq_getElem?_getD, List.getElem?_eq_getElem hy]; exact List.getElem_mem hy)
      have := (p2 c1).1
      omega
    ·obtain ⟨x, rfl⟩ := Nat.exists_eq_add_of_le (Nat.le_of_not_lt c1)
     have hx : x < nms.length := by omega
     have k1 := hκ hp hL x hx
     have k2 := hnew (nms.getD x 0) (by rw [List.getD_eq_getElem?_getD, List.getElem?_eq_getElem hx]; exact List.getElem_mem hx)
     by_cases c2 : j < g.nx
     ·have := (p4 c2).1
      omega
     ·obtain ⟨y, rfl⟩ := Nat.exists_eq_add_of_le (Nat.le_of_not_lt c2)
      have hy : y < nms.length := by omega
      have k3 := hκ hp hL y hy
      have : nms.getD x 0 = nms.getD y 0 := by omega
      rw [List.getD_eq_getElem?_getD, List.getD_eq_getElem?_getD, List.getElem?_eq_getElem hx, List.getElem?_eq_getElem hy] at this
      have := (List.getElem_inj hnd).1 this
      omega
 ·obtain ⟨j, bj, b1, m1, m2, m3, m4, m5, m6⟩ := may1 _ hm
  exact ⟨ρ j, b1, m3, m4, m5, m6⟩
 ·obtain ⟨i, x, m1, m2, m3, m4⟩ := hm
  rcases hg' hp hL i x m1 with ⟨h1, hn⟩ | hmm
  ·have l1 := hg.lt _ _ h1
   exact ⟨i, x, h1, m2, (aF.bH hu l1 x).1 m3, by rw [← hu.blk i l1]; exact m4⟩
  ·obtain ⟨_, b0, e1, e2, e3, e4⟩ := told i x hmm
   obtain ⟨j, bj, b1, q1, q2, q3, q4, q5, q6⟩ := may1 _ (hE.may B hb ⟨κ i, b0, e1, e2.trans m2, e3.1 m3, by rw [← e4]; exact m4⟩)
   exact ⟨ρ j, b1, q3, q4, q5, q6⟩
def sK (m : Nat) : Code → Code
 | .region i ops d => .region i (ops.toList.take m).toArray d
 | c => c
def CG (m : Nat) : Code → Code
 | .region i ops d => .region i (ops.toList.drop m).toArray d
 | c => c
def iy : Code → List Oper
 | .region _ ops _ => ops.toList
 | _ => []
def xg : Code → Nat
 | .region i _ _ => i
 | _ => 0
end Go.Sx
namespace Go.Sx
open M
variable {P : Program} {n B K K' : Nat}
theorem aj.EJ {c : Code} {fr : Fr} {H : T aF} {Post : Po} (q dL : Nat) (rows : Nat → List AV) {own : Bool} {c0 : Cont} {sz1 : Nat} (o0 : Nat) (l : List AV) (ht : H.get q = some (.cells own sz1 1 c0)) (h0 : c0.row 0 = l) (hl : l[o0]? = some .aX) (hpos : 0 < dL) (hB : B ≤ K)
  (h : aj P c n B (K + 1) K' fr ((H.upd K (some (.cells true dL 0 (.fn rows)))).upd q (some (.cells own sz1 1 (.fn fun _ => l.set o0 (qW K))))) Post) : aj P c n B K K' fr H Post := by
 intro μ w a hg hf Q hQ
 have hu := MM.Qy μ K dL
 have hqK := hg.lt _ _ ht
 have case : ∀ i b, ((H.upd K (some (.cells true dL 0 (.fn rows)))).upd q (some (.cells own sz1 1 (.fn fun _ => l.set o0 (qW K))))).get i = some b → (i = K ∧ b = .cells true dL 0 (.fn rows)) ∨ ∃ b0, i < K ∧ H.get i = some b0 ∧ b0.owned = b.owned ∧ (∀ μ m, b.real μ m ↔ b0.real μ m) ∧ (b = b0 ∨ (i = q ∧ b = .cells own sz1 1 (.fn fun _ => l.set o0 (qW K)))) := fun i b hb => by
  rw [T.bP] at hb
  split at hb
  ·cases hb; rename_i e; subst e
   exact .inr ⟨_, hqK, ht, rfl, fun μ m => Iff.rfl, .inr ⟨rfl, rfl⟩⟩
  ·rw [T.bP] at hb
   split at hb
   ·cases hb; exact .inl ⟨‹_›, rfl⟩
   ·exact .inr ⟨b, hg.lt _ _ hb, hb, rfl, fun μ m => Iff.rfl, .inl rfl⟩
 have unreal : ∀ b, b = aF.cells true dL 0 (.fn rows) → ¬ b.real (μ.at K dL) K := by
  rintro b rfl hr
  simp [aF.real, MM.at] at hr
 have may : ∀ b, May (μ.at K dL) ((H.upd K (some (.cells true dL 0 (.fn rows)))).upd q (some (.cells own sz1 1 (.fn fun _ => l.set o0 (qW K))))) b → May μ H b := by
  rintro b ⟨i, x, m1, m2, m3, m4⟩
  rcases case i x m1 with ⟨rfl, rfl⟩ | ⟨b0, hi, hx, e1, e2, _⟩
  ·exact (unreal _ rfl m3).elim
  ·rw [aF.bH hu hi] at m3
   rw [hu.blk i hi] at m4
   exact ⟨i, b0, hx, e1.trans m2, (e2 _ _).1 m3, m4⟩
 have hE : mg B H μ w ((H.upd K (some (.cells true dL 0 (.fn rows)))).upd q (some (.cells own sz1 1 (.fn fun _ => l.set o0 (qW K))))) (μ.at K dL) w := ⟨hu.mono hB, rfl, rfl, rfl, Nat.le_refl _, fun b _ _ => rfl, fun b _ hm => may b hm⟩
 refine h (μ.at K dL) w a ⟨fun i b hb => ?_, fun i b hb => ?_, fun i b j b' hi hj ho hr hr' he => ?_⟩ ⟨hf.size, fun t' v hv => (hf.val t' v hv).later hu (by omega)⟩ Q fun e fr' H' a' w' hp ha => hQ e fr' H' a' w' hp (AtB.trans hE rfl ha)
 ·rcases case i b hb with ⟨rfl, _⟩ | ⟨b0, hi, _⟩ <;> omega
 ·rcases case i b hb with ⟨rfl, rfl⟩ | ⟨b0, hi, hx, e1, e2, rfl | ⟨rfl, rfl⟩⟩
  ·refine ⟨by simp [MM.at], hpos, fun hr => ?_⟩
   simp [MM.at] at hr
  ·exact (hg.ok i b hx).later hu (by omega) hi fun _ => rfl
  ·have ok := (hg.ok _ _ ht).later hu (Nat.le_succ K) hqK (fun _ => rfl)
   refine ⟨ok.1, ok.2.1, fun hr => ?_⟩
   obtain ⟨cur, ty, fz, k1, k2, k3, k4⟩ := ok.2.2 hr
   refine ⟨cur, ty, fz, k1, k2, k3, fun j hj => ?_⟩
   obtain rfl : j = 0 := by omega
   have k5 := k4 0 (by omega)
   rw [h0] at k5
   refine ⟨(List.length_set (as := l) (i := o0) (a := qW K)).trans k5.1, fun o v hv => ?_⟩
   have hv : (l.set o0 (qW K))[o]? = some v := hv
   by_cases q : o = o0
   ·subst q
    have hlt : o < l.length := (List.getElem?_eq_some_iff.1 hl).1
    rw [List.getElem?_set_self hlt] at hv
    cases hv
    obtain ⟨_, cv, k6, k7⟩ := k5.2 o .aX hl
    refine ⟨rfl, cv, k6, ?_⟩
    simp only [Rep] at k7
    rw [k7]
    simp only [qW, Rep]
    exact ⟨by omega, none, 0, rfl, Nat.le_refl _, fun h => absurd h (by omega), fun h => (by cases h), fun _ => ⟨rfl, rfl, .inl ⟨rfl, rfl, rfl⟩⟩⟩
   ·rw [List.getElem?_set_ne (by omega)] at hv
    exact k5.2 o v hv
 ·rcases case i b hi with ⟨rfl, rfl⟩ | ⟨b0, hi1, hx, e1, e2, _⟩
  ·exact (unreal _ rfl hr).elim
  ·rcases case j b' hj with ⟨rfl, rfl⟩ | ⟨b1, hj1, hy, e3, e4, _⟩
   ·exact (unreal _ rfl hr').elim
   ·rw [aF.bH hu hi1] at hr
    rw [aF.bH hu hj1] at hr'
    rw [hu.blk i hi1, hu.blk j hj1] at he
    exact hg.sep _ _ _ _ hx hy (e1.trans ho) ((e2 _ _).1 hr) ((e4 _ _).1 hr') he
theorem aj.ac8 {call : Calls'} (hcall : cO P call) {region : List Oper → Fr → M Fr} {loops : Loops} {rounds : Nat} {ops : Array Oper} {id id1 id2 : Nat} {l1 l2 : List Oper} {o : Oper} (hops : ops.toList = l1 ++ (o :: l2))
  (hgd : ∀ o ∈ l1, o.guard = none) (hgo : o.guard = none) (hg2 : ∀ o ∈ l2, o.guard = none)
  {cl : Call} (ho : o.op = .call cl) {FY : Operand} (Vu : cl.callee = .value FY) {d : Nat} (hdst : o.dst = some d) (hd : d < n)
  {K1 K2 : Nat} (OJ : K1 ≤ K2) {fr : Fr} {H : T aF} {ql : List (Nat × AV)} {xU : List (Nat × aF)} {path : List Bool}
  (hrun : bV K1 .normal ql xU (cu P call region loops n rounds (.region id1 l1.toArray false) fr ⟨H, K, [], path, True⟩))
  {f : FuncId} {fn : Func} {body : Code} (hf : P.funcs[f]? = some fn) (hb : fn.body = some body) (hname : (fn.name == "runtime.NumGoroutine") = false)
  {pre cap : List AV} (hfv : bZ (aQ ql) FY = .fn (.func f) pre cap) {B0 : Nat} (hB0 : B ≤ B0) (Vp : B0 ≤ K1) (SS : B ≤ K) {Vy : List (Nat × AV)} (hk1 : Vy.all (fun p => p.2.low B0) = true) (hk2 : Ge (aQ ql) Vy) {V : AV → T aF → Prop}
  (zC : aj P body fn.ntmps B0 K1 K2 (bJ (pre ++ cl.args.toList.map (bZ (aQ ql)) ++ cap) 0 .e) (hpL xU) fun e fr' H' => (e = .ret ∨ e = .normal) ∧ ∃ vs g', dA P fr' fn.results.toList ⟨H', K2, [], [], True⟩ = .done vs g' ∧ g'.cs ∧ ∃ u, AV.ge (mG vs) u ∧ V u H')
  {Post : Po} (hpost : ∀ v H', V v H' → ∃ uY Uw NH, bV K' .normal Uw NH (cu P call region loops n rounds (.region id2 l2.toArray false) ((aQ Vy).upd d (some v)) ⟨H', K2, [], uY, True⟩) ∧ Post .normal (aQ Uw) (hpL NH)) :
  aj P (.region id ops false) n B K K' fr H Post := by
 intro μ w a hg hf0 Q hQ
 refine wp_region_list ?_
 rw [hops]
 have hr := hrun.of
 generalize hres : cu P call region loops n rounds (.region id1 l1.toArray false) fr ⟨H, K, [], path, True⟩ = res at hr
 unfold jP at hr
 split at hr
 ·rename_i r g
  obtain ⟨hre, hw, hh, hnx, hcs1⟩ := hr
  have hnx := Nat.le_of_ble_eq_true hnx
  unfold cu at hres
  obtain ⟨xP, g1, b1, b2⟩ := au hres
  obtain ⟨rfl, rfl⟩ := aA b2
  have b1' : kF P call n l1 l1 fr ⟨H, K, [], path, True⟩ = .done xP g1 := by rw [← rM]; simpa using b1
  obtain ⟨_, hs⟩ := Aj hcall (ops := ops) (Q := Q) (l2 := o :: l2) l1 _ _ _ _ hgd b1'
  refine hs hcs1 μ w a hg hf0 fun a1 w1 hk => ?_
  obtain ⟨μ1, k1, k2, k3, k4⟩ := hk
  have sub : ∀ i b, (hpL xU).get i = some b → g1.H.get i = some b := fun i b hb => hh.get (bC hb)
  have k1' : eX K1 μ1 w1.heap (hpL xU) := k1.up hnx sub
  have x1 : mg B H μ w (hpL xU) μ1 w1 := ⟨k2.names.mono SS, k2.os, k2.tape, k2.output, k2.size, k2.block, fun b hb hm => k2.may b hb (by
   obtain ⟨i, x, m1, m2, m3, m4⟩ := hm
   exact ⟨i, x, sub i x m1, m2, m3, m4⟩)⟩
  have Uu : dM K1 μ1 (aQ ql) a1.tmps n := ⟨k3.size, fun t v ht => (k3.val t v (hw.get (iK ht))).later (.refl _ _) hnx⟩
  have hKK : K ≤ K1 := Nat.le_trans k2.nx hnx
  refine wpList_plain hgo fun KK Vo => ?_
  -- the call
  have hxv := Uu.eval FY
  rw [hfv] at hxv
  simp only [Rep] at hxv
  obtain ⟨fs, cs, e, h1, h2⟩ := hxv
  have hargs : aI K1 μ1 (pre ++ cl.args.toList.map (bZ (aQ ql)) ++ cap) ((fs ++ cl.args.map a1.eval) ++ cs).toList := by
   simp only [Array.toList_append]
   exact (h1.append (Uu.KO _)).append h2
  have hcf := aj.call hf hb hname (V := fun v H' => ∃ u, AV.ge v u ∧ V u H') zC μ1 w1 k1' hargs
  have OL : (execOp a1.eval o).run P w1 = (callFunc f ((fs ++ cl.args.map a1.eval) ++ cs)).run P w1 := by
   simp only [execOp, ho, resolve, Vu, e, Deferred.ofValue, Sem.run_bind]
   rfl
  have fin : ∀ c w', (∃ v μ' H', (∃ u, AV.ge v u ∧ V u H') ∧ Rep K2 μ' v c ∧ eX K2 μ' w'.heap H' ∧ mg B0 (hpL xU) μ1 w1 H' μ' w') → KK (a1.put o.dst c) w' := by
   rintro c w' ⟨v0, μ2, H2, ⟨v, hge, hV⟩, r1, r2, r3⟩
   replace r1 := hge _ _ _ r1
   refine Vo _ _ ?_
   obtain ⟨uY, Uw, NH, hp2, hP⟩ := hpost v H2 hV
   have hr2 := hp2.of
   generalize hres2 : cu P call region loops n rounds (.region id2 l2.toArray false) ((aQ Vy).upd d (some v)) ⟨H2, K2, [], uY, True⟩ = res2 at hr2
   unfold jP at hr2
   split at hr2
   ·rename_i r' g'
    obtain ⟨ahV, hw', hh', Jm, hcs2⟩ := hr2
    have Jm := Nat.le_of_ble_eq_true Jm
    unfold cu at hres2
    obtain ⟨fr3, g3, b3, b4⟩ := au hres2
    obtain ⟨rfl, rfl⟩ := aA b4
    have b3' : kF P call n l2 l2 ((aQ Vy).upd d (some v)) ⟨H2, K2, [], uY, True⟩ = .done fr3 g3 := by rw [← rM]; simpa using b3
    obtain ⟨_, hs2⟩ := Aj hcall (ops := ops) (Q := Q) (l2 := []) l2 _ _ _ _ hg2 b3'
    rw [List.append_nil] at hs2
    have f1 : dM K2 μ2 ((aQ Vy).upd d (some v)) (a1.put o.dst c).tmps n := by
     rw [hdst]
     have hs : MM.upto B0 μ2 μ1 := ⟨fun g hg => (r3.names.blk g hg).symm, fun g hg => (r3.names.cap g hg).symm, fun g hg => (r3.names.sz g hg).symm, fun g hg => (r3.names.base g hg).symm⟩
     have kk : dM K2 μ2 (aQ Vy) a1.tmps n := ⟨Uu.size, fun t v ht => by
      have hm := iK ht
      obtain ⟨u, hu1, hu2⟩ := hk2.get _ hm
      exact (Rep.nO hs (List.all_eq_true.1 hk1 _ hm) (hu2 _ _ _ (Uu.val t u hu1))).later (.refl _ _) (Nat.le_trans Vp OJ)⟩
     exact kk.upd hd r1
    refine hs2 hcs2 μ2 w' _ r2 f1 fun a3 w3 hk3 => ?_
    obtain ⟨μ3, q1, q2, q3, q4⟩ := hk3
    have Vx : ∀ i b, (hpL NH).get i = some b → g3.H.get i = some b := fun i b hb => hh'.get (bC hb)
    refine wpList_nil (hQ .normal _ _ _ _ hP ⟨μ3, q1.up Jm Vx, ?_, ⟨q3.size, fun t v ht => (q3.val t v (hw'.get (iK ht))).later (.refl _ _) Jm⟩, ?_⟩)
    ·have x2 : mg B (hpL xU) μ1 w1 H2 μ2 w' := ⟨r3.names.mono hB0, r3.os, r3.tape, r3.output, r3.size, r3.block, r3.may⟩
     have x3 : mg B H2 μ2 w' (hpL NH) μ3 w3 := ⟨q2.names.mono (Nat.le_trans hB0 (Nat.le_trans Vp OJ)), q2.os, q2.tape, q2.output, q2.size, q2.block, fun b hb hm => q2.may b hb (by
      obtain ⟨i, x, m1, m2, m3, m4⟩ := hm
      exact ⟨i, x, Vx i x m1, m2, m3, m4⟩)⟩
     exact (x1.trans x2).trans x3
    ·rw [q4, Act.put_defers]; exact k4
   ·exact hr2.elim
  unfold Oper.wp
  rw [OL]
  rcases hcf with ⟨c, w', e, ha⟩ | ⟨f', args', w', e, DK⟩
  ·rw [e]; exact fin c w' ha
  ·rw [e, Oper.upon_enter]
   refine DK.mono ?_
   rintro e1 w2 ⟨c, rfl, ha⟩
   exact fin c w2 ha
 ·exact hr.elim
theorem aj.G9 {call : Calls'} (hcall : cO P call) {region : List Oper → Fr → M Fr} {loops : Loops} {rounds : Nat} {c : Code} (i : Nat) (hc : c = .region (xg c) (iy c).toArray false) {o : Oper} (hops : iy c = (iy c).take i ++ (o :: (iy c).drop (i + 1))) (hgd : (iy c).all (fun o => o.guard.isNone) = true)
  {cl : Call} (ho : o.op = .call cl) {FY : Operand} (Vu : cl.callee = .value FY) {d : Nat} (hdst : o.dst = some d) (hd : d < n)
  {K1 K2 : Nat} (OJ : K1 ≤ K2) {fr : Fr} {H : T aF} {ql : List (Nat × AV)} {xU : List (Nat × aF)} {path : List Bool}
  (hrun : bV K1 .normal ql xU (cu P call region loops n rounds (sK i c) fr ⟨H, K, [], path, True⟩))
  {f : FuncId} {fn : Func} {body : Code} (hf : P.funcs[f]? = some fn) (hb : fn.body = some body) (hname : (fn.name == "runtime.NumGoroutine") = false)
  {pre cap : List AV} (hfv : bZ (aQ ql) FY = .fn (.func f) pre cap) {B0 : Nat} (hB0 : B ≤ B0) (Vp : B0 ≤ K1) (SS : B ≤ K) (Vy : List (Nat × AV)) (hk1 : Vy.all (fun p => p.2.low B0) = true) (hk2 : Ge (aQ ql) Vy) {args : List AV} (hargs : pre ++ cl.args.toList.map (bZ (aQ ql)) ++ cap = args) {V : AV → T aF → Prop}
  (zC : aj P body fn.ntmps B0 K1 K2 (bJ args 0 .e) (hpL xU) fun e fr' H' => (e = .ret ∨ e = .normal) ∧ ∃ vs g', dA P fr' fn.results.toList ⟨H', K2, [], [], True⟩ = .done vs g' ∧ g'.cs ∧ ∃ u, AV.ge (mG vs) u ∧ V u H')
  {Post : Po} (hpost : ∀ v H', V v H' → ∃ uY Uw NH, bV K' .normal Uw NH (cu P call region loops n rounds (CG (i + 1) c) ((aQ Vy).upd d (some v)) ⟨H', K2, [], uY, True⟩) ∧ Post .normal (aQ Uw) (hpL NH)) :
  aj P c n B K K' fr H Post := by
 have e1 : sK i c = .region (xg c) ((iy c).take i).toArray false := by
  rw [hc]; simp only [sK, xg, iy]
 have e2 : CG (i + 1) c = .region (xg c) ((iy c).drop (i + 1)).toArray false := by
  rw [hc]; simp only [CG, xg, iy]
 have gd := List.all_eq_true.1 hgd
 have g : ∀ o ∈ iy c, o.guard = none := fun o ho => Option.isNone_iff_eq_none.1 (gd o ho)
 rw [e1] at hrun
 subst hargs
 rw [hc]
 refine aj.ac8 hcall (id1 := xg c) (id2 := xg c) (l1 := (iy c).take i) (l2 := (iy c).drop (i + 1)) (o := o) (by simpa using hops) (fun o ho => g o (List.mem_of_mem_take ho)) (g o (by rw [hops]; simp)) (fun o ho => g o (List.mem_of_mem_drop ho)) ho Vu hdst hd OJ hrun hf hb hname hfv hB0 Vp SS hk1 hk2 zC fun v H' hv => ?_
 obtain ⟨p, Uw, NH, h1, h2⟩ := hpost v H' hv
 rw [e2] at h1
 exact ⟨p, Uw, NH, h1, h2⟩
def zD (b b' : aF) : Prop := pV b b' ∨ ∃ s s' l, b = .aW s l ∧ b' = .aW s' l
theorem zD.owned {b b' : aF} (h : zD b b') : b.owned = b'.owned := by
 rcases h with h | ⟨s, s', l, rfl, rfl⟩
 ·exact h.owned
 ·rfl
theorem zD.real {b b' : aF} (h : zD b b') (μ : MM) (g : Nat) : b.real μ g ↔ b'.real μ g := by
 rcases h with h | ⟨s, s', l, rfl, rfl⟩
 ·exact h.real μ g
 ·exact Iff.rfl
theorem zD.ok {N : Nat} {μ : MM} {hp : Array Obj} {g : Nat} {b b' : aF} (h : zD b b') (k : dw N μ hp g b) : dw N μ hp g b' := by
 rcases h with h | ⟨s, s', l, rfl, rfl⟩
 ·exact h.ok k
 ·exact k
theorem aj.afZ {c : Code} {fr qp : Fr} {H H0 : T aF} {Post : Po} (hf : ∀ t v, qp.get t = some v → ∃ u, fr.get t = some u ∧ AV.ge u v) (hH : ∀ i b, H0.get i = some b → ∃ b', H.get i = some b' ∧ zD b' b) (h : aj P c n B K K' qp H0 Post) : aj P c n B K K' fr H Post := by
 intro μ w a hg hfr Q hQ
 refine h μ w a ⟨fun i b hb => let ⟨b', h1, _⟩ := hH i b hb; hg.lt i b' h1, fun i b hb => let ⟨b', h1, h2⟩ := hH i b hb; h2.ok (hg.ok i b' h1), fun i b j b' hi hj ho hr hr' he => ?_⟩
  ⟨hfr.size, fun t v ht => let ⟨u, h1, h2⟩ := hf t v ht; h2 _ _ _ (hfr.val t u h1)⟩ Q fun e fr' H' a' w' hp ha => hQ e fr' H' a' w' hp ⟨?_⟩
 ·obtain ⟨b1, h1, h2⟩ := hH i b hi
  obtain ⟨b2, k1, k2⟩ := hH j b' hj
  exact hg.sep i b1 j b2 h1 k1 (by rw [h2.owned]; exact ho) ((h2.real μ i).2 hr) ((k2.real μ j).2 hr') he
 ·obtain ⟨μ', k1, k2, k3, k4⟩ := ha.of
  have may : ∀ b, May μ H0 b → May μ H b := fun b ⟨i, x, m1, m2, m3, m4⟩ => by
   obtain ⟨b', h1, h2⟩ := hH i x m1
   exact ⟨i, b', h1, by rw [h2.owned]; exact m2, (h2.real μ i).2 m3, m4⟩
  exact ⟨μ', k1, ⟨k2.names, k2.os, k2.tape, k2.output, k2.size, fun b hb hn => k2.block b hb fun hm => hn (may b hm), fun b hb hm => may b (k2.may b hb hm)⟩, k3, k4⟩
def GeM (H : T aF) : List (Nat × aF) → Prop
 | [] => True
 | p :: l => (∃ b, H.get p.1 = some b ∧ zD b p.2) ∧ GeM H l
theorem GeM.get {H : T aF} : ∀ {l : List (Nat × aF)}, GeM H l → ∀ p ∈ l, ∃ b, H.get p.1 = some b ∧ zD b p.2
 | q :: l, h, p, hp => by
  rcases List.mem_cons.1 hp with rfl | hp
  ·exact h.1
  ·exact GeM.get h.2 p hp
theorem aj.ac9 {c : Code} {fr : Fr} {H : T aF} {fl : List (Nat × AV)} {bl : List (Nat × aF)} {Post : Po} (hf : Ge fr fl) (hH : GeM H bl) (h : aj P c n B K K' (aQ fl) (hpL bl) Post) : aj P c n B K K' fr H Post :=
 h.afZ (fun t v ht => hf.get _ (iK ht)) fun i b hb => hH.get _ (bC hb)
structure Vz (N : Nat) (H' : T aF) (nms : List Nat) (bs : List aF) : Prop where
 len : nms.length = bs.length
 at' : ∀ (i : Nat) (b : aF), bs[i]? = some b → ∃ nm b0, nms[i]? = some nm ∧ H'.get nm = some b0 ∧ dN b0 (b.ren fun i => nms.getD (i - N) 0) ∧ b.owned = true ∧ b.kM (N + bs.length) ∧ b.ji (fun i => N ≤ i)
 nodup : nms.Nodup
theorem VA {g : G} {μ : MM} {w w' : World} (hg : eX g.nx μ w.heap g.H) {k K' : Nat} {Hc H' : T aF} {μc μ' : MM} (hno : ∀ B, ¬ May μc Hc B) (hE : mg k Hc μc w H' μ' w') (hc : eX K' μ' w'.heap H') {nms : List Nat} {bs : List aF} (hn : Vz g.nx H' nms bs)
  {g' : G} (h1 : g'.H = oq g.H g.nx bs) (h2 : g'.nx = g.nx + bs.length) :
  eX g'.nx (fO μ μ' g.nx nms) w'.heap g'.H ∧ Ext g μ w g' (fO μ μ' g.nx nms) w' := by
 have old : ∀ B, B < w.heap.size → w'.heap[B]? = w.heap[B]? := fun B hB => hE.block B hB (hno B)
 have case : ∀ i b, g'.H.get i = some b → (i < g.nx ∧ g.H.get i = some b) ∨ ∃ j nm b0, i = g.nx + j ∧ bs[j]? = some b ∧ nms[j]? = some nm ∧ H'.get nm = some b0 ∧ dN b0 (b.ren fun i => nms.getD (i - g.nx) 0) ∧ b.owned = true ∧ b.kM (g.nx + bs.length) ∧ b.ji (fun i => g.nx ≤ i) := fun i b hb => by
  rw [h1, pU] at hb
  split at hb
  ·rename_i hi
   obtain ⟨nm, b0, k1, k2, k3, k4, k5, k6⟩ := hn.at' _ _ hb
   exact .inr ⟨i - g.nx, nm, b0, by omega, hb, k1, k2, k3, k4, k5, k6⟩
  ·exact .inl ⟨hg.lt _ _ hb, hb⟩
 have nmv : ∀ j nm, nms[j]? = some nm → nms.getD (g.nx + j - g.nx) 0 = nm := fun j nm h => by
  rw [show g.nx + j - g.nx = j by omega, List.getD_eq_getElem?_getD, h]; rfl
 have eqs : ∀ j nm, nms[j]? = some nm → (fO μ μ' g.nx nms).blk (g.nx + j) = μ'.blk nm ∧ (fO μ μ' g.nx nms).cap (g.nx + j) = μ'.cap nm ∧ (fO μ μ' g.nx nms).sz (g.nx + j) = μ'.sz nm ∧ (fO μ μ' g.nx nms).base (g.nx + j) = μ'.base nm := fun j nm h => by
  have hge : ¬ g.nx + j < g.nx := by omega
  refine ⟨?_, ?_, ?_, ?_⟩ <;> simp only [fO, if_neg hge, nmv j nm h]
 have high : ∀ (j nm : Nat) (b0 b : aF), nms[j]? = some nm → H'.get nm = some b0 → dN b0 (b.ren fun i => nms.getD (i - g.nx) 0) → b.owned = true → b.real (fO μ μ' g.nx nms) (g.nx + j) → w.heap.size ≤ (fO μ μ' g.nx nms).blk (g.nx + j) := fun j nm b0 b e1 e2 e3 e4 e5 => by
  obtain ⟨q1, q2, q3, q4⟩ := eqs j nm e1
  rw [q1]
  refine Nat.le_of_not_lt fun hlt => hno _ (hE.may _ hlt ⟨nm, b0, e2, by rw [e3.owned, aF.mQ]; exact e4, (e3.real _ _).2 ((aF.kP _ _ _ _).2 ((aF.fC q2 b).1 e5)), rfl⟩)
 constructor
 ·refine ⟨fun i b hb => ?_, fun i b hb => ?_, fun i b j b' hi hj ho hr hr' he => ?_⟩
  ·rw [h2]
   rcases case i b hb with ⟨h, _⟩ | ⟨j, nm, b0, rfl, h, _⟩
   ·omega
   ·have := (List.getElem?_eq_some_iff.1 h).1; omega
  ·rcases case i b hb with ⟨h, hb'⟩ | ⟨j, nm, b0, rfl, e1, e2, e3, e4, e5, e6, e7⟩
   ·have ok := hg.ok _ _ hb'
    exact ok.later eP (by omega) h fun hr => old _ (ok.lt_size hr)
   ·obtain ⟨q1, q2, q3, q4⟩ := eqs j nm e2
    have r1 : dw g'.nx (μ'.via fun i => nms.getD (i - g.nx) 0) w'.heap (g.nx + j) b := by
     refine dw.kL (σ := fun i => nms.getD (i - g.nx) 0) (μ := μ') (g' := nm) (e4.ok (hc.ok _ _ e3)) (by rw [h2]; exact e6) (fun i _ => ⟨rfl, rfl, rfl, rfl⟩) ?_ ?_ ?_ ?_ <;> simp only [MM.via, nmv j nm e2]
    refine dw.on (S := fun i => g.nx ≤ i) (fun i hi hl => ⟨hl, ?_⟩) ?_ e7 (fun _ => rfl) r1
    ·have hge : ¬ i < g.nx := by omega
     refine ⟨?_, ?_, ?_, ?_⟩ <;> simp only [fO, if_neg hge, MM.via]
    ·have hge : ¬ g.nx + j < g.nx := by omega
     refine ⟨?_, ?_, ?_, ?_⟩ <;> simp only [fO, if_neg hge, MM.via]
  ·rcases case i b hi with ⟨hlt, hb1⟩ | ⟨i1, nm, b0, rfl, e1, e2, e3, e4, e5, e6, e7⟩
   ·rw [aF.bH eP hlt] at hr
    rw [eP.blk i hlt] at he
    rcases case j b' hj with ⟨hlt', hb2⟩ | ⟨j1, nm', b0', rfl, e1', e2', e3', e4', e5', e6', e7'⟩
    ·rw [aF.bH eP hlt'] at hr'
     rw [eP.blk j hlt'] at he
     exact hg.sep _ _ _ _ hb1 hb2 ho hr hr' he
    ·have := high j1 nm' b0' b' e2' e3' e4' e5' hr'
     have := (hg.ok _ _ hb1).lt_size hr
     omega
   ·rcases case j b' hj with ⟨hlt', hb2⟩ | ⟨j1, nm', b0', rfl, e1', e2', e3', e4', e5', e6', e7'⟩
    ·rw [aF.bH eP hlt'] at hr'
     rw [eP.blk j hlt'] at he
     have := high i1 nm b0 b e2 e3 e4 e5 hr
     have := (hg.ok _ _ hb2).lt_size hr'
     omega
    ·obtain ⟨q1, q2, _⟩ := eqs i1 nm e2
     obtain ⟨q1', q2', _⟩ := eqs j1 nm' e2'
     have e : nm = nm' := hc.sep _ _ _ _ e3 e3' (by rw [e4.owned, aF.mQ]; exact e5) ((e4.real _ _).2 ((aF.kP _ _ _ _).2 ((aF.fC q2 b).1 hr))) ((e4'.real _ _).2 ((aF.kP _ _ _ _).2 ((aF.fC q2' b').1 hr'))) (by rw [← q1, ← q1']; exact he)
     subst e
     have hi1 := (List.getElem?_eq_some_iff.1 e2).1
     have : i1 = j1 := (List.getElem?_inj hi1 hn.nodup).1 (e2.trans e2'.symm)
     rw [this]
 ·refine ⟨by omega, eP, hE.os, hE.tape, hE.output, hE.size, fun B hB _ => old B hB, fun B hB hm => ?_⟩
  obtain ⟨i, b, m1, m2, m3, m4⟩ := hm
  rcases case i b m1 with ⟨hlt, hb1⟩ | ⟨j, nm, b0, rfl, e1, e2, e3, e4, e5, e6, e7⟩
  ·rw [aF.bH eP hlt] at m3
   rw [eP.blk i hlt] at m4
   exact ⟨i, b, hb1, m2, m3, m4⟩
  ·have := high j nm b0 b e2 e3 e4 e5 m3
   omega
theorem Ak {f : FuncId} {fn : Func} {c : Code} (hf : P.funcs[f]? = some fn) (hb : fn.body = some c) (hname : (fn.name == "runtime.NumGoroutine") = false) {K' : Nat} {args dY : List AV} {g g1 g' : G} {p : Prop} (kp : Keep g g1 p)
  (l : List Vw) (hl : p → ∀ v ∈ l, v.Ok g) (hargs : p → ∀ N μ (cs : List Value), aI N μ args cs → aI l.length (Cc μ l) dY cs)
  {nms : List Nat} {bs : List aF} {v : AV}
  (h : p → aj P c fn.ntmps l.length l.length K' (bJ dY 0 .e) (hpL (vwL l 0)) fun e fr' H' => (e = .ret ∨ e = .normal) ∧ ∃ vs gr, dA P fr' fn.results.toList ⟨H', K', [], [], True⟩ = .done vs gr ∧ gr.cs ∧ AV.ge (mG vs) (v.ren (fun i => nms.getD (i - g.nx) 0)) ∧ Vz g.nx H' nms bs)
  (hv : v.low (g.nx + bs.length) = true) (hS : v.ji fun i => g.nx ≤ i) (h1 : g'.H = oq g.H g.nx bs) (h2 : g'.nx = g.nx + bs.length) (h3 : g'.cs → g1.cs) : bf P f args v g g' := by
 refine ⟨fun hc => (kp.2.2 (h3 hc)).1, fun hcs μ w bT hg ha => ?_⟩
 have hp := (kp.2.2 (h3 hcs)).2
 refine (aj.call hf hb hname (V := fun u H' => AV.ge u (v.ren (fun i => nms.getD (i - g.nx) 0)) ∧ Vz g.nx H' nms bs) ((h hp).mono fun e fr' H' ⟨k1, vs, gr, k2, k3, k4, k5⟩ => ⟨k1, vs, gr, k2, k3, k4, k5⟩) (Cc μ l) w (U9 (hl hp) hg) (hargs hp _ _ _ ha)).mono ?_
 rintro cv w' ⟨u, μ', H', ⟨hge, hN⟩, hrep, hgk, hE⟩
 obtain ⟨q1, q2⟩ := VA hg (fun B => Va) hE hgk hN h1 h2
 refine ⟨fO μ μ' g.nx nms, ?_, q1, q2⟩
 rw [h2]
 exact Lu (hge _ _ _ hrep) hv hS
end Go.Sx
