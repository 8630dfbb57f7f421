/- THE ENGINE, part 3: an interpreter of the program's code over abstract values, and its proof. -/
import Derived.Test.YtofmgnkdjfhldaaSm2
noncomputable section
set_option linter.unusedSimpArgs false
set_option linter.unusedVariables false
namespace Go.Sx
open M
structure Keeps (w w' : World) (b m : Nat) : Prop where
 other : ∀ B, B < w.heap.size → B ≠ b → w'.heap[B]? = w.heap[B]?
 low : ∀ cur ty fz, w.heap[b]? = some (.cells cur ty fz) → ∃ cur', w'.heap[b]? = some (.cells cur' ty fz) ∧ cur'.size = cur.size ∧ ∀ o, o < m → cur'[o]? = cur[o]?
theorem Keeps.refl (w : World) (b m : Nat) : Keeps w w b m := ⟨fun _ _ _ => rfl, fun cur ty fz h => ⟨cur, h, rfl, fun _ _ => rfl⟩⟩
theorem Keeps.alloc (w : World) (o : Obj) (b m : Nat) : Keeps w (w.drew.alloc o) b m := by
 have e : ∀ B, B < w.heap.size → (w.drew.alloc o).heap[B]? = w.heap[B]? := fun B hB => by
  show (w.heap.push o)[B]? = _
  rw [Array.getElem?_push_lt hB, Array.getElem?_eq_getElem hB]
 exact ⟨fun B hB _ => e B hB, fun cur ty fz h => ⟨cur, by rw [e b ((Array.getElem?_eq_some_iff.1 h).1)]; exact h, rfl, fun _ _ => rfl⟩⟩
theorem appendK {P : Program} {t u ty : TypeId} {s own : Bool} {a : AA} {len : Nat} {y v : AV} {g g' : G} (h : appendA P t u (.slc s own a len) y g = .done v g') :
  ∃ sz bn c, g.H.get a.g = some (.cells true sz bn c) ∧ (g'.cs → ∀ μ w cx cy, GOk g.nx μ w.heap g.H → Rep g.nx μ (.slc s own a len) cx → Rep g.nx μ y cy → ∀ c' w', (Builtin.append_ #[t, u] ty #[cx, cy]).run P w = .ok c' w' → Keeps w w' (μ.blk a.g) (len * sz)) := by
 unfold appendA at h
 obtain ⟨e, g1, a1, h1⟩ := done_of h
 obtain ⟨ht, rfl⟩ := ofOpt_done a1
 obtain ⟨_, g2, a2, h2⟩ := done_of h1
 obtain ⟨htu, rfl⟩ := okIf_done a2
 obtain rfl := Nat.eq_of_beq_eq_true htu
 obtain ⟨z, g3, a3, h3⟩ := done_of h2
 obtain ⟨hz, rfl⟩ := ofOpt_done a3
 obtain ⟨i, zv, hi, hzv, hby, hsz, hpos, hzl, hone, hzr⟩ := zeroRow_some hz
 have ht' := sliceE_some ht
 obtain ⟨⟨ss, m, r⟩, g4, a4, h4⟩ := done_of h3
 obtain ⟨p, k4, hsrc⟩ := srcOf_sound a4 hpos
 simp only at h4 hsrc
 obtain ⟨⟨bo, sz, bn, c⟩, g5, a5, h5⟩ := done_of h4
 obtain ⟨hb, rfl⟩ := getC_done a5
 simp only at h5 hb
 obtain ⟨_, g6, a6, h6⟩ := done_of h5
 obtain ⟨hq, rfl⟩ := okIf_done a6
 simp only [Bool.and_eq_true] at hq
 obtain ⟨⟨rfl, rfl⟩, hszq⟩ := hq
 obtain rfl := Nat.eq_of_beq_eq_true hszq
 obtain ⟨_, g7, a7, h7⟩ := done_of h6
 have k7 := k4.trans (ck_done a7)
 obtain ⟨_, g8, a8, h8⟩ := done_of h7
 obtain ⟨nm, g9, a9, h9⟩ := done_of h8
 obtain ⟨rfl, rfl⟩ := ret_done h9
 obtain ⟨hnm, hH, hnx, hcs⟩ := newB_done a9
 obtain ⟨hH8, hnx8, hcs8⟩ := delB_done a8
 have hk := Keep.of_newB k7 (hcs.trans hcs8)
 refine ⟨z.1.length, bn, c, by rw [← k4.1]; exact hb, fun hc μ w cx cy hg hx hy c' w' hrun' => ?_⟩
 obtain ⟨hp, hlen, hb48, hb63⟩ := (hk hc).2
 obtain ⟨B, D, rfl, hnews⟩ := hsrc hp g.nx μ w cy hg hy
 have hg7 : GOk g7.nx μ w.heap g7.H := by rw [k7.1, k7.2.1]; exact hg
 have hb7 : g7.H.get a.g = some (.cells true z.1.length bn c) := by rw [k7.1, ← k4.1]; exact hb
 simp only [Rep] at hx
 obtain ⟨hag, A, C, rfl, hlC, hA, hnn, hown⟩ := hx
 obtain ⟨hai, hao, hAC⟩ := hown rfl
 obtain ⟨olds, hol, hoc, horow⟩ := olds_ok (hg7.ok _ _ hb7) rfl hlen
 rcases Nat.eq_zero_or_pos m with rfl | hm
 ·have hrun := run_append_none (P := P) ht' hi ty w A B len C D hlC
  rw [hrun] at hrun'
  cases hrun'
  exact Keeps.refl _ _ _
 ·obtain ⟨ad, news, rfl, hnl, hcell, h1c, hrow⟩ := hnews hm
  rcases hAC with ⟨rfl, rfl, rfl⟩ | ⟨rfl, rfl⟩
  ·have hrun := run_append_nil (P := P) w t ty e i zv ht' hi hzv ad m D news (by rw [hsz]; exact hnl) hcell hm (by omega) (by rw [hby]; simp only [Nat.zero_add] at hb48; omega)
   rw [hrun] at hrun'
   cases hrun'
   exact Keeps.alloc _ _ _ _
  ·by_cases hroom : len + m ≤ μ.cap a.g
   ·have hreal : 0 < bn ∨ 0 < μ.cap a.g := .inr (by omega)
    obtain ⟨_, _, hcur⟩ := hg7.ok _ _ hb7
    obtain ⟨cur, ty', fz, hB, hfit, hfz, hro⟩ := hcur (hreal.imp id fun h => ⟨rfl, h⟩)
    obtain ⟨rfl, hcap, hb0⟩ := hfz rfl
    have hlm : (len + m) * z.1.length ≤ μ.cap a.g * z.1.length := Nat.mul_le_mul_right _ hroom
    rw [Nat.add_mul] at hlm
    have hfit2 : len * z.1.length + news.length ≤ cur.toList.length := by rw [hnl, Array.length_toList, hcap]; exact hlm
    have hrun := run_append_fits (P := P) (ty := ty) (c := D) ht' hi hB (by rw [hsz]; exact hnl) hcell h1c hroom (by rw [hsz]; simpa using hfit2)
    rw [hsz] at hrun
    rw [hrun] at hrun'
    cases hrun'
    have hget := fun p => splice_get cur.toList (len * z.1.length) news hfit2 p
    refine ⟨fun B hB hne => setRow_other w _ _ _ hne, fun cur1 ty1 fz1 h1 => ?_⟩
    rw [hB] at h1
    cases h1
    refine ⟨_, setRow_heap w _ cur _ ty' _ hB, by simp at hfit2 ⊢; omega, fun o ho => ?_⟩
    rw [List.getElem?_toArray, hget, if_pos (by omega)]
    simp
   ·have hrun := run_append_grow (P := P) w t ty e i zv ht' hi hzv ⟨μ.blk a.g, 0, none⟩ len (μ.cap a.g) olds (by rw [hsz]; exact hol) hoc ad m D news (by rw [hsz]; exact hnl) hcell (by omega) (by omega)
     (growslice_fits (by omega) (by rw [hby]; exact hb48))
    rw [hrun] at hrun'
    cases hrun'
    exact Keeps.alloc _ _ _ _
variable {P : Program} {n B K K' : Nat}
structure VX (B j sz m : Nat) (c : Cont) (μ : MM) (w : World) : Prop where
 ok : BkOk B μ w.heap j (.cells false sz m c)
 base : 0 < m → μ.base j = 0
theorem VX.real {j sz m : Nat} {c : Cont} {μ : MM} (h : (ABk.cells false sz m c).real μ j) : 0 < m := by
 rcases h with h | ⟨h, _⟩
 ·exact h
 ·cases h
theorem VX.stab {j sz m : Nat} {c : Cont} {μ μ' : MM} {w w' : World} (h : VX B j sz m c μ w) (hj : j < B) (hl : (ABk.cells false sz m c).lowR B) (hu : MM.upto B μ μ') (hs : ∀ b, b < w.heap.size → w'.heap[b]? = w.heap[b]?) : VX B j sz m c μ' w' :=
 ⟨h.ok.lowB hl hu hj (Nat.le_refl _) fun hr => hs _ (h.ok.lt_size hr), fun hm => by rw [hu.base j hj]; exact h.base hm⟩
theorem VX.keep {j sz m : Nat} {c : Cont} {μ μ' : MM} {w w' : World} {b k : Nat} (h : VX B j sz m c μ w) (hj : j < B) (hl : (ABk.cells false sz m c).lowR B) (hu : MM.upto B μ μ') (hk : Keeps w w' b k) (hm : m * sz ≤ k) : VX B j sz m c μ' w' := by
 refine ⟨⟨by rw [hu.sz j hj]; exact h.ok.1, h.ok.2.1, fun hr => ?_⟩, fun hm => by rw [hu.base j hj]; exact h.base hm⟩
 have h0 : 0 < m := by
  rcases hr with hr | ⟨hr, _⟩
  ·exact hr
  ·cases hr
 obtain ⟨cur, ty, fz, h1, h2, h3, h4⟩ := h.ok.2.2 (.inl h0)
 have hb0 := h.base h0
 have hlt := (Array.getElem?_eq_some_iff.1 h1).1
 obtain ⟨cur', e1, e2, e3⟩ : ∃ cur', w'.heap[μ.blk j]? = some (.cells cur' ty fz) ∧ cur'.size = cur.size ∧ ∀ o, o < k → cur'[o]? = cur[o]? := by
  by_cases hb : μ.blk j = b
  ·rw [hb] at h1 ⊢; exact hk.low _ _ _ h1
  ·exact ⟨cur, by rw [hk.other _ hlt hb]; exact h1, rfl, fun _ _ => rfl⟩
 refine ⟨cur', ty, fz, by rw [hu.blk j hj]; exact e1, by rw [hu.base j hj, e2]; exact h2, fun h => (by cases h), fun i hi => ⟨(h4 i hi).1, fun o v hv => ?_⟩⟩
 obtain ⟨k1, cv, k2, k3⟩ := (h4 i hi).2 o v hv
 have ho : o < sz := by have := (List.getElem?_eq_some_iff.1 hv).1; have := (h4 i hi).1; omega
 have hfit : (i + 1) * sz ≤ m * sz := Nat.mul_le_mul_right _ hi
 rw [Nat.add_mul] at hfit
 rw [hb0] at k2
 refine ⟨k1, cv, by rw [hu.base j hj, hb0, e3 _ (by omega)]; exact k2, ?_⟩
 exact (Rep.ofLow (.refl _ _) (hl i hi v (List.mem_of_getElem? hv)) k3).later hu (Nat.le_refl _)
structure AtX (n B K : Nat) (X : MM → World → Prop) (H : T ABk) (μ : MM) (w : World) (H' : T ABk) (fr' : Fr) (a a' : Act) (w' : World) : Prop where
 of : ∃ μ', GOk K μ' w'.heap H' ∧ ExtB B H μ w H' μ' w' ∧ FrOk K μ' fr' a'.tmps n ∧ a'.defers = a.defers ∧ X μ' w'
def GoesX (P : Program) (c : Code) (n B K K' : Nat) (X : MM → World → Prop) (fr : Fr) (H : T ABk) (Post : Po) : Prop :=
 ∀ μ w (a : Act), GOk K μ w.heap H → FrOk K μ fr a.tmps n → X μ w → ∀ Q : Exit → Act → World → Prop, (∀ e fr' H' a' w', Post e fr' H' → AtX n B K' X H μ w H' fr' a a' w' → Q e.ex a' w') → c.wp P Q a w
section
variable {X : MM → World → Prop}
theorem AtX.trans {H H' H'' : T ABk} {μ : MM} {w w' w'' : World} {fr'' : Fr} {a a' a'' : Act} {μ' : MM} (h1 : ExtB B H μ w H' μ' w') (h2 : a'.defers = a.defers) (h : AtX n B K X H' μ' w' H'' fr'' a' a'' w'') : AtX n B K X H μ w H'' fr'' a a'' w'' := by
 obtain ⟨μ'', k1, k2, k3, k4, k5⟩ := h.of
 exact ⟨μ'', k1, h1.trans k2, k3, k4.trans h2, k5⟩
theorem AtX.up {H H' : T ABk} {μ : MM} {w w' : World} {fr' : Fr} {a a' : Act} (h : AtX n B K X H μ w H' fr' a a' w') (hK : K ≤ K') : AtX n B K' X H μ w H' fr' a a' w' := by
 obtain ⟨μ', k1, k2, k3, k4, k5⟩ := h.of
 exact ⟨μ', k1.up hK fun _ _ h => h, k2, k3.later (.refl _ _) hK, k4, k5⟩
theorem GoesX.mono {c : Code} {fr : Fr} {H : T ABk} {Post Post' : Po} (h : GoesX P c n B K K' X fr H Post) (k : ∀ e fr' H', Post e fr' H' → Post' e fr' H') : GoesX P c n B K K' X fr H Post' :=
 fun μ w a hg hf hx Q hQ => h μ w a hg hf hx Q fun e fr' H' a' w' hp ha => hQ e fr' H' a' w' (k _ _ _ hp) ha
theorem GoesX.seq {K1 : Nat} {x y : Code} {fr : Fr} {H : T ABk} {Post : Po} (hK : K1 ≤ K')
  (h : GoesX P x n B K K1 X fr H fun e fr' H' => match e with
   | .normal => GoesX P y n B K1 K' X fr' H' Post
   | e => Post e fr' H') : GoesX P (.seq x y) n B K K' X fr H Post := by
 intro μ w a hg hf hx Q hQ
 refine wp_seq (h μ w a hg hf hx _ fun e fr' H' a' w' hp ha => ?_)
 cases e with
 | normal =>
  obtain ⟨μ', k1, k2, k3, k4, k5⟩ := ha.of
  exact hp μ' w' a' k1 k3 k5 Q fun e'' fr'' H'' a'' w'' hp' ha' => hQ _ _ _ _ _ hp' (AtX.trans k2 k4 ha')
 | exit id => exact hQ _ _ _ _ _ hp (ha.up hK)
 | ret => exact hQ _ _ _ _ _ hp (ha.up hK)
theorem GoesX.block {id : Nat} {c : Code} {fr : Fr} {H : T ABk} {Post : Po}
  (h : GoesX P c n B K K' X fr H fun e fr' H' => match e with
   | .exit id' => if id' = id then Post .normal fr' H' else Post (.exit id') fr' H'
   | e => Post e fr' H') : GoesX P (.block id c) n B K K' X fr H Post := by
 intro μ w a hg hf hx Q hQ
 refine wp_block (h μ w a hg hf hx _ fun e fr' H' a' w' hp ha => ?_)
 cases e with
 | normal => exact hQ _ _ _ _ _ hp ha
 | ret => exact hQ _ _ _ _ _ hp ha
 | exit id' =>
  simp only [Ex.ex, Exit.inBlock]
  by_cases he : id' = id
  ·simp only [he, if_true] at hp ⊢
   exact hQ .normal _ _ _ _ hp ha
  ·simp only [if_neg he] at hp ⊢
   exact hQ (.exit id') _ _ _ _ hp ha
theorem GoesX.loop {c : Code} {Post : Po} (I : Nat → Fr → T ABk → Prop)
  (h : ∀ k fr H, I k fr H → GoesX P c n B K K X fr H fun e fr' H' => match e with
   | .normal => ∃ k', k' < k ∧ I k' fr' H'
   | e => Post e fr' H') : ∀ k fr H, I k fr H → GoesX P (.loop c) n B K K X fr H Post := by
 have key : ∀ R k fr H, k < R → I k fr H → ∀ μ w (a : Act), GOk K μ w.heap H → FrOk K μ fr a.tmps n → X μ w → ∀ Q : Exit → Act → World → Prop, (∀ e fr' H' a' w', Post e fr' H' → AtX n B K X H μ w H' fr' a a' w' → Q e.ex a' w') → Code.rounds P c Q R a w := by
  intro R
  induction R with
  | zero => intro k fr H hk; omega
  | succ R ih =>
   intro k fr H hkR hI μ w a hg hf hx Q hQ
   rw [rounds_succ]
   refine wp_mono (h k fr H hI μ w a hg hf hx (fun e a' w' => (e = .normal ∧ ∃ k' fr' H', k' < k ∧ I k' fr' H' ∧ AtX n B K X H μ w H' fr' a a' w') ∨ (e ≠ .normal ∧ Q e a' w')) fun e fr' H' a' w' hp ha => ?_) ?_
   ·cases e with
    | normal =>
     obtain ⟨k', hk, hI'⟩ := hp
     exact .inl ⟨rfl, k', fr', H', hk, hI', ha⟩
    | exit id => exact .inr ⟨by simp [Ex.ex], hQ (.exit id) _ _ _ _ hp ha⟩
    | ret => exact .inr ⟨by simp [Ex.ex], hQ .ret _ _ _ _ hp ha⟩
   ·rintro e a' w' (⟨rfl, k', fr', H', hk, hI', ha⟩ | ⟨hne, hq⟩)
    ·obtain ⟨μ', k1, k2, k3, k4, k5⟩ := ha.of
     exact ih k' fr' H' (by omega) hI' μ' w' a' k1 k3 k5 Q fun e'' fr'' H'' a'' w'' hp' ha' => hQ _ _ _ _ _ hp' (AtX.trans k2 k4 ha')
    ·cases e <;> first | exact absurd rfl hne | exact hq
 intro k fr H hI μ w a hg hf hx Q hQ
 exact wp_loop_rounds (k + 1) (key (k + 1) k fr H (by omega) hI μ w a hg hf hx Q hQ)
end
section
variable {j sz m : Nat} {cj : Cont}
theorem GoesX.pure {B' : Nat} {c : Code} {fr : Fr} {bl xl : List (Nat × ABk)} {Post Post' : Po} (hj : j < B) (hl : (ABk.cells false sz m cj).lowR B) (hBB : B ≤ B') (h : GoesB P c n B' K K' fr (hpL bl) Post) (hB : B' ≤ K') (hv : ∀ p ∈ bl, p.2.owned = false) (hx : LowL B' xl) (hd : dis bl xl = true)
  (k : ∀ e fr' H0', Post e fr' H0' → ∃ bl', H0' = hpL bl' ∧ dis bl' xl = true ∧ OwnL B' bl bl' ∧ Post' e fr' (hpL (bl' ++ xl))) : GoesX P c n B K K' (VX B j sz m cj) fr (hpL (bl ++ xl)) Post' := by
 intro μ w a hg hf hX Q hQ
 refine h μ w a (hg.sub fun i b hb => by rw [hpL_app, hb]; rfl) hf Q fun e fr' H0' a' w' hp ha => ?_
 obtain ⟨bl', rfl, h1, h2, h3⟩ := k _ _ _ hp
 obtain ⟨μ', k1, k2, k3, k4⟩ := ha.of
 have nm : ∀ b, ¬ May μ (hpL bl) b := fun b ⟨i, x, m1, m2, _⟩ => by
  have := hv _ (hpL_get m1)
  rw [m2] at this; cases this
 obtain ⟨μ2, q1, q2, q3, q4⟩ : ∃ μ2, GOk K' μ2 w'.heap (hpL (bl' ++ xl)) ∧ ExtB B (hpL (bl ++ xl)) μ w (hpL (bl' ++ xl)) μ2 w' ∧ FrOk K' μ2 fr' a'.tmps n ∧ VX B j sz m cj μ2 w' := by
  have q := frame_at (H' := hpL (bl' ++ xl)) hg (fun i b hb => by rw [hpL_app, hb]; rfl) (fun i b hb h0 => by
   rw [hpL_app, h0] at hb
   exact hx.get _ (hpL_get hb)) hB (fun i b hb => by
   rw [hpL_app] at hb
   cases h1 : (hpL bl').get i with
   | some b1 =>
    rw [h1] at hb
    cases hb
    exact .inl ⟨rfl, h2.get _ (hpL_get h1)⟩
   | none =>
    rw [h1] at hb
    refine .inr ?_
    cases h2 : (hpL bl).get i with
    | some b2 => exact (dis_ne hd h2 hb).elim
    | none => exact ⟨rfl, by rw [hpL_app, h2]; exact hb⟩) k1 k2
  exact ⟨μ', q.1, ⟨q.2.names.mono hBB, q.2.os, q.2.tape, q.2.output, q.2.size, q.2.block, q.2.may⟩, k3, hX.stab hj hl (k2.names.mono hBB) fun b hb => k2.block b hb (nm b)⟩
 exact hQ e fr' _ a' w' h3 ⟨μ2, q1, q2, q3, k4, q4⟩
theorem GoesX.renG {K'' : Nat} {c : Code} {fr : Fr} {H : T ABk} {Post Post' : Po} (hj : j < B) (hl : (ABk.cells false sz m cj).lowR B) (h : GoesX P c n B K K' (VX B j sz m cj) fr H Post)
  (k : ∀ e fr' H', Post e fr' H' → ∃ σ fl bl, (∀ g, g < B → σ g = g) ∧ RenF K'' σ fr' fl ∧ RenG K'' σ H' bl ∧ (∀ i j, i < K'' → j < K'' → σ i = σ j → i = j) ∧ Post' e (frL fl) (hpL bl)) : GoesX P c n B K K'' (VX B j sz m cj) fr H Post' := by
 intro μ w a hg hf hX Q hQ
 refine h μ w a hg hf hX Q fun e fr' H' a' w' hp ha => ?_
 obtain ⟨σ, fl, bl, hk, hF, hB, hinj, hp'⟩ := k _ _ _ hp
 obtain ⟨μ', k1, k2, k3, k4, k5⟩ := ha.of
 have G := fun i b (hb : (hpL bl).get i = some b) => hB.get _ (hpL_get hb)
 have u : MM.upto B μ' (μ'.via σ) := ⟨fun g hg => by show μ'.blk (σ g) = _; rw [hk g hg], fun g hg => by show μ'.cap (σ g) = _; rw [hk g hg], fun g hg => by show μ'.sz (σ g) = _; rw [hk g hg], fun g hg => by show μ'.base (σ g) = _; rw [hk g hg]⟩
 refine hQ e _ _ a' w' hp' ⟨μ'.via σ, ⟨fun i b hb => ?_, fun i b hb => ?_, fun i b j b' hi hj ho hr hr' he => ?_⟩, ⟨k2.names.trans u (Nat.le_refl _), k2.os, k2.tape, k2.output, k2.size, k2.block, fun b hb hm => k2.may b hb ?_⟩, ⟨k3.size, fun t v ht => ?_⟩, k4, k5.stab hj hl u fun _ _ => rfl⟩
 ·obtain ⟨b0, h1, h2, h3, h4⟩ := G i b hb; exact h4
 ·obtain ⟨b0, h1, h2, h3, h4⟩ := G i b hb
  exact (h2.ok (k1.ok _ _ h1)).unren h3 (fun i _ => ⟨rfl, rfl, rfl, rfl⟩) rfl rfl rfl rfl
 ·obtain ⟨b0, h1, h2, h3, h4⟩ := G i b hi
  obtain ⟨b1, l1, l2, l3, l4⟩ := G j b' hj
  exact hinj i j h4 l4 (k1.sep _ _ _ _ h1 l1 (by rw [h2.owned, ABk.ren_owned]; exact ho) ((h2.real _ _).2 ((ABk.ren_real _ _ _ _).2 ((ABk.real_eq rfl b).1 hr))) ((l2.real _ _).2 ((ABk.ren_real _ _ _ _).2 ((ABk.real_eq rfl b').1 hr'))) he)
 ·obtain ⟨i, x, m1, m2, m3, m4⟩ := hm
  obtain ⟨b0, h1, h2, h3, h4⟩ := G i x m1
  exact ⟨σ i, b0, h1, by rw [h2.owned, ABk.ren_owned]; exact m2, (h2.real _ _).2 ((ABk.ren_real _ _ _ _).2 ((ABk.real_eq rfl x).1 m3)), m4⟩
 ·obtain ⟨u, h1, h2, h3⟩ := hF.get _ (frL_get ht)
  exact (h2 _ _ _ (k3.val t u h1)).unren h3
theorem opsPre {call : Calls'} (hcall : CallOk P call) {ops : Array Oper} {Q : Exit → Act → World → Prop} {l2 all : List Oper} : ∀ (l1 : List Oper) (fr fr' : Fr) (g g' : G), (∀ o ∈ l1, o.guard = none) → opsA0 P call n all l1 fr g = .done fr' g' →
  (g'.cs → g.cs) ∧ (g'.cs → ∀ μ w (a : Act), GOk g.nx μ w.heap g.H → FrOk g.nx μ fr a.tmps n → (∀ a' w', FrAfter n g μ w g' fr' a a' w' → wpList P ops Q l2 a' w') → wpList P ops Q (l1 ++ l2) a w)
 | [], fr, fr', g, g', _, h => by
  obtain ⟨rfl, rfl⟩ := ret_done h
  exact ⟨id, fun _ μ w a hg hf hK => hK a w ⟨μ, hg, Ext.refl _ _ _, hf, rfl⟩⟩
 | o :: rest, fr, fr', g, g', hgd, h => by
  unfold opsA0 at h
  have h0 := hgd o List.mem_cons_self
  rw [h0] at h
  obtain ⟨v, g1, a1, h1⟩ := done_of h
  obtain ⟨fr1, g2, a2, h2⟩ := done_of h1
  obtain ⟨hc1, hs1⟩ := opA_sound hcall a1
  obtain ⟨rfl, hp⟩ := putA_sound a2
  obtain ⟨hc2, hs2⟩ := opsPre hcall (ops := ops) (Q := Q) (l2 := l2) rest _ _ _ _ (fun o ho => hgd o (List.mem_cons_of_mem _ ho)) h2
  refine ⟨fun hc => hc1 (hc2 hc), fun hc μ w a hg hf hK => wpList_plain h0 fun K hK' => hs1 (hc2 hc) μ w a n hg hf _ _ fun c w' ha => ?_⟩
  obtain ⟨μ', hv, hg', hext⟩ := ha
  exact hK' _ _ (hs2 hc μ' w' _ hg' (hp _ _ _ _ (hf.later hext.names hext.nx) hv) fun a' w'' hk => hK _ _ (hk.trans hext (Act.put_defers _ _ _)))
theorem GoesX.app {call : Calls'} (hcall : CallOk P call) {region : List Oper → Fr → M Fr} {loops : Loops} {rounds : Nat} {ops : Array Oper} {id id' : Nat} {l1 : List Oper} {o1 o2 : Oper} (hops : ops.toList = l1 ++ [o1, o2]) (hgd : ∀ o ∈ l1, o.guard = none) (g1 : o1.guard = none) (g2 : o2.guard = none)
  {ty : TypeId} {tx tY d1 d2 : Nat} (h1 : o1.op = .call ⟨.builtin .append, #[.tmp tx, .tmp tY], #[ty, ty]⟩) (e1 : o1.dst = some d1) (h2 : o2.op = .assign (.tmp d1)) (e2 : o2.dst = some d2) (hd1 : d1 < n) (hd2 : d2 < n)
  {B' K1 : Nat} {fr : Fr} {fl : List (Nat × AV)} {bl bl1 xl : List (Nat × ABk)} {path : List Bool} (hrun : PieceN K1 .normal fl bl1 (codeA P call region loops n rounds (.region id' l1.toArray false) fr ⟨hpL bl, K, [], path, True⟩))
  (hj : j < B) (hl : (ABk.cells false sz m cj).lowR B) (hBB : B ≤ B') (hB : B' ≤ K) (hv : ∀ p ∈ bl, p.2.owned = false) (hx : LowL B' xl) (hd : dis bl xl = true) (hd' : dis bl1 xl = true) (ho : OwnL B' bl bl1)
  {s : Bool} {q len : Nat} {vy v : AV} {c : Cont} (ex : (frL fl).get tx = some (.slc s true ⟨false, q, 0, 0⟩ len)) (ey : (frL fl).get tY = some vy) (hvy : vy.fl = vy) (hq : (hpL (bl1 ++ xl)).get q = some (.cells true sz len c)) (hml : m ≤ len)
  {g2' : G} (happ : appendA P ty ty (.slc s true ⟨false, q, 0, 0⟩ len) vy ⟨hpL (bl1 ++ xl), K1, [], [], True⟩ = .done v g2') (hcs : g2'.cs) :
  GoesX P (.region id ops false) n B K g2'.nx (VX B j sz m cj) fr (hpL (bl ++ xl)) fun e fr' H' => e = .normal ∧ fr' = ((frL fl).upd d1 (some v)).upd d2 (some v) ∧ H' = g2'.H := by
 intro μ w a hg hf hX Q hQ
 refine wp_region_list ?_
 rw [hops]
 have hr := hrun.of
 have hgg : GOk K μ w.heap (hpL bl) := hg.sub fun i b hb => by rw [hpL_app, hb]; rfl
 generalize hres : codeA P call region loops n rounds (.region id' l1.toArray false) fr ⟨hpL bl, K, [], path, True⟩ = res at hr
 unfold pieceN at hr
 split at hr
 ·rename_i r g
  obtain ⟨hre, hw, hh, hnx, hcs1⟩ := hr
  have hnx := Nat.le_of_ble_eq_true hnx
  unfold codeA at hres
  obtain ⟨fr1, g1', b1, b2⟩ := done_of hres
  obtain ⟨rfl, rfl⟩ := ret_done b2
  have b1' : opsA0 P call n l1 l1 fr ⟨hpL bl, K, [], path, True⟩ = .done fr1 g1' := by rw [← opsA_eq]; simpa using b1
  obtain ⟨_, hs⟩ := opsPre hcall (ops := ops) (Q := Q) (l2 := [o1, o2]) l1 _ _ _ _ hgd b1'
  refine hs hcs1 μ w a hgg hf fun a' w' hk => ?_
  obtain ⟨μ', k1, k2, k3, k4⟩ := hk
  have sub : ∀ i b, (hpL bl1).get i = some b → g1'.H.get i = some b := fun i b hb => hh.get (hpL_get hb)
  have k1' : GOk K1 μ' w'.heap (hpL bl1) := k1.up hnx sub
  have k2' : ExtB B' (hpL bl) μ w (hpL bl1) μ' w' := ⟨k2.names.mono hB, k2.os, k2.tape, k2.output, k2.size, k2.block, fun b hb hm => k2.may b hb (by
   obtain ⟨i, x, m1, m2, m3, m4⟩ := hm
   exact ⟨i, x, sub i x m1, m2, m3, m4⟩)⟩
  have k3' : FrOk K1 μ' (frL fl) a'.tmps n := ⟨k3.size, fun t v ht => (k3.val t v (hw.get (frL_get ht))).later (.refl _ _) hnx⟩
  have nm : ∀ b, ¬ May μ (hpL bl) b := fun b ⟨i, x, m1, m2, _⟩ => by
   have := hv _ (hpL_get m1)
   rw [m2] at this; cases this
  have hX' := hX.stab hj hl (k2'.names.mono hBB) fun b hb => k2'.block b hb (nm b)
  have hKK : K ≤ K1 := Nat.le_trans k2.nx hnx
  have qf := frame_at (H' := hpL (bl1 ++ xl)) hg (fun i b hb => by rw [hpL_app, hb]; rfl) (fun i b hb h0 => by
   rw [hpL_app, h0] at hb
   exact hx.get _ (hpL_get hb)) (Nat.le_trans hB hKK) (fun i b hb => by
   rw [hpL_app] at hb
   cases h1 : (hpL bl1).get i with
   | some b1 =>
    rw [h1] at hb
    cases hb
    exact .inl ⟨rfl, ho.get _ (hpL_get h1)⟩
   | none =>
    rw [h1] at hb
    refine .inr ?_
    cases h2 : (hpL bl).get i with
    | some b2 => exact (dis_ne hd h2 hb).elim
    | none => exact ⟨rfl, by rw [hpL_app, h2]; exact hb⟩) k1' k2'
  -- the append
  refine wpList_plain g1 fun KK hKK' => ?_
  have rx := k3'.val _ _ ex
  have ry := k3'.val _ _ ey
  obtain ⟨_, happs⟩ := appendA_sound (ty := o1.type) happ
  obtain ⟨cv, w2, μ2, er, r1, r2, r3⟩ := happs hcs μ' w' _ _ qf.1 rx ry
  obtain ⟨sz0, bn, c0, hq0, hkeep⟩ := appendK (ty := o1.type) happ
  have hq1 : (hpL (bl1 ++ xl)).get q = some (.cells true sz0 bn c0) := hq0
  rw [hq] at hq1
  cases hq1
  have hK := hkeep hcs μ' w' _ _ qf.1 rx ry cv w2 er
  have hX2 := hX'.keep hj hl (r3.names.mono (show B ≤ K1 by omega)) hK (Nat.mul_le_mul_right _ hml)
  have hrun1 : (execOp a'.eval o1).run P w' = .ok (.value cv) w2 := by
   have e1 : (builtin .append #[ty, ty] o1.type #[false, false] #[a'.tmps.getD tx undef, a'.tmps.getD tY undef]).run P w' = .ok (.value cv) w2 := run_val er
   simp only [execOp, h1, resolve, Sem.run_bind, Sem.run_pure, List.map_toArray, List.map_cons, List.map_nil, Result.andThen]
   exact e1
  unfold Oper.wp
  rw [hrun1]
  refine hKK' _ _ (wpList_plain g2 fun KK2 hKK2 => ?_)
  have f1 : FrOk g2'.nx μ2 ((frL fl).upd d1 (some v)) (a'.put o1.dst cv).tmps n := by
   rw [e1]
   exact (k3'.later r3.names r3.nx).upd hd1 r1
  have hrun2 : (execOp (a'.put o1.dst cv).eval o2).run P w2 = .ok (.value ((a'.put o1.dst cv).eval (.tmp d1))) w2 := by
   simp only [execOp, h2, Sem.run_pure]
  unfold Oper.wp
  rw [hrun2]
  refine hKK2 _ _ (wpList_nil (hQ .normal _ _ _ _ ⟨rfl, rfl, rfl⟩ ⟨μ2, r2, ?_, ?_, ?_, hX2⟩))
  ·have x1 : ExtB B (hpL (bl ++ xl)) μ w (hpL (bl1 ++ xl)) μ' w' := ⟨qf.2.names.mono hBB, qf.2.os, qf.2.tape, qf.2.output, qf.2.size, qf.2.block, qf.2.may⟩
   exact x1.trans ⟨r3.names.mono (show B ≤ K1 by omega), r3.os, r3.tape, r3.output, r3.size, r3.block, r3.may⟩
  ·have hv2 : Rep g2'.nx μ2 v ((a'.put o1.dst cv).eval (.tmp d1)) := f1.val d1 v (by rw [T.get_upd, if_pos rfl])
   have := f1.upd hd2 hv2
   rw [e2]
   exact this
  ·rw [Act.put_defers, Act.put_defers]; exact k4
 ·exact hr.elim
theorem BkOk.view {N : Nat} {μ : MM} {hp : Array Obj} {g sz m : Nat} {c : Cont} (h : BkOk N μ hp g (.cells true sz m c)) : BkOk N μ hp g (.cells false sz m c) := by
 refine ⟨h.1, h.2.1, fun hr => ?_⟩
 obtain ⟨cur, ty, fz, h1, h2, h3, h4⟩ := h.2.2 (.inl (by
  rcases hr with hr | ⟨hr, _⟩
  ·exact hr
  ·cases hr))
 exact ⟨cur, ty, fz, h1, h2, fun h => (by cases h), h4⟩
def sgm (K j i : Nat) : Nat := if i = K then j else i
theorem sgm_lt {K j i : Nat} (h : i < K) : sgm K j i = i := if_neg (by omega)
theorem sgm_at {K j : Nat} : sgm K j K = j := if_pos rfl
theorem GoesB.fork {c : Code} {fr : Fr} {xl vl : List (Nat × ABk)} {fl0 : List (Nat × AV)} {PostX Post : Po} (hj : j < B) (hBK : B ≤ K) (hjl : (ABk.cells false sz m cj).lowR B) (hx : LowL B xl) (hdis : dis [(j, .cells true sz m cj)] xl = true)
  (hvl : ∀ p ∈ vl, (hpL xl).get p.1 = some p.2 ∧ p.2.owned = false) (hF : RenF (K + 1) (sgm K j) fr fl0)
  (h : GoesX P c n B (K + 1) K' (VX B j sz m cj) (frL fl0) (hpL (vl ++ [(K, .cells true sz m cj)])) PostX)
  (k : ∀ e fr' H', PostX e fr' H' → ∃ len' c', H'.get K = some (.cells true sz len' c') ∧ Post e fr' (hpL ((j, .cells false sz m cj) :: (K, .cells false sz len' c') :: xl))) :
  GoesB P c n B K K' fr (hpL ((j, .cells true sz m cj) :: xl)) Post := by
 intro μ w a hg hf Q hQ
 have u0 : MM.upto K μ (μ.via (sgm K j)) := ⟨fun g hg => by show μ.blk (sgm K j g) = _; rw [sgm_lt hg], fun g hg => by show μ.cap (sgm K j g) = _; rw [sgm_lt hg], fun g hg => by show μ.sz (sgm K j g) = _; rw [sgm_lt hg], fun g hg => by show μ.base (sgm K j g) = _; rw [sgm_lt hg]⟩
 have eK : AtN (μ.via (sgm K j)) (μ.via (sgm K j)) K := ⟨rfl, rfl, rfl, rfl⟩
 have bK : (μ.via (sgm K j)).blk K = μ.blk j := by show μ.blk (sgm K j K) = _; rw [sgm_at]
 have cK : (μ.via (sgm K j)).cap K = μ.cap j := by show μ.cap (sgm K j K) = _; rw [sgm_at]
 have zK : (μ.via (sgm K j)).sz K = μ.sz j := by show μ.sz (sgm K j K) = _; rw [sgm_at]
 have aK : (μ.via (sgm K j)).base K = μ.base j := by show μ.base (sgm K j K) = _; rw [sgm_at]
 have getj : (hpL ((j, ABk.cells true sz m cj) :: xl)).get j = some (.cells true sz m cj) := by simp only [hpL, T.get_upd, if_true]
 have inx : ∀ {i b}, (hpL xl).get i = some b → i ≠ j := fun hb e => by
  subst e
  exact dis_ne hdis (b := .cells true sz m cj) (by simp only [hpL, T.get_upd, if_true]) hb
 have getx : ∀ {i b}, (hpL xl).get i = some b → (hpL ((j, ABk.cells true sz m cj) :: xl)).get i = some b := fun hb => by
  simp only [hpL, T.get_upd]
  rw [if_neg (inx hb)]; exact hb
 have lox : ∀ {i b}, (hpL xl).get i = some b → i < B ∧ b.lowR B := fun hb => hx.get _ (hpL_get hb)
 have hjb := hg.ok j _ getj
 have case0 : ∀ {i b}, (hpL (vl ++ [(K, ABk.cells true sz m cj)])).get i = some b → ((hpL xl).get i = some b ∧ b.owned = false) ∨ (i = K ∧ b = .cells true sz m cj) := fun hb => by
  have := hpL_get hb
  rcases List.mem_append.1 this with h | h
  ·exact .inl (hvl _ h)
  ·simp only [List.mem_singleton] at h
   cases h; exact .inr ⟨rfl, rfl⟩
 have hg0 : GOk (K + 1) (μ.via (sgm K j)) w.heap (hpL (vl ++ [(K, .cells true sz m cj)])) := by
  refine ⟨fun i b hb => ?_, fun i b hb => ?_, fun i b i' b' hi hi' ho hr hr' he => ?_⟩
  ·rcases case0 hb with ⟨h, _⟩ | ⟨rfl, _⟩
   ·have := (lox h).1; omega
   ·omega
  ·rcases case0 hb with ⟨h, _⟩ | ⟨rfl, rfl⟩
   ·exact (hg.ok i b (getx h)).later u0 (by omega) (by have := (lox h).1; omega) fun _ => rfl
   ·have q := hjb
    simp only [BkOk] at q ⊢
    rw [bK, cK, zK, aK]
    refine ⟨q.1, q.2.1, fun hr => ?_⟩
    obtain ⟨cur, ty, fz, h1, h2, h3, h4⟩ := q.2.2 hr
    exact ⟨cur, ty, fz, h1, h2, h3, fun i hi => (h4 i hi).later u0 (by omega)⟩
  ·rcases case0 hi with ⟨h, h1⟩ | ⟨rfl, rfl⟩
   ·rw [h1] at ho; cases ho
   ·rcases case0 hi' with ⟨h', h1'⟩ | ⟨rfl, rfl⟩
    ·have hlt := (lox h').1
     rw [ABk.real_later u0 (by omega)] at hr'
     rw [bK, u0.blk i' (by omega)] at he
     exact (inx h' (hg.sep j _ i' b' getj (getx h') rfl ((ABk.real_eq cK _).1 hr) hr' he).symm).elim
    ·rfl
 have hf0 : FrOk (K + 1) (μ.via (sgm K j)) (frL fl0) a.tmps n := ⟨hf.size, fun t v ht => by
  obtain ⟨u, h1, h2, h3⟩ := hF.get _ (frL_get ht)
  exact (h2 _ _ _ (hf.val t u h1)).unren h3⟩
 have hX : VX B j sz m cj (μ.via (sgm K j)) w := ⟨(BkOk.view hjb).lowB hjl (u0.mono hBK) hj (Nat.le_refl _) fun _ => rfl, fun hm => by
  rw [u0.base j (by omega)]
  obtain ⟨cur, ty, fz, h1, h2, h3, h4⟩ := hjb.2.2 (.inl hm)
  exact (h3 rfl).2.2⟩
 have may0 : ∀ b, May (μ.via (sgm K j)) (hpL (vl ++ [(K, .cells true sz m cj)])) b → (ABk.cells true sz m cj).real μ j ∧ μ.blk j = b := fun b ⟨i, x, m1, m2, m3, m4⟩ => by
  rcases case0 m1 with ⟨h, h1⟩ | ⟨rfl, rfl⟩
  ·rw [h1] at m2; cases m2
  ·exact ⟨(ABk.real_eq cK _).1 m3, by rw [← bK]; exact m4⟩
 refine h _ w a hg0 hf0 hX Q fun e fr' H' a' w' hp ha => ?_
 obtain ⟨len', c', hK', hp'⟩ := k _ _ _ hp
 obtain ⟨μ', k1, k2, k3, k4, k5⟩ := ha.of
 have hKK : K < K' := k1.lt _ _ hK'
 have uB : MM.upto B μ μ' := (u0.mono hBK).trans k2.names (Nat.le_refl _)
 have nomay : ∀ {i b}, (hpL xl).get i = some b → b.real μ i → ¬ May (μ.via (sgm K j)) (hpL (vl ++ [(K, .cells true sz m cj)])) (μ.blk i) := fun hb hr hm => by
  obtain ⟨h1, h2⟩ := may0 _ hm
  exact inx hb (hg.sep j _ _ _ getj (getx hb) rfl h1 hr h2).symm
 have case1 : ∀ {i b}, (hpL ((j, ABk.cells false sz m cj) :: (K, ABk.cells false sz len' c') :: xl)).get i = some b → (i = j ∧ b = .cells false sz m cj) ∨ (i = K ∧ b = .cells false sz len' c') ∨ (hpL xl).get i = some b := fun hb => by
  simp only [hpL, T.get_upd] at hb
  split at hb
  ·cases hb; exact .inl ⟨‹_›, rfl⟩
  ·split at hb
   ·cases hb; exact .inr (.inl ⟨‹_›, rfl⟩)
   ·exact .inr (.inr hb)
 have realx : ∀ {i b}, (hpL xl).get i = some b → (b.real μ' i ↔ b.real μ i) := fun hb => ABk.real_later uB (lox hb).1 _
 have blkx : ∀ {i b}, (hpL xl).get i = some b → μ'.blk i = μ.blk i := fun hb => uB.blk _ (lox hb).1
 refine hQ e fr' _ a' w' hp' ⟨μ', ⟨fun i b hb => ?_, fun i b hb => ?_, fun i b i' b' hi hi' ho hr hr' he => ?_⟩, ⟨uB, k2.os, k2.tape, k2.output, k2.size, fun b hb hn => k2.block b hb fun hm => hn ?_, fun b hb hm => ?_⟩, k3, k4⟩
 ·rcases case1 hb with ⟨rfl, _⟩ | ⟨rfl, _⟩ | h
  ·omega
  ·exact hKK
  ·have := (lox h).1; omega
 ·rcases case1 hb with ⟨rfl, rfl⟩ | ⟨rfl, rfl⟩ | h
  ·exact k5.ok.later (.refl _ _) (by omega) hj fun _ => rfl
  ·exact BkOk.view (k1.ok _ _ hK')
  ·exact (hg.ok i b (getx h)).lowB (lox h).2 uB (lox h).1 (by omega) fun hr => k2.block _ ((hg.ok i b (getx h)).lt_size hr) (nomay h hr)
 ·rcases case1 hi with ⟨rfl, rfl⟩ | ⟨rfl, rfl⟩ | hq
  ·cases ho
  ·cases ho
  ·have hr := (realx hq).1 hr
   rw [blkx hq] at he
   have hlt := (hg.ok i b (getx hq)).lt_size hr
   rcases case1 hi' with ⟨rfl, rfl⟩ | ⟨rfl, rfl⟩ | h'
   ·have h0 := VX.real hr'
    rw [uB.blk _ hj] at he
    exact hg.sep i b _ _ (getx hq) getj ho hr (.inl h0) he
   ·have h0 := VX.real hr'
    have hm := k2.may _ hlt ⟨_, _, hK', rfl, .inl h0, he.symm⟩
    exact (nomay hq hr hm).elim
   ·have hr' := (realx h').1 hr'
    rw [blkx h'] at he
    exact hg.sep i b i' b' (getx hq) (getx h') ho hr hr' he
 ·obtain ⟨h1, h2⟩ := may0 b hm
  exact ⟨j, _, getj, rfl, h1, h2⟩
 ·obtain ⟨i, x, m1, m2, m3, m4⟩ := hm
  rcases case1 m1 with ⟨rfl, rfl⟩ | ⟨rfl, rfl⟩ | h
  ·cases m2
  ·cases m2
  ·exact ⟨i, x, getx h, m2, (realx h).1 m3, by rw [← blkx h]; exact m4⟩
end
end Go.Sx
set_option linter.unusedSimpArgs false
set_option linter.unusedVariables false
namespace Go.Sx
open M
variable {P : Program} {n B K K' : Nat}
abbrev Nm (F : List (Nat × AV)) (H : List (Nat × ABk)) : Po := fun e fr' H' => e = .normal ∧ fr' = frL F ∧ H' = hpL H
abbrev Xm (id : Nat) (F : List (Nat × AV)) (H : List (Nat × ABk)) : Po := fun e fr' H' => e = .exit id ∧ fr' = frL F ∧ H' = hpL H
theorem GoesB.lower {B' : Nat} {c : Code} {fr : Fr} {H : T ABk} {Post : Po} (h : GoesB P c n B' K K' fr H Post) (hB : B ≤ B') : GoesB P c n B K K' fr H Post :=
 fun μ w a hg hf Q hQ => h μ w a hg hf Q fun e fr' H' a' w' hp ha => hQ e fr' H' a' w' hp (by
  obtain ⟨μ', k1, k2, k3, k4⟩ := ha.of
  exact ⟨μ', k1, ⟨k2.names.mono hB, k2.os, k2.tape, k2.output, k2.size, k2.block, k2.may⟩, k3, k4⟩)
theorem GoesB.seqN {K1 : Nat} {x y : Code} {fr : Fr} {H : T ABk} {F1 : List (Nat × AV)} {H1 : List (Nat × ABk)} {Post : Po} (h1 : GoesB P x n B K K1 fr H (Nm F1 H1)) (hK : K1 ≤ K') (h2 : GoesB P y n B K1 K' (frL F1) (hpL H1) Post) : GoesB P (.seq x y) n B K K' fr H Post :=
 GoesB.seq hK (h1.mono fun e fr' H' ⟨e1, e2, e3⟩ => by subst e1 e2 e3; exact h2)
theorem GoesB.blockN {id : Nat} {c : Code} {fr : Fr} {H : T ABk} {F1 : List (Nat × AV)} {H1 : List (Nat × ABk)} (h : GoesB P c n B K K' fr H (Nm F1 H1)) : GoesB P (.block id c) n B K K' fr H (Nm F1 H1) :=
 GoesB.block (h.mono fun e fr' H' ⟨e1, e2, e3⟩ => by subst e1; exact ⟨rfl, e2, e3⟩)
theorem GoesB.toN {c : Code} {fr : Fr} {H : T ABk} {F F' : List (Nat × AV)} {H1 H1' : List (Nat × ABk)} (h : GoesB P c n B K K' fr H (Nm F H1)) (hf : Ge (frL F) F') (hh : GeH (hpL H1) H1') : GoesB P c n B K K' fr H (Nm F' H1') :=
 h.post fun e fr' H' ⟨e1, e2, e3⟩ => by subst e1 e2 e3; exact ⟨F', H1', hf, hh, rfl, rfl, rfl⟩
theorem GoesB.frameN {c : Code} {fr : Fr} {F : List (Nat × AV)} {bl bl' xl : List (Nat × ABk)} (h : GoesB P c n B K K' fr (hpL bl) (Nm F bl')) (hB : B ≤ K') (hx : LowL B xl) (hd : dis bl xl = true) (hd' : dis bl' xl = true) (ho : OwnL B bl bl') : GoesB P c n B K K' fr (hpL (bl ++ xl)) (Nm F (bl' ++ xl)) :=
 h.frameL hB hx hd fun e fr' H0' ⟨e1, e2, e3⟩ => ⟨bl', e3, hd', ho, e1, e2, rfl⟩
theorem GoesB.idleN {c : Code} {fr : Fr} {F : List (Nat × AV)} {xl : List (Nat × ABk)} (h : GoesB P c n B K K' fr (hpL []) (Nm F [])) (hB : B ≤ K') (hx : LowL B xl) : GoesB P c n B K K' fr (hpL xl) (Nm F xl) :=
 h.frameN (bl := []) (bl' := []) hB hx rfl rfl trivial
theorem GoesB.idleX {c : Code} {id : Nat} {fr : Fr} {F : List (Nat × AV)} {xl : List (Nat × ABk)} (h : GoesB P c n B K K' fr (hpL []) (Xm id F [])) (hB : B ≤ K') (hx : LowL B xl) : GoesB P c n B K K' fr (hpL xl) (Xm id F xl) :=
 h.frameL (bl := []) hB hx rfl fun e fr' H0' ⟨e1, e2, e3⟩ => ⟨[], e3, rfl, trivial, e1, e2, rfl⟩
theorem GoesB.seqX {K1 id : Nat} {x y : Code} {fr : Fr} {H : T ABk} {F1 : List (Nat × AV)} {H1 : List (Nat × ABk)} (h1 : GoesB P x n B K K1 fr H (Xm id F1 H1)) (hK : K1 ≤ K') : GoesB P (.seq x y) n B K K' fr H (Xm id F1 H1) :=
 GoesB.seq hK (h1.mono fun e fr' H' ⟨e1, e2, e3⟩ => by subst e1; exact ⟨rfl, e2, e3⟩)
theorem GoesB.rounds {c : Code} {id : Nat} (len : Nat) (F : Nat → List (Nat × AV)) (Hh : Nat → List (Nat × ABk)) {Z : List (Nat × AV)} {ZH : List (Nat × ABk)} (h : ∀ i, i < len → GoesB P c n B K K (frL (F i)) (hpL (Hh i)) (Nm (F (i + 1)) (Hh (i + 1)))) (hz : GoesB P c n B K K (frL (F len)) (hpL (Hh len)) (Xm id Z ZH)) :
  GoesB P (.block id (.loop c)) n B K K (frL (F 0)) (hpL (Hh 0)) (Nm Z ZH) :=
 (GoesB.count len F Hh Z ZH (fun _ => True) (fun _ _ => False) trivial fun i hi _ => by
  by_cases e : i < len
  ·exact (h i e).mono fun e' fr H ⟨e1, e2, e3⟩ => .inl ⟨e1, e, trivial, e2, e3⟩
  ·obtain rfl : i = len := by omega
   exact hz.mono fun e' fr H ⟨e1, e2, e3⟩ => .inr (.inl ⟨e1, trivial, e2, e3⟩)).mono fun e fr H h => by
  rcases h with ⟨e1, _, e2, e3⟩ | ⟨_, h⟩
  ·exact ⟨e1, e2, e3⟩
  ·exact h.elim
theorem GoesX.seqN {X : MM → World → Prop} {K1 : Nat} {x y : Code} {fr : Fr} {H : T ABk} {F1 : List (Nat × AV)} {H1 : List (Nat × ABk)} {Post : Po} (h1 : GoesX P x n B K K1 X fr H (Nm F1 H1)) (hK : K1 ≤ K') (h2 : GoesX P y n B K1 K' X (frL F1) (hpL H1) Post) : GoesX P (.seq x y) n B K K' X fr H Post :=
 GoesX.seq hK (h1.mono fun e fr' H' ⟨e1, e2, e3⟩ => by subst e1 e2 e3; exact h2)
theorem GoesX.blockN {X : MM → World → Prop} {id : Nat} {c : Code} {fr : Fr} {H : T ABk} {F1 : List (Nat × AV)} {H1 : List (Nat × ABk)} (h : GoesX P c n B K K' X fr H (Nm F1 H1)) : GoesX P (.block id c) n B K K' X fr H (Nm F1 H1) :=
 GoesX.block (h.mono fun e fr' H' ⟨e1, e2, e3⟩ => by subst e1; exact ⟨rfl, e2, e3⟩)
theorem GoesX.seqX {X : MM → World → Prop} {K1 id : Nat} {x y : Code} {fr : Fr} {H : T ABk} {F1 : List (Nat × AV)} {H1 : List (Nat × ABk)} (h1 : GoesX P x n B K K1 X fr H (Xm id F1 H1)) (hK : K1 ≤ K') : GoesX P (.seq x y) n B K K' X fr H (Xm id F1 H1) :=
 GoesX.seq hK (h1.mono fun e fr' H' ⟨e1, e2, e3⟩ => by subst e1; exact ⟨rfl, e2, e3⟩)
theorem GoesX.rounds {X : MM → World → Prop} {c : Code} {id : Nat} (len : Nat) (F : Nat → List (Nat × AV)) (Hh : Nat → List (Nat × ABk)) {Z : List (Nat × AV)} {ZH : List (Nat × ABk)} (h : ∀ i, i < len → GoesX P c n B K K X (frL (F i)) (hpL (Hh i)) (Nm (F (i + 1)) (Hh (i + 1)))) (hz : GoesX P c n B K K X (frL (F len)) (hpL (Hh len)) (Xm id Z ZH)) :
  GoesX P (.block id (.loop c)) n B K K X (frL (F 0)) (hpL (Hh 0)) (Nm Z ZH) := by
 refine GoesX.block ((GoesX.loop (fun m fr H => ∃ i, m = len - i ∧ i ≤ len ∧ fr = frL (F i) ∧ H = hpL (Hh i)) (Post := Xm id Z ZH) ?_ _ _ _ ⟨0, rfl, by omega, rfl, rfl⟩).mono fun e fr H ⟨e1, e2, e3⟩ => ?_)
 ·rintro k fr H ⟨i, rfl, hi, rfl, rfl⟩
  by_cases e : i < len
  ·exact (h i e).mono fun e' fr H ⟨e1, e2, e3⟩ => by subst e1; exact ⟨len - (i + 1), by omega, i + 1, rfl, by omega, e2, e3⟩
  ·obtain rfl : i = len := by omega
   exact hz.mono fun e' fr H ⟨e1, e2, e3⟩ => by subst e1; exact ⟨rfl, e2, e3⟩
 ·subst e1; simp only [if_true]; exact ⟨rfl, e2, e3⟩
theorem GoesX.pureN {j sz m : Nat} {cj : Cont} {B' : Nat} {c : Code} {fr : Fr} {bl xl : List (Nat × ABk)} {F : List (Nat × AV)} (hj : j < B) (hl : (ABk.cells false sz m cj).lowR B) (hBB : B ≤ B') (h : GoesB P c n B' K K' fr (hpL bl) (Nm F bl)) (hB : B' ≤ K') (hv : ∀ p ∈ bl, p.2.owned = false) (hx : LowL B' xl) (hd : dis bl xl = true) (ho : OwnL B' bl bl) :
  GoesX P c n B K K' (VX B j sz m cj) fr (hpL (bl ++ xl)) (Nm F (bl ++ xl)) :=
 GoesX.pure hj hl hBB h hB hv hx hd fun e fr' H0' ⟨e1, e2, e3⟩ => ⟨bl, e3, hd, ho, e1, e2, rfl⟩
theorem GoesX.pureX {j sz m : Nat} {cj : Cont} {B' id : Nat} {c : Code} {fr : Fr} {bl xl : List (Nat × ABk)} {F : List (Nat × AV)} (hj : j < B) (hl : (ABk.cells false sz m cj).lowR B) (hBB : B ≤ B') (h : GoesB P c n B' K K' fr (hpL bl) (Xm id F bl)) (hB : B' ≤ K') (hv : ∀ p ∈ bl, p.2.owned = false) (hx : LowL B' xl) (hd : dis bl xl = true) (ho : OwnL B' bl bl) :
  GoesX P c n B K K' (VX B j sz m cj) fr (hpL (bl ++ xl)) (Xm id F (bl ++ xl)) :=
 GoesX.pure hj hl hBB h hB hv hx hd fun e fr' H0' ⟨e1, e2, e3⟩ => ⟨bl, e3, hd, ho, e1, e2, rfl⟩
theorem GoesX.toN {j sz m : Nat} {cj : Cont} {K'' : Nat} {c : Code} {fr : Fr} {H : T ABk} {Post : Po} {F : List (Nat × AV)} {H1 : List (Nat × ABk)} (σ : Nat → Nat) (hj : j < B) (hl : (ABk.cells false sz m cj).lowR B) (h : GoesX P c n B K K' (VX B j sz m cj) fr H Post)
  (hσ : ∀ g, g < B → σ g = g) (hinj : ∀ i j, i < K'' → j < K'' → σ i = σ j → i = j) (k : ∀ e fr' H', Post e fr' H' → e = .normal ∧ RenF K'' σ fr' F ∧ RenG K'' σ H' H1) : GoesX P c n B K K'' (VX B j sz m cj) fr H (Nm F H1) :=
 GoesX.renG hj hl h fun e fr' H' hp => let ⟨e1, h1, h2⟩ := k e fr' H' hp; ⟨σ, F, H1, hσ, h1, h2, hinj, e1, rfl, rfl⟩
theorem GoesB.renN {K'' : Nat} {c : Code} {fr : Fr} {H : T ABk} {F0 F : List (Nat × AV)} {H0 H1 : List (Nat × ABk)} (σ : Nat → Nat) (h : GoesB P c n B K K' fr H (Nm F0 H0))
  (hσ : ∀ g, g < B → σ g = g) (hinj : ∀ i j, i < K'' → j < K'' → σ i = σ j → i = j) (h1 : RenF K'' σ (frL F0) F) (h2 : RenG K'' σ (hpL H0) H1) : GoesB P c n B K K'' fr H (Nm F H1) :=
 GoesB.renG h fun e fr' H' ⟨e1, e2, e3⟩ => by subst e1 e2 e3; exact ⟨σ, F, H1, hσ, h1, h2, hinj, rfl, rfl, rfl⟩
end Go.Sx
set_option linter.unusedSimpArgs false
set_option linter.unusedVariables false
namespace Go.Sx
open M
structure Told (g : G) (ρ : Nat → Nat) (K0 i : Nat) (b : ABk) : Prop where
 lt : i < K0
 low : b.lowR K0
 of : ∃ b1, g.H.get (ρ i) = some b1 ∧ (∀ N μ hp, BkOk N μ hp (ρ i) b1 → BkOk N μ hp (ρ i) (b.ren ρ)) ∧ (b.owned = true → b1.owned = true) ∧ ∀ μ m, b.real μ m → b1.real μ m
theorem smallCall {P : Program} {f : FuncId} {fn : Func} {c : Code} (hf : P.funcs[f]? = some fn) (hb : fn.body = some c) (hname : (fn.name == "runtime.NumGoroutine") = false) {args argsC : List AV} {g g' : G} {p : Prop} (hcs : g'.cs → g.cs ∧ p) (hnx : g'.nx = g.nx)
  {bl bl' : List (Nat × ABk)} {B0 K0 K' : Nat} (ρ : Nat → Nat) {v : AV} (hA : p → ∀ N μ (cs : List Value), Reps N μ args cs → Reps K0 (μ.via ρ) argsC cs)
  (hsub : p → ∀ i b, (hpL bl).get i = some b → Told g ρ K0 i b) (inj : p → ∀ i j b b', (hpL bl).get i = some b → (hpL bl).get j = some b' → ρ i = ρ j → i = j)
  (h : p → GoesB P c fn.ntmps B0 K0 K' (frameOf argsC 0 .e) (hpL bl) fun e fr' H' => (e = .ret ∨ e = .normal) ∧ ∃ vs gr, resultsA P fr' fn.results.toList ⟨H', K', [], [], True⟩ = .done vs gr ∧ gr.cs ∧ AV.ge (packA vs) v ∧ GeH H' bl') (hv : v.low 0 = true)
  (hg' : p → ∀ i b, g'.H.get i = some b → (g.H.get i = some b ∧ ∀ j bj, (hpL bl).get j = some bj → bj.owned = true → ρ j ≠ i) ∨ ∃ j bj, j < B0 ∧ ρ j = i ∧ (hpL bl').get j = some b ∧ b.bare ∧ (hpL bl).get j = some bj ∧ bj.owned = true ∧ ∀ μ m, b.real μ m → bj.real μ m) :
  CallIs P f args v g g' := by
 refine ⟨fun hc => (hcs hc).1, fun hc μ w cargs hg ha => ?_⟩
 obtain ⟨_, hp⟩ := hcs hc
 have T := fun i b hb => hsub hp i b hb
 have real1 : ∀ {i : Nat} {b : ABk}, b.real (μ.via ρ) i ↔ b.real μ (ρ i) := fun {i b} => ABk.real_eq rfl b
 have hgc : GOk K0 (μ.via ρ) w.heap (hpL bl) := by
  refine ⟨fun i b hb => (T i b hb).lt, fun i b hb => ?_, fun i b j b' hi hj ho hr hr' he => ?_⟩
  ·obtain ⟨b1, h1, h2, h3, h4⟩ := (T i b hb).of
   exact (h2 _ _ _ (hg.ok _ _ h1)).unren (T i b hb).low (fun i _ => ⟨rfl, rfl, rfl, rfl⟩) rfl rfl rfl rfl
  ·obtain ⟨b1, h1, h2, h3, h4⟩ := (T i b hi).of
   obtain ⟨b2, k1, k2, k3, k4⟩ := (T j b' hj).of
   exact inj hp i j b b' hi hj (hg.sep _ _ _ _ h1 k1 (h3 ho) (h4 _ _ (real1.1 hr)) (k4 _ _ (real1.1 hr')) he)
 have may1 : ∀ b, May (μ.via ρ) (hpL bl) b → ∃ j bj b1, (hpL bl).get j = some bj ∧ bj.owned = true ∧ g.H.get (ρ j) = some b1 ∧ b1.owned = true ∧ b1.real μ (ρ j) ∧ μ.blk (ρ j) = b := fun b ⟨j, bj, m1, m2, m3, m4⟩ => by
  obtain ⟨b1, h1, h2, h3, h4⟩ := (T j bj m1).of
  exact ⟨j, bj, b1, m1, m2, h1, h3 m2, h4 _ _ (real1.1 m3), m4⟩
 refine (GoesB.call hf hb hname (V := fun u H' => AV.ge u v ∧ GeH H' bl') ((h hp).mono fun e fr' H' ⟨k1, vs, gr, k2, k3, k4, k5⟩ => ⟨k1, vs, gr, k2, k3, k4, k5⟩) (μ.via ρ) w hgc (hA hp _ _ _ ha)).mono ?_
 rintro cv w' ⟨u, μ', H', ⟨hge, hG⟩, hrep, hgk, hE⟩
 -- what is told behind
 have told : ∀ j b, j < B0 → (hpL bl').get j = some b → b.bare → BkOk g'.nx μ w'.heap (ρ j) b := fun j b hj hb hbare => by
  obtain ⟨b0, e1, e2⟩ := hG.get _ (hpL_get hb)
  exact (e2.ok (hgk.ok j b0 e1)).bare hbare (hE.names.blk j hj).symm (hE.names.cap j hj).symm (hE.names.sz j hj).symm (hE.names.base j hj).symm
 have keep : ∀ i b, g.H.get i = some b → (∀ j bj, (hpL bl).get j = some bj → bj.owned = true → ρ j ≠ i) → b.real μ i → ¬ May (μ.via ρ) (hpL bl) (μ.blk i) := fun i b hb hn hr hm => by
  obtain ⟨j, bj, b1, m1, m2, m3, m4, m5, m6⟩ := may1 _ hm
  exact hn j bj m1 m2 (hg.sep _ _ _ _ m3 hb m4 m5 hr m6)
 refine ⟨μ, (Rep.ofLow (N := 0) (μ := μ) ⟨fun g hg => by omega, fun g hg => by omega, fun g hg => by omega, fun g hg => by omega⟩ hv (hge _ _ _ hrep)).later (.refl _ _) (Nat.zero_le _), ⟨fun i b hb => ?_, fun i b hb => ?_, fun i b j b' hi hj ho hr hr' he => ?_⟩, ⟨by omega, .refl _ _, hE.os, hE.tape, hE.output, hE.size, fun b hb hn => hE.block b hb fun hm => hn ?_, fun b hb hm => ?_⟩⟩
 ·rcases hg' hp i b hb with ⟨h1, _⟩ | ⟨j, bj, h1, h2, h3, h4, h5, h6, h7⟩
  ·rw [hnx]; exact hg.lt _ _ h1
  ·obtain ⟨b1, q1, _⟩ := (T j bj h5).of
   rw [hnx, ← h2]; exact hg.lt _ _ q1
 ·rcases hg' hp i b hb with ⟨h1, hn⟩ | ⟨j, bj, h1, h2, h3, h4, h5, h6, h7⟩
  ·exact (hg.ok i b h1).later (.refl _ _) (by omega) (hg.lt _ _ h1) fun hr => hE.block _ ((hg.ok i b h1).lt_size hr) (keep i b h1 hn hr)
  ·rw [← h2]; exact told j b h1 h3 h4
 ·-- apart
  have orig : ∀ i b, g'.H.get i = some b → b.real μ i → ∃ b1, g.H.get i = some b1 ∧ b1.real μ i ∧ (b.owned = true → b1.owned = true) := fun i b hb hr => by
   rcases hg' hp i b hb with ⟨h1, hn⟩ | ⟨j, bj, h1, h2, h3, h4, h5, h6, h7⟩
   ·exact ⟨b, h1, hr, id⟩
   ·obtain ⟨b1, q1, q2, q3, q4⟩ := (T j bj h5).of
    exact ⟨b1, by rw [← h2]; exact q1, q4 _ _ (h7 _ _ hr), fun _ => q3 h6⟩
  obtain ⟨b1, e1, e2, e3⟩ := orig i b hi hr
  obtain ⟨b2, k1, k2, k3⟩ := orig j b' hj hr'
  exact hg.sep i b1 j b2 e1 k1 (e3 ho) e2 k2 he
 ·obtain ⟨j, bj, b1, m1, m2, m3, m4, m5, m6⟩ := may1 _ hm
  exact ⟨ρ j, b1, m3, m4, m5, m6⟩
 ·obtain ⟨i, x, m1, m2, m3, m4⟩ := hm
  rcases hg' hp i x m1 with ⟨h1, hn⟩ | ⟨j, bj, h1, h2, h3, h4, h5, h6, h7⟩
  ·exact ⟨i, x, h1, m2, m3, m4⟩
  ·obtain ⟨b1, q1, q2, q3, q4⟩ := (T j bj h5).of
   exact ⟨i, b1, by rw [← h2]; exact q1, q3 h6, q4 _ _ (h7 _ _ m3), m4⟩
def nmL (l : List Nat) (i : Nat) : Nat := l.getD i 0
theorem nmL_inj {l : List Nat} (h : l.Nodup) {i j : Nat} (hi : i < l.length) (hj : j < l.length) (e : nmL l i = nmL l j) : i = j := by
 unfold nmL at e
 rw [List.getD_eq_getElem?_getD, List.getD_eq_getElem?_getD, List.getElem?_eq_getElem hi, List.getElem?_eq_getElem hj] at e
 exact (List.getElem_inj h).1 e
def nodupB : List Nat → Bool
 | [] => true
 | x :: l => l.all (fun y => !Nat.beq x y) && nodupB l
theorem nodup_of : ∀ {l : List Nat}, nodupB l = true → l.Nodup
 | [], _ => List.nodup_nil
 | x :: l, h => by
  simp only [nodupB, Bool.and_eq_true] at h
  refine List.nodup_cons.2 ⟨fun hx => ?_, nodup_of h.2⟩
  have := List.all_eq_true.1 h.1 x hx
  simp at this
theorem rep_slc0 {N K0 : Nat} {μ : MM} {ρ : Nat → Nat} {s own : Bool} {a : AA} {n i : Nat} {c : Value} (h : Rep N μ (.slc s own a n) c) (h1 : a.i = 0) (h2 : a.o = 0) (hi : i < K0) (e : ρ i = a.g) : Rep K0 (μ.via ρ) (.slc s own ⟨false, i, 0, 0⟩ n) c := by
 simp only [Rep, RepS] at h ⊢
 obtain ⟨h0, A, C, e1, e2, e3, e4, e5⟩ := h
 have ad : (μ.via ρ).addr ⟨false, i, 0, 0⟩ = μ.addr a := by
  simp only [MM.addr, MM.via, e, h1, h2]
  try simp
 refine ⟨hi, A, C, e1, e2, fun hl => by rw [ad]; exact e3 hl, e4, fun ho => ?_⟩
 obtain ⟨_, _, e6⟩ := e5 ho
 refine ⟨trivial, trivial, ?_⟩
 show (A = none ∧ C = 0 ∧ n = 0) ∨ (A = some ⟨μ.blk (ρ i), 0, none⟩ ∧ C = μ.cap (ρ i))
 rw [e]; exact e6
theorem RowOk.ge {N : Nat} {μ : MM} {row row' : List AV} {sz : Nat} {cur : Array Value} {base : Nat} (h : RowOk N μ row sz cur base) (k : RowGe row row') : RowOk N μ row' sz cur base :=
 ⟨k.length.trans h.1, fun o v hv => by
  obtain ⟨u, e1, e2, e3⟩ := k.get hv
  obtain ⟨_, cv, e4, e5⟩ := h.2 o u e1
  exact ⟨e3, cv, e4, e2 _ _ _ e5⟩⟩
theorem AV.ge.hdr {s own : Bool} {a : AA} {n q : Nat} (h1 : a.g = q) (h2 : a.i = 0) (h3 : a.o = 0) : AV.ge (.slc s own a n) (.slc true own ⟨false, q, 0, 0⟩ n) := fun N μ c h => by
 simp only [Rep, RepS] at h ⊢
 obtain ⟨h0, A, C, e1, e2, e3, e4, e5⟩ := h
 have ad : μ.addr ⟨false, q, 0, 0⟩ = μ.addr a := by simp only [MM.addr, h1, h2, h3]
 refine ⟨by rw [← h1]; exact h0, A, C, e1, e2, fun hl => by rw [ad]; exact e3 hl, fun h => (by cases h), fun ho => ?_⟩
 obtain ⟨_, _, e6⟩ := e5 ho
 exact ⟨trivial, trivial, by rw [← h1]; exact e6⟩
def expT (S : List AV → M AV) (args : List AV) : M AV := (S args).andThen fun v =>
 match v with
 | .sbool b => (req (b = true)).andThen fun _ => ret (.bool true)
 | .bool b => (req (b = true)).andThen fun _ => ret (.bool true)
 | _ => no
theorem expT_tch {S : List AV → M AV} (h : ∀ args, Tch (S args)) : ∀ args, Tch (expT S args) := fun args => (h args).andThen fun v => by
 cases v <;> first | exact (Tch.req _).andThen fun _ => Tch.ret _ | exact Tch.no
theorem CallIs.as {P : Program} {f : FuncId} {args : List AV} {u v : AV} {g g1 g' : G} {p : Prop} (h : CallIs P f args u g g1) (k : Keep g1 g' p) (hv : p → AV.ge u v) : CallIs P f args v g g' := by
 refine ⟨fun hc => h.1 (k.2.2 hc).1, fun hc μ w cargs hg ha => ?_⟩
 obtain ⟨h1, hp⟩ := k.2.2 hc
 refine (h.2 h1 μ w cargs hg ha).mono fun cv w' hA => ?_
 obtain ⟨μ', r1, r2, r3⟩ := hA
 refine ⟨μ', by rw [k.2.1]; exact hv hp _ _ _ r1, by rw [k.1, k.2.1]; exact r2, ?_⟩
 exact ⟨by rw [k.2.1]; exact r3.nx, r3.names, r3.os, r3.tape, r3.output, r3.size, r3.block, fun b hb hm => r3.may b hb (by rw [← k.1]; exact hm)⟩
theorem expT_ok {P : Program} {f : FuncId} {S : List AV → M AV} (h : ∀ args v g g', S args g = .done v g' → CallIs P f args v g g') : ∀ args v g g', expT S args g = .done v g' → CallIs P f args v g g' := by
 intro args v g g' hd
 unfold expT at hd
 obtain ⟨u, g1, a1, h1⟩ := done_of hd
 cases u with
 | sbool b =>
  obtain ⟨_, g2, a2, h2⟩ := done_of h1
  obtain ⟨rfl, rfl⟩ := ret_done h2
  exact (h _ _ _ _ a1).as (req_done a2) fun e => AV.ge.sboolb e
 | bool b =>
  obtain ⟨_, g2, a2, h2⟩ := done_of h1
  obtain ⟨rfl, rfl⟩ := ret_done h2
  exact (h _ _ _ _ a1).as (req_done a2) fun e => by subst e; exact AV.ge.refl _
 | _ => exact (no_done h1).elim
end Go.Sx
set_option linter.unusedSimpArgs false
set_option linter.unusedVariables false
namespace Go.Sx
open M
variable {P : Program} {n B K K' : Nat}
theorem AV.ge.raw {x : Nat} (s s' : Bool) (h : cn x = x) : AV.ge (.raw s x) (.flt s' x) := fun N μ c hr => by
 simp only [Rep] at hr ⊢
 obtain ⟨rfl, h2⟩ := hr
 exact ⟨x, rfl, h, h2⟩
theorem CallIs.by {f : FuncId} {args : List AV} {u v : AV} {g g1 g' : G} (h : CallIs P f args u g g1) (e1 : g'.H = g1.H) (e2 : g'.nx = g1.nx) (k : g'.cs → g1.cs ∧ AV.ge u v) (k0 : g'.cs → g.cs) : CallIs P f args v g g' := by
 refine ⟨k0, fun hc μ w cargs hg ha => ?_⟩
 obtain ⟨h1, hp⟩ := k hc
 refine (h.2 h1 μ w cargs hg ha).mono fun cv w' hA => ?_
 obtain ⟨μ', r1, r2, r3⟩ := hA
 refine ⟨μ', by rw [e2]; exact hp _ _ _ r1, by rw [e1, e2]; exact r2, ?_⟩
 exact ⟨by rw [e2]; exact r3.nx, r3.names, r3.os, r3.tape, r3.output, r3.size, r3.block, fun b hb hm => r3.may b hb (by rw [← e1]; exact hm)⟩
theorem GoesB.callR {call : Calls'} (hcall : CallOk P call) {region : List Oper → Fr → M Fr} {loops : Loops} {rounds : Nat} {ops : Array Oper} {id id1 id2 : Nat} {l1 l2 : List Oper} {o : Oper} (hops : ops.toList = l1 ++ (o :: l2))
  (hgd : ∀ o ∈ l1, o.guard = none) (hgo : o.guard = none) (hg2 : ∀ o ∈ l2, o.guard = none)
  {cl : Call} (ho : o.op = .call cl) {fop : Operand} (hcal : cl.callee = .value fop) {d : Nat} (hdst : o.dst = some d) (hd : d < n)
  {K1 K2 : Nat} (hKle : K1 ≤ K2) {fr : Fr} {H : T ABk} {fl1 : List (Nat × AV)} {bl1 : List (Nat × ABk)} {path : List Bool}
  (hrun : PieceN K1 .normal fl1 bl1 (codeA P call region loops n rounds (.region id1 l1.toArray false) fr ⟨H, K, [], path, True⟩))
  {f : FuncId} {fn : Func} {body : Code} (hf : P.funcs[f]? = some fn) (hb : fn.body = some body) (hname : (fn.name == "runtime.NumGoroutine") = false)
  {pre cap : List AV} (hfv : evalA (frL fl1) fop = .fn (.func f) pre cap) (hBK : B ≤ K) {V : AV → T ABk → Prop}
  (hcallee : GoesB P body fn.ntmps K1 K1 K2 (frameOf (pre ++ cl.args.toList.map (evalA (frL fl1)) ++ cap) 0 .e) (hpL bl1) fun e fr' H' => (e = .ret ∨ e = .normal) ∧ ∃ vs g', resultsA P fr' fn.results.toList ⟨H', K2, [], [], True⟩ = .done vs g' ∧ g'.cs ∧ ∃ u, AV.ge (packA vs) u ∧ V u H')
  {Post : Po} (hpost : ∀ v H', V v H' → ∃ path2 fl2 bl2, PieceN K' .normal fl2 bl2 (codeA P call region loops n rounds (.region id2 l2.toArray false) ((frL fl1).upd d (some v)) ⟨H', K2, [], path2, True⟩) ∧ Post .normal (frL fl2) (hpL bl2)) :
  GoesB P (.region id ops false) n B K K' fr H Post := by
 intro μ w a hg hf0 Q hQ
 refine wp_region_list ?_
 rw [hops]
 have hr := hrun.of
 generalize hres : codeA P call region loops n rounds (.region id1 l1.toArray false) fr ⟨H, K, [], path, True⟩ = res at hr
 unfold pieceN at hr
 split at hr
 ·rename_i r g
  obtain ⟨hre, hw, hh, hnx, hcs1⟩ := hr
  have hnx := Nat.le_of_ble_eq_true hnx
  unfold codeA at hres
  obtain ⟨fr1, g1, b1, b2⟩ := done_of hres
  obtain ⟨rfl, rfl⟩ := ret_done b2
  have b1' : opsA0 P call n l1 l1 fr ⟨H, K, [], path, True⟩ = .done fr1 g1 := by rw [← opsA_eq]; simpa using b1
  obtain ⟨_, hs⟩ := opsPre hcall (ops := ops) (Q := Q) (l2 := o :: l2) l1 _ _ _ _ hgd b1'
  refine hs hcs1 μ w a hg hf0 fun a1 w1 hk => ?_
  obtain ⟨μ1, k1, k2, k3, k4⟩ := hk
  have sub : ∀ i b, (hpL bl1).get i = some b → g1.H.get i = some b := fun i b hb => hh.get (hpL_get hb)
  have k1' : GOk K1 μ1 w1.heap (hpL bl1) := k1.up hnx sub
  have x1 : ExtB B H μ w (hpL bl1) μ1 w1 := ⟨k2.names.mono hBK, k2.os, k2.tape, k2.output, k2.size, k2.block, fun b hb hm => k2.may b hb (by
   obtain ⟨i, x, m1, m2, m3, m4⟩ := hm
   exact ⟨i, x, sub i x m1, m2, m3, m4⟩)⟩
  have k3' : FrOk K1 μ1 (frL fl1) a1.tmps n := ⟨k3.size, fun t v ht => (k3.val t v (hw.get (frL_get ht))).later (.refl _ _) hnx⟩
  have hKK : K ≤ K1 := Nat.le_trans k2.nx hnx
  refine wpList_plain hgo fun KK hKK' => ?_
  -- the call
  have hxv := k3'.eval fop
  rw [hfv] at hxv
  simp only [Rep] at hxv
  obtain ⟨fs, cs, e, h1, h2⟩ := hxv
  have hargs : Reps K1 μ1 (pre ++ cl.args.toList.map (evalA (frL fl1)) ++ cap) ((fs ++ cl.args.map a1.eval) ++ cs).toList := by
   simp only [Array.toList_append]
   exact (h1.append (k3'.evals _)).append h2
  have hcf := GoesB.call hf hb hname (V := fun v H' => ∃ u, AV.ge v u ∧ V u H') hcallee μ1 w1 k1' hargs
  have hrunop : (execOp a1.eval o).run P w1 = (callFunc f ((fs ++ cl.args.map a1.eval) ++ cs)).run P w1 := by
   simp only [execOp, ho, resolve, hcal, e, Deferred.ofValue, Sem.run_bind]
   rfl
  have fin : ∀ c w', (∃ v μ' H', (∃ u, AV.ge v u ∧ V u H') ∧ Rep K2 μ' v c ∧ GOk K2 μ' w'.heap H' ∧ ExtB K1 (hpL bl1) μ1 w1 H' μ' w') → KK (a1.put o.dst c) w' := by
   rintro c w' ⟨v0, μ2, H2, ⟨v, hge, hV⟩, r1, r2, r3⟩
   replace r1 := hge _ _ _ r1
   refine hKK' _ _ ?_
   obtain ⟨path2, fl2, bl2, hp2, hP⟩ := hpost v H2 hV
   have hr2 := hp2.of
   generalize hres2 : codeA P call region loops n rounds (.region id2 l2.toArray false) ((frL fl1).upd d (some v)) ⟨H2, K2, [], path2, True⟩ = res2 at hr2
   unfold pieceN at hr2
   split at hr2
   ·rename_i r' g'
    obtain ⟨hre', hw', hh', hnx', hcs2⟩ := hr2
    have hnx' := Nat.le_of_ble_eq_true hnx'
    unfold codeA at hres2
    obtain ⟨fr3, g3, b3, b4⟩ := done_of hres2
    obtain ⟨rfl, rfl⟩ := ret_done b4
    have b3' : opsA0 P call n l2 l2 ((frL fl1).upd d (some v)) ⟨H2, K2, [], path2, True⟩ = .done fr3 g3 := by rw [← opsA_eq]; simpa using b3
    obtain ⟨_, hs2⟩ := opsPre hcall (ops := ops) (Q := Q) (l2 := []) l2 _ _ _ _ hg2 b3'
    rw [List.append_nil] at hs2
    have f1 : FrOk K2 μ2 ((frL fl1).upd d (some v)) (a1.put o.dst c).tmps n := by
     rw [hdst]
     exact (k3'.later r3.names hKle).upd hd r1
    refine hs2 hcs2 μ2 w' _ r2 f1 fun a3 w3 hk3 => ?_
    obtain ⟨μ3, q1, q2, q3, q4⟩ := hk3
    have sub3 : ∀ i b, (hpL bl2).get i = some b → g3.H.get i = some b := fun i b hb => hh'.get (hpL_get hb)
    refine wpList_nil (hQ .normal _ _ _ _ hP ⟨μ3, q1.up hnx' sub3, ?_, ⟨q3.size, fun t v ht => (q3.val t v (hw'.get (frL_get ht))).later (.refl _ _) hnx'⟩, ?_⟩)
    ·have x2 : ExtB B (hpL bl1) μ1 w1 H2 μ2 w' := ⟨r3.names.mono (Nat.le_trans hBK hKK), r3.os, r3.tape, r3.output, r3.size, r3.block, r3.may⟩
     have x3 : ExtB B H2 μ2 w' (hpL bl2) μ3 w3 := ⟨q2.names.mono (Nat.le_trans hBK (Nat.le_trans hKK hKle)), q2.os, q2.tape, q2.output, q2.size, q2.block, fun b hb hm => q2.may b hb (by
      obtain ⟨i, x, m1, m2, m3, m4⟩ := hm
      exact ⟨i, x, sub3 i x m1, m2, m3, m4⟩)⟩
     exact (x1.trans x2).trans x3
    ·rw [q4, Act.put_defers]; exact k4
   ·exact hr2.elim
  unfold Oper.wp
  rw [hrunop]
  rcases hcf with ⟨c, w', e, ha⟩ | ⟨f', args', w', e, hcalls⟩
  ·rw [e]; exact fin c w' ha
  ·rw [e, Oper.upon_enter]
   refine hcalls.mono ?_
   rintro e1 w2 ⟨c, rfl, ha⟩
   exact fin c w2 ha
 ·exact hr.elim
def regPre (m : Nat) : Code → Code
 | .region i ops d => .region i (ops.toList.take m).toArray d
 | c => c
def regOps : Code → List Oper
 | .region _ ops _ => ops.toList
 | _ => []
def regId : Code → Nat
 | .region i _ _ => i
 | _ => 0
end Go.Sx
set_option linter.unusedSimpArgs false
set_option linter.unusedVariables false
namespace Go.Sx
open M
variable {P : Program} {n B K K' : Nat}
def SameM (b b' : ABk) : Prop := SameG b b' ∨ ∃ s s' l, b = .mSI s l ∧ b' = .mSI s' l
theorem SameM.owned {b b' : ABk} (h : SameM b b') : b.owned = b'.owned := by
 rcases h with h | ⟨s, s', l, rfl, rfl⟩
 ·exact h.owned
 ·rfl
theorem SameM.real {b b' : ABk} (h : SameM b b') (μ : MM) (g : Nat) : b.real μ g ↔ b'.real μ g := by
 rcases h with h | ⟨s, s', l, rfl, rfl⟩
 ·exact h.real μ g
 ·exact Iff.rfl
theorem SameM.ok {N : Nat} {μ : MM} {hp : Array Obj} {g : Nat} {b b' : ABk} (h : SameM b b') (k : BkOk N μ hp g b) : BkOk N μ hp g b' := by
 rcases h with h | ⟨s, s', l, rfl, rfl⟩
 ·exact h.ok k
 ·exact k
def GeM (H : T ABk) : List (Nat × ABk) → Prop
 | [] => True
 | p :: l => (∃ b, H.get p.1 = some b ∧ SameM b p.2) ∧ GeM H l
theorem GeM.get {H : T ABk} : ∀ {l : List (Nat × ABk)}, GeM H l → ∀ p ∈ l, ∃ b, H.get p.1 = some b ∧ SameM b p.2
 | q :: l, h, p, hp => by
  rcases List.mem_cons.1 hp with rfl | hp
  ·exact h.1
  ·exact GeM.get h.2 p hp
end Go.Sx
