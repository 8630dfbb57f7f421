/- THE ENGINE, part 2: an interpreter of the program's code over abstract values, and its proof. -/
import Derived.Test.YtdagokpedjfepaaSm1
import Derived.Deep.Slices
import Derived.OpenShut
noncomputable section
set_option linter.unusedSimpArgs false
set_option linter.unusedVariables false
namespace Go.Sx
open M
def aQ : List (Nat × AV) → Fr
 | [] => .e
 | p :: l => (aQ l).upd p.1 (some p.2)
def hpL : List (Nat × aF) → T aF
 | [] => .e
 | p :: l => (hpL l).upd p.1 (some p.2)
theorem iK : ∀ {l : List (Nat × AV)} {t : Nat} {v : AV}, (aQ l).get t = some v → (t, v) ∈ l
 | [], t, v, h => by simp [aQ, T.uH] at h
 | p :: l, t, v, h => by
  simp only [aQ, T.bP] at h
  split at h
  ·rename_i e; cases h; subst e; exact List.mem_cons_self
  ·exact List.mem_cons_of_mem _ (iK h)
theorem bC : ∀ {l : List (Nat × aF)} {t : Nat} {v : aF}, (hpL l).get t = some v → (t, v) ∈ l
 | [], t, v, h => by simp [hpL, T.uH] at h
 | p :: l, t, v, h => by
  simp only [hpL, T.bP] at h
  split at h
  ·rename_i e; cases h; subst e; exact List.mem_cons_self
  ·exact List.mem_cons_of_mem _ (bC h)
def GN (fr : Fr) : List (Nat × AV) → Prop
 | [] => True
 | p :: l => fr.get p.1 = some p.2 ∧ GN fr l
def Ae (H : T aF) : List (Nat × aF) → Prop
 | [] => True
 | p :: l => H.get p.1 = some p.2 ∧ Ae H l
theorem GN.get {fr : Fr} : ∀ {l : List (Nat × AV)} {p : Nat × AV}, GN fr l → p ∈ l → fr.get p.1 = some p.2
 | q :: l, p, h, hp => by
  rcases List.mem_cons.1 hp with rfl | hp
  ·exact h.1
  ·exact GN.get h.2 hp
theorem Ae.get {H : T aF} : ∀ {l : List (Nat × aF)} {p : Nat × aF}, Ae H l → p ∈ l → H.get p.1 = some p.2
 | q :: l, p, h, hp => by
  rcases List.mem_cons.1 hp with rfl | hp
  ·exact h.1
  ·exact Ae.get h.2 hp
def Oy (e : Ex) (fl : List (Nat × AV)) (hl : List (Nat × aF)) : BU (Ex × Fr) → Prop
 | .done r g => r.1 = e ∧ GN r.2 fl ∧ Ae g.H hl ∧ g.cs
 | _ => False
structure U6 (e : Ex) (fl : List (Nat × AV)) (hl : List (Nat × aF)) (r : BU (Ex × Fr)) : Prop where
 of : Oy e fl hl r
def afL (K : Nat) (fl : List (Nat × AV)) : Prop := ∀ p ∈ fl, p.2.low K = true
def afM (K : Nat) (hl : List (Nat × aF)) : Prop := ∀ p ∈ hl, p.1 < K ∧ p.2.bare
structure At (n K K' : Nat) (H : T aF) (μ : MM) (w : World) (H' : T aF) (fr' : Fr) (a a' : Act) (w' : World) : Prop where
 of : ∃ μ', eX K' μ' w'.heap H' ∧ Ext ⟨H, K, [], [], True⟩ μ w ⟨H', K', [], [], True⟩ μ' w' ∧ dM K' μ' fr' a'.tmps n ∧ a'.defers = a.defers
def Goes (P : Program) (c : Code) (n K K' : Nat) (fr : Fr) (H : T aF) (Post : Ex → Fr → T aF → Prop) : Prop :=
 ∀ μ w (a : Act), eX K μ w.heap H → dM K μ fr a.tmps n → ∀ Q : Exit → Act → World → Prop, (∀ e fr' H' a' w', Post e fr' H' → At n K K' H μ w H' fr' a a' w' → Q e.ex a' w') → c.wp P Q a w
theorem At.trans {n K K' K'' : Nat} {H H' FX : T aF} {μ : MM} {w w' w'' : World} {qo : Fr} {a a' a'' : Act} {μ' : MM} (h1 : Ext ⟨H, K, [], [], True⟩ μ w ⟨H', K', [], [], True⟩ μ' w') (h2 : a'.defers = a.defers) (h : At n K' K'' H' μ' w' FX qo a' a'' w'') : At n K K'' H μ w FX qo a a'' w'' := by
 obtain ⟨μ'', k1, k2, k3, k4⟩ := h.of
 exact ⟨μ'', k1, h1.trans k2, k3, k4.trans h2⟩
theorem At.up {n K K' K'' : Nat} {H H' : T aF} {μ : MM} {w w' : World} {fr' : Fr} {a a' : Act} (h : At n K K' H μ w H' fr' a a' w') (hK : K' ≤ K'') : At n K K'' H μ w H' fr' a a' w' := by
 obtain ⟨μ', k1, k2, k3, k4⟩ := h.of
 exact ⟨μ', k1.up hK fun _ _ h => h, ⟨Nat.le_trans k2.nx hK, k2.names, k2.os, k2.tape, k2.output, k2.size, k2.block, k2.may⟩, k3.later (.refl _ _) hK, k4⟩
theorem Goes.mono {P : Program} {c : Code} {n K K' : Nat} {fr : Fr} {H : T aF} {Post Post' : Ex → Fr → T aF → Prop} (h : Goes P c n K K' fr H Post) (k : ∀ e fr' H', Post e fr' H' → Post' e fr' H') : Goes P c n K K' fr H Post' :=
 fun μ w a hg hf Q hQ => h μ w a hg hf Q fun e fr' H' a' w' hp ha => hQ e fr' H' a' w' (k _ _ _ hp) ha
theorem Goes.up {P : Program} {c : Code} {n K K' K'' : Nat} {fr : Fr} {H : T aF} {Post : Ex → Fr → T aF → Prop} (h : Goes P c n K K' fr H Post) (hK : K' ≤ K'') : Goes P c n K K'' fr H Post :=
 fun μ w a hg hf Q hQ => h μ w a hg hf Q fun e fr' H' a' w' hp ha => hQ e fr' H' a' w' hp (ha.up hK)
theorem Goes.run {P : Program} {call : Calls'} (hcall : cO P call) {region : List Oper → Fr → M Fr} {loops : Loops} {n rounds K K' : Nat} (qO : gq P region n) {c : Code} (hl : iI P loops n c) {fr : Fr} {H : T aF} {path : List Bool}
  {e : Ex} {fl : List (Nat × AV)} {bl : List (Nat × aF)} (h : U6 e fl bl (cu P call region loops n rounds c fr ⟨H, K, [], path, True⟩)) (h1 : afL K' fl) (h2 : afM K' bl) (hK : K ≤ K') :
  Goes P c n K K' fr H fun e' fr' H' => e' = e ∧ fr' = aQ fl ∧ H' = hpL bl := by
 have h := h.of
 generalize hr : cu P call region loops n rounds c fr ⟨H, K, [], path, True⟩ = res at h
 unfold Oy at h
 split at h
 ·rename_i r g
  obtain ⟨rfl, hw, hh, hcs⟩ := h
  obtain ⟨_, hs⟩ := fZ hcall qO c hl _ _ _ _ hr
  intro μ w a hg hf Q hQ
  refine hs hcs μ w a hg hf Q fun a' w' hk => hQ r.1 _ _ a' w' ⟨rfl, rfl, rfl⟩ ⟨?_⟩
  obtain ⟨μ', k1, k2, k3, k4⟩ := hk
  have sub : ∀ i b, (hpL bl).get i = some b → g.H.get i = some b ∧ i < K' ∧ b.bare := fun i b hb => by
   have hm := bC hb
   exact ⟨hh.get hm, (h2 _ hm).1, (h2 _ hm).2⟩
  refine ⟨μ', ⟨fun i b hb => (sub i b hb).2.1, fun i b hb => (k1.ok _ _ (sub i b hb).1).bare (sub i b hb).2.2 rfl rfl rfl rfl, fun i b j b' hi hj => k1.sep _ _ _ _ (sub i b hi).1 (sub j b' hj).1⟩, ?_, ⟨k3.size, fun t v ht => ?_⟩, k4⟩
  ·exact ⟨hK, k2.names, k2.os, k2.tape, k2.output, k2.size, k2.block, fun B hB hm => k2.may B hB (by
    obtain ⟨i, b, m1, m2, m3, m4⟩ := hm
    exact ⟨i, b, (sub i b m1).1, m2, m3, m4⟩)⟩
  ·have hm := iK ht
   exact Rep.nO (.refl _ _) (h1 _ hm) (k3.val t v (hw.get hm))
 ·exact h.elim
theorem Goes.abN {P : Program} {c : Code} {n K K' : Nat} {fr qp : Fr} {H : T aF} {Post : Ex → Fr → T aF → Prop} (hf : ∀ t v, qp.get t = some v → ∃ u, fr.get t = some u ∧ ∀ N μ cv, Rep N μ u cv → Rep N μ v cv) (h : Goes P c n K K' qp H Post) : Goes P c n K K' fr H Post := by
 intro μ w a hg hfr Q hQ
 exact h μ w a hg ⟨hfr.size, fun t v ht => let ⟨u, h1, h2⟩ := hf t v ht; h2 _ _ _ (hfr.val t u h1)⟩ Q hQ
theorem Goes.seq {P : Program} {x y : Code} {n K K1 K' : Nat} {fr : Fr} {H : T aF} {Post : Ex → Fr → T aF → Prop} (hK : K1 ≤ K')
  (h : Goes P x n K K1 fr H fun e fr' H' => match e with
   | .normal => Goes P y n K1 K' fr' H' Post
   | e => Post e fr' H') : Goes P (.seq x y) n K K' fr H Post := by
 intro μ w a hg hf Q hQ
 refine wp_seq (h μ w a hg hf _ fun e fr' H' a' w' hp ha => ?_)
 cases e with
 | normal =>
  obtain ⟨μ', k1, k2, k3, k4⟩ := ha.of
  exact hp μ' w' a' k1 k3 Q fun e'' qo FX a'' w'' hp' ha' => hQ _ _ _ _ _ hp' (At.trans k2 k4 ha')
 | exit id => exact hQ _ _ _ _ _ hp (ha.up hK)
 | ret => exact hQ _ _ _ _ _ hp (ha.up hK)
theorem Goes.block {P : Program} {id : Nat} {c : Code} {n K K' : Nat} {fr : Fr} {H : T aF} {Post : Ex → Fr → T aF → Prop}
  (h : Goes P c n K K' fr H fun e fr' H' => match e with
   | .exit id' => if id' = id then Post .normal fr' H' else Post (.exit id') fr' H'
   | e => Post e fr' H') : Goes P (.block id c) n K K' fr H Post := by
 intro μ w a hg hf Q hQ
 refine wp_block (h μ w a hg hf _ fun e fr' H' a' w' hp ha => ?_)
 cases e with
 | normal => exact hQ _ _ _ _ _ hp ha
 | ret => exact hQ _ _ _ _ _ hp ha
 | exit id' =>
  simp only [Ex.ex, Exit.inBlock]
  by_cases he : id' = id
  ·simp only [he, if_true] at hp ⊢
   exact hQ .normal _ _ _ _ hp ha
  ·simp only [if_neg he] at hp ⊢
   exact hQ (.exit id') _ _ _ _ hp ha
theorem Goes.loop {P : Program} {c : Code} {n K : Nat} {Post : Ex → Fr → T aF → Prop} (I : Nat → Fr → T aF → Prop)
  (h : ∀ k fr H, I k fr H → Goes P c n K K fr H fun e fr' H' => match e with
   | .normal => ∃ k', k' < k ∧ I k' fr' H'
   | e => Post e fr' H') : ∀ k fr H, I k fr H → Goes P (.loop c) n K K fr H Post := by
 have key : ∀ R k fr H, k < R → I k fr H → ∀ μ w (a : Act), eX K μ w.heap H → dM K μ fr a.tmps n → ∀ Q : Exit → Act → World → Prop, (∀ e fr' H' a' w', Post e fr' H' → At n K K H μ w H' fr' a a' w' → Q e.ex a' w') → Code.rounds P c Q R a w := by
  intro R
  induction R with
  | zero => intro k fr H hk; omega
  | succ R ih =>
   intro k fr H hkR hI μ w a hg hf Q hQ
   rw [rounds_succ]
   refine wp_mono (h k fr H hI μ w a hg hf (fun e a' w' => (e = .normal ∧ ∃ k' fr' H', k' < k ∧ I k' fr' H' ∧ At n K K H μ w H' fr' a a' w') ∨ (e ≠ .normal ∧ Q e a' w')) fun e fr' H' a' w' hp ha => ?_) ?_
   ·cases e with
    | normal =>
     obtain ⟨k', hk, hI'⟩ := hp
     exact .inl ⟨rfl, k', fr', H', hk, hI', ha⟩
    | exit id => exact .inr ⟨by simp [Ex.ex], hQ (.exit id) _ _ _ _ hp ha⟩
    | ret => exact .inr ⟨by simp [Ex.ex], hQ .ret _ _ _ _ hp ha⟩
   ·rintro e a' w' (⟨rfl, k', fr', H', hk, hI', ha⟩ | ⟨hne, hq⟩)
    ·obtain ⟨μ', k1, k2, k3, k4⟩ := ha.of
     exact ih k' fr' H' (by omega) hI' μ' w' a' k1 k3 Q fun e'' qo FX a'' w'' hp' ha' => hQ _ _ _ _ _ hp' (At.trans k2 k4 ha')
    ·cases e <;> first | exact absurd rfl hne | exact hq
 intro k fr H hI μ w a hg hf Q hQ
 exact wp_loop_rounds (k + 1) (key (k + 1) k fr H (by omega) hI μ w a hg hf Q hQ)
theorem Goes.call {P : Program} {f : FuncId} {fn : Func} {c : Code} (hf : P.funcs[f]? = some fn) (hb : fn.body = some c) (hname : (fn.name == "runtime.NumGoroutine") = false) {K K' : Nat} {args : List AV} {H : T aF} {t : Tmp} (hres : fn.results.toList = [.tmp t]) {V : AV → Prop}
  (h : Goes P c fn.ntmps K K' (bJ args 0 .e) H fun e fr' H' => (e = .ret ∨ e = .normal) ∧ ∃ v, fr'.get t = some v ∧ V v)
  (μ : MM) (w : World) {bT : Array Value} (hg : eX K μ w.heap H) (ha : aI K μ args bT.toList) :
  CF P f bT w fun cv w' => ∃ v μ' H', V v ∧ Rep K' μ' v cv ∧ eX K' μ' w'.heap H' ∧ Ext ⟨H, K, [], [], True⟩ μ w ⟨H', K', [], [], True⟩ μ' w' := by
 refine .inr ⟨f, bT, w, qV hf hname hb bT w, calls_of_wp hf hb (h μ w _ hg (dM.start ha fn.ntmps) _ fun e fr' H' a' w' hp hA => ?_)⟩
 obtain ⟨he, v, hv, hV⟩ := hp
 obtain ⟨μ', k1, k2, k3, k4⟩ := hA.of
 have hrep := k3.val t v hv
 have hrun : (results fn a'.tmps).run P w' = .ok (a'.tmps.getD t undef) w' := by
  have e1 : (fn.results.toList.mapM (nI a'.tmps)).run P w' = .ok [a'.tmps.getD t undef] w' := by rw [hres]; simp [List.mapM_cons, nI]
  obtain ⟨cv, e2, hcv⟩ := uT (N := 0) (μ := μ') (vs := [.top]) e1 (by simp [aI, Rep])
  have e3 : (fn.results.mapM (nI a'.tmps)).run P w' = .ok #[a'.tmps.getD t undef] w' := by
   rw [Array.mapM_eq_mapM_toList, map_eq_pure_bind, Sem.run_bind, e1]; rfl
  have e4 : results fn a'.tmps = (do
    let vs ← fn.results.mapM (nI a'.tmps)
    pure (if h : vs.size = 1 then vs[0] else .tuple vs)) := by
   unfold results
   congr 1
  rw [e4, Sem.run_bind, e3]; rfl
 have hd : a'.defers = [] := k4
 have post : a'.defers = [] ∧ ∃ x, (results fn a'.tmps).run P w' = .ok x w' ∧ ∃ c0, Ending.returned x = .returned c0 ∧ ∃ v μ' H', V v ∧ Rep K' μ' v c0 ∧ eX K' μ' w'.heap H' ∧ Ext ⟨H, K, [], [], True⟩ μ w ⟨H', K', [], [], True⟩ μ' w' :=
  ⟨hd, _, hrun, _, rfl, v, μ', H', hV, hrep, k1, k2⟩
 rcases he with rfl | rfl
 ·exact post
 ·exact post
end Go.Sx
namespace Go.Sx
open M
mutual
def AV.ji (S : Nat → Prop) : AV → Prop
 | .ptr a => S a.g
 | .slc _ _ a _ => S a.g
 | .mp g => S g
 | .fn _ l c => jg S l ∧ jg S c
 | .agg l => jg S l
 | .iD l => jg S l
 | _ => True
def jg (S : Nat → Prop) : List AV → Prop
 | [] => True
 | v :: l => v.ji S ∧ jg S l
end
mutual
theorem AV.ji.mono {S S' : Nat → Prop} (h : ∀ g, S g → S' g) : ∀ {v : AV}, v.ji S → v.ji S'
 | .top, _ => trivial
 | .bool _, _ => trivial
 | .aP _, _ => trivial
 | .int .., _ => trivial
 | .flt .., _ => trivial
 | .raw .., _ => trivial
 | .bits .., _ => trivial
 | .dD .., _ => trivial
 | .str .., _ => trivial
 | .ptr a, k => h _ k
 | .bG, _ => trivial
 | .slc .., k => h _ k
 | .aX, _ => trivial
 | .mp g, k => h _ k
 | .zS, _ => trivial
 | .fn f l c, k => by
  simp only [AV.ji] at k ⊢
  exact ⟨jg.mono h k.1, jg.mono h k.2⟩
 | .xu, _ => trivial
 | .C9, _ => trivial
 | .agg l, k => by simp only [AV.ji] at k ⊢; exact jg.mono h k
 | .iD l, k => by simp only [AV.ji] at k ⊢; exact jg.mono h k
theorem jg.mono {S S' : Nat → Prop} (h : ∀ g, S g → S' g) : ∀ {l : List AV}, jg S l → jg S' l
 | [], _ => trivial
 | v :: l, k => by simp only [jg] at k ⊢; exact ⟨AV.ji.mono h k.1, jg.mono h k.2⟩
end
structure Jb (μ μ' : MM) (g : Nat) : Prop where
 blk : μ'.blk g = μ.blk g
 cap : μ'.cap g = μ.cap g
 sz : μ'.sz g = μ.sz g
 base : μ'.base g = μ.base g
theorem Jb.addr {μ μ' : MM} {a : AA} (h : Jb μ μ' a.g) : μ'.addr a = μ.addr a := by simp [MM.addr, h.blk, h.sz, h.base]
mutual
theorem Rep.on {N N' : Nat} {μ μ' : MM} {S : Nat → Prop} (h : ∀ g, S g → g < N → g < N' ∧ Jb μ μ' g) : ∀ {v : AV} {c : Value}, v.ji S → Rep N μ v c → Rep N' μ' v c
 | .top, _, _, _ => by simp [Rep]
 | .bool _, _, _, r => by simpa [Rep] using r
 | .aP _, _, _, r => by simpa [Rep] using r
 | .int .., _, _, r => by simpa [Rep] using r
 | .flt .., _, _, r => by simpa [Rep] using r
 | .raw .., _, _, r => by simpa [Rep] using r
 | .bits .., _, _, r => by simpa [Rep] using r
 | .dD .., _, _, r => by simpa [Rep] using r
 | .str .., _, _, r => by simpa [Rep] using r
 | .ptr a, _, l, r => by
  simp only [Rep, AV.ji] at r l ⊢
  obtain ⟨h1, h2⟩ := h _ l r.1
  exact ⟨h1, by rw [h2.addr]; exact r.2⟩
 | .bG, _, _, r => by simpa [Rep] using r
 | .slc _ own a len, _, l, r => by
  simp only [Rep, yH, AV.ji] at r l ⊢
  obtain ⟨hg, A, C, rfl, hlen, h1, h3, h2⟩ := r
  obtain ⟨k1, k2⟩ := h _ l hg
  exact ⟨k1, A, C, rfl, hlen, by rw [k2.addr]; exact h1, h3, by rw [k2.blk, k2.cap]; exact h2⟩
 | .aX, _, _, r => by simpa [Rep] using r
 | .mp g, _, l, r => by
  simp only [Rep, AV.ji] at r l ⊢
  obtain ⟨h1, h2⟩ := h _ l r.1
  exact ⟨h1, by rw [h2.blk]; exact r.2⟩
 | .zS, _, _, r => by simpa [Rep] using r
 | .fn f l cap, _, lo, r => by
  simp only [Rep, AV.ji] at r lo ⊢
  obtain ⟨fs, cs, rfl, h1, h2⟩ := r
  exact ⟨fs, cs, rfl, aI.on h lo.1 h1, aI.on h lo.2 h2⟩
 | .xu, _, _, r => by simpa [Rep] using r
 | .C9, _, _, r => by simpa [Rep] using r
 | .agg l, _, lo, r => by
  simp only [Rep, AV.ji] at r lo ⊢
  obtain ⟨cs, rfl, h1⟩ := r
  exact ⟨cs, rfl, aI.on h lo h1⟩
 | .iD l, _, lo, r => by
  simp only [Rep, AV.ji] at r lo ⊢
  obtain ⟨cs, rfl, h1⟩ := r
  exact ⟨cs, rfl, aI.on h lo h1⟩
theorem aI.on {N N' : Nat} {μ μ' : MM} {S : Nat → Prop} (h : ∀ g, S g → g < N → g < N' ∧ Jb μ μ' g) : ∀ {l : List AV} {cs : List Value}, jg S l → aI N μ l cs → aI N' μ' l cs
 | [], _, _, r => by simpa [aI] using r
 | v :: l, _, lo, r => by
  simp only [aI, jg] at r lo ⊢
  obtain ⟨c, t, rfl, h1, h2⟩ := r
  exact ⟨c, t, rfl, Rep.on h lo.1 h1, aI.on h lo.2 h2⟩
end
mutual
theorem Rep.Qq {N : Nat} {μ : MM} : ∀ {v : AV} {c : Value}, Rep N μ v c → v.ji (· < N)
 | .top, _, _ => trivial
 | .bool _, _, _ => trivial
 | .aP _, _, _ => trivial
 | .int .., _, _ => trivial
 | .flt .., _, _ => trivial
 | .raw .., _, _ => trivial
 | .bits .., _, _ => trivial
 | .dD .., _, _ => trivial
 | .str .., _, _ => trivial
 | .ptr a, _, r => by simp only [Rep, AV.ji] at r ⊢; exact r.1
 | .bG, _, _ => trivial
 | .slc .., _, r => by simp only [Rep, AV.ji] at r ⊢; exact r.1
 | .aX, _, _ => trivial
 | .mp g, _, r => by simp only [Rep, AV.ji] at r ⊢; exact r.1
 | .zS, _, _ => trivial
 | .fn f l c, _, r => by
  simp only [Rep, AV.ji] at r ⊢
  obtain ⟨fs, cs, rfl, h1, h2⟩ := r
  exact ⟨aI.Qq h1, aI.Qq h2⟩
 | .xu, _, _ => trivial
 | .C9, _, _ => trivial
 | .agg l, _, r => by
  simp only [Rep, AV.ji] at r ⊢
  obtain ⟨cs, rfl, h1⟩ := r
  exact aI.Qq h1
 | .iD l, _, r => by
  simp only [Rep, AV.ji] at r ⊢
  obtain ⟨cs, rfl, h1⟩ := r
  exact aI.Qq h1
theorem aI.Qq {N : Nat} {μ : MM} : ∀ {l : List AV} {cs : List Value}, aI N μ l cs → jg (· < N) l
 | [], _, _ => trivial
 | v :: l, _, r => by
  simp only [aI, jg] at r ⊢
  obtain ⟨c, t, rfl, h1, h2⟩ := r
  exact ⟨Rep.Qq h1, aI.Qq h2⟩
end
def aF.ji (S : Nat → Prop) : aF → Prop
 | .cells _ _ n c => ∀ i, i < n → ∀ (o : Nat) (v : AV), (c.row i)[o]? = some v → v.ji S
 | _ => True
theorem aF.ji.mono {S S' : Nat → Prop} (h : ∀ g, S g → S' g) : ∀ {b : aF}, b.ji S → b.ji S'
 | .cells .., k => fun i hi o v hv => (k i hi o v hv).mono h
 | .aW .., _ => trivial
 | .RZ .., _ => trivial
 | .sit .., _ => trivial
theorem dw.Qq {N : Nat} {μ : MM} {hp : Array Obj} {g : Nat} {b : aF} (r : dw N μ hp g b) : b.ji (· < N) := by
 cases b with
 | cells own sz n c =>
  intro i hi o v hv
  obtain ⟨cur, ty, fz, _, _, _, h4⟩ := r.2.2 (.inl (by omega))
  obtain ⟨_, cv, _, h5⟩ := (h4 i hi).2 o v hv
  exact h5.Qq
 | _ => trivial
theorem aF.nJ {μ μ' : MM} {g : Nat} (h : Jb μ μ' g) (b : aF) : b.real μ' g ↔ b.real μ g := by
 cases b <;> simp [aF.real, h.cap]
theorem dw.on {N N' : Nat} {μ μ' : MM} {S : Nat → Prop} (h : ∀ g, S g → g < N → g < N' ∧ Jb μ μ' g) {hp hp' : Array Obj} {g : Nat} {b : aF} (hg : Jb μ μ' g) (hS : b.ji S) (hB : b.real μ g → hp'[μ.blk g]? = hp[μ.blk g]?) (r : dw N μ hp g b) : dw N' μ' hp' g b := by
 cases b with
 | cells own sz n c =>
  simp only [dw, hg.blk, hg.cap, hg.sz, hg.base] at r ⊢
  refine ⟨r.1, r.2.1, fun hr => ?_⟩
  obtain ⟨cur, ty, fz, h1, h2, h3, h4⟩ := r.2.2 hr
  exact ⟨cur, ty, fz, (hB hr).trans h1, h2, h3, fun i hi => ⟨(h4 i hi).1, fun o v hv => let ⟨k0, cv, k1, k2⟩ := (h4 i hi).2 o v hv; ⟨k0, cv, k1, k2.on h (hS i hi o v hv)⟩⟩⟩
 | aW s l =>
  simp only [dw, hg.blk] at r ⊢
  obtain ⟨es, cl, h1, h2⟩ := r
  exact ⟨es, cl, (hB trivial).trans h1, h2⟩
 | RZ s l =>
  simp only [dw, hg.blk] at r ⊢
  obtain ⟨es, cl, h1, h2⟩ := r
  exact ⟨es, cl, (hB trivial).trans h1, h2⟩
 | sit s l pos =>
  simp only [dw, hg.blk, hg.base] at r ⊢
  exact ⟨(hB trivial).trans r.1, r.2⟩
def Ee {α : Type} (h src : T α) : List Nat → T α
 | [] => h
 | nm :: l => Ee (h.upd nm (src.get nm)) src l
theorem Ef {α : Type} (src : T α) : ∀ (l : List Nat) (h : T α) (i : Nat), (Ee h src l).get i = if i ∈ l then src.get i else h.get i
 | [], h, i => by simp [Ee]
 | k :: l, h, i => by
  simp only [Ee, Ef src l, T.bP, List.mem_cons]
  by_cases h1 : i ∈ l
  ·simp [h1]
  ·by_cases h2 : i = k
   ·subst h2; simp [h1]
   ·simp [h1, h2]
structure PlanB (P : Program) (ops : Array Oper) (nT : Nat) (g0 gf : G) (qp F9 : Fr) where
 V : Nat → AV
 fr : Nat → Fr
 H : Nat → T aF
 nx : Nat → Nat
 T : Nat → List Nat
 kJ : Nat → Nat → Bool
 fin : Nat → Fr
 iZ : Nat → G
 fV : Nat → G
 UO : fr 0 = qp
 UQ : fr ops.size = F9
 H_0 : H 0 = g0.H
 BX : nx 0 = g0.nx
 H_n : H ops.size = gf.H
 KW : nx ops.size = gf.nx
 DU : ∀ j, j < ops.size → ∀ t v, (fin j).get t = some v → (fr j).get t = some v ∧ ∀ k, k < ops.size → k ≠ j → kJ k j = false → kJ j k = false → dS ops k ≠ some t
 UR : ∀ j, j < ops.size → ∀ t, (fr (j + 1)).get t = if dS ops j = some t then some (V j) else (fr j).get t
 DV : ∀ j, j < ops.size → ∀ d, dS ops j = some d → d < nT
 yS : ∀ i j d, i < ops.size → j < ops.size → dS ops i = some d → dS ops j = some d → i = j
 iU : ∀ k j, kJ k j = true → k < j
 pK : ∀ j o, ops[j]? = some o → ∀ e ∈ o.after, Region.binds .any e = true → kJ e.on j = true
 yT : ∀ k j, j < ops.size → kJ k j = true → ∃ o e, ops[j]? = some o ∧ e ∈ o.after ∧ Region.binds .any e = true ∧ (k = e.on ∨ kJ k e.on = true)
 KX : ∀ j o, ops[j]? = some o → (fV j).cs → ∀ μ w (a : Act), eX (iZ j).nx μ w.heap (iZ j).H → dM (iZ j).nx μ (fin j) a.tmps nT → IW P ops o (iZ j) μ w (fV j) (V j) a
 Oz : ∀ j, j < ops.size → (iZ j).nx = nx j
 Qr : ∀ j, j < ops.size → (fV j).nx = nx (j + 1)
 UZ : ∀ j, j < ops.size → nx j ≤ nx (j + 1)
 tr : ∀ j, j < ops.size → ∀ nm b, nm < nx j → (iZ j).H.get nm = some b → nm ∉ T j → (fV j).H.get nm = some b
 U7 : ∀ j, j < ops.size → ∀ nm ∈ T j, ∃ b, (iZ j).H.get nm = some b
 vis : ∀ j, j < ops.size → ∀ nm b, (iZ j).H.get nm = some b → (H j).get nm = some b ∧ ∀ k, k < ops.size → k ≠ j → kJ k j = false → kJ j k = false → nm ∉ T k ∧ (k < j → ¬ (nx k ≤ nm ∧ nm < nx (k + 1)))
 H_w : ∀ j, j < ops.size → ∀ nm, (nm ∈ T j ∨ nx j ≤ nm ∧ nm < nx (j + 1)) → ∀ b, (H (j + 1)).get nm = some b → (fV j).H.get nm = some b ∧ b.owned = true ∧ b.ji fun g => g < nx 0 ∨ ∃ m, m < ops.size ∧ (m = j ∨ kJ m j = true) ∧ nx m ≤ g ∧ g < nx (m + 1)
 H_o : ∀ j, j < ops.size → ∀ nm, ¬ (nm ∈ T j ∨ nx j ≤ nm ∧ nm < nx (j + 1)) → (H (j + 1)).get nm = (H j).get nm
 acT : ∀ j, j < ops.size → (V j).ji fun g => g < nx 0 ∨ ∃ m, m < ops.size ∧ (m = j ∨ kJ m j = true) ∧ nx m ≤ g ∧ g < nx (m + 1)
 KY : gf.cs → ∀ j, j < ops.size → (fV j).cs
 UY : gf.cs → g0.cs
namespace PlanB
variable {P : Program} {ops : Array Oper} {nT : Nat} {g0 gf : G} {qp F9 : Fr} (L : PlanB P ops nT g0 gf qp F9)
def W (j nm : Nat) : Prop := nm ∈ L.T j ∨ L.nx j ≤ nm ∧ nm < L.nx (j + 1)
def SN (j g : Nat) : Prop := g < L.nx 0 ∨ ∃ m, m < ops.size ∧ (m = j ∨ L.kJ m j = true) ∧ L.nx m ≤ g ∧ g < L.nx (m + 1)
theorem fB (p q : Nat) (hpq : p ≤ q) (hq : q ≤ ops.size) : L.nx p ≤ L.nx q := by
 induction q with
 | zero => rw [show p = 0 by omega]; exact Nat.le_refl _
 | succ q ih =>
  by_cases h : p = q + 1
  ·rw [h]; exact Nat.le_refl _
  ·exact Nat.le_trans (ih (by omega) (by omega)) (L.UZ q (by omega))
theorem agree (p q nm : Nat) (hpq : p ≤ q) (hq : q ≤ ops.size) (hk : ∀ k, p ≤ k → k < q → ¬ L.W k nm) : (L.H q).get nm = (L.H p).get nm := by
 induction q with
 | zero => rw [show p = 0 by omega]
 | succ q ih =>
  by_cases h : p = q + 1
  ·rw [h]
  ·rw [L.H_o q (by omega) nm (hk q (by omega) (by omega))]
   exact ih (by omega) (by omega) fun k h1 h2 => hk k h1 (by omega)
theorem DW (j : Nat) (hj : j ≤ ops.size) (t : Nat) (v : AV) (h : (L.fr j).get t = some v) : (∃ k, k < j ∧ dS ops k = some t ∧ v = L.V k) ∨ (qp.get t = some v ∧ ∀ k, k < j → dS ops k ≠ some t) := by
 induction j with
 | zero => rw [L.UO] at h; exact .inr ⟨h, fun k hk => by omega⟩
 | succ j ih =>
  rw [L.UR j (by omega)] at h
  split at h
  ·rename_i e
   cases h
   exact .inl ⟨j, by omega, e, rfl⟩
  ·rename_i e
   rcases ih (by omega) h with ⟨k, h1, h2, h3⟩ | ⟨h1, h2⟩
   ·exact .inl ⟨k, by omega, h2, h3⟩
   ·refine .inr ⟨h1, fun k hk => ?_⟩
    by_cases hkj : k = j
    ·rw [hkj]; exact e
    ·exact h2 k (by omega)
theorem abO {j g : Nat} (hj : j < ops.size) (h : L.SN j g) : g < L.nx (j + 1) := by
 rcases h with h | ⟨m, hm, hmj, _, h2⟩
 ·exact Nat.lt_of_lt_of_le h (L.fB 0 (j + 1) (by omega) hj)
 ·have : m ≤ j := by
   rcases hmj with rfl | hb
   ·omega
   ·exact Nat.le_of_lt (L.iU _ _ hb)
  exact Nat.lt_of_lt_of_le h2 (L.fB (m + 1) (j + 1) (by omega) hj)
theorem zi (hb : ∀ nm b, (L.H 0).get nm = some b → nm < L.nx 0) : ∀ q, q ≤ ops.size → ∀ nm b, (L.H q).get nm = some b → nm < L.nx 0 ∨ ∃ m, m < q ∧ L.nx m ≤ nm ∧ nm < L.nx (m + 1)
 | 0, _, nm, b, h => .inl (hb nm b h)
 | q + 1, hq, nm, b, h => by
  have up : (nm < L.nx 0 ∨ ∃ m, m < q ∧ L.nx m ≤ nm ∧ nm < L.nx (m + 1)) → nm < L.nx 0 ∨ ∃ m, m < q + 1 ∧ L.nx m ≤ nm ∧ nm < L.nx (m + 1) := by
   rintro (h | ⟨m, h1, h2⟩)
   ·exact .inl h
   ·exact .inr ⟨m, by omega, h2⟩
  by_cases hW : L.W q nm
  ·rcases hW with hT | hr
   ·obtain ⟨b', hb'⟩ := L.U7 q (by omega) nm hT
    exact up (zi hb q (by omega) nm b' (L.vis q (by omega) nm b' hb').1)
   ·exact .inr ⟨q, by omega, hr⟩
  ·rw [L.H_o q (by omega) nm hW] at h
   exact up (zi hb q (by omega) nm b h)
theorem Qs (hb : ∀ nm b, (L.H 0).get nm = some b → nm < L.nx 0) {q : Nat} (hq : q ≤ ops.size) {nm : Nat} {b : aF} (h : (L.H q).get nm = some b) : nm < L.nx q := by
 rcases L.zi hb q hq nm b h with h | ⟨m, h1, _, h3⟩
 ·exact Nat.lt_of_lt_of_le h (L.fB 0 q (by omega) hq)
 ·exact Nat.lt_of_lt_of_le h3 (L.fB (m + 1) q (by omega) hq)
theorem src_of : ∀ q, q ≤ ops.size → ∀ nm b, (L.H q).get nm = some b → ((L.H 0).get nm = some b ∧ ∀ k, k < q → ¬ L.W k nm) ∨ ∃ k, k < q ∧ L.W k nm ∧ b.ji (L.SN k)
 | 0, _, nm, b, h => .inl ⟨h, fun k hk => by omega⟩
 | q + 1, hq, nm, b, h => by
  by_cases hW : L.W q nm
  ·exact .inr ⟨q, by omega, hW, (L.H_w q (by omega) nm hW b h).2.2⟩
  ·rw [L.H_o q (by omega) nm hW] at h
   rcases src_of q (by omega) nm b h with ⟨h1, h2⟩ | ⟨k, h1, h2⟩
   ·refine .inl ⟨h1, fun k hk => ?_⟩
    by_cases e : k = q
    ·rw [e]; exact hW
    ·exact h2 k (by omega)
   ·exact .inr ⟨k, by omega, h2⟩
theorem ord (hb : ∀ nm b, (L.H 0).get nm = some b → nm < L.nx 0) {j k nm : Nat} (hj : j < ops.size) (hk : k < ops.size) (hne : j ≠ k) (h1 : L.W j nm) (h2 : L.W k nm) : L.kJ j k = true ∨ L.kJ k j = true := by
 have key : ∀ j k, j < ops.size → k < ops.size → j ≠ k → nm ∈ L.T j → L.W k nm → L.kJ j k = true ∨ L.kJ k j = true := fun j k hj hk hne hT hW => by
  cases b1 : L.kJ j k with
  | true => exact .inl rfl
  | false =>
   cases b2 : L.kJ k j with
   | true => exact .inr rfl
   | false =>
    obtain ⟨b, hv⟩ := L.U7 j hj nm hT
    obtain ⟨v1, v2⟩ := L.vis j hj nm b hv
    obtain ⟨v3, v4⟩ := v2 k hk (Ne.symm hne) b2 b1
    rcases hW with h | h
    ·exact absurd h v3
    ·have := L.Qs hb (by omega) v1
     rcases Nat.lt_or_ge k j with hkj | hkj
     ·exact absurd h (v4 hkj)
     ·have := L.fB j k hkj (by omega)
      omega
 rcases h1 with h1 | h1
 ·exact key j k hj hk hne h1 h2
 ·rcases h2 with h2 | h2
  ·exact (key k j hk hj (Ne.symm hne) h2 (.inr h1)).symm
  ·rcases Nat.lt_or_ge j k with h | h
   ·have := L.fB (j + 1) k h (by omega)
    omega
   ·have := L.fB (k + 1) j (by omega) (by omega)
    omega
structure Inv (μ0 : MM) (w0 : World) (a0 : Act) (D : Nat → Prop) (a : Act) (w : World) (h : Sx.T aF) (μ : MM) : Prop where
 at' : ∀ nm, ∃ q, q ≤ ops.size ∧ h.get nm = (L.H q).get nm ∧ ∀ k, k < ops.size → L.W k nm → (D k ↔ k < q)
 yw : eX (L.nx ops.size) μ w.heap h
 names : MM.upto (L.nx 0) μ0 μ
 os : w.os = w0.os
 tape : w.tape = w0.tape
 output : w.output = w0.output
 hsize : w0.heap.size ≤ w.heap.size
 block : ∀ B, B < w0.heap.size → ¬ May μ0 (L.H 0) B → w.heap[B]? = w0.heap[B]?
 may : ∀ B, B < w0.heap.size → May μ h B → May μ0 (L.H 0) B
 defers : a.defers = a0.defers
 size : nT ≤ a.tmps.size
 done : ∀ k, k < ops.size → D k → ∀ d, dS ops k = some d → Rep (L.nx ops.size) μ (L.V k) (a.tmps.getD d undef)
 rest : ∀ t, (∀ k, k < ops.size → D k → dS ops k ≠ some t) → a.tmps.getD t undef = a0.tmps.getD t undef
 down : ∀ j, j < ops.size → D j → ∀ k, L.kJ k j = true → D k
variable {L}
section
variable {μ0 : MM} {w0 : World} {a0 : Act} {D : Nat → Prop} {a : Act} {w : World} {h : Sx.T aF} {μ : MM} (I : L.Inv μ0 w0 a0 D a w h μ) (hb : eX (L.nx 0) μ0 w0.heap (L.H 0))
include I
theorem Inv.frame (h0 : dM g0.nx μ0 qp a0.tmps nT) {j : Nat} (hj : j < ops.size) (hD : ¬ D j) (hP : ∀ k, L.kJ k j = true → D k) : dM (L.nx j) μ (L.fin j) a.tmps nT where
 size := I.size
 val := fun t v hv => by
  obtain ⟨h1, h2⟩ := L.DU j hj t v hv
  rcases L.DW j (by omega) t v h1 with ⟨k, hk, hd, rfl⟩ | ⟨h3, h4⟩
  ·have hb : L.kJ k j = true := by
    cases hb : L.kJ k j with
    | true => rfl
    | false =>
     cases hb' : L.kJ j k with
     | true => exact absurd (L.iU _ _ hb') (by omega)
     | false => exact absurd hd (h2 k (by omega) (by omega) hb hb')
   refine (I.done k (by omega) (hP k hb) t hd).on (S := L.SN k) (fun g hg _ => ⟨?_, rfl, rfl, rfl, rfl⟩) (L.acT k (by omega))
   exact Nat.lt_of_lt_of_le (L.abO (by omega) hg) (L.fB (k + 1) j hk (by omega))
  ·have : ∀ k, k < ops.size → D k → dS ops k ≠ some t := fun k hk BZ e => by
    by_cases hkj : k < j
    ·exact h4 k hkj e
    ·have hne : k ≠ j := fun e => hD (e ▸ BZ)
     cases hb : L.kJ j k with
     | true => exact hD (I.down k hk BZ j hb)
     | false =>
      cases hb' : L.kJ k j with
      | true => exact absurd (L.iU _ _ hb') (by omega)
      | false => exact h2 k hk hne hb' hb e
   rw [I.rest t this]
   exact (h0.val t v h3).later (by rw [← L.BX]; exact I.names) (by rw [← L.BX]; exact L.fB 0 j (by omega) (by omega))
include hb
theorem Inv.reads {j : Nat} (hj : j < ops.size) (hD : ¬ D j) (hP : ∀ k, L.kJ k j = true → D k) {nm : Nat} {b : aF} (hv : (L.iZ j).H.get nm = some b) : h.get nm = some b ∧ ∀ k, k < ops.size → L.W k nm → k ≠ j → (D k ↔ L.kJ k j = true) := by
 obtain ⟨v1, v2⟩ := L.vis j hj nm b hv
 have hlt := L.Qs hb.lt (by omega) v1
 have o : ∀ k, k < ops.size → L.W k nm → k ≠ j → L.kJ k j = true ∨ L.kJ j k = true := fun k hk hW hne => by
  cases b1 : L.kJ k j with
  | true => exact .inl rfl
  | false =>
   cases b2 : L.kJ j k with
   | true => exact .inr rfl
   | false =>
    obtain ⟨v3, v4⟩ := v2 k hk hne b1 b2
    rcases hW with h | h
    ·exact absurd h v3
    ·rcases Nat.lt_or_ge k j with hkj | hkj
     ·exact absurd h (v4 hkj)
     ·have := L.fB j k hkj (by omega)
      omega
 have o' : ∀ k, k < ops.size → L.W k nm → k ≠ j → (D k ↔ L.kJ k j = true) := fun k hk hW hne => by
  rcases o k hk hW hne with h | h
  ·exact ⟨fun _ => h, fun _ => hP k h⟩
  ·exact ⟨fun hd => absurd (I.down k hk hd j h) hD, fun h' => hP k h'⟩
 refine ⟨?_, o'⟩
 obtain ⟨q, q1, q2, q3⟩ := I.at' nm
 rw [q2, ← v1]
 rcases Nat.lt_or_ge q j with hq | hq
 ·refine (L.agree q j nm (by omega) (by omega) fun k k1 k2 hW => ?_).symm
  have hbef : L.kJ k j = true := by
   rcases o k (by omega) hW (by omega) with h | h
   ·exact h
   ·exact absurd (L.iU _ _ h) (by omega)
  have := (q3 k (by omega) hW).1 (hP k hbef)
  omega
 ·refine L.agree j q nm hq q1 fun k k1 k2 hW => ?_
  have hd := (q3 k (by omega) hW).2 k2
  by_cases e : k = j
  ·exact hD (e ▸ hd)
  ·have := L.iU _ _ ((o' k (by omega) hW e).1 hd)
   omega
theorem Inv.own (nm : Nat) (b : aF) (hn : h.get nm = some b) : nm < L.nx 0 ∨ ∃ m, m < ops.size ∧ D m ∧ L.nx m ≤ nm ∧ nm < L.nx (m + 1) := by
 obtain ⟨q, q1, q2, q3⟩ := I.at' nm
 rw [q2] at hn
 rcases L.zi hb.lt q q1 nm b hn with h | ⟨m, m1, m2⟩
 ·exact .inl h
 ·exact .inr ⟨m, by omega, (q3 m (by omega) (.inr m2)).2 m1, m2⟩
theorem Inv.holds (nm : Nat) (b : aF) (hn : h.get nm = some b) : b.ji fun g => g < L.nx 0 ∨ ∃ m, m < ops.size ∧ D m ∧ L.nx m ≤ g ∧ g < L.nx (m + 1) := by
 obtain ⟨q, q1, q2, q3⟩ := I.at' nm
 rw [q2] at hn
 rcases L.src_of q q1 nm b hn with ⟨h1, _⟩ | ⟨k, k1, k2, k3⟩
 ·exact (hb.ok nm b h1).Qq.mono fun g hg => .inl hg
 ·have BZ := (q3 k (by omega) k2).2 k1
  refine k3.mono fun g hg => ?_
  rcases hg with hg | ⟨m, m1, m2, m3⟩
  ·exact .inl hg
  ·refine .inr ⟨m, m1, ?_, m3⟩
   rcases m2 with rfl | m2
   ·exact BZ
   ·exact I.down k (by omega) BZ m m2
theorem Inv.Oo {j : Nat} (hj : j < ops.size) (hD : ¬ D j) (hP : ∀ k, L.kJ k j = true → D k) : eX (L.nx j) μ w.heap (L.iZ j).H where
 lt := fun nm b hv => L.Qs hb.lt (by omega) (L.vis j hj nm b hv).1
 ok := fun nm b hv => by
  have hn := (I.reads hb hj hD hP hv).1
  refine (I.yw.ok nm b hn).on (S := (· < L.nx j)) (fun g hg _ => ⟨hg, rfl, rfl, rfl, rfl⟩) ⟨rfl, rfl, rfl, rfl⟩ ?_ fun _ => rfl
  rcases L.src_of j (by omega) nm b (L.vis j hj nm b hv).1 with ⟨h1, _⟩ | ⟨k, k1, k2, k3⟩
  ·exact (hb.ok nm b h1).Qq.mono fun g hg => Nat.lt_of_lt_of_le hg (L.fB 0 j (by omega) (by omega))
  ·exact k3.mono fun g hg => Nat.lt_of_lt_of_le (L.abO (by omega) hg) (L.fB (k + 1) j k1 (by omega))
 sep := fun g b g' b' hv hv' => I.yw.sep g b g' b' (I.reads hb hj hD hP hv).1 (I.reads hb hj hD hP hv').1
end
end PlanB
end Go.Sx
namespace Go.Sx
open M
namespace PlanB
variable {P : Program} {ops : Array Oper} {nT : Nat} {g0 gf : G} {qp F9 : Fr} {L : PlanB P ops nT g0 gf qp F9}
def mix (n : Nat) (a b : MM) : MM := ⟨fun g => if g < n then a.blk g else b.blk g, fun g => if g < n then a.cap g else b.cap g, fun g => if g < n then a.sz g else b.sz g, fun g => if g < n then a.base g else b.base g⟩
theorem acU {n : Nat} {a b : MM} {g : Nat} (h : g < n) : Jb a (mix n a b) g := ⟨by simp [mix, h], by simp [mix, h], by simp [mix, h], by simp [mix, h]⟩
theorem acV {n : Nat} {a b : MM} {g : Nat} (h : n ≤ g) : Jb b (mix n a b) g := ⟨by simp [mix, Nat.not_lt.2 h], by simp [mix, Nat.not_lt.2 h], by simp [mix, Nat.not_lt.2 h], by simp [mix, Nat.not_lt.2 h]⟩
section
variable {μ0 : MM} {w0 : World} {a0 : Act} {D : Nat → Prop} {a : Act} {w : World} {h : Sx.T aF} {μ : MM}
theorem Inv.after (I : L.Inv μ0 w0 a0 D a w h μ) (hb : eX (L.nx 0) μ0 w0.heap (L.H 0)) {j : Nat} (hj : j < ops.size) (hD : ¬ D j)
    (hP : ∀ k, L.kJ k j = true → D k) {c : Value} {w' : World} (hA : After (L.iZ j) μ w (L.fV j) (L.V j) c w') : ∃ h' μ', L.Inv μ0 w0 a0 (fun k => D k ∨ k = j) (a.put (dS ops j) c) w' h' μ' := by
  obtain ⟨μ', hv, hg', hE⟩ := hA
  rw [L.Qr j hj] at hv hg'
  have hup : MM.upto (L.nx j) μ μ' := by rw [← L.Oz j hj]; exact hE.names
  have hnx := L.UZ j hj
  have hNF : L.nx (j + 1) ≤ L.nx ops.size := L.fB (j + 1) ops.size hj (Nat.le_refl _)
  have A1 : ∀ g, g < L.nx (j + 1) → Jb μ' (mix (L.nx (j + 1)) μ' μ) g := fun g hg => acU hg
  have A2 : ∀ g, g < L.nx j ∨ L.nx (j + 1) ≤ g → Jb μ (mix (L.nx (j + 1)) μ' μ) g := fun g hg => by
    rcases hg with hg | hg
    · have := A1 g (by omega)
      exact ⟨this.blk.trans (hup.blk g hg), this.cap.trans (hup.cap g hg), this.sz.trans (hup.sz g hg), this.base.trans (hup.base g hg)⟩
    · exact acV hg
  have AD : ∀ g, (g < L.nx 0 ∨ ∃ m, m < ops.size ∧ D m ∧ L.nx m ≤ g ∧ g < L.nx (m + 1)) → Jb μ (mix (L.nx (j + 1)) μ' μ) g := fun g hg => by
    refine A2 g ?_
    rcases hg with hg | ⟨m, m1, m2, m3, m4⟩
    · exact .inl (Nat.lt_of_lt_of_le hg (L.fB 0 j (by omega) (by omega)))
    · have hne : m ≠ j := fun e => hD (e ▸ m2)
      rcases Nat.lt_or_ge m j with hm | hm
      · exact .inl (Nat.lt_of_lt_of_le m4 (L.fB (m + 1) j hm (by omega)))
      · exact .inr (Nat.le_trans (L.fB (j + 1) m (by omega) (by omega)) m3)
  have ASN : ∀ k, k < ops.size → D k → ∀ g, L.SN k g → Jb μ (mix (L.nx (j + 1)) μ' μ) g := fun k hk BZ g hg => by
    refine AD g ?_
    rcases hg with hg | ⟨m, m1, m2, m3⟩
    · exact .inl hg
    · refine .inr ⟨m, m1, ?_, m3⟩
      rcases m2 with rfl | m2
      · exact BZ
      · exact I.down k hk BZ m m2
  -- the heap behind it
  have hh : ∃ h' : Sx.T aF, ∀ nm, (L.W j nm → h'.get nm = (L.H (j + 1)).get nm) ∧ (¬ L.W j nm → h'.get nm = h.get nm) := by
    refine ⟨Ee h (L.H (j + 1)) (L.T j ++ (List.range (L.nx (j + 1) - L.nx j)).map (L.nx j + ·)), fun nm => ?_⟩
    have hm : nm ∈ L.T j ++ (List.range (L.nx (j + 1) - L.nx j)).map (L.nx j + ·) ↔ L.W j nm := by
      rw [List.mem_append, List.mem_map]
      unfold W
      constructor
      · rintro (h | ⟨i, h1, rfl⟩)
        · exact .inl h
        · have := List.mem_range.1 h1
          exact .inr ⟨by omega, by omega⟩
      · rintro (h | h)
        · exact .inl h
        · exact .inr ⟨nm - L.nx j, List.mem_range.2 (by omega), by omega⟩
    rw [Ef]
    exact ⟨fun hW => if_pos (hm.2 hW), fun hW => if_neg fun hn => hW (hm.1 hn)⟩
  obtain ⟨h', hh⟩ := hh
  have view : ∀ nm b, h'.get nm = some b → ((L.fV j).H.get nm = some b ∧ (b.owned = true ∨ (L.iZ j).H.get nm = some b)) ∨ (h.get nm = some b ∧ (L.iZ j).H.get nm = none) := fun nm b hn => by
    by_cases hW : L.W j nm
    · rw [(hh nm).1 hW] at hn
      obtain ⟨h1, h2, _⟩ := L.H_w j hj nm hW b hn
      exact .inl ⟨h1, .inl h2⟩
    · rw [(hh nm).2 hW] at hn
      cases hv : (L.iZ j).H.get nm with
      | none => exact .inr ⟨hn, rfl⟩
      | some b1 =>
        have := (I.reads hb hj hD hP hv).1
        rw [hn] at this
        cases this
        exact .inl ⟨L.tr j hj nm b (L.Qs hb.lt (by omega) (L.vis j hj nm b hv).1) hv fun hT => hW (.inl hT), .inr rfl⟩
  have SC : ∀ B, May μ (L.iZ j).H B → ∃ g b, (L.iZ j).H.get g = some b ∧ h.get g = some b ∧ b.owned = true ∧ b.real μ g ∧ μ.blk g = B := fun B ⟨g, b, e1, e2, e3, e4⟩ => ⟨g, b, e1, (I.reads hb hj hD hP e1).1, e2, e3, e4⟩
  have afN : ∀ B, May μ (L.iZ j).H B → May μ h B := fun B hm => let ⟨g, b, _, e1, e2⟩ := SC B hm; ⟨g, b, e1, e2⟩
  have AH : ∀ nm b, h.get nm = some b → Jb μ (mix (L.nx (j + 1)) μ' μ) nm := fun nm b hn => AD nm (I.own hb nm b hn)
  have ltO : ∀ nm b, (L.fV j).H.get nm = some b → nm < L.nx (j + 1) := fun nm b hn => hg'.lt nm b hn
  have acW : ∀ g b B, (L.fV j).H.get g = some b → b.owned = true → b.real (mix (L.nx (j + 1)) μ' μ) g → (mix (L.nx (j + 1)) μ' μ).blk g = B → May μ' (L.fV j).H B := fun g b B h1 h2 h3 h4 =>
    ⟨g, b, h1, h2, (aF.nJ (A1 g (ltO g b h1)) b).1 h3, by rw [← (A1 g (ltO g b h1)).blk]; exact h4⟩
  refine ⟨h', mix (L.nx (j + 1)) μ' μ, ?_⟩
  have hne : ∀ k, k < ops.size → D k → ∀ d, dS ops k = some d → dS ops j ≠ some d := fun k hk BZ d hd e => hD (by rw [L.yS j k d hj hk e hd]; exact BZ)
  exact {
    at' := fun nm => by
      by_cases hW : L.W j nm
      · refine ⟨j + 1, hj, (hh nm).1 hW, fun k hk hWk => ⟨?_, fun hlt => ?_⟩⟩
        · rintro (hk' | rfl)
          · by_cases e : k = j
            · omega
            · rcases L.ord hb.lt hk hj e hWk hW with o | o
              · have := L.iU _ _ o; omega
              · exact absurd (I.down k hk hk' j o) hD
          · omega
        · by_cases e : k = j
          · exact .inr e
          · rcases L.ord hb.lt hk hj e hWk hW with o | o
            · exact .inl (hP k o)
            · have := L.iU _ _ o; omega
      · obtain ⟨q, q1, q2, q3⟩ := I.at' nm
        refine ⟨q, q1, ((hh nm).2 hW).trans q2, fun k hk hWk => ?_⟩
        rw [← q3 k hk hWk]
        exact ⟨fun h => h.resolve_right fun e => hW (e ▸ hWk), .inl⟩
    yw := {
      lt := fun nm b hn => by
        rcases view nm b hn with ⟨h1, _⟩ | ⟨h1, _⟩
        · exact Nat.lt_of_lt_of_le (ltO nm b h1) hNF
        · exact I.yw.lt nm b h1
      ok := fun nm b hn => by
        rcases view nm b hn with ⟨h1, _⟩ | ⟨h1, h2⟩
        · exact (hg'.ok nm b h1).on (S := (· < L.nx (j + 1))) (fun g hg _ => ⟨Nat.lt_of_lt_of_le hg hNF, A1 g hg⟩) (A1 nm (ltO nm b h1)) (hg'.ok nm b h1).Qq fun _ => rfl
        · refine (I.yw.ok nm b h1).on (fun g hg hlt => ⟨hlt, AD g hg⟩) (AH nm b h1) (I.holds hb nm b h1) fun hr => hE.block _ ((I.yw.ok nm b h1).lt_size hr) fun hm => ?_
          obtain ⟨g, b', e0, e1, e2, e3, e4⟩ := SC _ hm
          have := I.yw.sep g b' nm b e1 h1 e2 e3 hr e4
          rw [this, h2] at e0
          cases e0
      sep := fun g b g' b' hn hn' ho hr hr' hB => by
        rcases view g b hn with ⟨h1, k1⟩ | ⟨h1, k1⟩ <;> rcases view g' b' hn' with ⟨h2, k2⟩ | ⟨h2, k2⟩
        · refine hg'.sep g b g' b' h1 h2 ho ((aF.nJ (A1 g (ltO g b h1)) b).1 hr) ((aF.nJ (A1 g' (ltO g' b' h2)) b').1 hr') ?_
          rw [← (A1 g (ltO g b h1)).blk, ← (A1 g' (ltO g' b' h2)).blk]; exact hB
        · have hr2 := (aF.nJ (AH g' b' h2) b').1 hr'
          have hB' : (mix (L.nx (j + 1)) μ' μ).blk g = μ.blk g' := hB.trans (AH g' b' h2).blk
          obtain ⟨g2, b2, e0, e1, e2, e3, e4⟩ := SC _ (hE.may _ ((I.yw.ok g' b' h2).lt_size hr2) (acW g b _ h1 ho hr hB'))
          have := I.yw.sep g2 b2 g' b' e1 h2 e2 e3 hr2 e4
          rw [this, k2] at e0
          cases e0
        · have hr1 := (aF.nJ (AH g b h1) b).1 hr
          have hB' : (mix (L.nx (j + 1)) μ' μ).blk g' = μ.blk g := hB.symm.trans (AH g b h1).blk
          rcases k2 with k2 | k2
          · obtain ⟨g2, b2, e0, e1, e2, e3, e4⟩ := SC _ (hE.may _ ((I.yw.ok g b h1).lt_size hr1) (acW g' b' _ h2 k2 hr' hB'))
            have := I.yw.sep g2 b2 g b e1 h1 e2 e3 hr1 e4
            rw [this, k1] at e0
            cases e0
          · have hn2 := (I.reads hb hj hD hP k2).1
            have := I.yw.sep g b g' b' h1 hn2 ho hr1 ((aF.nJ (AH g' b' hn2) b').1 hr') (by rw [← (AH g' b' hn2).blk]; exact hB'.symm)
            rw [← this, k1] at k2
            cases k2
        · refine I.yw.sep g b g' b' h1 h2 ho ((aF.nJ (AH g b h1) b).1 hr) ((aF.nJ (AH g' b' h2) b').1 hr') ?_
          rw [← (AH g b h1).blk, ← (AH g' b' h2).blk]; exact hB }
    names := ⟨fun g hg => ((AD g (.inl hg)).blk).trans (I.names.blk g hg), fun g hg => ((AD g (.inl hg)).cap).trans (I.names.cap g hg), fun g hg => ((AD g (.inl hg)).sz).trans (I.names.sz g hg), fun g hg => ((AD g (.inl hg)).base).trans (I.names.base g hg)⟩
    os := hE.os.trans I.os
    tape := hE.tape.trans I.tape
    output := hE.output.trans I.output
    hsize := Nat.le_trans I.hsize hE.size
    block := fun B hB hn => (hE.block B (Nat.lt_of_lt_of_le hB I.hsize) fun hm => hn (I.may B hB (afN B hm))).trans (I.block B hB hn)
    may := fun B hB ⟨g, b, hn, ho, hr, hbk⟩ => by
      rcases view g b hn with ⟨h1, _⟩ | ⟨h1, _⟩
      · exact I.may B hB (afN B (hE.may B (Nat.lt_of_lt_of_le hB I.hsize) (acW g b B h1 ho hr hbk)))
      · exact I.may B hB ⟨g, b, h1, ho, (aF.nJ (AH g b h1) b).1 hr, by rw [← (AH g b h1).blk]; exact hbk⟩
    defers := by rw [Act.put_defers]; exact I.defers
    size := by rw [size_put]; exact I.size
    done := fun k hk BZ d hd => by
      rcases BZ with hk' | rfl
      · rw [nP (hne k hk hk' d hd)]
        exact (I.done k hk hk' d hd).on (S := L.SN k) (fun g hg hlt => ⟨hlt, ASN k hk hk' g hg⟩) (L.acT k hk)
      · rw [hd, BF (Nat.lt_of_lt_of_le (L.DV k hk d hd) I.size)]
        exact hv.on (S := (· < L.nx (k + 1))) (fun g hg _ => ⟨Nat.lt_of_lt_of_le hg hNF, A1 g hg⟩) hv.Qq
    rest := fun t ht => by
      rw [nP (ht j hj (.inr rfl))]
      exact I.rest t fun k hk BZ => ht k hk (.inl BZ)
    down := fun i hi hDi k hk => by
      rcases hDi with h | rfl
      · exact .inl (I.down i hi h k hk)
      · exact .inl (hP k hk) }
theorem Inv.step (I : L.Inv μ0 w0 a0 D a w h μ) (hb : eX (L.nx 0) μ0 w0.heap (L.H 0)) (h0 : dM g0.nx μ0 qp a0.tmps nT) (hcs : gf.cs) {j : Nat} (hj : j < ops.size) (hD : ¬ D j)
  (hP : ∀ k, L.kJ k j = true → D k) {Q : Exit → Act → World → Prop} {K : Act → World → Prop} (hK : ∀ a' w' h' μ', L.Inv μ0 w0 a0 (fun k => D k ∨ k = j) a' w' h' μ' → K a' w') : wpOp P ops Q j K a w := by
 have ho : ops[j]? = some ops[j] := Array.getElem?_eq_getElem hj
 have hd : dS ops j = (ops[j]).dst := by simp [dS, ho]
 have e := L.Oz j hj
 have := L.KX j _ ho (L.KY hcs j hj) μ w a (by rw [e]; exact I.Oo hb hj hD hP) (by rw [e]; exact I.frame h0 hj hD hP) K Q fun c w' hA => by
  obtain ⟨h', μ', hI⟩ := I.after hb hj hD hP hA
  rw [hd] at hI
  exact hK _ _ _ _ hI
 unfold wpOp
 rw [ho]
 dsimp only
 split
 ·rename_i hw; rw [if_pos hw] at this; exact .inl this
 ·rename_i hw; rw [if_neg hw] at this; exact this
theorem Inv.fin (I : L.Inv μ0 w0 a0 D a w h μ) (hb : eX (L.nx 0) μ0 w0.heap (L.H 0)) (h0 : dM g0.nx μ0 qp a0.tmps nT) (hall : ∀ k, k < ops.size → D k) : kX nT g0 μ0 w0 gf F9 a0 a w := by
  have eq : ∀ nm, h.get nm = gf.H.get nm := fun nm => by
    obtain ⟨q, q1, q2, q3⟩ := I.at' nm
    rw [q2, ← L.H_n]
    refine (L.agree q ops.size nm q1 (Nat.le_refl _) fun k k1 k2 hW => ?_).symm
    have := (q3 k k2 hW).1 (hall k k2)
    omega
  refine ⟨μ, ?_, ?_, ⟨I.size, fun t v hv => ?_⟩, I.defers⟩
  · rw [← L.KW]
    exact { lt := fun g b hg => I.yw.lt g b (by rw [eq]; exact hg)
            ok := fun g b hg => I.yw.ok g b (by rw [eq]; exact hg)
            sep := fun g b g' b' hg hg' => I.yw.sep g b g' b' (by rw [eq]; exact hg) (by rw [eq]; exact hg') }
  · exact { nx := by rw [← L.BX, ← L.KW]; exact L.fB 0 _ (by omega) (Nat.le_refl _)
            names := by rw [← L.BX]; exact I.names
            os := I.os
            tape := I.tape
            output := I.output
            size := I.hsize
            block := fun B hB hn => I.block B hB (by rw [L.H_0]; exact hn)
            may := fun B hB ⟨g, b, e1, e2⟩ => by
              have := I.may B hB ⟨g, b, by rw [eq]; exact e1, e2⟩
              rw [L.H_0] at this
              exact this }
  · rw [← L.UQ] at hv
    rcases L.DW ops.size (Nat.le_refl _) t v hv with ⟨k, hk, hd, rfl⟩ | ⟨h1, h2⟩
    · rw [← L.KW]; exact I.done k hk (hall k hk) t hd
    · rw [I.rest t fun k hk _ => h2 k hk]
      exact (h0.val t v h1).later (by rw [← L.BX]; exact I.names) (by rw [← L.BX, ← L.KW]; exact L.fB 0 _ (by omega) (Nat.le_refl _))
theorem Inv.start (hb : eX (L.nx 0) μ0 w0.heap (L.H 0)) (h0 : dM g0.nx μ0 qp a0.tmps nT) (D : Nat → Prop) (hD : ∀ k, ¬ D k) : L.Inv μ0 w0 a0 D a0 w0 (L.H 0) μ0 where
 at' := fun nm => ⟨0, by omega, rfl, fun k hk _ => ⟨fun h => absurd h (hD k), fun h => by omega⟩⟩
 yw := hb.up (L.fB 0 _ (by omega) (Nat.le_refl _)) fun _ _ h => h
 names := MM.upto.refl _ _
 os := rfl
 tape := rfl
 output := rfl
 hsize := Nat.le_refl _
 block := fun _ _ _ => rfl
 may := fun _ _ h => h
 defers := rfl
 size := h0.size
 done := fun k _ h => absurd h (hD k)
 rest := fun _ _ => rfl
 down := fun j _ h => absurd h (hD j)
end
theorem any {μ0 : MM} {w0 : World} {a0 : Act} (hb : eX (L.nx 0) μ0 w0.heap (L.H 0)) (h0 : dM g0.nx μ0 qp a0.tmps nT) (hcs : gf.cs) {Q : Exit → Act → World → Prop} (hQ : ∀ a w, kX nT g0 μ0 w0 gf F9 a0 a w → Q .normal a w) :
  ∀ (fuel : Nat) (listed : Array Bool) (a : Act) (w : World) (h : Sx.T aF) (μ : MM), listed.size = ops.size → listed.toList.count false ≤ fuel → L.Inv μ0 w0 a0 (Plan.jX listed) a w h μ → wpAny P .any ops Q fuel listed a w := by
 have final : ∀ (listed : Array Bool) a w h μ, listed.size = ops.size → L.Inv μ0 w0 a0 (Plan.jX listed) a w h μ → Region.ready .any ops listed = [] → Q .normal a w := by
  intro listed a w h μ hs I hr
  refine hQ _ _ (I.fin hb h0 ?_)
  intro k
  induction k using Nat.strongRecOn with
  | _ k ih =>
   intro hk
   refine Classical.byContradiction fun hn => ?_
   have : k ∈ Region.ready .any ops listed := by
    refine mem_ready.2 ⟨(Plan.rX (by omega)).2 hn, ops[k], Array.getElem?_eq_getElem hk, fun e he hb => ?_⟩
    have hb := L.iU _ _ (L.pK k _ (Array.getElem?_eq_getElem hk) e he hb)
    exact ih e.on hb (by omega)
   rw [hr] at this
   cases this
 intro fuel
 induction fuel with
 | zero =>
  intro listed a w h μ hs hc I
  have hr : Region.ready .any ops listed = [] := by
   cases hr : Region.ready .any ops listed with
   | nil => rfl
   | cons i l =>
    have hi : i ∈ Region.ready .any ops listed := by rw [hr]; exact List.mem_cons_self
    obtain ⟨h1, o, ho, _⟩ := mem_ready.1 hi
    have hlt : i < ops.size := (Array.getElem?_eq_some_iff.1 ho).1
    have : false ∈ listed.toList := by
     have : listed[i]'(by omega) = false := by simpa [show i < listed.size by omega] using h1
     rw [← this]; simp
    have := List.count_pos_iff.2 this
    omega
  exact ⟨hr, final listed a w h μ hs I hr⟩
 | succ fuel ih =>
  intro listed a w h μ hs hc I
  refine ⟨final listed a w h μ hs I, fun i hi => ?_⟩
  obtain ⟨h1, o, ho, h2⟩ := mem_ready.1 hi
  have hlt : i < ops.size := (Array.getElem?_eq_some_iff.1 ho).1
  refine I.step hb h0 hcs hlt ((Plan.rX (by omega)).1 h1) ?_ fun a' w' h' μ' I' => ?_
  ·intro k hb
   obtain ⟨o', e, ho', he, hbi, hk⟩ := L.yT k i hlt hb
   rw [ho] at ho'
   cases ho'
   have he' : Plan.jX listed e.on := h2 e he hbi
   rcases hk with rfl | hk
   ·exact he'
   ·exact I.down e.on (by have := L.iU _ _ (L.pK i o ho e he hbi); omega) he' k hk
  ·refine ih _ a' w' h' μ' (by simpa using hs) ?_ (by rw [Plan.BG (by omega)]; exact I')
   rw [Array.toList_setIfInBounds, List.count_set (by simp; omega)]
   have : listed.toList[i]'(by simp; omega) = false := by simpa [show i < listed.size by omega] using h1
   rw [this]
   have hm : false ∈ listed.toList := by rw [← this]; simp
   have := List.count_pos_iff.2 hm
   simp only [show (true == false) = false from rfl, beq_self_eq_true, if_true, Bool.false_eq_true, if_false]
   omega
theorem leads (L : PlanB P ops nT g0 gf qp F9) (hm : P.follows .mixedOrders = true) (id : Nat) : yR P (.region id ops true) nT qp g0 (.normal, F9) gf := by
 refine ⟨L.UY, fun hcs μ w a hg hf Q hQ => wp_region_any hm ?_⟩
 have hE : Ext g0 μ w g0 μ { w with drawn := w.drawn + 1 } := Ext.drawn μ w _ rfl rfl
 have hb : eX (L.nx 0) μ ({ w with drawn := w.drawn + 1 } : World).heap (L.H 0) := by rw [L.BX, L.H_0]; exact hg
 refine any (L := L) (w0 := { w with drawn := w.drawn + 1 }) hb hf hcs (fun a' w' h => hQ a' w' (h.trans hE rfl)) ops.size _ a _ (L.H 0) μ (by simp) ?_ (Inv.start (w0 := { w with drawn := w.drawn + 1 }) hb hf _ ?_)
 ·rw [Array.toList_replicate]; simp
 ·intro k h
  simp only [Plan.jX, Array.getD_eq_getD_getElem?, Array.getElem?_replicate] at h
  split at h <;> simp at h
end PlanB
end Go.Sx
namespace Go.Sx
open M
abbrev Rg := List (Nat × Nat)
def Qu (l : Rg) (g : Nat) : Bool := l.any fun p => Nat.ble p.1 g && Nat.blt g p.2
mutual
def AV.inB (l : Rg) : AV → Bool
 | .ptr a => Qu l a.g
 | .slc _ _ a _ => Qu l a.g
 | .mp g => Qu l g
 | .fn _ x c => Cb l x && Cb l c
 | .agg x => Cb l x
 | .iD x => Cb l x
 | _ => true
def Cb (l : Rg) : List AV → Bool
 | [] => true
 | v :: x => v.inB l && Cb l x
end
mutual
theorem AV.Jc {l : Rg} : ∀ {v : AV}, v.inB l = true → v.ji fun g => Qu l g = true
 | .top, _ => trivial
 | .bool _, _ => trivial
 | .aP _, _ => trivial
 | .int .., _ => trivial
 | .flt .., _ => trivial
 | .raw .., _ => trivial
 | .bits .., _ => trivial
 | .dD .., _ => trivial
 | .str .., _ => trivial
 | .ptr a, k => by simpa [AV.inB, AV.ji] using k
 | .bG, _ => trivial
 | .slc _ _ a _, k => by simpa [AV.inB, AV.ji] using k
 | .aX, _ => trivial
 | .mp g, k => by simpa [AV.inB, AV.ji] using k
 | .zS, _ => trivial
 | .fn f x c, k => by
  have k' : Cb l x = true ∧ Cb l c = true := by simpa [AV.inB] using k
  simp only [AV.ji]; exact ⟨sD k'.1, sD k'.2⟩
 | .xu, _ => trivial
 | .C9, _ => trivial
 | .agg x, k => by simp only [AV.ji]; exact sD (by simpa [AV.inB] using k)
 | .iD x, k => by simp only [AV.ji]; exact sD (by simpa [AV.inB] using k)
theorem sD {l : Rg} : ∀ {x : List AV}, Cb l x = true → jg (fun g => Qu l g = true) x
 | [], _ => trivial
 | v :: x, k => by
  have k' : v.inB l = true ∧ Cb l x = true := by simpa [Cb] using k
  simp only [jg]; exact ⟨AV.Jc k'.1, sD k'.2⟩
end
theorem jg.get {S : Nat → Prop} : ∀ {x : List AV}, jg S x → ∀ {o : Nat} {v : AV}, x[o]? = some v → v.ji S
 | [], _, o, v, h => by simp at h
 | u :: x, k, 0, v, h => by simp at h; subst h; exact k.1
 | u :: x, k, o + 1, v, h => jg.get k.2 (by simpa using h)
def T.allB {α : Type} (p : α → Bool) : T α → Bool
 | .e => true
 | .n l v r => T.allB p l && (match v with
  | some a => p a
  | none => true) && T.allB p r
theorem T.Eh {α : Type} {p : α → Bool} : ∀ {t : T α}, T.allB p t = true → ∀ {i : Nat} {a : α}, t.get i = some a → p a = true
 | .e, _, i, a, h => by simp [T.uH] at h
 | .n l v r, k, 0, a, h => by
  simp only [T.allB, Bool.and_eq_true] at k
  rw [T.qI] at h
  subst h
  exact k.1.2
 | .n l v r, k, i + 1, a, h => by
  simp only [T.allB, Bool.and_eq_true] at k
  rw [T.qJ] at h
  cases hb : Nat.beq (i % 2) 0 with
  | true => rw [hb, cond_true] at h; exact T.Eh k.1.1 h
  | false => rw [hb, cond_false] at h; exact T.Eh k.2 h
def Cont.inB (l : Rg) : Cont → Bool
 | .lit d t => Cb l d && T.allB (Cb l) t
 | .fn _ => true
def aF.inB (l : Rg) : aF → Bool
 | .cells own _ _ c => own && c.inB l
 | _ => true
def acX (l : Rg) (n : Nat) (f : Nat → List AV) : Prop := ∀ i, i < n → ∀ (o : Nat) (v : AV), (f i)[o]? = some v → v.ji fun g => Qu l g = true
def addN (l : Rg) (cs : Prop) : Option aF → Prop
 | some (.cells true _ n (.fn f)) => cs ∧ acX l n f
 | _ => cs
def Qv (l : Rg) : Option aF → Option aF
 | some b => bif b.inB l then some b else none
 | none => none
theorem OA {l : Rg} {o : Option aF} {b : aF} (h : Qv l o = some b) : o = some b ∧ b.inB l = true := by
 cases o with
 | none => cases h
 | some b' =>
  simp only [Qv] at h
  cases hb : b'.inB l with
  | true => rw [hb, cond_true] at h; cases h; exact ⟨rfl, hb⟩
  | false => rw [hb, cond_false] at h; cases h
theorem aF.Jc {l : Rg} {b : aF} {cs : Prop} (h : b.inB l = true) (hn : addN l cs (some b)) : b.owned = true ∧ b.ji fun g => Qu l g = true := by
 cases b with
 | cells own sz n c =>
  simp only [aF.inB, Bool.and_eq_true] at h
  obtain ⟨rfl, h⟩ := h
  refine ⟨rfl, fun i hi o v hv => ?_⟩
  cases c with
  | lit d t =>
   simp only [Cont.inB, Bool.and_eq_true] at h
   simp only [Cont.row] at hv
   cases hg : t.get i with
   | none => rw [hg] at hv; exact (sD h.1).get hv
   | some r => rw [hg] at hv; exact (sD (T.Eh h.2 hg)).get hv
  | fn f => exact hn.2 i hi o v hv
 | aW s x => exact ⟨rfl, trivial⟩
 | RZ s x => exact ⟨rfl, trivial⟩
 | sit s x p => exact ⟨rfl, trivial⟩
theorem Yx {l : Rg} {cs : Prop} {o : Option aF} (h : addN l cs o) : cs := by
 unfold addN at h
 split at h
 ·exact h.1
 ·exact h
theorem SG {l : Rg} {cs cs' : Prop} {o : Option aF} (hc : cs → cs') (h : addN l cs o) : addN l cs' o := by
 cases o with
 | none => exact hc h
 | some b =>
  cases b with
  | cells own sz n c => cases own <;> cases c <;> first | exact hc h | exact ⟨hc h.1, h.2⟩
  | _ => exact hc h
def OB (l : Rg) (src : T aF) : List Nat → T aF → T aF
 | [], H => H
 | nm :: r, H => OB l src r (H.upd nm (Qv l (src.get nm)))
def Yy (l : Rg) (src : T aF) : List Nat → Prop → Prop
 | [], cs => cs
 | nm :: r, cs => Yy l src r (addN l cs (src.get nm))
theorem zk (l : Rg) (src : T aF) : ∀ (ns : List Nat) (H : T aF) (i : Nat), (OB l src ns H).get i = if i ∈ ns then Qv l (src.get i) else H.get i
 | [], H, i => by simp [OB]
 | k :: r, H, i => by
  simp only [OB, zk l src r, T.bP, List.mem_cons]
  by_cases h1 : i ∈ r
  ·simp [h1]
  ·by_cases h2 : i = k
   ·subst h2; simp [h1]
   ·simp [h1, h2]
theorem Jd {l : Rg} {src : T aF} : ∀ {ns : List Nat} {cs : Prop}, Yy l src ns cs → cs
 | [], cs, h => h
 | nm :: r, cs, h => Yx (Jd (ns := r) h)
theorem Qw {l : Rg} {src : T aF} : ∀ {ns : List Nat} {cs : Prop}, Yy l src ns cs → ∀ nm ∈ ns, addN l True (src.get nm)
 | [], cs, h, nm, hn => by cases hn
 | k :: r, cs, h, nm, hn => by
  rcases List.mem_cons.1 hn with rfl | hn
  ·exact SG (fun _ => trivial) (Jd (ns := r) h)
  ·exact Qw (ns := r) h nm hn
structure NG where
 v : AV
 fin : Fr
 iZ : G
 fV : G
 T : List Nat
 xP : Fr
 g1 : G
abbrev Mk := List (Nat × Nat × Nat)
def Lj (ms : List Nat) (yY j : Nat) (mk : Mk) (a b : Nat) : Rg := (0, yY) :: (a, b) :: ((mk.filter fun p => wP ms p.1 j).map (·.2))
def abQ (ms : List Nat) (j : Nat) (mk : Mk) : List Nat := (mk.filter fun p => !wP ms p.1 j).flatMap fun p => List.range' p.2.1 (p.2.2 - p.2.1)
def zl (C : qA) (j : Nat) (o : Oper) (mk : Mk) (g : G) : G :=
 { g with H := bif light o.op then .e else nR (nR g.H ((C.inc j).flatMap fun k => C.Ts.getD k [])) (abQ C.ms j mk), uG := [] }
def tOf (gi go : G) : List Nat := go.uG.filter fun nm => (gi.H.get nm).isSome
def Ll (gi go : G) : List Nat := tOf gi go ++ List.range' gi.nx (go.nx - gi.nx)
def Yz (C : qA) (j : Nat) (mk : Mk) (g gi go : G) : G :=
 { go with H := OB (Lj C.ms C.yY j mk g.nx go.nx) go.H (Ll gi go) g.H, uG := tOf gi go ++ g.uG, cs := Yy (Lj C.ms C.yY j mk g.nx go.nx) go.H (Ll gi go) go.cs }
def Qx (P : Program) (call : Calls') (C : qA) (j : Nat) (o : Oper) (fr : Fr) (mk : Mk) : M NG := fun g =>
 match yV P call C.all (C.FW j) (C.fin j fr) o (zl C j o mk g) with
 | .done v go =>
  bif Nat.ble g.nx go.nx && v.inB (Lj C.ms C.yY j mk g.nx go.nx) then
   .done ⟨v, C.fin j fr, zl C j o mk g, go, tOf (zl C j o mk g) go, D6 o fr v, Yz C j mk g (zl C j o mk g) go⟩ (Yz C j mk g (zl C j o mk g) go)
  else .fail
 | .need b => .need b
 | .fail => .fail
def qE (P : Program) (call : Calls') (C : qA) : Nat → List Oper → Fr → Mk → M (List NG)
 | _, [], _, _ => ret []
 | j, o :: l, fr, mk => (Qx P call C j o fr mk).andThen fun rc =>
  (qE P call C (j + 1) l rc.xP ((j, rc.iZ.nx, rc.g1.nx) :: mk)).andThen fun rcs => ret (rc :: rcs)
def oO (C : qA) : Nat → List NG → Bool
 | _, [] => true
 | j, rc :: l => ((rc.T.all fun nm => (C.Ts.getD j []).contains nm) || ((C.inc j).all fun k => ((C.all[k]?).map fun o => light o.op).getD true)) && oO C (j + 1) l
def wu : Fr → List NG → Fr
 | fr, [] => fr
 | _, rc :: l => wu rc.xP l
def zn (P : Program) (call : Calls') (nT : Nat) (ops : List Oper) (fr : Fr) : M Fr := fun g =>
 bif iJ (eG [] ops) nT 0 0 ops then
  match qE P call ⟨nT, ops, eG [] ops, [], 0, g.nx⟩ 0 ops fr [] g with
  | .done rcs g' =>
   bif oO ⟨nT, ops, eG [] ops, [], 0, g.nx⟩ 0 rcs then .done (wu fr rcs) g' else
    match qE P call ⟨nT, ops, eG [] ops, rcs.map (·.T), 0, g.nx⟩ 0 ops fr [] g with
    | .done IZ g'' => bif oO ⟨nT, ops, eG [] ops, rcs.map (·.T), 0, g.nx⟩ 0 IZ then .done (wu fr IZ) g'' else .fail
    | .need b => .need b
    | .fail => .fail
  | .need b => .need b
  | .fail => .fail
 else .fail
def bY (P : Program) (call : Calls') (nT : Nat) (ops : List Oper) (fr : Fr) : M Fr := fun g =>
 match yZ P call nT ops fr g with
 | .fail => zn P call nT ops fr g
 | r => r
structure Lm (P : Program) (call : Calls') (C : qA) (j : Nat) (o : Oper) (fr : Fr) (mk : Mk) (g : G) (rc : NG) (g' : G) : Prop where
 fin : rc.fin = C.fin j fr
 iZ : rc.iZ = zl C j o mk g
 xP : rc.xP = D6 o fr rc.v
 g1 : rc.g1 = g'
 run : yV P call C.all (C.FW j) rc.fin o rc.iZ = .done rc.v rc.fV
 T : rc.T = tOf rc.iZ rc.fV
 nxs : g.nx ≤ rc.fV.nx
 inB : rc.v.inB (Lj C.ms C.yY j mk g.nx rc.fV.nx) = true
 out : g' = Yz C j mk g rc.iZ rc.fV
theorem Ei {P : Program} {call : Calls'} {C : qA} {j : Nat} {o : Oper} {fr : Fr} {mk : Mk} {g : G} {rc : NG} {g' : G} (h : Qx P call C j o fr mk g = .done rc g') : Lm P call C j o fr mk g rc g' := by
 unfold Qx at h
 generalize hone : yV P call C.all (C.FW j) (C.fin j fr) o (zl C j o mk g) = r at h
 split at h
 ·rename_i v go
  cases hb : (Nat.ble g.nx go.nx && v.inB (Lj C.ms C.yY j mk g.nx go.nx)) with
  | false => rw [hb] at h; cases h
  | true =>
   rw [hb] at h
   cases h
   simp only [Bool.and_eq_true] at hb
   exact ⟨rfl, rfl, rfl, rfl, hone, rfl, Nat.le_of_ble_eq_true hb.1, hb.2, rfl⟩
 ·cases h
 ·cases h
def uV (fr : Fr) (rcs : List NG) : Nat → Fr
 | 0 => fr
 | i + 1 => ((rcs[i]?).map (·.xP)).getD fr
def iW (g : G) (rcs : List NG) : Nat → G
 | 0 => g
 | i + 1 => ((rcs[i]?).map (·.g1)).getD g
theorem Ej (fr : Fr) (rc : NG) (rcs : List NG) : ∀ i, i ≤ rcs.length → uV fr (rc :: rcs) (i + 1) = uV rc.xP rcs i
 | 0, _ => by simp [uV]
 | i + 1, h => by
  have : rcs[i]? = some rcs[i] := List.getElem?_eq_getElem (by omega)
  simp [uV, this]
theorem Af (g : G) (rc : NG) (rcs : List NG) : ∀ i, i ≤ rcs.length → iW g (rc :: rcs) (i + 1) = iW rc.g1 rcs i
 | 0, _ => by simp [iW]
 | i + 1, h => by
  have : rcs[i]? = some rcs[i] := List.getElem?_eq_getElem (by omega)
  simp [iW, this]
theorem zo {P : Program} {call : Calls'} {C : qA} : ∀ {l : List Oper} {j : Nat} {fr : Fr} {mk : Mk} {g : G} {rcs : List NG} {g' : G}, qE P call C j l fr mk g = .done rcs g' →
  rcs.length = l.length ∧ iW g rcs l.length = g' ∧ uV fr rcs l.length = wu fr rcs ∧ ∀ i o, l[i]? = some o → ∃ rc mk', rcs[i]? = some rc ∧ Lm P call C (j + i) o (uV fr rcs i) mk' (iW g rcs i) rc (iW g rcs (i + 1)) ∧
   (∀ p ∈ mk', p ∈ mk ∨ ∃ m r, m < i ∧ rcs[m]? = some r ∧ p = (j + m, r.iZ.nx, r.g1.nx)) ∧ (∀ p ∈ mk, p ∈ mk') ∧ (∀ m r, m < i → rcs[m]? = some r → (j + m, r.iZ.nx, r.g1.nx) ∈ mk')
 | [], j, fr, mk, g, rcs, g', h => by
  unfold qE at h
  obtain ⟨rfl, rfl⟩ := aA h
  exact ⟨rfl, rfl, rfl, fun i o hi => by simp at hi⟩
 | o :: l, j, fr, mk, g, rcs, g', h => by
  unfold qE at h
  obtain ⟨rc, g1, a1, h1⟩ := au h
  obtain ⟨IZ, g2, a2, h2⟩ := au h1
  obtain ⟨rfl, rfl⟩ := aA h2
  have hr := Ei a1
  obtain ⟨p1, p2, p3, p4⟩ := zo a2
  refine ⟨by simp [p1], ?_, ?_, fun i o' hi => ?_⟩
  ·rw [List.length_cons, Af _ _ _ _ (by omega), hr.g1]; exact p2
  ·rw [List.length_cons, Ej _ _ _ _ (by omega)]; exact p3
  ·cases i with
   | zero =>
    simp only [List.getElem?_cons_zero, Option.some.injEq] at hi
    subst hi
    refine ⟨rc, mk, rfl, ?_, fun c hc => .inl hc, fun c hc => hc, fun m r hm => by omega⟩
    have e : iW g (rc :: IZ) (0 + 1) = g1 := by simp [iW, hr.g1]
    rw [e]
    exact hr
   | succ i =>
    have hi' : l[i]? = some o' := by simpa using hi
    have hlt : i < l.length := (List.getElem?_eq_some_iff.1 hi').1
    obtain ⟨r', mk', q1, q2, q3, q4, q5⟩ := p4 i o' hi'
    refine ⟨r', mk', by simpa using q1, ?_, fun c hc => ?_, fun c hc => ?_, fun m r hm hr1 => ?_⟩
    ·rw [Ej _ _ _ _ (by omega), Af _ _ _ _ (by omega), Af _ _ _ _ (by omega), hr.g1, show j + (i + 1) = j + 1 + i by omega]
     exact q2
    ·rcases q3 c hc with h3 | ⟨m, r, m1, m2, m4⟩
     ·rcases List.mem_cons.1 h3 with rfl | h3
      ·exact .inr ⟨0, rc, by omega, rfl, rfl⟩
      ·exact .inl h3
     ·exact .inr ⟨m + 1, r, by omega, by simpa using m2, by rw [m4, show j + (m + 1) = j + 1 + m by omega]⟩
    ·exact q4 c (List.mem_cons_of_mem _ hc)
    ·cases m with
     | zero =>
      simp only [List.getElem?_cons_zero, Option.some.injEq] at hr1
      subst hr1
      exact q4 _ List.mem_cons_self
     | succ m =>
      rw [show j + (m + 1) = j + 1 + m by omega]
      exact q5 m r (by omega) (by simpa using hr1)
theorem Em {C : qA} : ∀ {l : List NG} {j : Nat}, oO C j l = true → ∀ i rc, l[i]? = some rc → (∀ nm ∈ rc.T, nm ∈ C.Ts.getD (j + i) []) ∨ ∀ k ∈ C.inc (j + i), ∀ o, C.all[k]? = some o → light o.op = true
 | [], j, h, i, rc, hi => by simp at hi
 | r :: l, j, h, i, rc, hi => by
  simp only [oO, Bool.and_eq_true] at h
  cases i with
  | zero =>
   simp only [List.getElem?_cons_zero, Option.some.injEq] at hi
   subst hi
   rcases Bool.or_eq_true _ _ ▸ h.1 with h | h
   ·left
    rw [List.all_eq_true] at h
    exact fun nm hn => by simpa using h nm hn
   ·right
    rw [List.all_eq_true] at h
    intro k hk o ho
    have := h k hk
    rw [ho] at this
    simpa using this
  | succ i =>
   rw [show j + (i + 1) = j + 1 + i by omega]
   exact Em h.2 i rc (by simpa using hi)
theorem SH {P : Program} {call : Calls'} (hct : iq call) {C : qA} {j : Nat} {o : Oper} {fr : Fr} {mk : Mk} : aC (Qx P call C j o fr mk) := ⟨fun g rc g' h => by
 have hr := Ei h
 refine ⟨tOf rc.iZ rc.fV, by rw [hr.out]; rfl, by rw [hr.out]; exact hr.nxs, fun nm hn hl => ?_⟩
 rw [hr.out]
 show (OB _ rc.fV.H (Ll rc.iZ rc.fV) g.H).get nm = _
 rw [zk, if_neg]
 unfold Ll
 rw [List.mem_append, not_or]
 refine ⟨hl, fun hm => ?_⟩
 have := (List.mem_range'_1.1 hm).1
 rw [hr.iZ] at this
 have e : (zl C j o mk g).nx = g.nx := rfl
 omega⟩
theorem GR {P : Program} {call : Calls'} (hct : iq call) {C : qA} : ∀ (l : List Oper) (j : Nat) (fr : Fr) (mk : Mk), aC (qE P call C j l fr mk)
 | [], j, fr, mk => aC.ret _
 | o :: l, j, fr, mk => (SH hct).andThen fun rc => (GR hct l _ _ _).andThen fun _ => aC.ret _
theorem zq {P : Program} {call : Calls'} {nT : Nat} {ops : List Oper} {fr fr' : Fr} {g g' : G} (h : zn P call nT ops fr g = .done fr' g') :
  iJ (eG [] ops) nT 0 0 ops = true ∧ ∃ Ts rcs, qE P call ⟨nT, ops, eG [] ops, Ts, 0, g.nx⟩ 0 ops fr [] g = .done rcs g' ∧ oO ⟨nT, ops, eG [] ops, Ts, 0, g.nx⟩ 0 rcs = true ∧ fr' = wu fr rcs := by
 unfold zn at h
 cases hst : iJ (eG [] ops) nT 0 0 ops with
 | false => rw [hst] at h; cases h
 | true =>
  rw [hst, cond_true] at h
  refine ⟨rfl, ?_⟩
  generalize hp : qE P call ⟨nT, ops, eG [] ops, [], 0, g.nx⟩ 0 ops fr [] g = r at h
  split at h
  ·rename_i rcs g1
   cases hb : oO ⟨nT, ops, eG [] ops, [], 0, g.nx⟩ 0 rcs with
   | true =>
    rw [hb, cond_true] at h
    cases h
    exact ⟨_, _, hp, hb, rfl⟩
   | false =>
    rw [hb, cond_false] at h
    generalize hp2 : qE P call ⟨nT, ops, eG [] ops, rcs.map (·.T), 0, g.nx⟩ 0 ops fr [] g = r2 at h
    split at h
    ·rename_i acQ g2
     cases hb2 : oO ⟨nT, ops, eG [] ops, rcs.map (·.T), 0, g.nx⟩ 0 acQ with
     | true =>
      rw [hb2, cond_true] at h
      cases h
      exact ⟨_, _, hp2, hb2, rfl⟩
     | false => rw [hb2, cond_false] at h; cases h
    ·cases h
    ·cases h
  ·cases h
  ·cases h
theorem Lp {P : Program} {call : Calls'} (hct : iq call) (n : Nat) (ops : List Oper) (fr : Fr) : aC (zn P call n ops fr) := ⟨fun g fr' g' h => by
 obtain ⟨_, Ts, rcs, hp, _⟩ := zq h
 exact (GR hct ops _ _ _).of _ _ _ hp⟩
theorem gV {P : Program} {call : Calls'} (hct : iq call) (n : Nat) (ops : List Oper) (fr : Fr) : aC (bY P call n ops fr) := ⟨fun g fr' g' h => by
 unfold bY at h
 split at h
 ·exact (Lp hct n ops fr).of _ _ _ h
 ·exact (Lc hct n ops fr).of _ _ _ h⟩
end Go.Sx
namespace Go.Sx
open M
theorem Lr {P : Program} {call : Calls'} {C : qA} {fr : Fr} {mk : Mk} {ops : Array Oper} (hcall : cO P call) (hall : C.all = ops.toList) {j : Nat} {o : Oper} {g g' : G} {rc : NG} (h : Lm P call C j o fr mk g rc g') (hc : g'.cs) : rc.fV.cs ∧ g.cs := by
 have h1 : rc.fV.cs := by
  have := hc
  rw [h.out] at this
  exact Jd this
 refine ⟨h1, ?_⟩
 have run := h.run
 rw [hall] at run
 have := (pO hcall run).1 h1
 rw [h.iZ] at this
 exact this
section
variable {P : Program} {call : Calls'} {ops : Array Oper} {nT : Nat} {ms : List Nat} {Ts : List (List Nat)} {g g' : G} {fr : Fr} {rcs : List NG}
theorem Ls (hp : qE P call ⟨nT, ops.toList, ms, Ts, 0, g.nx⟩ 0 ops.toList fr [] g = .done rcs g') : ∀ j (hj : j < ops.size), ∃ rc mk', rcs[j]? = some rc ∧ Lm P call ⟨nT, ops.toList, ms, Ts, 0, g.nx⟩ j ops[j] (uV fr rcs j) mk' (iW g rcs j) rc (iW g rcs (j + 1)) ∧
   (∀ p ∈ mk', ∃ m, m < j ∧ p = (m, (iW g rcs m).nx, (iW g rcs (m + 1)).nx)) ∧ (∀ m, m < j → (m, (iW g rcs m).nx, (iW g rcs (m + 1)).nx) ∈ mk') := by
 have hat := zo hp
 have raw : ∀ j (hj : j < ops.size), ∃ rc mk', rcs[j]? = some rc ∧ Lm P call ⟨nT, ops.toList, ms, Ts, 0, g.nx⟩ j ops[j] (uV fr rcs j) mk' (iW g rcs j) rc (iW g rcs (j + 1)) ∧
   (∀ p ∈ mk', ∃ m r, m < j ∧ rcs[m]? = some r ∧ p = (m, r.iZ.nx, r.g1.nx)) ∧ (∀ m r, m < j → rcs[m]? = some r → (m, r.iZ.nx, r.g1.nx) ∈ mk') := fun j hj => by
  obtain ⟨rc, mk', h1, h2, h3, _, h5⟩ := hat.2.2.2 j ops[j] (by simp [hj])
  rw [Nat.zero_add] at h2
  refine ⟨rc, mk', h1, h2, fun p hpm => ?_, fun m r hm hr => by simpa using h5 m r hm hr⟩
  rcases h3 p hpm with h | ⟨m, r, k1, k2, k4⟩
  ·cases h
  ·exact ⟨m, r, k1, k2, by simpa using k4⟩
 have nxs : ∀ m, m < ops.size → ∀ r, rcs[m]? = some r → r.iZ.nx = (iW g rcs m).nx ∧ r.g1.nx = (iW g rcs (m + 1)).nx := fun m hm r hr => by
  obtain ⟨rc, mk', h1, h2, _⟩ := raw m hm
  rw [hr] at h1
  cases h1
  exact ⟨by rw [h2.iZ]; rfl, by rw [h2.g1]⟩
 intro j hj
 obtain ⟨rc, mk', h1, h2, h3, h5⟩ := raw j hj
 refine ⟨rc, mk', h1, h2, fun p hpm => ?_, fun m hm => ?_⟩
 ·obtain ⟨m, r, k1, k2, k3⟩ := h3 p hpm
  obtain ⟨e1, e2⟩ := nxs m (by omega) r k2
  exact ⟨m, k1, by rw [k3, e1, e2]⟩
 ·obtain ⟨r, _, k1, _⟩ := raw m (by omega)
  obtain ⟨e1, e2⟩ := nxs m (by omega) r k1
  rw [← e1, ← e2]
  exact h5 m r hm k1
theorem OC (hcall : cO P call) (hp : qE P call ⟨nT, ops.toList, ms, Ts, 0, g.nx⟩ 0 ops.toList fr [] g = .done rcs g') (hcs : g'.cs) : ∀ i, i ≤ ops.size → (iW g rcs (ops.size - i)).cs := by
 have hat := zo hp
 intro i
 induction i with
 | zero =>
  intro _
  have e : iW g rcs ops.toList.length = g' := hat.2.1
  rw [Nat.sub_zero, show ops.size = ops.toList.length by simp, e]
  exact hcs
 | succ i ih =>
  intro hi
  have h := ih (by omega)
  obtain ⟨rc, mk', h1, h2, _⟩ := Ls hp (ops.size - (i + 1)) (by omega)
  rw [show ops.size - (i + 1) + 1 = ops.size - i by omega] at h2
  exact (Lr hcall rfl h2 h).2
theorem zu (hcall : cO P call) (hp : qE P call ⟨nT, ops.toList, ms, Ts, 0, g.nx⟩ 0 ops.toList fr [] g = .done rcs g') (hcs : g'.cs) (j : Nat) (hj : j ≤ ops.size) : (iW g rcs j).cs := by
 have := OC hcall hp hcs (ops.size - j) (by omega)
 rwa [show ops.size - (ops.size - j) = j by omega] at this
theorem acZ {ms : List Nat} {yY j a b x : Nat} {mk : Mk} : Qu (Lj ms yY j mk a b) x = true ↔ x < yY ∨ (a ≤ x ∧ x < b) ∨ ∃ p ∈ mk, wP ms p.1 j = true ∧ p.2.1 ≤ x ∧ x < p.2.2 := by
 have e : ∀ p q : Nat, (Nat.ble p x && Nat.blt x q) = true ↔ p ≤ x ∧ x < q := fun p q => by
  rw [Bool.and_eq_true]
  exact ⟨fun ⟨h1, h2⟩ => ⟨Nat.le_of_ble_eq_true h1, lV h2⟩, fun ⟨h1, h2⟩ => ⟨Nat.ble_eq_true_of_le h1, Nat.ble_eq_true_of_le h2⟩⟩
 unfold Qu Lj
 simp only [List.any_cons, Bool.or_eq_true, e, List.any_map, List.any_eq_true, List.mem_filter, Function.comp]
 constructor
 ·rintro (h | h | ⟨p, ⟨h1, h2⟩, h3⟩)
  ·exact .inl h.2
  ·exact .inr (.inl h)
  ·exact .inr (.inr ⟨p, h1, h2, h3⟩)
 ·rintro (h | h | ⟨p, h1, h2, h3⟩)
  ·exact .inl ⟨Nat.zero_le _, h⟩
  ·exact .inr (.inl h)
  ·exact .inr (.inr ⟨p, ⟨h1, h2⟩, h3⟩)
def afP (hcall : cO P call) (hct : iq call) (hst : iJ ms nT 0 0 ops.toList = true)
    (hp : qE P call ⟨nT, ops.toList, ms, Ts, 0, g.nx⟩ 0 ops.toList fr [] g = .done rcs g') (U3 : oO ⟨nT, ops.toList, ms, Ts, 0, g.nx⟩ 0 rcs = true) (hcs : g'.cs) : PlanB P ops nT g g' fr (wu fr rcs) :=
  have hat := zo hp
  have lC := Ls hp
  have acP : ∀ k, (qA.mk nT ops.toList ms Ts 0 g.nx).dst k = dS ops k := fun k => by simp [qA.dst, dS]
  have su : ∀ k j, k < ops.size → j < ops.size → k ≠ j → qw ops ms k j = false → qw ops ms j k = false → k ∈ (qA.mk nT ops.toList ms Ts 0 g.nx).inc j := fun k j hk hj hne h1 h2 => by
    unfold qA.inc
    rw [KZ]
    simp only [qw, show Nat.blt j ops.size = true from Nat.ble_eq_true_of_le hj, show Nat.blt k ops.size = true from Nat.ble_eq_true_of_le hk, Bool.true_and] at h1 h2
    exact ⟨by simpa using hk, hne, h1, h2⟩
  have toS : ∀ j (hj : j < ops.size) (mk' : Mk), (∀ p ∈ mk', ∃ m, m < j ∧ p = (m, (iW g rcs m).nx, (iW g rcs (m + 1)).nx)) → ∀ x, Qu (Lj ms g.nx j mk' (iW g rcs j).nx (iW g rcs (j + 1)).nx) x = true →
      x < (iW g rcs 0).nx ∨ ∃ m, m < ops.size ∧ (m = j ∨ qw ops ms m j = true) ∧ (iW g rcs m).nx ≤ x ∧ x < (iW g rcs (m + 1)).nx := fun j hj mk' hmk x hx => by
    rcases acZ.1 hx with h | h | ⟨p, h1, h2, h3⟩
    · exact .inl h
    · exact .inr ⟨j, hj, .inl rfl, h⟩
    · obtain ⟨m, hm, rfl⟩ := hmk p h1
      refine .inr ⟨m, by omega, .inr ?_, h3⟩
      simp only [qw, Bool.and_eq_true]
      exact ⟨Nat.ble_eq_true_of_le hj, h2⟩
  have trj : ∀ j (hj : j < ops.size) rc, rcs[j]? = some rc → ∃ l, rc.fV.uG = l ++ [] ∧ rc.iZ.nx ≤ rc.fV.nx ∧ ∀ nm, nm < rc.iZ.nx → nm ∉ l → rc.fV.H.get nm = rc.iZ.H.get nm := fun j hj rc hrc => by
    obtain ⟨rc', mk', h1, h2, _⟩ := lC j hj
    rw [hrc] at h1
    cases h1
    have := (aC.yV P hct _ _ _ _).of _ _ _ h2.run
    have e : rc.iZ.uG = [] := by rw [h2.iZ]; rfl
    rw [← e]
    exact this
  { V := fun j => ((rcs[j]?).map (·.v)).getD .top
    fr := uV fr rcs
    H := fun j => (iW g rcs j).H
    nx := fun j => (iW g rcs j).nx
    T := fun j => ((rcs[j]?).map (·.T)).getD []
    kJ := qw ops ms
    fin := fun j => ((rcs[j]?).map (·.fin)).getD .e
    iZ := fun j => ((rcs[j]?).map (·.iZ)).getD g
    fV := fun j => ((rcs[j]?).map (·.fV)).getD g
    UO := rfl
    UQ := by rw [← hat.2.2.1]; simp
    H_0 := rfl
    BX := rfl
    H_n := by rw [← hat.2.1]; simp
    KW := by rw [← hat.2.1]; simp
    DU := fun j hj t v h => by
      obtain ⟨rc, mk', h1, h2, _⟩ := lC j hj
      simp only [h1, Option.map_some, Option.getD_some, h2.fin, qA.fin, lW] at h
      split at h
      · cases h
      · rename_i hn
        refine ⟨h, fun k hk hne b1 b2 e => hn ?_⟩
        rw [List.mem_filterMap]
        exact ⟨k, su k j hk hj hne b1 b2, by rw [acP, e]⟩
    UR := fun j hj t => by
      obtain ⟨rc, mk', h1, h2, _⟩ := lC j hj
      have e : uV fr rcs (j + 1) = rc.xP := by simp [uV, h1]
      have hd : dS ops j = (ops[j]).dst := by simp [dS, hj]
      rw [e, h2.xP, hd]
      simp only [h1, Option.map_some, Option.getD_some, D6]
      cases hdd : (ops[j]).dst with
      | none => simp
      | some d =>
        simp only [T.bP, Option.some.injEq]
        by_cases ht : t = d
        · rw [if_pos ht, if_pos ht.symm]
        · rw [if_neg ht, if_neg (Ne.symm ht)]
    DV := fun j hj d hd => by
      have := (fM hst j ops[j] (by simp [hj])).2.2 d (by simpa [dS, hj] using hd)
      exact this.1
    yS := fun i j d hi hj h1 h2 => by
      have e1 : (ops[i]).dst = some d := by simpa [dS, hi] using h1
      have e2 : (ops[j]).dst = some d := by simpa [dS, hj] using h2
      rcases Nat.lt_trichotomy i j with h | h | h
      · exact absurd e2 (((fM hst i ops[i] (by simp [hi])).2.2 d e1).2.2 j ops[j] h (by simp [hj]))
      · exact h
      · exact absurd e1 (((fM hst j ops[j] (by simp [hj])).2.2 d e2).2.2 i ops[i] h (by simp [hi]))
    iU := fun k j h => Qo hst j k h
    pK := fun j o ho e he hb => by
      have hj := (Array.getElem?_eq_some_iff.1 ho).1
      have s2 := (fM hst j o (by simpa using ho)).2.1
      rw [Nat.zero_add] at s2
      simp only [qw, Bool.and_eq_true]
      refine ⟨Nat.ble_eq_true_of_le hj, ?_⟩
      unfold wP
      rw [s2, pR]
      exact ⟨e, he, hb, .inl rfl⟩
    yT := fun k j hj h => by
      have s := fM hst j ops[j] (by simp [hj])
      simp only [qw, Bool.and_eq_true] at h
      have hb := h.2
      unfold wP at hb
      have s2 := s.2.1
      rw [Nat.zero_add] at s2
      rw [s2, pR] at hb
      obtain ⟨e, he, hbi, hk⟩ := hb
      refine ⟨ops[j], e, by simp [hj], he, hbi, hk.imp id fun hk => ?_⟩
      have := s.1 e he hbi
      simp only [qw, Bool.and_eq_true]
      exact ⟨Nat.ble_eq_true_of_le (by omega), hk⟩
    KX := fun j o ho hcs μ w a hg hf => by
      have hj := (Array.getElem?_eq_some_iff.1 ho).1
      obtain ⟨rc, mk', h1, h2, _⟩ := lC j hj
      have eo : o = ops[j] := by rw [Array.getElem?_eq_getElem hj] at ho; cases ho; rfl
      simp only [h1, Option.map_some, Option.getD_some] at hcs hg hf ⊢
      rw [eo]
      exact (pO hcall h2.run).2 hcs μ w a nT hg hf
    Oz := fun j hj => by
      obtain ⟨rc, mk', h1, h2, _⟩ := lC j hj
      simp only [h1, Option.map_some, Option.getD_some]
      rw [h2.iZ]; rfl
    Qr := fun j hj => by
      obtain ⟨rc, mk', h1, h2, _⟩ := lC j hj
      simp only [h1, Option.map_some, Option.getD_some]
      rw [h2.out]; rfl
    UZ := fun j hj => by
      obtain ⟨rc, mk', h1, h2, _⟩ := lC j hj
      show (iW g rcs j).nx ≤ (iW g rcs (j + 1)).nx
      have e : (iW g rcs (j + 1)).nx = rc.fV.nx := by rw [h2.out]; rfl
      rw [e]
      exact h2.nxs
    tr := fun j hj nm b hn hb hT => by
      obtain ⟨rc, mk', h1, h2, _⟩ := lC j hj
      obtain ⟨l, t1, _, t3⟩ := trj j hj rc h1
      simp only [h1, Option.map_some, Option.getD_some] at hb hT ⊢
      rw [t3 nm (by rw [h2.iZ]; exact hn) fun hm => hT ?_]
      · exact hb
      · rw [h2.T, tOf, List.mem_filter, t1, List.append_nil]
        exact ⟨hm, by rw [hb]; rfl⟩
    U7 := fun j hj nm hn => by
      obtain ⟨rc, mk', h1, h2, _⟩ := lC j hj
      simp only [h1, Option.map_some, Option.getD_some] at hn ⊢
      rw [h2.T, tOf, List.mem_filter] at hn
      exact Option.isSome_iff_exists.1 hn.2
    vis := fun j hj nm b hb => by
      obtain ⟨rc, mk', h1, h2, h3, h4⟩ := lC j hj
      simp only [h1, Option.map_some, Option.getD_some] at hb
      rw [h2.iZ] at hb
      simp only [zl] at hb
      cases hl : light (ops[j]).op with
      | true => rw [hl] at hb; simp [T.get] at hb
      | false =>
        rw [hl] at hb
        simp only [cond_false, lW] at hb
        split at hb
        · cases hb
        · rename_i hn1
          split at hb
          · cases hb
          · rename_i hn2
            refine ⟨hb, fun k hk hne b1 b2 => ⟨fun hT => ?_, fun hkj hr => hn1 ?_⟩⟩
            · obtain ⟨rk, mkk, k1, k2, _⟩ := lC k hk
              simp only [k1, Option.map_some, Option.getD_some] at hT
              rcases Em U3 k rk k1 with hs | hs
              · refine hn2 ?_
                rw [List.mem_flatMap]
                exact ⟨k, su k j hk hj hne b1 b2, by simpa using hs nm hT⟩
              · have := hs j (by rw [Nat.zero_add]; exact su j k hj hk (Ne.symm hne) b2 b1) ops[j] (by simp [hj])
                rw [hl] at this
                cases this
            · unfold abQ
              rw [List.mem_flatMap]
              refine ⟨_, List.mem_filter.2 ⟨h4 k hkj, ?_⟩, ?_⟩
              · simp only [qw, show Nat.blt j ops.size = true from Nat.ble_eq_true_of_le hj, Bool.true_and] at b1
                simp [b1]
              · rw [List.mem_range'_1]
                simp only
                omega
    H_w := fun j hj nm hW b hb => by
      obtain ⟨rc, mk', h1, h2, h3, h4⟩ := lC j hj
      simp only [h1, Option.map_some, Option.getD_some] at hW ⊢
      have hc1 := zu hcall hp hcs (j + 1) hj
      have e1 : (iW g rcs (j + 1)).nx = rc.fV.nx := by rw [h2.out]; rfl
      have e2 : rc.iZ.nx = (iW g rcs j).nx := by rw [h2.iZ]; rfl
      have hns : nm ∈ Ll rc.iZ rc.fV := by
        unfold Ll
        rw [List.mem_append]
        rcases hW with h | h
        · exact .inl (by rw [← h2.T]; exact h)
        · refine .inr ?_
          rw [List.mem_range'_1]
          omega
      have hb' := hb
      rw [h2.out] at hb' hc1
      simp only [Yz] at hb' hc1
      rw [zk, if_pos hns] at hb'
      obtain ⟨k1, k2⟩ := OA hb'
      have hn := Qw hc1 nm hns
      rw [k1] at hn
      obtain ⟨o1, o2⟩ := aF.Jc k2 hn
      refine ⟨k1, o1, o2.mono fun x hx => ?_⟩
      rw [← e1] at hx
      exact toS j hj mk' h3 x hx
    H_o := fun j hj nm hW => by
      obtain ⟨rc, mk', h1, h2, h3, h4⟩ := lC j hj
      simp only [h1, Option.map_some, Option.getD_some] at hW
      have e1 : (iW g rcs (j + 1)).nx = rc.fV.nx := by rw [h2.out]; rfl
      have e2 : rc.iZ.nx = (iW g rcs j).nx := by rw [h2.iZ]; rfl
      show (iW g rcs (j + 1)).H.get nm = (iW g rcs j).H.get nm
      rw [h2.out]
      show (OB _ rc.fV.H (Ll rc.iZ rc.fV) (iW g rcs j).H).get nm = _
      rw [zk, if_neg]
      unfold Ll
      rw [List.mem_append, not_or]
      refine ⟨fun hm => hW (.inl (by rw [h2.T]; exact hm)), fun hm => hW (.inr ?_)⟩
      rw [List.mem_range'_1] at hm
      omega
    acT := fun j hj => by
      obtain ⟨rc, mk', h1, h2, h3, h4⟩ := lC j hj
      simp only [h1, Option.map_some, Option.getD_some]
      have e1 : (iW g rcs (j + 1)).nx = rc.fV.nx := by rw [h2.out]; rfl
      have := h2.inB
      rw [← e1] at this
      exact (AV.Jc this).mono fun x hx => toS j hj mk' h3 x hx
    KY := fun _ j hj => by
      obtain ⟨rc, mk', h1, h2, h3, h4⟩ := lC j hj
      simp only [h1, Option.map_some, Option.getD_some]
      exact (Lr hcall rfl h2 (zu hcall hp hcs (j + 1) hj)).1
    UY := fun _ => zu hcall hp hcs 0 (Nat.zero_le _) }
end
theorem OD {P : Program} {call : Calls'} (hcall : cO P call) (hct : iq call) (hm : P.follows .mixedOrders = true) (n : Nat) : gq P (zn P call n) n := fun ops id fr fr' g g' h => by
 obtain ⟨hst, Ts, rcs, hp, hs, rfl⟩ := zq h
 exact ⟨fun hc => zu hcall hp hc 0 (Nat.zero_le _), fun hc => ((afP hcall hct hst hp hs hc).leads hm id).2 hc⟩
theorem En {P : Program} {call : Calls'} (hcall : cO P call) (hct : iq call) (hm : P.follows .mixedOrders = true) (n : Nat) : gq P (bY P call n) n := fun ops id fr fr' g g' h => by
 unfold bY at h
 split at h
 ·exact OD hcall hct hm n ops id fr fr' g g' h
 ·exact Ou hcall hct hm n ops id fr fr' g g' h
theorem U8 {P : Program} {Γ : Known} {Λ : FuncId → Loops} (hΓ : eY P Γ) (hT : gG Γ) (hΛ : Qm P Λ) (hΛT : ∀ f, Ol (Λ f)) (hn : DR P = true) (hm : P.follows .mixedOrders = true) (rounds fuel : Nat) : cO P (FZ P Γ Λ (bY P) rounds fuel) :=
 DT hΓ hΛ (fun fuel h n => En h (jO hT hΛT (fun call hc n l fr => gV hc n l fr) fuel) hm n) (.of hn) fuel
theorem gK {P : Program} {Γ : Known} (hΓ : eY P Γ) (hT : gG Γ) (hn : DR P = true) (hm : P.follows .mixedOrders = true) (rounds fuel : Nat) : cO P (runN P Γ (bY P) rounds fuel) :=
 U8 hΓ hT (fun _ _ _ _ _ => iI.none _ _ _) (fun _ _ _ h => by cases h) hn hm rounds fuel
theorem gQ {P : Program} {Γ : Known} (hΓ : eY P Γ) (hT : gG Γ) (hn : DR P = true) (hm : P.follows .mixedOrders = true) (rounds fuel n : Nat) : gq P (bY P (runN P Γ (bY P) rounds fuel) n) n :=
 En (gK hΓ hT hn hm rounds fuel) (jO hT (fun _ _ _ h => by cases h) (fun call hc n l fr => gV hc n l fr) fuel) hm n
end Go.Sx
namespace Go.Sx
open M
def AA.ren (σ : Nat → Nat) (a : AA) : AA := ⟨a.s, σ a.g, a.i, a.o⟩
mutual
def AV.ren (σ : Nat → Nat) : AV → AV
 | .ptr a => .ptr (a.ren σ)
 | .slc s own a len => .slc s own (a.ren σ) len
 | .mp g => .mp (σ g)
 | .fn f l c => .fn f (lD σ l) (lD σ c)
 | .agg l => .agg (lD σ l)
 | .iD l => .iD (lD σ l)
 | v => v
def lD (σ : Nat → Nat) : List AV → List AV
 | [] => []
 | v :: l => v.ren σ :: lD σ l
end
mutual
theorem Rep.kL {N N' : Nat} {μ : MM} {σ : Nat → Nat} : ∀ {v : AV} {c : Value}, Rep N μ (v.ren σ) c → v.low N' = true → Rep N' (μ.via σ) v c
 | .top, _, _, _ => by simp [Rep]
 | .bool _, _, r, _ => by simpa [Rep, AV.ren] using r
 | .aP _, _, r, _ => by simpa [Rep, AV.ren] using r
 | .int .., _, r, _ => by simpa [Rep, AV.ren] using r
 | .flt .., _, r, _ => by simpa [Rep, AV.ren] using r
 | .raw .., _, r, _ => by simpa [Rep, AV.ren] using r
 | .bits .., _, r, _ => by simpa [Rep, AV.ren] using r
 | .dD .., _, r, _ => by simpa [Rep, AV.ren] using r
 | .str .., _, r, _ => by simpa [Rep, AV.ren] using r
 | .ptr a, _, r, l => by
  have hl := lV (by simpa [AV.low] using l)
  simp only [AV.ren, Rep] at r ⊢
  exact ⟨hl, r.2⟩
 | .bG, _, r, _ => by simpa [Rep, AV.ren] using r
 | .slc _ own a len, _, r, l => by
  have hl := lV (by simpa [AV.low] using l)
  simp only [AV.ren, Rep] at r ⊢
  exact ⟨hl, r.2⟩
 | .aX, _, r, _ => by simpa [Rep, AV.ren] using r
 | .mp g, _, r, l => by
  have hl := lV (by simpa [AV.low] using l)
  simp only [AV.ren, Rep] at r ⊢
  exact ⟨hl, r.2⟩
 | .zS, _, r, _ => by simpa [Rep, AV.ren] using r
 | .fn f x cap, _, r, lo => by
  have hl : jw N' x = true ∧ jw N' cap = true := by simpa [AV.low] using lo
  simp only [AV.ren, Rep] at r ⊢
  obtain ⟨fs, cs, rfl, h1, h2⟩ := r
  exact ⟨fs, cs, rfl, aI.kL h1 hl.1, aI.kL h2 hl.2⟩
 | .xu, _, r, _ => by simpa [Rep, AV.ren] using r
 | .C9, _, r, _ => by simpa [Rep, AV.ren] using r
 | .agg x, _, r, lo => by
  simp only [AV.ren, Rep] at r ⊢
  obtain ⟨cs, rfl, h1⟩ := r
  exact ⟨cs, rfl, aI.kL h1 (by simpa [AV.low] using lo)⟩
 | .iD x, _, r, lo => by
  simp only [AV.ren, Rep] at r ⊢
  obtain ⟨cs, rfl, h1⟩ := r
  exact ⟨cs, rfl, aI.kL h1 (by simpa [AV.low] using lo)⟩
theorem aI.kL {N N' : Nat} {μ : MM} {σ : Nat → Nat} : ∀ {l : List AV} {cs : List Value}, aI N μ (lD σ l) cs → jw N' l = true → aI N' (μ.via σ) l cs
 | [], _, r, _ => by simpa [aI, lD] using r
 | v :: l, _, r, lo => by
  have hl : v.low N' = true ∧ jw N' l = true := by simpa [jw] using lo
  simp only [lD, aI] at r ⊢
  obtain ⟨c, t, rfl, h1, h2⟩ := r
  exact ⟨c, t, rfl, Rep.kL h1 hl.1, aI.kL h2 hl.2⟩
end
structure mg (B : Nat) (H : T aF) (μ : MM) (w : World) (H' : T aF) (μ' : MM) (w' : World) : Prop where
 names : MM.upto B μ μ'
 os : w'.os = w.os
 tape : w'.tape = w.tape
 output : w'.output = w.output
 size : w.heap.size ≤ w'.heap.size
 block : ∀ b, b < w.heap.size → ¬ May μ H b → w'.heap[b]? = w.heap[b]?
 may : ∀ b, b < w.heap.size → May μ' H' b → May μ H b
theorem mg.trans {B : Nat} {H H' FX : T aF} {μ μ' μ'' : MM} {w w' w'' : World} (h : mg B H μ w H' μ' w') (k : mg B H' μ' w' FX μ'' w'') : mg B H μ w FX μ'' w'' where
 names := h.names.trans k.names (Nat.le_refl _)
 os := k.os.trans h.os
 tape := k.tape.trans h.tape
 output := k.output.trans h.output
 size := Nat.le_trans h.size k.size
 block := fun b hb hn => (k.block b (Nat.lt_of_lt_of_le hb h.size) fun hm => hn (h.may b hb hm)).trans (h.block b hb hn)
 may := fun b hb hm => h.may b hb (k.may b (Nat.lt_of_lt_of_le hb h.size) hm)
structure AtB (n B K : Nat) (H : T aF) (μ : MM) (w : World) (H' : T aF) (fr' : Fr) (a a' : Act) (w' : World) : Prop where
 of : ∃ μ', eX K μ' w'.heap H' ∧ mg B H μ w H' μ' w' ∧ dM K μ' fr' a'.tmps n ∧ a'.defers = a.defers
abbrev Po := Ex → Fr → T aF → Prop
def aj (P : Program) (c : Code) (n B K K' : Nat) (fr : Fr) (H : T aF) (Post : Po) : Prop :=
 ∀ μ w (a : Act), eX K μ w.heap H → dM K μ fr a.tmps n → ∀ Q : Exit → Act → World → Prop, (∀ e fr' H' a' w', Post e fr' H' → AtB n B K' H μ w H' fr' a a' w' → Q e.ex a' w') → c.wp P Q a w
theorem AtB.trans {n B K : Nat} {H H' FX : T aF} {μ : MM} {w w' w'' : World} {qo : Fr} {a a' a'' : Act} {μ' : MM} (h1 : mg B H μ w H' μ' w') (h2 : a'.defers = a.defers) (h : AtB n B K H' μ' w' FX qo a' a'' w'') : AtB n B K H μ w FX qo a a'' w'' := by
 obtain ⟨μ'', k1, k2, k3, k4⟩ := h.of
 exact ⟨μ'', k1, h1.trans k2, k3, k4.trans h2⟩
theorem AtB.up {n B K K' : Nat} {H H' : T aF} {μ : MM} {w w' : World} {fr' : Fr} {a a' : Act} (h : AtB n B K H μ w H' fr' a a' w') (hK : K ≤ K') : AtB n B K' H μ w H' fr' a a' w' := by
 obtain ⟨μ', k1, k2, k3, k4⟩ := h.of
 exact ⟨μ', k1.up hK fun _ _ h => h, k2, k3.later (.refl _ _) hK, k4⟩
section
variable {P : Program} {n B K K' : Nat}
theorem aj.mono {c : Code} {fr : Fr} {H : T aF} {Post Post' : Po} (h : aj P c n B K K' fr H Post) (k : ∀ e fr' H', Post e fr' H' → Post' e fr' H') : aj P c n B K K' fr H Post' :=
 fun μ w a hg hf Q hQ => h μ w a hg hf Q fun e fr' H' a' w' hp ha => hQ e fr' H' a' w' (k _ _ _ hp) ha
theorem aj.up {K'' : Nat} {c : Code} {fr : Fr} {H : T aF} {Post : Po} (h : aj P c n B K K' fr H Post) (hK : K' ≤ K'') : aj P c n B K K'' fr H Post :=
 fun μ w a hg hf Q hQ => h μ w a hg hf Q fun e fr' H' a' w' hp ha => hQ e fr' H' a' w' hp (ha.up hK)
theorem aj.run {call : Calls'} (hcall : cO P call) {region : List Oper → Fr → M Fr} {loops : Loops} {rounds : Nat} (qO : gq P region n) {c : Code} (hl : iI P loops n c) {fr : Fr} {H : T aF} {path : List Bool}
  {e : Ex} {fl : List (Nat × AV)} {bl : List (Nat × aF)} (h : U6 e fl bl (cu P call region loops n rounds c fr ⟨H, K, [], path, True⟩)) (h1 : afL K' fl) (h2 : afM K' bl) (hB : B ≤ K) :
  aj P c n B K K' fr H fun e' fr' H' => e' = e ∧ fr' = aQ fl ∧ H' = hpL bl := by
 have h := h.of
 generalize hr : cu P call region loops n rounds c fr ⟨H, K, [], path, True⟩ = res at h
 unfold Oy at h
 split at h
 ·rename_i r g
  obtain ⟨rfl, hw, hh, hcs⟩ := h
  obtain ⟨_, hs⟩ := fZ hcall qO c hl _ _ _ _ hr
  intro μ w a hg hf Q hQ
  refine hs hcs μ w a hg hf Q fun a' w' hk => hQ r.1 _ _ a' w' ⟨rfl, rfl, rfl⟩ ⟨?_⟩
  obtain ⟨μ', k1, k2, k3, k4⟩ := hk
  have sub : ∀ i b, (hpL bl).get i = some b → g.H.get i = some b ∧ i < K' ∧ b.bare := fun i b hb => by
   have hm := bC hb
   exact ⟨hh.get hm, (h2 _ hm).1, (h2 _ hm).2⟩
  refine ⟨μ', ⟨fun i b hb => (sub i b hb).2.1, fun i b hb => (k1.ok _ _ (sub i b hb).1).bare (sub i b hb).2.2 rfl rfl rfl rfl, fun i b j b' hi hj => k1.sep _ _ _ _ (sub i b hi).1 (sub j b' hj).1⟩, ?_, ⟨k3.size, fun t v ht => ?_⟩, k4⟩
  ·exact ⟨k2.names.mono hB, k2.os, k2.tape, k2.output, k2.size, k2.block, fun b hb hm => k2.may b hb (by
    obtain ⟨i, b, m1, m2, m3, m4⟩ := hm
    exact ⟨i, b, (sub i b m1).1, m2, m3, m4⟩)⟩
  ·have hm := iK ht
   exact Rep.nO (.refl _ _) (h1 _ hm) (k3.val t v (hw.get hm))
 ·exact h.elim
def dN : aF → aF → Prop
 | .cells own sz m c, .cells own' sz' m' c' => own = own' ∧ sz = sz' ∧ m = m' ∧ ∀ i, i < m → c.row i = c'.row i
 | b, b' => b = b'
theorem dN.refl (b : aF) : dN b b := by cases b <;> simp [dN]
theorem dN.owned {b b' : aF} (h : dN b b') : b.owned = b'.owned := by
 cases b <;> cases b' <;> simp_all [dN, aF.owned]
theorem dN.real {b b' : aF} (h : dN b b') (μ : MM) (g : Nat) : b.real μ g ↔ b'.real μ g := by
 cases b <;> cases b' <;> simp_all [dN, aF.real]
theorem dN.ok {N : Nat} {μ : MM} {hp : Array Obj} {g : Nat} {b b' : aF} (h : dN b b') (k : dw N μ hp g b) : dw N μ hp g b' := by
 cases b with
 | cells own sz m c =>
  cases b' with
  | cells own' sz' m' c' =>
   obtain ⟨rfl, rfl, rfl, hr⟩ := h
   refine ⟨k.1, k.2.1, fun hh => ?_⟩
   obtain ⟨cur, ty, fz, h1, h2, h3, h4⟩ := k.2.2 hh
   exact ⟨cur, ty, fz, h1, h2, h3, fun i hi => by rw [← hr i hi]; exact h4 i hi⟩
  | _ => simp [dN] at h
 | _ => cases b' <;> simp [dN] at h <;> first | exact h ▸ k | (obtain ⟨rfl, rfl⟩ := h; exact k) | (obtain ⟨rfl, rfl, rfl⟩ := h; exact k)
theorem aj.abN {c : Code} {fr qp : Fr} {H H0 : T aF} {Post : Po} (hf : ∀ t v, qp.get t = some v → ∃ u, fr.get t = some u ∧ ∀ N μ cv, Rep N μ u cv → Rep N μ v cv) (hH : ∀ i b, H0.get i = some b → ∃ b', H.get i = some b' ∧ dN b' b) (h : aj P c n B K K' qp H0 Post) : aj P c n B K K' fr H Post := by
 intro μ w a hg hfr Q hQ
 refine h μ w a ⟨fun i b hb => let ⟨b', h1, _⟩ := hH i b hb; hg.lt i b' h1, fun i b hb => let ⟨b', h1, h2⟩ := hH i b hb; h2.ok (hg.ok i b' h1), fun i b j b' hi hj ho hr hr' he => ?_⟩
  ⟨hfr.size, fun t v ht => let ⟨u, h1, h2⟩ := hf t v ht; h2 _ _ _ (hfr.val t u h1)⟩ Q fun e fr' H' a' w' hp ha => hQ e fr' H' a' w' hp ⟨?_⟩
 ·obtain ⟨b1, h1, h2⟩ := hH i b hi
  obtain ⟨b2, k1, k2⟩ := hH j b' hj
  exact hg.sep i b1 j b2 h1 k1 (by rw [h2.owned]; exact ho) ((h2.real μ i).2 hr) ((k2.real μ j).2 hr') he
 ·obtain ⟨μ', k1, k2, k3, k4⟩ := ha.of
  have may : ∀ b, May μ H0 b → May μ H b := fun b ⟨i, x, m1, m2, m3, m4⟩ => by
   obtain ⟨b', h1, h2⟩ := hH i x m1
   exact ⟨i, b', h1, by rw [h2.owned]; exact m2, (h2.real μ i).2 m3, m4⟩
  exact ⟨μ', k1, ⟨k2.names, k2.os, k2.tape, k2.output, k2.size, fun b hb hn => k2.block b hb fun hm => hn (may b hm), fun b hb hm => may b (k2.may b hb hm)⟩, k3, k4⟩
structure Ren (B K' : Nat) (σ : Nat → Nat) (fr : Fr) (H : T aF) (fr' : Fr) (H' : T aF) : Prop where
 keep : ∀ g, g < B → σ g = g
 frs : ∀ t v, fr'.get t = some v → fr.get t = some (v.ren σ) ∧ v.low K' = true
 hps : ∀ i b, H'.get i = some b → ∃ b0, H.get (σ i) = some b0 ∧ dN b0 b ∧ b.bare ∧ i < K'
 inj : ∀ i j b b', H'.get i = some b → H'.get j = some b' → σ i = σ j → i = j
theorem aj.ren {K'' : Nat} {c : Code} {fr : Fr} {H : T aF} {Post Post' : Po} (h : aj P c n B K K' fr H Post) (k : ∀ e fr' H', Post e fr' H' → ∃ σ qo FX, Ren B K'' σ fr' H' qo FX ∧ Post' e qo FX) : aj P c n B K K'' fr H Post' := by
 intro μ w a hg hf Q hQ
 refine h μ w a hg hf Q fun e fr' H' a' w' hp ha => ?_
 obtain ⟨σ, qo, FX, R, hp'⟩ := k _ _ _ hp
 refine hQ e qo FX a' w' hp' ⟨?_⟩
 obtain ⟨μ', k1, k2, k3, k4⟩ := ha.of
 refine ⟨μ'.via σ, ⟨fun i b hb => ?_, fun i b hb => ?_, fun i b j b' hi hj ho hr hr' he => ?_⟩, ⟨⟨fun g hg => ?_, fun g hg => ?_, fun g hg => ?_, fun g hg => ?_⟩, k2.os, k2.tape, k2.output, k2.size, k2.block, fun b hb hm => k2.may b hb ?_⟩, ⟨k3.size, fun t v ht => ?_⟩, k4⟩
 ·obtain ⟨b0, h1, h2, h3, h4⟩ := R.hps i b hb; exact h4
 ·obtain ⟨b0, h1, h2, h3, h4⟩ := R.hps i b hb
  exact (h2.ok (k1.ok _ _ h1)).bare h3 rfl rfl rfl rfl
 ·obtain ⟨b0, h1, h2, h3, h4⟩ := R.hps i b hi
  obtain ⟨b1, l1, l2, l3, l4⟩ := R.hps j b' hj
  refine R.inj i j b b' hi hj (k1.sep _ _ _ _ h1 l1 (by rw [h2.owned]; exact ho) ?_ ?_ he)
  ·exact (h2.real _ _).2 ((aF.fC rfl b).1 hr)
  ·exact (l2.real _ _).2 ((aF.fC rfl b').1 hr')
 ·show μ'.blk (σ g) = _; rw [R.keep g hg]; exact k2.names.blk g hg
 ·show μ'.cap (σ g) = _; rw [R.keep g hg]; exact k2.names.cap g hg
 ·show μ'.sz (σ g) = _; rw [R.keep g hg]; exact k2.names.sz g hg
 ·show μ'.base (σ g) = _; rw [R.keep g hg]; exact k2.names.base g hg
 ·obtain ⟨i, x, m1, m2, m3, m4⟩ := hm
  obtain ⟨b0, h1, h2, h3, h4⟩ := R.hps i x m1
  exact ⟨σ i, b0, h1, by rw [h2.owned]; exact m2, (h2.real _ _).2 ((aF.fC rfl x).1 m3), m4⟩
 ·obtain ⟨h1, h2⟩ := R.frs t v ht
  exact (k3.val t _ h1).kL h2
theorem aj.seq {K1 : Nat} {x y : Code} {fr : Fr} {H : T aF} {Post : Po} (hK : K1 ≤ K')
  (h : aj P x n B K K1 fr H fun e fr' H' => match e with
   | .normal => aj P y n B K1 K' fr' H' Post
   | e => Post e fr' H') : aj P (.seq x y) n B K K' fr H Post := by
 intro μ w a hg hf Q hQ
 refine wp_seq (h μ w a hg hf _ fun e fr' H' a' w' hp ha => ?_)
 cases e with
 | normal =>
  obtain ⟨μ', k1, k2, k3, k4⟩ := ha.of
  exact hp μ' w' a' k1 k3 Q fun e'' qo FX a'' w'' hp' ha' => hQ _ _ _ _ _ hp' (AtB.trans k2 k4 ha')
 | exit id => exact hQ _ _ _ _ _ hp (ha.up hK)
 | ret => exact hQ _ _ _ _ _ hp (ha.up hK)
theorem aj.block {id : Nat} {c : Code} {fr : Fr} {H : T aF} {Post : Po}
  (h : aj P c n B K K' fr H fun e fr' H' => match e with
   | .exit id' => if id' = id then Post .normal fr' H' else Post (.exit id') fr' H'
   | e => Post e fr' H') : aj P (.block id c) n B K K' fr H Post := by
 intro μ w a hg hf Q hQ
 refine wp_block (h μ w a hg hf _ fun e fr' H' a' w' hp ha => ?_)
 cases e with
 | normal => exact hQ _ _ _ _ _ hp ha
 | ret => exact hQ _ _ _ _ _ hp ha
 | exit id' =>
  simp only [Ex.ex, Exit.inBlock]
  by_cases he : id' = id
  ·simp only [he, if_true] at hp ⊢
   exact hQ .normal _ _ _ _ hp ha
  ·simp only [if_neg he] at hp ⊢
   exact hQ (.exit id') _ _ _ _ hp ha
theorem aj.cond {c : Operand} {b s : Bool} {x y : Code} {fr : Fr} {H : T aF} {Post : Po} (hc : bZ fr c = dH s b) (hx : b = true → aj P x n B K K' fr H Post) (hy : b = false → aj P y n B K K' fr H Post) : aj P (.cond c x y) n B K K' fr H Post := by
 intro μ w a hg hf Q hQ
 have e : a.eval c = .bool b := by
  have := hf.eval (a := a) c
  rw [hc] at this
  exact cZ.1 this
 refine wp_cond e ?_
 cases b with
 | true => exact hx rfl μ w a hg hf Q hQ
 | false => exact hy rfl μ w a hg hf Q hQ
theorem aj.loop {c : Code} {Post : Po} (I : Nat → Fr → T aF → Prop)
  (h : ∀ k fr H, I k fr H → aj P c n B K K fr H fun e fr' H' => match e with
   | .normal => ∃ k', k' < k ∧ I k' fr' H'
   | e => Post e fr' H') : ∀ k fr H, I k fr H → aj P (.loop c) n B K K fr H Post := by
 have key : ∀ R k fr H, k < R → I k fr H → ∀ μ w (a : Act), eX K μ w.heap H → dM K μ fr a.tmps n → ∀ Q : Exit → Act → World → Prop, (∀ e fr' H' a' w', Post e fr' H' → AtB n B K H μ w H' fr' a a' w' → Q e.ex a' w') → Code.rounds P c Q R a w := by
  intro R
  induction R with
  | zero => intro k fr H hk; omega
  | succ R ih =>
   intro k fr H hkR hI μ w a hg hf Q hQ
   rw [rounds_succ]
   refine wp_mono (h k fr H hI μ w a hg hf (fun e a' w' => (e = .normal ∧ ∃ k' fr' H', k' < k ∧ I k' fr' H' ∧ AtB n B K H μ w H' fr' a a' w') ∨ (e ≠ .normal ∧ Q e a' w')) fun e fr' H' a' w' hp ha => ?_) ?_
   ·cases e with
    | normal =>
     obtain ⟨k', hk, hI'⟩ := hp
     exact .inl ⟨rfl, k', fr', H', hk, hI', ha⟩
    | exit id => exact .inr ⟨by simp [Ex.ex], hQ (.exit id) _ _ _ _ hp ha⟩
    | ret => exact .inr ⟨by simp [Ex.ex], hQ .ret _ _ _ _ hp ha⟩
   ·rintro e a' w' (⟨rfl, k', fr', H', hk, hI', ha⟩ | ⟨hne, hq⟩)
    ·obtain ⟨μ', k1, k2, k3, k4⟩ := ha.of
     exact ih k' fr' H' (by omega) hI' μ' w' a' k1 k3 Q fun e'' qo FX a'' w'' hp' ha' => hQ _ _ _ _ _ hp' (AtB.trans k2 k4 ha')
    ·cases e <;> first | exact absurd rfl hne | exact hq
 intro k fr H hI μ w a hg hf Q hQ
 exact wp_loop_rounds (k + 1) (key (k + 1) k fr H (by omega) hI μ w a hg hf Q hQ)
theorem aj.call {f : FuncId} {fn : Func} {c : Code} (hf : P.funcs[f]? = some fn) (hb : fn.body = some c) (hname : (fn.name == "runtime.NumGoroutine") = false) {args : List AV} {H : T aF} {V : AV → T aF → Prop}
  (h : aj P c fn.ntmps B K K' (bJ args 0 .e) H fun e fr' H' => (e = .ret ∨ e = .normal) ∧ ∃ vs g', dA P fr' fn.results.toList ⟨H', K', [], [], True⟩ = .done vs g' ∧ g'.cs ∧ V (mG vs) H')
  (μ : MM) (w : World) {bT : Array Value} (hg : eX K μ w.heap H) (ha : aI K μ args bT.toList) :
  CF P f bT w fun cv w' => ∃ v μ' H', V v H' ∧ Rep K' μ' v cv ∧ eX K' μ' w'.heap H' ∧ mg B H μ w H' μ' w' := by
 refine .inr ⟨f, bT, w, qV hf hname hb bT w, calls_of_wp hf hb (h μ w _ hg (dM.start ha fn.ntmps) _ fun e fr' H' a' w' hp hA => ?_)⟩
 obtain ⟨he, vs, g', hr, hcs, hV⟩ := hp
 obtain ⟨μ', k1, k2, k3, k4⟩ := hA.of
 obtain ⟨kk, hs⟩ := pJ hr
 obtain ⟨cs, e1, hvs⟩ := hs hcs μ' w' a'.tmps _ k1 k3
 obtain ⟨cv, e2, hcv⟩ := uT e1 hvs
 have post : a'.defers = [] ∧ ∃ x, (results fn a'.tmps).run P w' = .ok x w' ∧ ∃ c0, Ending.returned x = .returned c0 ∧ ∃ v μ' H', V v H' ∧ Rep K' μ' v c0 ∧ eX K' μ' w'.heap H' ∧ mg B H μ w H' μ' w' :=
  ⟨k4, cv, e2, cv, rfl, _, μ', H', hV, hcv, k1, k2⟩
 rcases he with rfl | rfl
 ·exact post
 ·exact post
end
theorem YA {N : Nat} {μ : MM} {hp : Array Obj} {a : AA} {own : Bool} {dL sz n m : Nat} {c : Cont} (hb : dw N μ hp a.g (.cells own sz n c)) (he : 0 < dL) (hr : RC a dL sz n m) {μ' : MM} {i N' : Nat}
  (e1 : μ'.blk i = μ.blk a.g) (e2 : μ'.sz i = dL) (e3 : μ'.base i = μ.base a.g + a.i * sz + a.o) (hbare : ∀ j, j < m → ∀ v, v ∈ rowsOf a dL sz c j → v.low 0 = true) :
  dw N' μ' hp i (.cells false dL m (.fn (rowsOf a dL sz c))) := by
 refine ⟨e2, he, fun h => ?_⟩
 have hm : 0 < m := by
  rcases h with h | ⟨h, _⟩
  ·exact h
  ·cases h
 obtain ⟨cur, ty, fz, h1, h2, h3⟩ := Gt hb he hr hm
 refine ⟨cur, ty, fz, by rw [e1]; exact h1, by rw [e3]; exact h2, fun h => (by cases h), fun j hj => ⟨(h3 j hj).1, fun o v hv => ?_⟩⟩
 obtain ⟨k1, cv, k2, k3⟩ := (h3 j hj).2 o v hv
 rw [e3]
 exact ⟨k1, cv, k2, k3.bare (hbare j hj v (List.mem_of_getElem? hv))⟩
end Go.Sx
namespace Go.Sx
open M
def AV.ge (u v : AV) : Prop := ∀ N μ cv, Rep N μ u cv → Rep N μ v cv
structure Vw where
 x : AV
 dL : Nat
 len : Nat
 rows : Nat → List AV
def Vw.bk (v : Vw) : aF := .cells false v.dL v.len (.fn v.rows)
def gU (i len : Nat) : AV := .slc true false ⟨false, i, 0, 0⟩ len
def Je (μ : MM) : AV → Nat
 | .slc _ _ a _ => μ.blk a.g
 | _ => 0
def zx (μ : MM) : AV → Nat
 | .slc _ _ a _ => μ.base a.g + a.i * μ.sz a.g + a.o
 | _ => 0
def Cc (μ : MM) (l : List Vw) : MM :=
 ⟨fun i => (l[i]?).elim 0 fun v => Je μ v.x, fun _ => 0, fun i => (l[i]?).elim 0 fun v => v.dL, fun i => (l[i]?).elim 0 fun v => zx μ v.x⟩
def vwL : List Vw → Nat → List (Nat × aF)
 | [], _ => []
 | v :: l, i => (i, v.bk) :: vwL l (i + 1)
theorem zy : ∀ {l : List Vw} {i : Nat} {p : Nat × aF}, p ∈ vwL l i → ∃ j v, l[j]? = some v ∧ p = (i + j, v.bk)
 | [], i, p, h => by cases h
 | v :: l, i, p, h => by
  rcases List.mem_cons.1 h with rfl | h
  ·exact ⟨0, v, rfl, rfl⟩
  ·obtain ⟨j, u, h1, rfl⟩ := zy h
   exact ⟨j + 1, u, by simpa using h1, by rw [show i + 1 + j = i + (j + 1) by omega]⟩
structure Vw.Ok (v : Vw) (g : G) : Prop where
 pos : 0 < v.dL
 bare : ∀ j, j < v.len → ∀ u, u ∈ v.rows j → u.low 0 = true
 view : ∀ N μ (w : World), eX N μ w.heap g.H → ∀ (μ' : MM) (i N' : Nat), μ'.blk i = Je μ v.x → μ'.sz i = v.dL → μ'.base i = zx μ v.x → dw N' μ' w.heap i v.bk
 val : ∀ N μ c, Rep N μ v.x c → ∀ (μ' : MM) (i N' : Nat), i < N' → μ'.blk i = Je μ v.x → μ'.sz i = v.dL → μ'.base i = zx μ v.x → Rep N' μ' (gU i v.len) c
theorem Vw.Ok.of {x : AV} {dL : Nat} {y : Bool × Nat × (Nat → List AV)} {g g' : G} (h : pz dL x g = .done y g') (he : 0 < dL) :
  ∃ p, Keep g g' p ∧ (p → (∀ j, j < y.2.1 → ∀ u, u ∈ y.2.2 j → u.low 0 = true) → Vw.Ok ⟨x, dL, y.2.1, y.2.2⟩ g) := by
 unfold pz at h
 split at h
 ·obtain ⟨rfl, rfl⟩ := aA h
  refine ⟨True, Keep.refl _, fun _ hb => ⟨he, hb, fun N μ w hg μ' i N' e1 e2 e3 => ?_, fun N μ c hx μ' i N' hi e1 e2 e3 => ?_⟩⟩
  ·refine ⟨e2, he, fun h => ?_⟩
   rcases h with h | ⟨h, _⟩
   ·cases h
   ·cases h
  ·simp only [Rep] at hx
   subst hx
   simp only [gU, Rep, yH]
   exact ⟨hi, none, 0, rfl, Nat.le_refl _, fun h => absurd h (by omega), fun h => (by cases h), fun h => (by cases h)⟩
 ·rename_i s own a len
  obtain ⟨⟨bo, sz, n, c⟩, g1, a1, h1⟩ := au h
  obtain ⟨hb, rfl⟩ := fK a1
  simp only at h1 hb
  obtain ⟨_, g2, a2, h2⟩ := au h1
  obtain ⟨rfl, rfl⟩ := aA h2
  refine ⟨_, Bd a2, fun hp hbare => ⟨he, hbare, fun N μ w hg μ' i N' e1 e2 e3 => ?_, fun N μ cx hx μ' i N' hi e1 e2 e3 => ?_⟩⟩
  ·have hbk := hg.ok _ _ hb
   have hsz : μ.sz a.g = sz := hbk.1
   exact YA hbk he hp e1 e2 (by rw [e3]; simp only [zx, hsz]) hbare
  ·simp only [Rep] at hx
   obtain ⟨_, A, C, rfl, hlen, hA, _⟩ := hx
   simp only [gU, Rep, yH]
   refine ⟨hi, A, C, rfl, hlen, fun h => ?_, fun h => (by cases h), fun h => (by cases h)⟩
   rw [hA h]
   simp only [MM.addr, e1, e3, Je, zx, Nat.zero_mul, Nat.add_zero]
 ·exact (aY h).elim
theorem U9 {l : List Vw} {g : G} (h : ∀ v ∈ l, v.Ok g) {N : Nat} {μ : MM} {w : World} (hg : eX N μ w.heap g.H) : eX l.length (Cc μ l) w.heap (hpL (vwL l 0)) where
 lt := fun i b hb => by
  obtain ⟨j, v, h1, h2⟩ := zy (bC hb)
  cases h2
  have := (List.getElem?_eq_some_iff.1 h1).1
  omega
 ok := fun i b hb => by
  obtain ⟨j, v, h1, h2⟩ := zy (bC hb)
  cases h2
  rw [Nat.zero_add]
  refine (h v (List.mem_of_getElem? h1)).view N μ w hg _ j _ ?_ ?_ ?_ <;> simp [Cc, h1]
 sep := fun i b j b' hi hj ho => by
  obtain ⟨k, v, h1, h2⟩ := zy (bC hi)
  cases h2
  cases ho
theorem Va {l : List Vw} {μ : MM} {B : Nat} : ¬ May μ (hpL (vwL l 0)) B := by
 rintro ⟨i, b, hb, ho, _⟩
 obtain ⟨j, v, h1, h2⟩ := zy (bC hb)
 cases h2
 cases ho
theorem Ag {l : List Vw} {g : G} {i : Nat} {v : Vw} (h : v.Ok g) (hi : l[i]? = some v) {N : Nat} {μ : MM} {c : Value} (hx : Rep N μ v.x c) : Rep l.length (Cc μ l) (gU i v.len) c :=
 h.val N μ c hx _ i _ (List.getElem?_eq_some_iff.1 hi).1 (by simp [Cc, hi]) (by simp [Cc, hi]) (by simp [Cc, hi])
def oq (H : T aF) : Nat → List aF → T aF
 | _, [] => H
 | i, b :: l => oq (H.upd i (some b)) (i + 1) l
theorem pU : ∀ (l : List aF) (H : T aF) (i j : Nat), (oq H i l).get j = if i ≤ j ∧ j < i + l.length then l[j - i]? else H.get j
 | [], H, i, j => by
  rw [if_neg (by simp)]; rfl
 | b :: l, H, i, j => by
  simp only [oq, pU l, T.bP, List.length_cons]
  by_cases h1 : j = i
  ·subst h1; simp; omega
  ·by_cases h2 : i + 1 ≤ j ∧ j < i + 1 + l.length
   ·rw [if_pos h2, if_pos (by omega), show j - i = (j - (i + 1)) + 1 by omega, List.getElem?_cons_succ]
   ·rw [if_neg h2, if_neg h1, if_neg (by omega)]
def fO (μ μ' : MM) (N : Nat) (nms : List Nat) : MM :=
 ⟨fun i => if i < N then μ.blk i else μ'.blk (nms.getD (i - N) 0), fun i => if i < N then μ.cap i else μ'.cap (nms.getD (i - N) 0), fun i => if i < N then μ.sz i else μ'.sz (nms.getD (i - N) 0), fun i => if i < N then μ.base i else μ'.base (nms.getD (i - N) 0)⟩
theorem eP {μ μ' : MM} {N : Nat} {nms : List Nat} : MM.upto N μ (fO μ μ' N nms) := ⟨fun g hg => if_pos hg, fun g hg => if_pos hg, fun g hg => if_pos hg, fun g hg => if_pos hg⟩
theorem Vb {μ μ' : MM} {N : Nat} {nms : List Nat} {i : Nat} (h : N ≤ i) : Jb (μ'.via fun i => nms.getD (i - N) 0) (fO μ μ' N nms) i :=
 ⟨if_neg (by omega), if_neg (by omega), if_neg (by omega), if_neg (by omega)⟩
structure YB (H' : T aF) (nms : List Nat) (bs : List aF) : Prop where
 len : nms.length = bs.length
 at' : ∀ (i : Nat) (b : aF), bs[i]? = some b → ∃ nm b0, nms[i]? = some nm ∧ H'.get nm = some b0 ∧ dN b0 b ∧ b.owned = true ∧ b.bare
 nodup : nms.Nodup
theorem YC {g : G} {μ : MM} {w w' : World} (hg : eX g.nx μ w.heap g.H) {k K' : Nat} {Hc H' : T aF} {μc μ' : MM} (hno : ∀ B, ¬ May μc Hc B) (hE : mg k Hc μc w H' μ' w') (hc : eX K' μ' w'.heap H') {nms : List Nat} {bs : List aF} (hn : YB H' nms bs)
  {g' : G} (h1 : g'.H = oq g.H g.nx bs) (h2 : g'.nx = g.nx + bs.length) :
  eX g'.nx (fO μ μ' g.nx nms) w'.heap g'.H ∧ Ext g μ w g' (fO μ μ' g.nx nms) w' := by
 have old : ∀ B, B < w.heap.size → w'.heap[B]? = w.heap[B]? := fun B hB => hE.block B hB (hno B)
 have case : ∀ i b, g'.H.get i = some b → (i < g.nx ∧ g.H.get i = some b) ∨ ∃ j nm b0, i = g.nx + j ∧ bs[j]? = some b ∧ nms[j]? = some nm ∧ H'.get nm = some b0 ∧ dN b0 b ∧ b.owned = true ∧ b.bare := fun i b hb => by
  rw [h1, pU] at hb
  split at hb
  ·rename_i hi
   obtain ⟨nm, b0, k1, k2, k3, k4, k5⟩ := hn.at' _ _ hb
   exact .inr ⟨i - g.nx, nm, b0, by omega, hb, k1, k2, k3, k4, k5⟩
  ·exact .inl ⟨hg.lt _ _ hb, hb⟩
 have nmv : ∀ j nm, nms[j]? = some nm → nms.getD (g.nx + j - g.nx) 0 = nm := fun j nm h => by
  rw [show g.nx + j - g.nx = j by omega, List.getD_eq_getElem?_getD, h]; rfl
 have eqs : ∀ j nm, nms[j]? = some nm → (fO μ μ' g.nx nms).blk (g.nx + j) = μ'.blk nm ∧ (fO μ μ' g.nx nms).cap (g.nx + j) = μ'.cap nm ∧ (fO μ μ' g.nx nms).sz (g.nx + j) = μ'.sz nm ∧ (fO μ μ' g.nx nms).base (g.nx + j) = μ'.base nm := fun j nm h => by
  have hge : ¬ g.nx + j < g.nx := by omega
  refine ⟨?_, ?_, ?_, ?_⟩ <;> simp only [fO, if_neg hge, nmv j nm h]
 have high : ∀ j nm b0 b, nms[j]? = some nm → H'.get nm = some b0 → dN b0 b → b.owned = true → b.real (fO μ μ' g.nx nms) (g.nx + j) → w.heap.size ≤ (fO μ μ' g.nx nms).blk (g.nx + j) := fun j nm b0 b e1 e2 e3 e4 e5 => by
  obtain ⟨q1, q2, q3, q4⟩ := eqs j nm e1
  rw [q1]
  refine Nat.le_of_not_lt fun hlt => hno _ (hE.may _ hlt ⟨nm, b0, e2, by rw [e3.owned]; exact e4, (e3.real _ _).2 ((aF.fC q2 b).1 e5), rfl⟩)
 constructor
 ·refine ⟨fun i b hb => ?_, fun i b hb => ?_, fun i b j b' hi hj ho hr hr' he => ?_⟩
  ·rw [h2]
   rcases case i b hb with ⟨h, _⟩ | ⟨j, nm, b0, rfl, h, _⟩
   ·omega
   ·have := (List.getElem?_eq_some_iff.1 h).1; omega
  ·rcases case i b hb with ⟨h, hb'⟩ | ⟨j, nm, b0, rfl, e1, e2, e3, e4, e5, e6⟩
   ·have ok := hg.ok _ _ hb'
    exact ok.later eP (by omega) h fun hr => old _ (ok.lt_size hr)
   ·obtain ⟨q1, q2, q3, q4⟩ := eqs j nm e2
    exact (e4.ok (hc.ok _ _ e3)).bare e6 q1 q2 q3 q4
  ·rcases case i b hi with ⟨hlt, hb1⟩ | ⟨i1, nm, b0, rfl, e1, e2, e3, e4, e5, e6⟩
   ·rw [aF.bH eP hlt] at hr
    rw [eP.blk i hlt] at he
    rcases case j b' hj with ⟨hlt', hb2⟩ | ⟨j1, nm', b0', rfl, e1', e2', e3', e4', e5', e6'⟩
    ·rw [aF.bH eP hlt'] at hr'
     rw [eP.blk j hlt'] at he
     exact hg.sep _ _ _ _ hb1 hb2 ho hr hr' he
    ·have := high j1 nm' b0' b' e2' e3' e4' e5' hr'
     have := (hg.ok _ _ hb1).lt_size hr
     omega
   ·rcases case j b' hj with ⟨hlt', hb2⟩ | ⟨j1, nm', b0', rfl, e1', e2', e3', e4', e5', e6'⟩
    ·rw [aF.bH eP hlt'] at hr'
     rw [eP.blk j hlt'] at he
     have := high i1 nm b0 b e2 e3 e4 e5 hr
     have := (hg.ok _ _ hb2).lt_size hr'
     omega
    ·obtain ⟨q1, q2, _⟩ := eqs i1 nm e2
     obtain ⟨q1', q2', _⟩ := eqs j1 nm' e2'
     have e : nm = nm' := hc.sep _ _ _ _ e3 e3' (by rw [e4.owned]; exact e5) ((e4.real _ _).2 ((aF.fC q2 b).1 hr)) ((e4'.real _ _).2 ((aF.fC q2' b').1 hr')) (by rw [← q1, ← q1']; exact he)
     subst e
     have hi1 := (List.getElem?_eq_some_iff.1 e2).1
     have : i1 = j1 := (List.getElem?_inj hi1 hn.nodup).1 (e2.trans e2'.symm)
     rw [this]
 ·refine ⟨by omega, eP, hE.os, hE.tape, hE.output, hE.size, fun B hB _ => old B hB, fun B hB hm => ?_⟩
  obtain ⟨i, b, m1, m2, m3, m4⟩ := hm
  rcases case i b m1 with ⟨hlt, hb1⟩ | ⟨j, nm, b0, rfl, e1, e2, e3, e4, e5, e6⟩
  ·rw [aF.bH eP hlt] at m3
   rw [eP.blk i hlt] at m4
   exact ⟨i, b, hb1, m2, m3, m4⟩
  ·have := high j nm b0 b e2 e3 e4 e5 m3
   omega
theorem Lu {μ μ' : MM} {N K' : Nat} {nms : List Nat} {v : AV} {c : Value} {M : Nat} (h : Rep K' μ' (v.ren fun i => nms.getD (i - N) 0) c) (hl : v.low M = true) (hS : v.ji fun i => N ≤ i) : Rep M (fO μ μ' N nms) v c := by
 have h1 := h.kL hl
 exact h1.on (S := fun i => N ≤ i) (fun i hi hlt => ⟨hlt, Vb hi⟩) hS
theorem reads {P : Program} {f : FuncId} {fn : Func} {c : Code} (hf : P.funcs[f]? = some fn) (hb : fn.body = some c) (hname : (fn.name == "runtime.NumGoroutine") = false) {K' : Nat} {args dY : List AV} {g g1 g' : G} {p : Prop} (kp : Keep g g1 p)
  (l : List Vw) (hl : p → ∀ v ∈ l, v.Ok g) (hargs : p → ∀ N μ (cs : List Value), aI N μ args cs → aI l.length (Cc μ l) dY cs)
  {nms : List Nat} {bs : List aF} {v : AV}
  (h : p → aj P c fn.ntmps l.length l.length K' (bJ dY 0 .e) (hpL (vwL l 0)) fun e fr' H' => (e = .ret ∨ e = .normal) ∧ ∃ vs gr, dA P fr' fn.results.toList ⟨H', K', [], [], True⟩ = .done vs gr ∧ gr.cs ∧ AV.ge (mG vs) (v.ren (fun i => nms.getD (i - g.nx) 0)) ∧ YB H' nms bs)
  (hv : v.low (g.nx + bs.length) = true) (hS : v.ji fun i => g.nx ≤ i) (h1 : g'.H = oq g.H g.nx bs) (h2 : g'.nx = g.nx + bs.length) (h3 : g'.cs → g1.cs) : bf P f args v g g' := by
 refine ⟨fun hc => (kp.2.2 (h3 hc)).1, fun hcs μ w bT hg ha => ?_⟩
 have hp := (kp.2.2 (h3 hcs)).2
 refine (aj.call hf hb hname (V := fun u H' => AV.ge u (v.ren (fun i => nms.getD (i - g.nx) 0)) ∧ YB H' nms bs) ((h hp).mono fun e fr' H' ⟨k1, vs, gr, k2, k3, k4, k5⟩ => ⟨k1, vs, gr, k2, k3, k4, k5⟩) (Cc μ l) w (U9 (hl hp) hg) (hargs hp _ _ _ ha)).mono ?_
 rintro cv w' ⟨u, μ', H', ⟨hge, hN⟩, hrep, hgk, hE⟩
 obtain ⟨q1, q2⟩ := YC hg (fun B => Va) hE hgk hN h1 h2
 refine ⟨fO μ μ' g.nx nms, ?_, q1, q2⟩
 rw [h2]
 exact Lu (hge _ _ _ hrep) hv hS
end Go.Sx
namespace Go.Sx
open M
theorem ct {α : Sort _} {b : Bool} {x y : α} (h : b = true) : cond b x y = x := by rw [h]; rfl
theorem cf {α : Sort _} {b : Bool} {x y : α} (h : b = false) : cond b x y = y := by rw [h]; rfl
theorem bD {b : Bool} {A B C : Prop} (h : cond b A B) (ha : b = true → A → C) (hb : b = false → B → C) : C := by
 cases b
 ·exact hb rfl h
 ·exact ha rfl h
def aT : List Nat → Code → Code
 | [], c => c
 | i :: l, .seq a b => bif Nat.beq i 0 then aT l a else aT l b
 | i :: l, .cond _ a b => bif Nat.beq i 0 then aT l a else aT l b
 | _ :: l, .block _ c => aT l c
 | _ :: l, .loop c => aT l c
 | _, c => c
def ak (f : Func) : Code := f.body.getD .skip
def jP (K' : Nat) (e : Ex) (fl : List (Nat × AV)) (hl : List (Nat × aF)) : BU (Ex × Fr) → Prop
 | .done r g => r.1 = e ∧ GN r.2 fl ∧ Ae g.H hl ∧ Nat.ble g.nx K' = true ∧ g.cs
 | _ => False
structure bV (K' : Nat) (e : Ex) (fl : List (Nat × AV)) (hl : List (Nat × aF)) (r : BU (Ex × Fr)) : Prop where
 of : jP K' e fl hl r
section
variable {P : Program} {n B K K' : Nat}
theorem aj.runN {call : Calls'} (hcall : cO P call) {region : List Oper → Fr → M Fr} {loops : Loops} {rounds : Nat} (qO : gq P region n) {c : Code} (hl : iI P loops n c) {fr : Fr} {H : T aF} {path : List Bool}
  {e : Ex} {fl : List (Nat × AV)} {bl : List (Nat × aF)} (h : bV K' e fl bl (cu P call region loops n rounds c fr ⟨H, K, [], path, True⟩)) (hB : B ≤ K) :
  aj P c n B K K' fr H fun e' fr' H' => e' = e ∧ fr' = aQ fl ∧ H' = hpL bl := by
 have h := h.of
 generalize hr : cu P call region loops n rounds c fr ⟨H, K, [], path, True⟩ = res at h
 unfold jP at h
 split at h
 ·rename_i r g
  obtain ⟨rfl, hw, hh, hnx, hcs⟩ := h
  have hnx := Nat.le_of_ble_eq_true hnx
  obtain ⟨_, hs⟩ := fZ hcall qO c hl _ _ _ _ hr
  intro μ w a hg hf Q hQ
  refine hs hcs μ w a hg hf Q fun a' w' hk => hQ r.1 _ _ a' w' ⟨rfl, rfl, rfl⟩ ⟨?_⟩
  obtain ⟨μ', k1, k2, k3, k4⟩ := hk
  have sub : ∀ i b, (hpL bl).get i = some b → g.H.get i = some b := fun i b hb => hh.get (bC hb)
  refine ⟨μ', k1.up hnx sub, ?_, ⟨k3.size, fun t v ht => (k3.val t v (hw.get (iK ht))).later (.refl _ _) hnx⟩, k4⟩
  exact ⟨k2.names.mono hB, k2.os, k2.tape, k2.output, k2.size, k2.block, fun b hb hm => k2.may b hb (by
    obtain ⟨i, x, m1, m2, m3, m4⟩ := hm
    exact ⟨i, x, sub i x m1, m2, m3, m4⟩)⟩
 ·exact h.elim
theorem AV.ge.refl (v : AV) : AV.ge v v := fun _ _ _ h => h
theorem AV.ge.int (s s' : Bool) (k : IntKind) (n : Int) : AV.ge (.int s k n) (.int s' k n) := fun _ _ _ h => by simpa only [Rep] using h
theorem AV.ge.int' (s s' : Bool) (k : IntKind) {n n' : Int} (e : n = n') : AV.ge (.int s k n) (.int s' k n') := e ▸ AV.ge.int s s' k n
theorem AV.ge.bool (b : Bool) : AV.ge (.bool b) (.aP b) := fun _ _ _ h => by simpa only [Rep] using h
theorem AV.ge.bool' {b b' : Bool} (e : b = b') : AV.ge (.bool b) (.aP b') := e ▸ AV.ge.bool b
theorem AV.ge.ou {b b' : Bool} (e : b = b') : AV.ge (.aP b) (.aP b') := e ▸ AV.ge.refl _
theorem AV.ge.ac0 {b b' : Bool} (e : b = b') : AV.ge (.aP b) (.bool b') := fun _ _ _ h => by subst e; simpa only [Rep] using h
theorem AV.ge.SI (s s' : Bool) {x x' y y' : Nat} (e : x = x') (e' : y = y') : AV.ge (.dD s x y) (.dD s' x' y') := fun _ _ _ h => by subst e e'; simpa only [Rep] using h
theorem AV.ge.str' (s s' : Bool) {l l' : List UInt8} (e : l = l') : AV.ge (.str s l) (.str s' l') := fun _ _ _ h => by subst e; simpa only [Rep] using h
theorem AV.ge.aX (a : AA) : AV.ge (.slc false false a 0) (.slc true false a 0) := fun _ _ _ h => by
 simp only [Rep, yH] at h ⊢
 obtain ⟨h1, A, C, h2, h3, h4, h5, h6⟩ := h
 exact ⟨h1, A, C, h2, h3, h4, fun h => (by cases h), h6⟩
theorem AV.ge.slc (s own : Bool) (a : AA) {len len' : Nat} (e : len = len') : AV.ge (.slc s own a len) (.slc true own a len') := fun _ _ _ h => by
 subst e
 simp only [Rep, yH] at h ⊢
 obtain ⟨h1, A, C, h2, h3, h4, h5, h6⟩ := h
 exact ⟨h1, A, C, h2, h3, h4, fun h => (by cases h), h6⟩
def Ge (fr : Fr) : List (Nat × AV) → Prop
 | [] => True
 | p :: l => (∃ u, fr.get p.1 = some u ∧ AV.ge u p.2) ∧ Ge fr l
theorem Ge.get {fr : Fr} : ∀ {l : List (Nat × AV)}, Ge fr l → ∀ p ∈ l, ∃ u, fr.get p.1 = some u ∧ AV.ge u p.2
 | q :: l, h, p, hp => by
  rcases List.mem_cons.1 hp with rfl | hp
  ·exact h.1
  ·exact Ge.get h.2 p hp
def Vd (H : T aF) : List (Nat × aF) → Prop
 | [] => True
 | p :: l => (∃ b, H.get p.1 = some b ∧ dN b p.2) ∧ Vd H l
theorem Vd.get {H : T aF} : ∀ {l : List (Nat × aF)}, Vd H l → ∀ p ∈ l, ∃ b, H.get p.1 = some b ∧ dN b p.2
 | q :: l, h, p, hp => by
  rcases List.mem_cons.1 hp with rfl | hp
  ·exact h.1
  ·exact Vd.get h.2 p hp
theorem aj.dW {c : Code} {fr : Fr} {H : T aF} {fl : List (Nat × AV)} {bl : List (Nat × aF)} {Post : Po} (hf : Ge fr fl) (hH : Vd H bl) (h : aj P c n B K K' (aQ fl) (hpL bl) Post) : aj P c n B K K' fr H Post :=
 h.abN (fun t v ht => hf.get _ (iK ht)) fun i b hb => hH.get _ (bC hb)
theorem AtB.dW {H : T aF} {μ : MM} {w w' : World} {H' : T aF} {fr' : Fr} {a a' : Act} {fl : List (Nat × AV)} {bl : List (Nat × aF)} (hf : Ge fr' fl) (hH : Vd H' bl) (h : AtB n B K H μ w H' fr' a a' w') : AtB n B K H μ w (hpL bl) (aQ fl) a a' w' := by
 obtain ⟨μ', k1, k2, k3, k4⟩ := h.of
 have G := fun i b (hb : (hpL bl).get i = some b) => hH.get _ (bC hb)
 refine ⟨μ', ⟨fun i b hb => ?_, fun i b hb => ?_, fun i b j b' hi hj ho hr hr' he => ?_⟩, ⟨k2.names, k2.os, k2.tape, k2.output, k2.size, k2.block, fun b hb hm => k2.may b hb ?_⟩, ⟨k3.size, fun t v ht => ?_⟩, k4⟩
 ·obtain ⟨b0, h1, h2⟩ := G i b hb; exact k1.lt i b0 h1
 ·obtain ⟨b0, h1, h2⟩ := G i b hb; exact h2.ok (k1.ok i b0 h1)
 ·obtain ⟨b0, h1, h2⟩ := G i b hi
  obtain ⟨b1, l1, l2⟩ := G j b' hj
  exact k1.sep i b0 j b1 h1 l1 (by rw [h2.owned]; exact ho) ((h2.real _ _).2 hr) ((l2.real _ _).2 hr') he
 ·obtain ⟨i, x, m1, m2, m3, m4⟩ := hm
  obtain ⟨b0, h1, h2⟩ := G i x m1
  exact ⟨i, b0, h1, by rw [h2.owned]; exact m2, (h2.real _ _).2 m3, m4⟩
 ·obtain ⟨u, h1, h2⟩ := hf.get _ (iK ht)
  exact h2 _ _ _ (k3.val t u h1)
theorem aj.post {c : Code} {fr : Fr} {H : T aF} {Post Post' : Po} (h : aj P c n B K K' fr H Post) (k : ∀ e fr' H', Post e fr' H' → ∃ fl bl, Ge fr' fl ∧ Vd H' bl ∧ Post' e (aQ fl) (hpL bl)) : aj P c n B K K' fr H Post' :=
 fun μ w a hg hf Q hQ => h μ w a hg hf Q fun e fr' H' a' w' hp ha => by
  obtain ⟨fl, bl, h1, h2, h3⟩ := k _ _ _ hp
  exact hQ e _ _ a' w' h3 (ha.dW h1 h2)
def Ah (K' : Nat) (σ : Nat → Nat) (fr : Fr) : List (Nat × AV) → Prop
 | [] => True
 | p :: l => (∃ u, fr.get p.1 = some u ∧ AV.ge u (p.2.ren σ) ∧ p.2.low K' = true) ∧ Ah K' σ fr l
def YD (K' : Nat) (σ : Nat → Nat) (H : T aF) : List (Nat × aF) → Prop
 | [] => True
 | p :: l => (∃ b, H.get (σ p.1) = some b ∧ dN b p.2 ∧ p.2.bare ∧ p.1 < K') ∧ YD K' σ H l
theorem Ah.get {σ : Nat → Nat} {fr : Fr} : ∀ {l : List (Nat × AV)}, Ah K' σ fr l → ∀ p ∈ l, ∃ u, fr.get p.1 = some u ∧ AV.ge u (p.2.ren σ) ∧ p.2.low K' = true
 | q :: l, h, p, hp => by
  rcases List.mem_cons.1 hp with rfl | hp
  ·exact h.1
  ·exact Ah.get h.2 p hp
theorem YD.get {σ : Nat → Nat} {H : T aF} : ∀ {l : List (Nat × aF)}, YD K' σ H l → ∀ p ∈ l, ∃ b, H.get (σ p.1) = some b ∧ dN b p.2 ∧ p.2.bare ∧ p.1 < K'
 | q :: l, h, p, hp => by
  rcases List.mem_cons.1 hp with rfl | hp
  ·exact h.1
  ·exact YD.get h.2 p hp
end
end Go.Sx
namespace Go.Sx
open M
inductive Sh where
 | int (k : IntKind)
 | str
 | bool
 | f64
def Sh.ok : Sh → Value → Prop
 | .int k, v => ∃ n, v = .int k n ∧ (Lit.int k n).wf = true
 | .str, v => ∃ s : ByteArray, v = .string s ∧ s.size ≤ maxLen
 | .bool, v => ∃ b, v = .bool b
 | .f64, v => ∃ b, v = .float .f64 b ∧ b < 18446744073709551616
def intOf : Value → Int
 | .int _ n => n
 | _ => 0
def strOf : Value → List UInt8
 | .string s => s.data.toList
 | _ => []
def Ve : Value → Bool
 | .bool b => b
 | _ => false
def abR : Value → Nat
 | .float _ b => b
 | _ => 0
def Sh.av : Sh → Value → AV
 | .int k, v => .int true k (intOf v)
 | .str, v => .str true (strOf v)
 | .bool, v => .aP (Ve v)
 | .f64, v => .raw true (abR v)
theorem Sh.rep {N : Nat} {μ : MM} : ∀ {sh : Sh} {v : Value}, sh.ok v → Rep N μ (sh.av v) v
 | .int k, v, h => by obtain ⟨n, rfl, _⟩ := h; simp only [Sh.av, Rep, intOf]
 | .str, v, h => by obtain ⟨s, rfl, _⟩ := h; simp only [Sh.av, Rep, strOf]
 | .bool, v, h => by obtain ⟨b, rfl⟩ := h; simp only [Sh.av, Rep, Ve]
 | .f64, v, h => by obtain ⟨b, rfl, hb⟩ := h; simp only [Sh.av, Rep, abR]; exact ⟨trivial, hb⟩
theorem Sh.one {sh : Sh} {v : Value} : (sh.av v).one = true := by cases sh <;> rfl
theorem Sh.low {sh : Sh} {v : Value} {N : Nat} : (sh.av v).low N = true := by cases sh <;> rfl
def Ai (P : Program) (r : TypeId → Option (List Sh)) : Nat → List Field → Option (List Sh)
 | _, [] => some []
 | off, f :: fs =>
  match r f.type, Ai P r (off + P.cellsOf f.type) fs with
  | some l, some m => bif Nat.beq f.offset off && Nat.beq l.length (P.cellsOf f.type) then some (l ++ m) else none
  | _, _ => none
def Eo (l : List Sh) : Nat → List Sh
 | 0 => []
 | n + 1 => l ++ Eo l n
def GU (P : Program) : Nat → TypeId → Option (List Sh)
 | 0, _ => none
 | n + 1, t =>
  match P.underlying t with
  | some (.int k) => some [.int k]
  | some .string => some [.str]
  | some .bool => some [.bool]
  | some (.struct fs) => Ai P (GU P n) 0 fs.toList
  | some (.array m e) =>
   match GU P n e with
   | some l => bif Nat.beq l.length (P.cellsOf e) then some (Eo l m) else none
   | none => none
  | _ => none
def Okl (uX : List Sh) (cs : List Value) : Prop := ∀ (i : Nat) (sh : Sh), uX[i]? = some sh → ∃ v, cs[i]? = some v ∧ sh.ok v
section
variable {H : Type} {enc : TypeId × Value → H} {P : Program} {w : World} {base : Nat} {spare : Nat → Bool} {held : Bool}
theorem Jf {sh : Sh} {v : Value} (h : sh.ok v) : Okl [sh] [v] := fun i s hi => by
 cases i with
 | zero => simp at hi; subst hi; exact ⟨v, rfl, h⟩
 | succ i => simp at hi
theorem Ep {r : TypeId → Option (List Sh)} {cs : List Value} (ih : ∀ t l, r t = some l → ∀ (n : Nat) (c : List Value) (x : DataW H × List MemPlace), DataW.trod enc P w base spare held n t c = some x → Okl l c) :
  ∀ (fs : List Field) (off : Nat) (l : List Sh), Ai P r off fs = some l → (∀ f ∈ fs, ∃ (n : Nat) (x : DataW H × List MemPlace), DataW.trod enc P w base spare held n f.type ((cs.drop f.offset).take (P.cellsOf f.type)) = some x) → ∀ (i : Nat) (sh : Sh), l[i]? = some sh → ∃ v, cs[off + i]? = some v ∧ sh.ok v
 | [], off, l, h, _, i, sh, hi => by simp only [Ai, Option.some.injEq] at h; subst h; simp at hi
 | f :: fs, off, l, h, hf, i, sh, hi => by
  simp only [Ai] at h
  cases h1 : r f.type with
  | none => rw [h1] at h; cases h
  | some a =>
   cases h2 : Ai P r (off + P.cellsOf f.type) fs with
   | none => rw [h1, h2] at h; cases h
   | some m =>
    rw [h1, h2] at h
    simp only at h
    cases hb : (Nat.beq f.offset off && Nat.beq a.length (P.cellsOf f.type)) with
    | false => rw [hb, cond_false] at h; cases h
    | true =>
     rw [hb, cond_true] at h
     cases h
     simp only [Bool.and_eq_true] at hb
     have eo := Nat.eq_of_beq_eq_true hb.1
     have el := Nat.eq_of_beq_eq_true hb.2
     by_cases hlt : i < a.length
     ·rw [List.getElem?_append_left hlt] at hi
      obtain ⟨n, x, hx⟩ := hf f List.mem_cons_self
      obtain ⟨v, hv, hok⟩ := ih _ _ h1 n _ x hx i sh hi
      refine ⟨v, ?_, hok⟩
      rw [List.getElem?_take, if_pos (by omega), List.getElem?_drop, eo] at hv
      exact hv
     ·rw [List.getElem?_append_right (by omega)] at hi
      obtain ⟨v, hv, hok⟩ := Ep ih fs (off + P.cellsOf f.type) m h2 (fun g hg => hf g (List.mem_cons_of_mem _ hg)) _ sh hi
      refine ⟨v, ?_, hok⟩
      rw [← hv]
      congr 1
      omega
theorem Es (l : List Sh) : ∀ (m i : Nat) (sh : Sh), (Eo l m)[i]? = some sh → ∃ j k, j < m ∧ i = j * l.length + k ∧ l[k]? = some sh
 | 0, i, sh, h => by simp [Eo] at h
 | m + 1, i, sh, h => by
  simp only [Eo] at h
  by_cases hlt : i < l.length
  ·rw [List.getElem?_append_left hlt] at h
   exact ⟨0, i, by omega, by omega, h⟩
  ·rw [List.getElem?_append_right (by omega)] at h
   obtain ⟨j, k, h1, h2, h3⟩ := Es l m _ sh h
   exact ⟨j + 1, k, by omega, by rw [Nat.succ_mul]; omega, h3⟩
theorem SK : ∀ (n : Nat) (t : TypeId) (uX : List Sh), GU P n t = some uX → ∀ (fuel : Nat) (cs : List Value) (x : DataW H × List MemPlace), DataW.trod enc P w base spare held fuel t cs = some x → Okl uX cs := by
 intro n
 induction n with
 | zero => intro t uX h; cases h
 | succ n ih =>
  intro t uX h fuel cs x hx
  simp only [GU] at h
  generalize hu : P.underlying t = u at h
  split at h
  ·cases h
   obtain ⟨k, rfl, _, hw⟩ := DataW.trod_int hu hx
   exact Jf ⟨_, rfl, hw⟩
  ·cases h
   obtain ⟨s, rfl, _, hs⟩ := DataW.trod_string hu hx
   exact Jf ⟨_, rfl, hs⟩
  ·cases h
   obtain ⟨b, rfl, _⟩ := DataW.trod_bool hu hx
   exact Jf ⟨_, rfl⟩
  ·rename_i fs
   obtain ⟨xs, m, _, _, hl, hxl, hf⟩ := DataW.trod_struct hu hx
   intro i sh hi
   have := Ep (cs := cs) (fun t l ht k c y hy => ih t l ht k c y hy) fs.toList 0 uX h (fun f hfm => by
    obtain ⟨j, hj, rfl⟩ := List.getElem_of_mem hfm
    have hj' : j < fs.size := by simpa using hj
    have e := hf j fs[j] (by simp [hj'])
    refine ⟨m, xs[j]'(by omega), ?_⟩
    rw [List.getElem?_eq_getElem (by omega)] at e
    simpa using e) i sh hi
   simpa using this
  ·rename_i m e
   cases h1 : GU P n e with
   | none => rw [h1] at h; cases h
   | some l =>
    rw [h1] at h
    simp only at h
    cases hb : Nat.beq l.length (P.cellsOf e) with
    | false => rw [hb, cond_false] at h; cases h
    | true =>
     rw [hb, cond_true] at h
     cases h
     have el := Nat.eq_of_beq_eq_true hb
     obtain ⟨xs, k, _, _, hl, hxl, hf⟩ := DataW.trod_array hu hx
     intro i sh hi
     obtain ⟨j, q, hj, rfl, hq⟩ := Es l m i sh hi
     have e1 := hf j hj
     rw [List.getElem?_eq_getElem (by omega)] at e1
     obtain ⟨v, hv, hok⟩ := ih e l h1 _ _ _ e1 q sh hq
     refine ⟨v, ?_, hok⟩
     have hql := (List.getElem?_eq_some_iff.1 hq).1
     rw [List.getElem?_take, if_pos (by omega), List.getElem?_drop, ← el] at hv
     exact hv
  ·cases h
end
def BJ : List Sh → Nat → (Nat → Value) → List AV
 | [], _, _ => []
 | sh :: l, o, c => sh.av (c o) :: BJ l (o + 1) c
theorem Jg (l : List Sh) (o : Nat) (c : Nat → Value) : (BJ l o c).length = l.length := by
 induction l generalizing o with
 | nil => rfl
 | cons sh l ih => simp [BJ, ih]
theorem SL (l : List Sh) (o : Nat) (c : Nat → Value) (i : Nat) : (BJ l o c)[i]? = (l[i]?).map fun sh => sh.av (c (o + i)) := by
 induction l generalizing o i with
 | nil => simp [BJ]
 | cons sh l ih =>
  cases i with
  | zero => simp [BJ]
  | succ i => simp only [BJ, List.getElem?_cons_succ, ih]; rw [show o + 1 + i = o + (i + 1) by omega]
section
open Go.WideShapes
variable {H : Type} {enc : TypeId × Value → H} {P : Program} {W : World} {held : Bool}
theorem sG {w : World} {b o : Nat} {sp : Option Nat} {v : Value} (h : w.cell? ⟨b, o, sp⟩ = some v) : sp = none ∧ ∃ cur ty fz, w.heap[b]? = some (.cells cur ty fz) ∧ cur[o]? = some v := by
 unfold World.cell? at h
 split at h
 ·rename_i c e fz hb
  split at h
  ·cases h
  ·rename_i hs
   refine ⟨by cases sp <;> simp_all, c, e, fz, hb, h⟩
 ·cases h
theorem Vf {t e : TypeId} {n : Nat} {uX : List Sh} {fuel : Nat} {v : Value} {x : DataW H × List MemPlace} {sp : Nat → Bool} (ht : P.underlying t = some (.slice e)) (afQ : GU P n e = some uX) (hlen : uX.length = P.cellsOf e) (hpos : 0 < uX.length)
  (hd : DataW.trod enc P W 0 sp held fuel t [v] = some x) :
  ∃ (len blk bs : Nat) (c : Nat → Nat → Value),
   (∀ (μ : MM) (i N : Nat), i < N → μ.blk i = blk → μ.base i = bs → μ.sz i = uX.length → Rep N μ (gU i len) v) ∧
   (∀ (μ : MM) (i N : Nat), μ.blk i = blk → μ.base i = bs → μ.sz i = uX.length → dw N μ W.heap i (.cells false uX.length len (.fn fun j => BJ uX 0 (c j)))) ∧
   (∀ j, j < len → ∀ (i : Nat) (sh : Sh), uX[i]? = some sh → sh.ok (c j i)) ∧
   ((len = 0 ∧ x.1 = .nil) ∨ ∃ es sps, x.1 = .slice es sps ∧ es.length = len) := by
 rcases Go.Deep.open_slice ht hd with ⟨h0, hx⟩ | ⟨a, len, cap, m, k, D, Pl, h0, _, hl, hm, hmm, hx, hel⟩
 ·cases h0
  refine ⟨0, 0, 0, fun _ _ => undef, fun μ i N hi _ _ _ => ?_, fun μ i N _ _ hs => ⟨hs, hpos, fun h => ?_⟩, fun j hj => by omega, .inl ⟨rfl, by rw [hx]⟩⟩
  ·simp only [gU, Rep, yH]
   exact ⟨hi, none, 0, rfl, Nat.le_refl _, fun h => absurd h (by omega), fun h => (by cases h), fun h => (by cases h)⟩
  ·rcases h with h | ⟨h, _⟩
   ·exact absurd h (by omega)
   ·cases h
 ·cases h0
  have ajC : len ≤ m := by rw [hmm]; split <;> omega
  have cell : ∀ j, j < len → ∀ (i : Nat) (sh : Sh), uX[i]? = some sh → ∃ u, W.cell? (a.add (j * uX.length + i)) = some u ∧ sh.ok u := fun j hj i sh hi => by
   obtain ⟨cs', h1, h2⟩ := hel j (by omega)
   obtain ⟨_, hcl, hc⟩ := World.cells?_some h1
   obtain ⟨u, hu, ho⟩ := SK n e uX afQ _ _ _ h2 i sh hi
   have hil := (List.getElem?_eq_some_iff.1 hi).1
   refine ⟨u, ?_, ho⟩
   rw [← hu, ← hc i (by omega), ← hlen, Go.Deep.add_add]
  rcases Nat.eq_zero_or_pos len with rfl | h0
  ·refine ⟨0, 0, 0, fun _ _ => undef, fun μ i N hi _ _ _ => ?_, fun μ i N _ _ hs => ⟨hs, hpos, fun h => ?_⟩, fun j hj => by omega, .inr ⟨_, _, by rw [hx], by simp⟩⟩
   ·simp only [gU, Rep, yH]
    exact ⟨hi, _, _, rfl, hl, fun h => absurd h (by omega), fun h => (by cases h), fun h => (by cases h)⟩
   ·rcases h with h | ⟨h, _⟩
    ·exact absurd h (by omega)
    ·cases h
  obtain ⟨ab, ao, asp⟩ := a
  obtain rfl : asp = none := by
   obtain ⟨u, hu, _⟩ := cell 0 h0 0 uX[0] (List.getElem?_eq_getElem hpos)
   rw [Nat.zero_mul, Nat.zero_add, Addr.add_zero'] at hu
   exact (sG hu).1
  have cell' : ∀ j, j < len → ∀ (i : Nat) (sh : Sh), uX[i]? = some sh → ∃ u, W.cell? ⟨ab, ao + (j * uX.length + i), none⟩ = some u ∧ sh.ok u := fun j hj i sh hi => by
   obtain ⟨u, hu, ho⟩ := cell j hj i sh hi
   rw [Addr.add_lit] at hu
   exact ⟨u, hu, ho⟩
  refine ⟨len, ab, ao, fun j i => (W.cell? ⟨ab, ao + (j * uX.length + i), none⟩).getD undef, fun μ i N hi e1 e2 e3 => ?_, fun μ i N e1 e2 e3 => ⟨e3, hpos, fun h => ?_⟩, fun j hj i sh hi => ?_, .inr ⟨_, _, by rw [hx], by simp⟩⟩
  ·simp only [gU, Rep, yH]
   exact ⟨hi, _, _, rfl, hl, fun h => by simp [MM.addr, e1, e2], fun h => (by cases h), fun h => (by cases h)⟩
  ·obtain ⟨u, hu, _⟩ := cell' 0 h0 0 uX[0] (List.getElem?_eq_getElem hpos)
   obtain ⟨_, cur, ty, fz, hB, _⟩ := sG hu
   have at' : ∀ j, j < len → ∀ (i : Nat) (sh : Sh), uX[i]? = some sh → ∃ u, cur[ao + (j * uX.length + i)]? = some u ∧ sh.ok u ∧ W.cell? ⟨ab, ao + (j * uX.length + i), none⟩ = some u := fun j hj i sh hi => by
    obtain ⟨u, hu, ho⟩ := cell' j hj i sh hi
    obtain ⟨_, cur', ty', fz', hB', hc'⟩ := sG hu
    rw [hB] at hB'
    cases hB'
    exact ⟨u, hc', ho, hu⟩
   refine ⟨cur, ty, fz, by rw [e1]; exact hB, ?_, fun h => (by cases h), fun j hj => ⟨Jg _ _ _, fun o v hv => ?_⟩⟩
   ·obtain ⟨u, hu, _⟩ := at' (len - 1) (by omega) (uX.length - 1) uX[uX.length - 1] (List.getElem?_eq_getElem (by omega))
    have := (Array.getElem?_eq_some_iff.1 hu).1
    have e4 : (len - 1) * uX.length + uX.length = len * uX.length := by rw [← Nat.succ_mul]; congr 1; omega
    rw [e2]; omega
   ·simp only [Cont.row] at hv
    rw [SL] at hv
    cases hs : uX[o]? with
    | none => rw [hs] at hv; cases hv
    | some sh =>
     rw [hs] at hv
     simp only [Option.map_some, Option.some.injEq, Nat.zero_add] at hv
     subst hv
     obtain ⟨u, h1, h2, h3⟩ := at' j hj o sh hs
     refine ⟨Sh.one, u, by rw [e2, Nat.add_assoc]; exact h1, ?_⟩
     rw [h3, Option.getD_some]
     exact Sh.rep h2
  ·obtain ⟨u, hu, ho⟩ := cell' j hj i sh hi
   simp only [hu, Option.getD_some]
   exact ho
end
end Go.Sx
namespace Go.Sx
open M
def kn : Known := fun _ => none
def kc (i : Nat) (s : List AV → M AV) (γ : Known) : Known := fun f => bif Nat.beq f i then some s else γ f
theorem mJ {P : Program} : eY P kn := fun f s h => by cases h
theorem jH : gG kn := fun f s h => by cases h
theorem aO {P : Program} {i : Nat} {s : List AV → M AV} {γ : Known} (h : ∀ args v g g', s args g = .done v g' → bf P i args v g g') (k : eY P γ) : eY P (kc i s γ) := fun f s' hs => by
 unfold kc at hs
 cases h1 : Nat.beq f i with
 | true => rw [h1] at hs; cases hs; cases Nat.eq_of_beq_eq_true h1; exact h
 | false => rw [h1] at hs; exact k f s' hs
theorem aG {i : Nat} {s : List AV → M AV} {γ : Known} (h : ∀ args, aC (s args)) (k : gG γ) : gG (kc i s γ) := fun f s' hs => by
 unfold kc at hs
 cases h1 : Nat.beq f i with
 | true => rw [h1] at hs; cases hs; exact h
 | false => rw [h1] at hs; exact k f s' hs
theorem GV {x : Nat} (hx : x < 18446744073709551616) : vP (cn x) (cn x) = !isnan x := by
 have e : vP (cn x) (cn x) = vP x x := by unfold vP; rw [GL]
 rw [e, acR hx hx]
 cases isnan x <;> simp
theorem J6 {v : AV} {r : BU AV} {q : Prop} (e : BI v r = (v = v ∧ q)) (h : q) : gX v r := ⟨by rw [e]; exact ⟨rfl, h⟩⟩
def uh : List (Nat × AV) → Prop
 | [] => True
 | p :: l => some p.2 = some p.2 ∧ uh l
theorem LC : ∀ l, uh l
 | [] => trivial
 | _ :: l => ⟨rfl, LC l⟩
def uj : List (Nat × aF) → Prop
 | [] => True
 | p :: l => some p.2 = some p.2 ∧ uj l
theorem LD : ∀ l, uj l
 | [] => trivial
 | _ :: l => ⟨rfl, LD l⟩
theorem eqn {K' : Nat} {e : Ex} {fl : List (Nat × AV)} {bl : List (Nat × aF)} {r : BU (Ex × Fr)} {q : Prop} (h : jP K' e fl bl r = (e = e ∧ uh fl ∧ uj bl ∧ true = true ∧ q)) (hq : q) : bV K' e fl bl r :=
 ⟨by rw [h]; exact ⟨rfl, LC _, LD _, rfl, hq⟩⟩
structure Gv where
 dL : Nat
 len : Nat
 blk : Nat
 base : Nat
 rows : Nat → List AV
def Gv.bk (v : Gv) : aF := .cells false v.dL v.len (.fn v.rows)
def afR (l : List Gv) : MM :=
 ⟨fun i => (l[i]?).elim 0 (·.blk), fun _ => 0, fun i => (l[i]?).elim 0 (·.dL), fun i => (l[i]?).elim 0 (·.base)⟩
def gvL : List Gv → Nat → List (Nat × aF)
 | [], _ => []
 | v :: l, i => (i, v.bk) :: gvL l (i + 1)
theorem zA : ∀ {l : List Gv} {i : Nat} {p : Nat × aF}, p ∈ gvL l i → ∃ j v, l[j]? = some v ∧ p = (i + j, v.bk)
 | [], i, p, h => by cases h
 | v :: l, i, p, h => by
  rcases List.mem_cons.1 h with rfl | h
  ·exact ⟨0, v, rfl, rfl⟩
  ·obtain ⟨j, u, h1, rfl⟩ := zA h
   exact ⟨j + 1, u, by simpa using h1, by rw [show i + 1 + j = i + (j + 1) by omega]⟩
theorem ac1 {l : List Gv} {hp : Array Obj} (h : ∀ i v, l[i]? = some v → ∀ (μ : MM) (N : Nat), μ.blk i = v.blk → μ.base i = v.base → μ.sz i = v.dL → dw N μ hp i v.bk) : eX l.length (afR l) hp (hpL (gvL l 0)) where
 lt := fun i b hb => by
  obtain ⟨j, v, h1, h2⟩ := zA (bC hb)
  cases h2
  have := (List.getElem?_eq_some_iff.1 h1).1
  omega
 ok := fun i b hb => by
  obtain ⟨j, v, h1, h2⟩ := zA (bC hb)
  cases h2
  rw [Nat.zero_add]
  refine h j v h1 _ _ ?_ ?_ ?_ <;> simp [afR, h1]
 sep := fun i b j b' hi hj ho => by
  obtain ⟨k, v, h1, h2⟩ := zA (bC hi)
  cases h2
  cases ho
theorem ac2 {l : List Gv} {μ : MM} {B : Nat} : ¬ May μ (hpL (gvL l 0)) B := by
 rintro ⟨i, b, hb, ho, _⟩
 obtain ⟨j, v, h1, h2⟩ := zA (bC hb)
 cases h2
 cases ho
def G.of (bl : List (Nat × aF)) (K : Nat) (path : List Bool) : G := ⟨hpL bl, K, [], path, True⟩
section
variable {P : Program} {n B K K' : Nat}
def MM.at (μ : MM) (K dL : Nat) : MM :=
 ⟨fun i => if i = K then 0 else μ.blk i, fun i => if i = K then 0 else μ.cap i, fun i => if i = K then dL else μ.sz i, fun i => if i = K then 0 else μ.base i⟩
theorem MM.Qy (μ : MM) (K dL : Nat) : MM.upto K μ (μ.at K dL) := ⟨fun g hg => if_neg (by omega), fun g hg => if_neg (by omega), fun g hg => if_neg (by omega), fun g hg => if_neg (by omega)⟩
def qW (K : Nat) : AV := .slc true true ⟨false, K, 0, 0⟩ 0
theorem aj.phantom {c : Code} {fr : Fr} {H : T aF} {Post : Po} (t dL : Nat) (rows : Nat → List AV) (ht : fr.get t = some .aX) (hpos : 0 < dL) (hB : B ≤ K)
  (h : aj P c n B (K + 1) K' (fr.upd t (some (qW K))) (H.upd K (some (.cells true dL 0 (.fn rows)))) Post) : aj P c n B K K' fr H Post := by
 intro μ w a hg hf Q hQ
 have hu := MM.Qy μ K dL
 have case : ∀ i b, (H.upd K (some (.cells true dL 0 (.fn rows)))).get i = some b → (i = K ∧ b = .cells true dL 0 (.fn rows)) ∨ (i < K ∧ H.get i = some b) := fun i b hb => by
  rw [T.bP] at hb
  split at hb
  ·cases hb; exact .inl ⟨‹_›, rfl⟩
  ·exact .inr ⟨hg.lt _ _ hb, hb⟩
 have unreal : ∀ b, b = aF.cells true dL 0 (.fn rows) → ¬ b.real (μ.at K dL) K := by
  rintro b rfl hr
  simp [aF.real, MM.at] at hr
 have may : ∀ b, May (μ.at K dL) (H.upd K (some (.cells true dL 0 (.fn rows)))) b → May μ H b := by
  rintro b ⟨i, x, m1, m2, m3, m4⟩
  rcases case i x m1 with ⟨rfl, rfl⟩ | ⟨hi, hx⟩
  ·exact (unreal _ rfl m3).elim
  ·rw [aF.bH hu hi] at m3
   rw [hu.blk i hi] at m4
   exact ⟨i, x, hx, m2, m3, m4⟩
 have may' : ∀ b, May μ H b → May (μ.at K dL) (H.upd K (some (.cells true dL 0 (.fn rows)))) b := by
  rintro b ⟨i, x, m1, m2, m3, m4⟩
  have hi := hg.lt _ _ m1
  refine ⟨i, x, ?_, m2, (aF.bH hu hi x).2 m3, by rw [hu.blk i hi]; exact m4⟩
  rw [T.bP, if_neg (by omega)]; exact m1
 have hE : mg B H μ w (H.upd K (some (.cells true dL 0 (.fn rows)))) (μ.at K dL) w := ⟨hu.mono hB, rfl, rfl, rfl, Nat.le_refl _, fun b _ _ => rfl, fun b _ hm => may b hm⟩
 refine h (μ.at K dL) w a ⟨fun i b hb => ?_, fun i b hb => ?_, fun i b j b' hi hj ho hr hr' he => ?_⟩ ⟨hf.size, fun t' v hv => ?_⟩ Q fun e fr' H' a' w' hp ha => hQ e fr' H' a' w' hp (AtB.trans hE rfl ha)
 ·rcases case i b hb with ⟨rfl, _⟩ | ⟨hi, _⟩ <;> omega
 ·rcases case i b hb with ⟨rfl, rfl⟩ | ⟨hi, hx⟩
  ·refine ⟨by simp [MM.at], hpos, fun hr => ?_⟩
   simp [MM.at] at hr
  ·exact (hg.ok i b hx).later hu (by omega) hi fun _ => rfl
 ·rcases case i b hi with ⟨rfl, rfl⟩ | ⟨hi1, hx⟩
  ·exact (unreal _ rfl hr).elim
  ·rcases case j b' hj with ⟨rfl, rfl⟩ | ⟨hj1, hy⟩
   ·exact (unreal _ rfl hr').elim
   ·rw [aF.bH hu hi1] at hr
    rw [aF.bH hu hj1] at hr'
    rw [hu.blk i hi1, hu.blk j hj1] at he
    exact hg.sep _ _ _ _ hx hy ho hr hr' he
 ·rw [T.bP] at hv
  split at hv
  ·rename_i htt
   cases hv
   have := hf.val t .aX ht
   rw [htt]
   simp only [Rep] at this
   rw [this]
   simp only [qW, Rep]
   exact ⟨by omega, none, 0, rfl, Nat.le_refl _, fun h => absurd h (by omega), fun h => (by cases h), fun _ => ⟨rfl, rfl, .inl ⟨rfl, rfl, rfl⟩⟩⟩
  ·exact (hf.val t' v hv).later hu (by omega)
def gy : List AV → List AV → Prop
 | [], [] => True
 | u :: l, v :: l' => AV.ge u v ∧ v.one = true ∧ gy l l'
 | _, _ => False
theorem gy.length : ∀ {r r' : List AV}, gy r r' → r'.length = r.length
 | [], [], _ => rfl
 | u :: l, v :: l', h => by simp [gy.length h.2.2]
 | [], _ :: _, h => h.elim
 | _ :: _, [], h => h.elim
theorem gy.get : ∀ {r r' : List AV}, gy r r' → ∀ {o : Nat} {v : AV}, r'[o]? = some v → ∃ u, r[o]? = some u ∧ AV.ge u v ∧ v.one = true
 | [], [], _, o, v, hv => by simp at hv
 | u :: l, w :: l', h, o, v, hv => by
  cases o with
  | zero => simp at hv; subst hv; exact ⟨u, rfl, h.1, h.2.1⟩
  | succ o => simpa using gy.get h.2.2 (by simpa using hv)
 | [], _ :: _, h, _, _, _ => h.elim
 | _ :: _, [], h, _, _, _ => h.elim
def pV : aF → aF → Prop
 | .cells own sz m c, .cells own' sz' m' c' => own = own' ∧ sz = sz' ∧ m = m' ∧ ∀ i, i < m → gy (c.row i) (c'.row i)
 | b, b' => b = b'
theorem pV.owned {b b' : aF} (h : pV b b') : b.owned = b'.owned := by
 cases b <;> cases b' <;> simp_all [pV, aF.owned]
theorem pV.real {b b' : aF} (h : pV b b') (μ : MM) (g : Nat) : b.real μ g ↔ b'.real μ g := by
 cases b <;> cases b' <;> simp_all [pV, aF.real]
theorem pV.ok {N : Nat} {μ : MM} {hp : Array Obj} {g : Nat} {b b' : aF} (h : pV b b') (k : dw N μ hp g b) : dw N μ hp g b' := by
 cases b with
 | cells own sz m c =>
  cases b' with
  | cells own' sz' m' c' =>
   obtain ⟨rfl, rfl, rfl, hr⟩ := h
   refine ⟨k.1, k.2.1, fun hh => ?_⟩
   obtain ⟨cur, ty, fz, h1, h2, h3, h4⟩ := k.2.2 hh
   refine ⟨cur, ty, fz, h1, h2, h3, fun i hi => ⟨(hr i hi).length.trans (h4 i hi).1, fun o v hv => ?_⟩⟩
   obtain ⟨u, e1, e2, e3⟩ := (hr i hi).get hv
   obtain ⟨_, cv, e4, e5⟩ := (h4 i hi).2 o u e1
   exact ⟨e3, cv, e4, e2 _ _ _ e5⟩
  | _ => simp [pV] at h
 | _ => cases b' <;> simp [pV] at h <;> first | exact h ▸ k | (obtain ⟨rfl, rfl⟩ := h; exact k) | (obtain ⟨rfl, rfl, rfl⟩ := h; exact k)
theorem aj.LG {c : Code} {fr qp : Fr} {H H0 : T aF} {Post : Po} (hf : ∀ t v, qp.get t = some v → ∃ u, fr.get t = some u ∧ AV.ge u v) (hH : ∀ i b, H0.get i = some b → ∃ b', H.get i = some b' ∧ pV b' b) (h : aj P c n B K K' qp H0 Post) : aj P c n B K K' fr H Post := by
 intro μ w a hg hfr Q hQ
 refine h μ w a ⟨fun i b hb => let ⟨b', h1, _⟩ := hH i b hb; hg.lt i b' h1, fun i b hb => let ⟨b', h1, h2⟩ := hH i b hb; h2.ok (hg.ok i b' h1), fun i b j b' hi hj ho hr hr' he => ?_⟩
  ⟨hfr.size, fun t v ht => let ⟨u, h1, h2⟩ := hf t v ht; h2 _ _ _ (hfr.val t u h1)⟩ Q fun e fr' H' a' w' hp ha => hQ e fr' H' a' w' hp ⟨?_⟩
 ·obtain ⟨b1, h1, h2⟩ := hH i b hi
  obtain ⟨b2, k1, k2⟩ := hH j b' hj
  exact hg.sep i b1 j b2 h1 k1 (by rw [h2.owned]; exact ho) ((h2.real μ i).2 hr) ((k2.real μ j).2 hr') he
 ·obtain ⟨μ', k1, k2, k3, k4⟩ := ha.of
  have may : ∀ b, May μ H0 b → May μ H b := fun b ⟨i, x, m1, m2, m3, m4⟩ => by
   obtain ⟨b', h1, h2⟩ := hH i x m1
   exact ⟨i, b', h1, by rw [h2.owned]; exact m2, (h2.real μ i).2 m3, m4⟩
  exact ⟨μ', k1, ⟨k2.names, k2.os, k2.tape, k2.output, k2.size, fun b hb hn => k2.block b hb fun hm => hn (may b hm), fun b hb hm => may b (k2.may b hb hm)⟩, k3, k4⟩
def GeG (H : T aF) : List (Nat × aF) → Prop
 | [] => True
 | p :: l => (∃ b, H.get p.1 = some b ∧ pV b p.2) ∧ GeG H l
theorem GeG.get {H : T aF} : ∀ {l : List (Nat × aF)}, GeG H l → ∀ p ∈ l, ∃ b, H.get p.1 = some b ∧ pV b p.2
 | q :: l, h, p, hp => by
  rcases List.mem_cons.1 hp with rfl | hp
  ·exact h.1
  ·exact GeG.get h.2 p hp
theorem aj.jh {c : Code} {fr : Fr} {H : T aF} {fl : List (Nat × AV)} {bl : List (Nat × aF)} {Post : Po} (hf : Ge fr fl) (hH : GeG H bl) (h : aj P c n B K K' (aQ fl) (hpL bl) Post) : aj P c n B K K' fr H Post :=
 h.LG (fun t v ht => hf.get _ (iK ht)) fun i b hb => hH.get _ (bC hb)
end
def rd (dL : Nat) (x : AV) (p : Nat → (Nat → List AV) → Prop) : M (Nat × (Nat → List AV)) :=
 (pz dL x).andThen fun y => (req (p y.2.1 y.2.2 ∧ ∀ j, j < y.2.1 → ∀ u, u ∈ y.2.2 j → u.low 0 = true)).andThen fun _ => ret (y.2.1, y.2.2)
theorem Cm {dL : Nat} {x : AV} {p : Nat → (Nat → List AV) → Prop} {y : Nat × (Nat → List AV)} {g g' : G} (h : rd dL x p g = .done y g') (he : 0 < dL) :
  ∃ q, Keep g g' q ∧ (q → Vw.Ok ⟨x, dL, y.1, y.2⟩ g ∧ p y.1 y.2) := by
 unfold rd at h
 obtain ⟨z, g1, a1, h1⟩ := au h
 obtain ⟨_, g2, a2, h2⟩ := au h1
 obtain ⟨rfl, rfl⟩ := aA h2
 obtain ⟨q1, k1, f1⟩ := Vw.Ok.of a1 he
 have k2 := dR a2
 exact ⟨_, k1.trans k2, fun ⟨e1, e2, e3⟩ => ⟨f1 e1 e3, e2⟩⟩
theorem aC.rd (dL : Nat) (x : AV) (p : Nat → (Nat → List AV) → Prop) : aC (Sx.rd dL x p) := (aC.pz _ _).andThen fun _ => (aC.req _).andThen fun _ => aC.ret _
theorem Vw.Ok.same {v : Vw} {g g' : G} {q : Prop} (h : v.Ok g') (k : Keep g g' q) : v.Ok g :=
 ⟨h.pos, h.bare, fun N μ w hg => h.view N μ w (by rw [k.1]; exact hg), h.val⟩
def newS (dL len : Nat) (rows : Nat → List AV) : M AV := (iR (.cells true dL len (.fn rows))).andThen fun nm => ret (.slc true true ⟨false, nm, 0, 0⟩ len)
theorem aC.newS (dL len : Nat) (rows : Nat → List AV) : aC (Sx.newS dL len rows) := (aC.iR _).andThen fun _ => aC.ret _
theorem oZ {dL len : Nat} {rows : Nat → List AV} {v : AV} {g g' : G} (h : newS dL len rows g = .done v g') : v = .slc true true ⟨false, g.nx, 0, 0⟩ len ∧ g'.H = oq g.H g.nx [.cells true dL len (.fn rows)] ∧ g'.nx = g.nx + 1 ∧ g'.cs = g.cs := by
 unfold newS at h
 obtain ⟨nm, g1, a1, h1⟩ := au h
 obtain ⟨rfl, rfl⟩ := aA h1
 cases a1
 exact ⟨rfl, rfl, rfl, rfl⟩
theorem res1 {P : Program} {rs : List ResultVar} {t K : Nat} {fr : Fr} {H : T aF} {v : AV} (e : rs = [.tmp t]) (h : fr.get t = some v) : dA P fr rs ⟨H, K, [], [], True⟩ = .done [v] ⟨H, K, [], [], True⟩ := by
 subst e
 simp only [dA, lS, h, Option.getD_some]; rfl
theorem res2 {P : Program} {rs : List ResultVar} {t t' K : Nat} {fr : Fr} {H : T aF} {v v' : AV} (e : rs = [.tmp t, .tmp t']) (h : fr.get t = some v) (h' : fr.get t' = some v') : dA P fr rs ⟨H, K, [], [], True⟩ = .done [v, v'] ⟨H, K, [], [], True⟩ := by
 subst e
 simp only [dA, lS, h, h', Option.getD_some]; rfl
theorem afT {H' : T aF} : YB H' [] [] := ⟨rfl, fun i x hx => by simp at hx, List.nodup_nil⟩
theorem AV.ge.ac3 {u v u' v' : AV} (h : AV.ge u u') (h' : AV.ge v v') : AV.ge (.iD [u, v]) (.iD [u', v']) := fun N μ cv hr => by
 simp only [Rep, aI] at hr ⊢
 obtain ⟨cs, e, c, r, e1, h1, c', r', e2, h2, e3⟩ := hr
 exact ⟨cs, e, c, r, e1, h _ _ _ h1, c', r', e2, h' _ _ _ h2, e3⟩
end Go.Sx
namespace Go.Sx
open M
def zre : List AV → Int
 | [.int _ .u64 a, .int _ .u64 _] => a
 | _ => 0
def zim : List AV → Int
 | [.int _ .u64 _, .int _ .u64 b] => b
 | _ => 0
def SQ (r : List AV) : List AV := [.int true .u64 (zre r), .int true .u64 (zim r)]
def afU (r : List AV) : Prop := (∃ s s', r = [.int s .u64 (zre r), .int s' .u64 (zim r)]) ∧ 0 ≤ zre r ∧ zre r < 18446744073709551616 ∧ 0 ≤ zim r ∧ zim r < 18446744073709551616
theorem afU.ge {r : List AV} (h : afU r) : gy r (SQ r) := by
 obtain ⟨⟨s, s', e⟩, _⟩ := h
 rw [e]
 exact ⟨AV.ge.int _ _ _ _, rfl, AV.ge.int _ _ _ _, rfl, trivial⟩
def Et : List AV → Nat
 | [.dD _ a _] => a
 | _ => 0
def Eu : List AV → Nat
 | [.dD _ _ b] => b
 | _ => 0
def ahS (r : List AV) : List AV := [.dD true (Et r) (Eu r)]
def Fw (x : Nat) : Prop := x < 18446744073709551616 ∧ cn x = x
def zB (r : List AV) : Prop := (∃ s, r = [.dD s (Et r) (Eu r)]) ∧ Fw (Et r) ∧ Fw (Eu r)
theorem zB.ge {r : List AV} (h : zB r) : gy r (ahS r) := by
 obtain ⟨⟨s, e⟩, _⟩ := h
 rw [e]
 exact ⟨AV.ge.SI _ _ rfl rfl, rfl, trivial⟩
theorem Fw.cn {x : Nat} (h : x < 18446744073709551616) : Fw (cn x) := ⟨afI h, afs x⟩
def cd (p : Prop) : Bool := @decide p (Classical.propDecidable p)
theorem CB {p : Prop} (h : p) : cd p = true := by unfold cd; exact @decide_eq_true p (Classical.propDecidable p) h
theorem LH {p : Prop} (h : ¬ p) : cd p = false := by unfold cd; exact @decide_eq_false p (Classical.propDecidable p) h
def CSame (la lb : Nat) (ra rb : Nat → List AV) : Prop := la = lb ∧ ∀ j, j < la → Et (ra j) = Et (rb j) ∧ Eu (ra j) = Eu (rb j)
theorem zB.bare {r : List AV} (h : zB r) : ∀ u, u ∈ r → u.low 0 = true := by
 obtain ⟨⟨s, e⟩, _⟩ := h
 rw [e]
 intro u hu
 simp at hu
 subst hu; rfl
def GX (len : Nat) (rows : Nat → List AV) : Prop := ∀ j, j < len → zB (rows j)
end Go.Sx
namespace Go.Sx
theorem write_lt (d : Ieee.Datum) : Ieee.double.write d < 18446744073709551616 := by
 have hb := Ja
 have hi := Eb
 have hs := Ad
 have wd : ∀ s r, r < 9218868437227405312 + 4503599627370496 → Ieee.double.word s r < 18446744073709551616 := fun s r h => by
  unfold Ieee.Format.word
  rw [hs]
  cases s
  ·show r < 18446744073709551616; omega
  ·show 9223372036854775808 + r < 18446744073709551616; omega
 cases d with
 | number s m p =>
  unfold Ieee.Format.write Ieee.Format.nearest
  dsimp only
  split
  ·exact wd _ _ (by omega)
  ·exact wd _ _ (Nat.lt_of_le_of_lt (Nat.min_le_right ..) (by omega))
 | infinity s => exact wd _ _ (by omega)
 | nan s r => exact wd _ _ (by rw [hi, hb]; have := Nat.mod_lt r (show 0 < 4503599627370496 by omega); omega)
theorem YE (x y : Nat) : jG x y < 18446744073709551616 := by
 unfold jG Ieee.Format.add
 cases (Ieee.double.read x).sum (Ieee.double.read y) with
 | none => show qn < _; decide
 | some d => exact write_lt d
end Go.Sx
namespace Go.Sx
open Go.WideShapes
section
variable {H : Type} {enc : TypeId × Value → H} {P : Program} {W : World} {held : Bool}
end
end Go.Sx
namespace Go.Sx
open Go.WideShapes
section
variable {H : Type} {enc : TypeId × Value → H} {P : Program} {W : World} {held : Bool}
end
end Go.Sx
namespace Go.Sx
theorem sH {n : Nat} (hn : n ≠ 0) : ∀ k, (n * 2 ^ k).log2 = n.log2 + k
 | 0 => by simp
 | k + 1 => by
  have h : n * 2 ^ k ≠ 0 := Nat.mul_ne_zero hn (Nat.ne_of_gt (Nat.two_pow_pos k))
  rw [Nat.pow_succ, ← Nat.mul_assoc, Nat.mul_comm (n * 2 ^ k) 2, Nat.log2_two_mul h, sH hn k]
  omega
theorem GY (s : Bool) {n : Nat} (hn : n ≠ 0) (d k : Nat) : Ieee.Toward.even.cut s (n * 2 ^ k) (d + k) = Ieee.Toward.even.cut s n d := by
 have hp : 0 < 2 ^ k := Nat.two_pow_pos k
 unfold Ieee.Toward.cut
 rw [sH hn k, show min (d + k) (n.log2 + k + 2) = min d (n.log2 + 2) + k by omega]
 generalize min d (n.log2 + 2) = a
 have e1 : 1 <<< (a + k) = (1 <<< a) * 2 ^ k := by rw [Nat.shiftLeft_eq, Nat.shiftLeft_eq, Nat.pow_add, Nat.mul_assoc]
 simp only [e1]
 generalize 1 <<< a = g
 have e2 : n * 2 ^ k / (g * 2 ^ k) = n / g := Nat.mul_div_mul_right _ _ hp
 have e3 : n * 2 ^ k % (g * 2 ^ k) = n % g * 2 ^ k := Nat.mul_mod_mul_right _ _ _
 rw [e2, e3]
 generalize n % g = r
 have e4 : decide (g * 2 ^ k < 2 * (r * 2 ^ k)) = decide (g < 2 * r) := decide_eq_decide.2 (by rw [← Nat.mul_assoc]; exact Nat.mul_lt_mul_right hp)
 have e5 : (g * 2 ^ k == 2 * (r * 2 ^ k)) = (g == 2 * r) := by
  rw [← Nat.mul_assoc]
  rw [Bool.eq_iff_iff]
  simp only [beq_iff_eq]
  exact ⟨fun hh => Nat.eq_of_mul_eq_mul_right hp hh, fun hh => by rw [hh]⟩
 rw [e4, e5]
theorem YF : (Ieee.double.fractionBits : Int) = 52 := rfl
def rung (s : Bool) (m : Nat) (p : Int) : Nat :=
 (max (p + m.log2 - 52) (-1074) - -1074).toNat * 4503599627370496 + Ieee.Toward.even.cut s (m <<< (p - max (p + m.log2 - 52) (-1074)).toNat) (max (p + m.log2 - 52) (-1074) - p).toNat
theorem Ew (s : Bool) {m : Nat} (hm : m ≠ 0) (p : Int) : Ieee.double.nearest s m p = Ieee.double.word s (min (rung s m p) 9218868437227405312) := by
 unfold Ieee.Format.nearest
 rw [if_neg hm]
 simp only [YF, U5, Ja, Eb]
 rfl
theorem Ey (s : Bool) {m : Nat} (hm : m ≠ 0) (k : Nat) (p : Int) : rung s (m * 2 ^ k) (p - k) = rung s m p := by
 unfold rung
 rw [sH hm k, show p - (k : Int) + ((m.log2 + k : Nat) : Int) - 52 = p + m.log2 - 52 by omega]
 generalize max (p + m.log2 - 52) (-1074) = L
 congr 1
 by_cases h1 : L ≤ p
 ·by_cases h2 : L ≤ p - k
  ·rw [show (L - (p - k)).toNat = 0 by omega, show (L - p).toNat = 0 by omega]
   congr 1
   rw [Nat.shiftLeft_eq, Nat.shiftLeft_eq, Nat.mul_assoc, ← Nat.pow_add, show k + (p - k - L).toNat = (p - L).toNat by omega]
  ·rw [show (p - k - L).toNat = 0 by omega, show (L - p).toNat = 0 by omega]
   have e : k = (p - L).toNat + (L - (p - k)).toNat := by omega
   have hm' : m * 2 ^ (p - L).toNat ≠ 0 := Nat.mul_ne_zero hm (Nat.ne_of_gt (Nat.two_pow_pos _))
   have := GY s hm' 0 (L - (p - k)).toNat
   rw [Nat.zero_add, Nat.mul_assoc, ← Nat.pow_add, ← e] at this
   rw [Nat.shiftLeft_zero, Nat.shiftLeft_eq]
   exact this
 ·rw [show (p - k - L).toNat = 0 by omega, show (p - L).toNat = 0 by omega, Nat.shiftLeft_zero, Nat.shiftLeft_zero, show (L - (p - k)).toNat = (L - p).toNat + k by omega]
  exact GY s hm _ _
theorem LJ (s : Bool) (n : Nat) : Ieee.Toward.even.cut s n 0 = n := by
 unfold Ieee.Toward.cut
 simp [Nat.mod_one]
theorem OE (s : Bool) {S : Nat} (h : S < 9007199254740992) (h0 : S ≠ 0) : rung s S (-1074) = S := by
 have hl : S.log2 < 53 := (Nat.log2_lt h0).2 h
 unfold rung
 rw [show max (-1074 + (S.log2 : Int) - 52) (-1074) = -1074 by omega]
 simp [LJ]
def GZ (S : Nat) : Nat := Ieee.double.nearest false S (-1074)
theorem OG : GZ 0 = 0 := rfl
theorem Ez {S : Nat} (h : S ≠ 0) : GZ S = min (rung false S (-1074)) 9218868437227405312 := by
 unfold GZ; rw [Ew _ h, Ox]
theorem LK {S : Nat} (h : S < 9007199254740992) : GZ S = S := by
 by_cases h0 : S = 0
 ·subst h0; rfl
 ·rw [Ez h0, OE _ h h0]; omega
theorem YG {r : Nat} (h : r < 9218868437227405312) : GZ (U r) = r := by
 by_cases hr : r < 4503599627370496
 ·have : U r = r := by unfold U; rw [if_pos hr]
  rw [this]; exact LK (by omega)
 ·have hU : U r = (4503599627370496 + r % 4503599627370496) * 2 ^ (r / 4503599627370496 - 1) := by unfold U; rw [if_neg hr]
  have hf : (4503599627370496 + r % 4503599627370496).log2 = 52 := by
   have h1 : 52 ≤ (4503599627370496 + r % 4503599627370496).log2 := (Nat.le_log2 (by omega)).2 (by omega)
   have h2 : (4503599627370496 + r % 4503599627370496).log2 < 53 := (Nat.log2_lt (by omega)).2 (by omega)
   omega
  have hm : 4503599627370496 + r % 4503599627370496 ≠ 0 := by omega
  have h0 : U r ≠ 0 := by rw [hU]; exact Nat.mul_ne_zero hm (Nat.ne_of_gt (Nat.two_pow_pos _))
  rw [Ez h0, hU]
  have e := Ey false hm (r / 4503599627370496 - 1) (-1074 + ((r / 4503599627370496 - 1 : Nat) : Int))
  rw [show -1074 + ((r / 4503599627370496 - 1 : Nat) : Int) - ((r / 4503599627370496 - 1 : Nat) : Int) = -1074 by omega] at e
  rw [e]
  have e2 : rung false (4503599627370496 + r % 4503599627370496) (-1074 + ((r / 4503599627370496 - 1 : Nat) : Int)) = r := by
   unfold rung
   rw [hf, show max (-1074 + ((r / 4503599627370496 - 1 : Nat) : Int) + ((52 : Nat) : Int) - 52) (-1074) = -1074 + ((r / 4503599627370496 - 1 : Nat) : Int) by omega]
   rw [show (-1074 + ((r / 4503599627370496 - 1 : Nat) : Int) - (-1074 + ((r / 4503599627370496 - 1 : Nat) : Int))).toNat = 0 by omega, Nat.shiftLeft_zero, LJ, show (-1074 + ((r / 4503599627370496 - 1 : Nat) : Int) - -1074).toNat = r / 4503599627370496 - 1 by omega]
   omega
  rw [e2]; omega
end Go.Sx
namespace Go.Sx
theorem YH (x y : Nat) : qH x y < 18446744073709551616 := by
 unfold qH Ieee.Format.mul
 cases (Ieee.double.read x).product (Ieee.double.read y) with
 | none => show qn < _; decide
 | some d => exact write_lt d
theorem YI (s : Bool) {T : Nat} {p : Int} (hp : -1074 ≤ p) : Ieee.double.nearest s T p = Ieee.double.word s (GZ (T * 2 ^ (p - -1074).toNat)) := by
 by_cases h : T = 0
 ·subst h
  rw [Nat.zero_mul, OG]; rfl
 ·have h2 : T * 2 ^ (p - -1074).toNat ≠ 0 := Nat.mul_ne_zero h (Nat.ne_of_gt (Nat.two_pow_pos _))
  rw [Ew s h, Ez h2]
  have e := Ey false h (p - -1074).toNat p
  rw [show p - ((p - -1074).toNat : Int) = -1074 by omega] at e
  rw [e]
  rfl
theorem Vg (s : Bool) {r : Nat} (h : r < 9223372036854775808) : Ieee.double.word s r % 9223372036854775808 = r := by
 unfold Ieee.Format.word
 rw [Ad]
 cases s
 ·show r % _ = r; omega
 ·show (9223372036854775808 + r) % _ = r; omega
theorem goes_true {P : Program} {f : FuncId} {fn : Func} {c : Code} (hf : P.funcs[f]? = some fn) (hb : fn.body = some c) (hname : (fn.name == "runtime.NumGoroutine") = false) {args : List AV} {bl : List (Nat × aF)} {K K' t : Nat} (hres : fn.results.toList = [.tmp t])
  (h : aj P c fn.ntmps K K K' (bJ args 0 .e) (hpL bl) fun e fr' H' => (e = .ret ∨ e = .normal) ∧ ∃ u, fr'.get t = some u ∧ AV.ge u (.bool true)) {μ : MM} {w : World} (hg : eX K μ w.heap (hpL bl)) (hno : ∀ B, ¬ May μ (hpL bl) B) {bT : Array Value} (ha : aI K μ args bT.toList) :
  Calls P f bT w fun e w' => e = .returned (.bool true) ∧ RowKit.Below w.heap.size w w' := by
 have hc := aj.call hf hb hname (V := fun u H' => AV.ge u (.bool true)) (h.mono fun e fr' H' ⟨k1, u, k2, k3⟩ => ⟨k1, [u], _, res1 hres k2, trivial, k3⟩) μ w hg ha
 have main : ∀ c w', (∃ v μ' H', AV.ge v (.bool true) ∧ Rep K' μ' v c ∧ eX K' μ' w'.heap H' ∧ mg K (hpL bl) μ w H' μ' w') → c = .bool true ∧ RowKit.Below w.heap.size w w' := by
  rintro c w' ⟨v, μ', H', h1, h2, _, hE⟩
  have := h1 _ _ _ h2
  simp only [Rep] at this
  exact ⟨this, hE.os, hE.tape, hE.output, hE.size, fun k hk => hE.block k hk (hno k)⟩
 rcases hc with ⟨cv, w', e, _⟩ | ⟨f', args', w', e, hc⟩
 ·rw [qV hf hname hb] at e; cases e
 ·rw [qV hf hname hb] at e
  cases e
  refine hc.mono ?_
  rintro e1 w1 ⟨cv, rfl, h1⟩
  obtain ⟨h2, h3⟩ := main cv w1 h1
  exact ⟨by rw [h2], h3⟩
end Go.Sx
namespace Go.Sx
open M
variable {P : Program} {n B K K' : Nat}
theorem re {fr : Fr} {t : Nat} {v : AV} (h : fr.get t = some v) : ∃ u, fr.get t = some u ∧ AV.ge u v := ⟨_, h, AV.ge.refl _⟩
theorem ri {fr : Fr} {t : Nat} {s s' : Bool} {k : IntKind} {x : Int} (h : fr.get t = some (.int s k x)) : ∃ u, fr.get t = some u ∧ AV.ge u (.int s' k x) := ⟨_, h, AV.ge.int _ _ _ _⟩
theorem hs {H : T aF} {i : Nat} {b : aF} (h : H.get i = some b) : ∃ b', H.get i = some b' ∧ dN b' b := ⟨_, h, dN.refl _⟩
theorem rn {fr : Fr} {t K' : Nat} {σ : Nat → Nat} {v : AV} (h : fr.get t = some (v.ren σ)) (hl : v.low K' = true) : ∃ u, fr.get t = some u ∧ AV.ge u (v.ren σ) ∧ v.low K' = true := ⟨_, h, AV.ge.refl _, hl⟩
theorem aj.count {c : Code} {id : Nat} (len : Nat) (F : Nat → List (Nat × AV)) (Hh : Nat → List (Nat × aF)) (Z : List (Nat × AV)) (ZH : List (Nat × aF)) (g : Nat → Prop) (R : Fr → T aF → Prop) (g0 : g 0)
  (h : ∀ i, i ≤ len → g i → aj P c n B K K (aQ (F i)) (hpL (Hh i)) fun e fr H => (e = .normal ∧ i < len ∧ g (i + 1) ∧ fr = aQ (F (i + 1)) ∧ H = hpL (Hh (i + 1))) ∨ (e = .exit id ∧ g len ∧ fr = aQ Z ∧ H = hpL ZH) ∨ (e = .ret ∧ R fr H)) :
  aj P (.block id (.loop c)) n B K K (aQ (F 0)) (hpL (Hh 0)) fun e fr H => (e = .normal ∧ g len ∧ fr = aQ Z ∧ H = hpL ZH) ∨ (e = .ret ∧ R fr H) := by
 refine aj.block ((aj.loop (fun k fr H => ∃ i, k = len - i ∧ i ≤ len ∧ g i ∧ fr = aQ (F i) ∧ H = hpL (Hh i)) (Post := fun e fr H => (e = .exit id ∧ g len ∧ fr = aQ Z ∧ H = hpL ZH) ∨ (e = .ret ∧ R fr H)) ?_ _ _ _ ⟨0, rfl, by omega, g0, rfl, rfl⟩).mono fun e fr H hp => ?_)
 ·rintro k fr H ⟨i, rfl, hi, hg, rfl, rfl⟩
  refine (h i hi hg).mono fun e fr H hp => ?_
  rcases hp with ⟨rfl, h1, h2, h3, h4⟩ | ⟨rfl, h1, h2, h3⟩ | ⟨rfl, h1⟩
  ·exact ⟨len - (i + 1), by omega, i + 1, rfl, by omega, h2, h3, h4⟩
  ·exact .inl ⟨rfl, h1, h2, h3⟩
  ·exact .inr ⟨rfl, h1⟩
 ·rcases hp with ⟨rfl, h1, h2, h3⟩ | ⟨rfl, h1⟩
  ·simp only [if_true]; exact .inl ⟨trivial, h1, h2, h3⟩
  ·exact .inr ⟨rfl, h1⟩
theorem Jh (a b : Nat) : Nat.beq a b = decide (a = b) := by
 cases h : Nat.beq a b
 ·simp [Nat.ne_of_beq_eq_false h]
 ·simp [Nat.eq_of_beq_eq_true h]
theorem Il (r : Nat → List AV) (z v : List AV) (i j : Nat) (e : r i = v := by rfl) : (bif Nat.beq j i then v else bif decide (j < i) then r j else z) = bif decide (j < i + 1) then r j else z := by
 subst e
 rw [Jh]
 by_cases h : j = i
 ·subst h; simp
 ·by_cases h2 : j < i
  ·simp [h, h2, show j < i + 1 by omega]
  ·simp [h, h2, show ¬ j < i + 1 by omega]
def afV (n : Nat) : Prop := n * 16 ≤ 140737488355328
def cL (n : Nat) (rows : Nat → List AV) : Prop := afV n ∧ GX n rows
noncomputable def c1 (x : AV) (k : Nat → (Nat → Nat) → (Nat → Nat) → M AV) : M AV := (rd 1 x cL).andThen fun a => k a.1 (fun j => Et (a.2 j)) (fun j => Eu (a.2 j))
noncomputable def c2 (x y : AV) (k : Nat → (Nat → Nat) → (Nat → Nat) → Nat → (Nat → Nat) → (Nat → Nat) → M AV) : M AV := c1 x fun n a b => c1 y fun m c d => k n a b m c d
theorem aC.c1 (x : AV) {k : Nat → (Nat → Nat) → (Nat → Nat) → M AV} (h : ∀ n a b, aC (k n a b)) : aC (Sx.c1 x k) := (aC.rd _ _ _).andThen fun _ => h _ _ _
theorem aC.c2 (x y : AV) {k : Nat → (Nat → Nat) → (Nat → Nat) → Nat → (Nat → Nat) → (Nat → Nat) → M AV} (h : ∀ n a b m c d, aC (k n a b m c d)) : aC (Sx.c2 x y k) := aC.c1 _ fun _ _ _ => aC.c1 _ fun _ _ _ => h _ _ _ _ _ _
structure Named (v : Nat → AV) : Prop where
 ren : ∀ N σ, (v N).ren σ = v (σ N)
 low : ∀ N, (v N).low (N + 1) = true
 ins : ∀ N, (v N).ji fun i => N ≤ i
theorem Named.slc (len : Nat) : Named fun N => .slc true true ⟨false, N, 0, 0⟩ len := ⟨fun N σ => rfl, fun N => by simp [AV.low], fun N => Nat.le_refl N⟩
theorem Named.iD (len : Nat) (e : Int) : Named fun N => .iD [.slc true true ⟨false, N, 0, 0⟩ len, .int true .i64 e] := ⟨fun N σ => rfl, fun N => by simp [AV.low, jw], fun N => by simp [AV.ji, jg]⟩
section
variable {P : Program} {f : FuncId} {fn : Func} {c : Code} (hf : P.funcs[f]? = some fn) (hb : fn.body = some c) (hname : (fn.name == "runtime.NumGoroutine") = false)
include hf hb hname
end
end Go.Sx
namespace Go.Sx
open Ieee (Datum)
theorem Vh (a b : Datum) : a.sum b = b.sum a := by
 cases a <;> cases b <;> simp only [Ieee.Datum.sum]
 ·rename_i s m i t n j
  rw [Int.min_comm, Int.add_comm, Bool.and_comm]
 ·rename_i s t
  cases s <;> cases t <;> rfl
theorem wB (x y : Nat) : jG x y = jG y x := by
 unfold jG Ieee.Format.add
 rw [Vh]
theorem YJ (x y : Nat) : jo x y < 18446744073709551616 := by
 unfold jo Ieee.Format.sub
 cases (Ieee.double.read x).sum (Ieee.double.read y).opposite with
 | none => show qn < _; decide
 | some d => exact write_lt d
theorem Vj (s : Bool) (r : Nat) : Ieee.double.word s r = (bif s then 9223372036854775808 else 0) + r := by
 unfold Ieee.Format.word
 rw [Ad]
 cases s <;> simp
def E0 (x y : Nat) : Prop := x = y ∨ (x % 9223372036854775808 = 0 ∧ y % 9223372036854775808 = 0)
theorem E0.refl (x : Nat) : E0 x x := .inl rfl
theorem E0.of {x y : Nat} (h : x = y) : E0 x y := .inl h
theorem E0.symm {x y : Nat} (h : E0 x y) : E0 y x := by
 rcases h with rfl | ⟨h1, h2⟩
 ·exact .inl rfl
 ·exact .inr ⟨h2, h1⟩
theorem E0.trans {x y z : Nat} (h : E0 x y) (k : E0 y z) : E0 x z := by
 rcases h with rfl | ⟨h1, h2⟩
 ·exact k
 ·rcases k with rfl | ⟨k1, k2⟩
  ·exact .inr ⟨h1, h2⟩
  ·exact .inr ⟨h1, k2⟩
theorem Vk {x y : Nat} (h : isnan x = true ∨ isnan y = true) : jG x y = qn := by
 unfold jG Ieee.Format.add
 have r := fun z => J9 z
 rcases h with h | h
 ·have := r x
  rw [h] at this
  cases e : Ieee.double.read x <;> rw [e] at this <;> first | rfl | cases this
 ·have := r y
  rw [h] at this
  cases e : Ieee.double.read y <;> rw [e] at this <;> first | (cases Ieee.double.read x <;> rfl) | cases this
theorem OH (s : Bool) (p : Int) : Ieee.double.write (.number s 0 p) % 9223372036854775808 = 0 := by
 show Ieee.double.nearest s 0 p % _ = 0
 unfold Ieee.Format.nearest
 rw [if_pos rfl, Vg s (by omega)]
theorem Qz {x : Nat} (h : x < 18446744073709551616) : Ieee.double.word (x / 9223372036854775808 % 2 == 1) (x % 9223372036854775808) = x := by
 rw [Vj, GK h]
 by_cases c : 9223372036854775808 ≤ x
 ·rw [decide_eq_true c]; simp; omega
 ·rw [decide_eq_false c]; simp; omega
theorem G5 {z : Nat} (h : z % 9223372036854775808 = 0) : Ieee.double.read z = .number (z / 9223372036854775808 % 2 == 1) 0 (-1074) := by
 unfold Ieee.Format.read
 simp only [Ad, h]
 rfl
theorem G6 {x z : Nat} (hx : Fw x) (hz : z % 9223372036854775808 = 0) : E0 (jG x z) x := by
 have hl := hx.1
 cases nx : isnan x with
 | true =>
  have : x = qn := by rw [← hx.2]; exact gu nx
  rw [Vk (.inl nx), this]; exact .refl _
 | false =>
  have hm := Ov nx
  by_cases hi : x % 9223372036854775808 = 9218868437227405312
  ·unfold jG Ieee.Format.add
   rw [zf hi, G5 hz]
   refine .of ?_
   show Ieee.double.word _ Ieee.double.infRung = x
   rw [Eb, ← hi]
   exact Qz hl
  ·obtain ⟨m, i, e1, i1, u1⟩ := y9 (x := x) (by omega)
   unfold jG Ieee.Format.add
   rw [e1, G5 hz]
   have hmin : min i (-1074) = -1074 := by omega
   have tot : Ieee.signed (x / 9223372036854775808 % 2 == 1) m (i - -1074).toNat + Ieee.signed (z / 9223372036854775808 % 2 == 1) 0 (-1074 - -1074 : Int).toNat = (if (x / 9223372036854775808 % 2 == 1) then -(U (x % 9223372036854775808) : Int) else (U (x % 9223372036854775808) : Int)) := by
    unfold Ieee.signed
    rw [Nat.shiftLeft_eq, u1]
    cases (x / 9223372036854775808 % 2 == 1) <;> cases (z / 9223372036854775808 % 2 == 1) <;> simp
   simp only [Ieee.Datum.sum, hmin, Option.map_some, Option.getD_some, tot]
   by_cases h0 : x % 9223372036854775808 = 0
   ·refine .inr ⟨?_, h0⟩
    rw [h0]
    cases (x / 9223372036854775808 % 2 == 1) <;> exact OH _ _
   ·have hU : U (x % 9223372036854775808) ≠ 0 := fun c => h0 (Le.1 (c.trans U4.symm))
    refine .of ?_
    have hw : ∀ s : Bool, (x / 9223372036854775808 % 2 == 1) = s → Ieee.double.write (.number (if (if s then -(U (x % 9223372036854775808) : Int) else (U (x % 9223372036854775808) : Int)) = 0 then s && (z / 9223372036854775808 % 2 == 1) else decide ((if s then -(U (x % 9223372036854775808) : Int) else (U (x % 9223372036854775808) : Int)) < 0)) (if s then -(U (x % 9223372036854775808) : Int) else (U (x % 9223372036854775808) : Int)).natAbs (-1074)) = x := fun s hs => by
     have e2 : Ieee.double.write (.number s (U (x % 9223372036854775808)) (-1074)) = x := by
      show Ieee.double.nearest s _ _ = x
      rw [YI s (by omega)]
      have : (-1074 - -1074 : Int).toNat = 0 := by omega
      rw [this, Nat.pow_zero, Nat.mul_one, YG (by omega), ← hs]
      exact Qz hl
     cases s with
     | false =>
      simp only [Bool.false_eq_true, if_false]
      rw [if_neg (by omega), decide_eq_false (by omega), Int.natAbs_natCast]
      exact e2
     | true =>
      simp only [if_true]
      rw [if_neg (by omega), decide_eq_true (by omega), Int.natAbs_neg, Int.natAbs_natCast]
      exact e2
    exact hw _ rfl
theorem E0.add {u u' v v' : Nat} (hu : Fw u) (hu' : Fw u') (hv : Fw v) (hv' : Fw v') (h : E0 u u') (k : E0 v v') : E0 (jG u v) (jG u' v') := by
 have left : ∀ {a z z' : Nat}, Fw a → z % 9223372036854775808 = 0 → z' % 9223372036854775808 = 0 → E0 (jG a z) (jG a z') := fun ha h1 h2 => (G6 ha h1).trans (G6 ha h2).symm
 rcases k with rfl | ⟨k1, k2⟩
 ·rcases h with rfl | ⟨h1, h2⟩
  ·exact .refl _
  ·rw [wB u v, wB u' v]; exact left hv h1 h2
 ·refine (left hu k1 k2).trans ?_
  rcases h with rfl | ⟨h1, h2⟩
  ·exact .refl _
  ·rw [wB u v', wB u' v']; exact left hv' h1 h2
theorem Fw.jG (x y : Nat) : Fw (Sx.jG x y) := ⟨YE _ _, Yl _ _⟩
theorem Fw.jo (x y : Nat) : Fw (Sx.jo x y) := ⟨YJ _ _, Ym _ _⟩
theorem Fw.qH (x y : Nat) : Fw (Sx.qH x y) := ⟨YH _ _, Yn _ _⟩
end Go.Sx
namespace Go.Sx
open Ieee (Datum)
def V (x : Nat) : Int := if x / 9223372036854775808 % 2 == 1 then -(U (x % 9223372036854775808) : Int) else (U (x % 9223372036854775808) : Int)
def W (n : Int) : Nat := Ieee.double.nearest (decide (n < 0)) n.natAbs 0
end Go.Sx
namespace Go.Sx
open M
variable {P : Program} {n B K K' : Nat}
def aF.kM (N : Nat) : aF → Prop
 | .cells _ _ m c => ∀ i, i < m → ∀ v, v ∈ c.row i → v.low N = true
 | _ => True
theorem dw.YK {N N' : Nat} {μ μ' : MM} {hp hp' : Array Obj} {g : Nat} {b : aF} (r : dw N μ hp g b) (hl : b.kM K) (hu : MM.upto K μ μ') (hg : g < K) (hK : K ≤ N') (hB : b.real μ g → hp'[μ.blk g]? = hp[μ.blk g]?) : dw N' μ' hp' g b := by
 have r1 : dw K μ hp g b := by
  cases b with
  | cells own sz m c =>
   refine ⟨r.1, r.2.1, fun hr => ?_⟩
   obtain ⟨cur, ty, fz, h1, h2, h3, h4⟩ := r.2.2 hr
   refine ⟨cur, ty, fz, h1, h2, h3, fun i hi => ⟨(h4 i hi).1, fun o v hv => ?_⟩⟩
   obtain ⟨k1, cv, k2, k3⟩ := (h4 i hi).2 o v hv
   exact ⟨k1, cv, k2, Rep.nO (.refl _ _) (hl i hi v (List.mem_of_getElem? hv)) k3⟩
  | _ => exact r
 exact r1.later hu hK hg hB
theorem EC {H H0 H0' H' : T aF} {μ μ' : MM} {w w' : World} (hg : eX K μ w.heap H) (hsub : ∀ i b, H0.get i = some b → H.get i = some b)
  (hlow : ∀ i b, H.get i = some b → H0.get i = none → i < B ∧ b.kM B) (hB : B ≤ K')
  (hc : ∀ i b, H'.get i = some b → (H0'.get i = some b ∧ (b.owned = true ∨ (i < B ∧ ∃ b0, H0.get i = some b0 ∧ ∀ μ, b.real μ i → b0.real μ i))) ∨ (H0.get i = none ∧ H.get i = some b))
  (k1 : eX K' μ' w'.heap H0') (k2 : mg B H0 μ w H0' μ' w') : eX K' μ' w'.heap H' ∧ mg B H μ w H' μ' w' := by
 have LM : ∀ i b, H.get i = some b → H0.get i = none → b.real μ i → ¬ May μ H0 (μ.blk i) := by
  rintro i b hb h0 hr ⟨g, b0, m1, m2, m3, m4⟩
  have := hg.sep g b0 i b (hsub _ _ m1) hb m2 m3 hr m4
  subst this
  rw [m1] at h0; cases h0
 have Vl : ∀ i b, H.get i = some b → H0.get i = none → b.real μ i → ¬ May μ' H0' (μ.blk i) := fun i b hb h0 hr hm =>
  LM i b hb h0 hr (k2.may _ ((hg.ok i b hb).lt_size hr) hm)
 refine ⟨⟨fun i b hb => ?_, fun i b hb => ?_, fun i b j b' hi hj ho hr hr' he => ?_⟩, ⟨k2.names, k2.os, k2.tape, k2.output, k2.size, fun b hb hn => k2.block b hb fun hm => hn ?_, fun b hb hm => ?_⟩⟩
 ·rcases hc i b hb with ⟨h, _⟩ | ⟨h0, h⟩
  ·exact k1.lt i b h
  ·have := (hlow i b h h0).1; omega
 ·rcases hc i b hb with ⟨h, _⟩ | ⟨h0, h⟩
  ·exact k1.ok i b h
  ·obtain ⟨l1, l2⟩ := hlow i b h h0
   exact (hg.ok i b h).YK l2 k2.names l1 hB fun hr => k2.block _ ((hg.ok i b h).lt_size hr) (LM i b h h0 hr)
 ·rcases hc i b hi with ⟨h, _⟩ | ⟨h0, h⟩
  ·rcases hc j b' hj with ⟨h', _⟩ | ⟨h0', h'⟩
   ·exact k1.sep i b j b' h h' ho hr hr' he
   ·obtain ⟨l1, l2⟩ := hlow j b' h' h0'
    rw [aF.bH k2.names l1] at hr'
    rw [k2.names.blk j l1] at he
    exact (Vl j b' h' h0' hr' ⟨i, b, h, ho, hr, he⟩).elim
  ·obtain ⟨l1, l2⟩ := hlow i b h h0
   rw [aF.bH k2.names l1] at hr
   rw [k2.names.blk i l1] at he
   rcases hc j b' hj with ⟨h', hw⟩ | ⟨h0', h'⟩
   ·rcases hw with hw | ⟨l3, b0, h3, h4⟩
    ·exact (Vl i b h h0 hr ⟨j, b', h', hw, hr', he.symm⟩).elim
    ·rw [aF.bH k2.names l3] at hr'
     rw [k2.names.blk j l3] at he
     have := hg.sep i b j b0 h (hsub _ _ h3) ho hr (h4 _ hr') he
     exact this
   ·obtain ⟨l3, l4⟩ := hlow j b' h' h0'
    rw [aF.bH k2.names l3] at hr'
    rw [k2.names.blk j l3] at he
    exact hg.sep i b j b' h h' ho hr hr' he
 ·obtain ⟨g, b0, m1, m2, m3, m4⟩ := hm
  exact ⟨g, b0, hsub _ _ m1, m2, m3, m4⟩
 ·obtain ⟨g, b0, m1, m2, m3, m4⟩ := hm
  rcases hc g b0 m1 with ⟨h, _⟩ | ⟨h0, h⟩
  ·obtain ⟨g', b1, q1, q2, q3, q4⟩ := k2.may b hb ⟨g, b0, h, m2, m3, m4⟩
   exact ⟨g', b1, hsub _ _ q1, q2, q3, q4⟩
  ·obtain ⟨l1, l2⟩ := hlow g b0 h h0
   rw [aF.bH k2.names l1] at m3
   rw [k2.names.blk g l1] at m4
   exact ⟨g, b0, h, m2, m3, m4⟩
theorem gY : ∀ (l l' : List (Nat × aF)) (i : Nat), (hpL (l ++ l')).get i = ((hpL l).get i).or ((hpL l').get i)
 | [], l', i => by simp [hpL, T.uH]
 | p :: l, l', i => by
  simp only [List.cons_append, hpL, T.bP]
  split
  ·rfl
  ·exact gY l l' i
def OI (l l' : List (Nat × aF)) : Bool := l.all fun p => l'.all fun q => !Nat.beq p.1 q.1
theorem Ji {l l' : List (Nat × aF)} (h : OI l l' = true) {i : Nat} {b b' : aF} (h1 : (hpL l).get i = some b) (h2 : (hpL l').get i = some b') : False := by
 unfold OI at h
 have h3 := List.all_eq_true.1 (List.all_eq_true.1 h _ (bC h1)) _ (bC h2)
 simp at h3
def jy (B : Nat) : List (Nat × aF) → Prop
 | [] => True
 | p :: l => (p.1 < B ∧ p.2.kM B) ∧ jy B l
theorem jy.get {B : Nat} : ∀ {l : List (Nat × aF)}, jy B l → ∀ p ∈ l, p.1 < B ∧ p.2.kM B
 | q :: l, h, p, hp => by
  rcases List.mem_cons.1 hp with rfl | hp
  ·exact h.1
  ·exact jy.get h.2 p hp
def ED (B : Nat) (bl : List (Nat × aF)) : List (Nat × aF) → Prop
 | [] => True
 | p :: l => (p.2.owned = true ∨ (p.1 < B ∧ ∃ b0, (hpL bl).get p.1 = some b0 ∧ ∀ μ, p.2.real μ p.1 → b0.real μ p.1)) ∧ ED B bl l
theorem ED.get {B : Nat} {bl : List (Nat × aF)} : ∀ {l : List (Nat × aF)}, ED B bl l → ∀ p ∈ l, p.2.owned = true ∨ (p.1 < B ∧ ∃ b0, (hpL bl).get p.1 = some b0 ∧ ∀ μ, p.2.real μ p.1 → b0.real μ p.1)
 | q :: l, h, p, hp => by
  rcases List.mem_cons.1 hp with rfl | hp
  ·exact h.1
  ·exact ED.get h.2 p hp
theorem AtB.xR {bl iL xl : List (Nat × aF)} {fr' : Fr} {a a' : Act} {μ : MM} {w w' : World} (hg : eX K μ w.heap (hpL (bl ++ xl))) (hB : B ≤ K') (hx : jy B xl) (hd : OI bl xl = true) (hd' : OI iL xl = true) (ho : ED B bl iL)
  (h : AtB n B K' (hpL bl) μ w (hpL iL) fr' a a' w') : AtB n B K' (hpL (bl ++ xl)) μ w (hpL (iL ++ xl)) fr' a a' w' := by
 obtain ⟨μ', k1, k2, k3, k4⟩ := h.of
 have q := EC (H' := hpL (iL ++ xl)) hg (fun i b hb => by rw [gY, hb]; rfl) (fun i b hb h0 => by
  rw [gY, h0] at hb
  exact hx.get _ (bC hb)) hB (fun i b hb => by
  rw [gY] at hb
  cases h1 : (hpL iL).get i with
  | some b1 =>
   rw [h1] at hb
   cases hb
   exact .inl ⟨rfl, ho.get _ (bC h1)⟩
  | none =>
   rw [h1] at hb
   refine .inr ?_
   cases h2 : (hpL bl).get i with
   | some b2 => exact (Ji hd h2 hb).elim
   | none => exact ⟨rfl, by rw [gY, h2]; exact hb⟩) k1 k2
 exact ⟨μ', q.1, q.2, k3, k4⟩
theorem aj.xR {c : Code} {fr : Fr} {bl xl : List (Nat × aF)} {Post Post' : Po} (h : aj P c n B K K' fr (hpL bl) Post) (hB : B ≤ K') (hx : jy B xl) (hd : OI bl xl = true)
  (k : ∀ e fr' H0', Post e fr' H0' → ∃ iL, H0' = hpL iL ∧ OI iL xl = true ∧ ED B bl iL ∧ Post' e fr' (hpL (iL ++ xl))) : aj P c n B K K' fr (hpL (bl ++ xl)) Post' := by
 intro μ w a hg hf Q hQ
 refine h μ w a (hg.sub fun i b hb => by rw [gY, hb]; rfl) hf Q fun e fr' H0' a' w' hp ha => ?_
 obtain ⟨iL, rfl, h1, h2, h3⟩ := k _ _ _ hp
 exact hQ e fr' _ a' w' h3 (ha.xR hg hB hx hd h1 h2)
def aF.ren (σ : Nat → Nat) : aF → aF
 | .cells own sz m c => .cells own sz m (.fn fun i => lD σ (c.row i))
 | b => b
theorem BK (σ : Nat → Nat) : ∀ l : List AV, (lD σ l).length = l.length
 | [] => rfl
 | v :: l => by simp [lD, BK σ l]
theorem LP (σ : Nat → Nat) : ∀ (l : List AV) (i : Nat), (lD σ l)[i]? = (l[i]?).map (AV.ren σ)
 | [], i => by simp [lD]
 | v :: l, 0 => by simp [lD]
 | v :: l, i + 1 => by simp [lD, LP σ l i]
theorem YL (σ : Nat → Nat) (v : AV) : (v.ren σ).one = v.one := by cases v <;> simp [AV.ren, AV.one]
theorem dw.kL {N N' : Nat} {μ μ' : MM} {σ : Nat → Nat} {hp : Array Obj} {g g' : Nat} {b : aF} (h : dw N μ hp g' (b.ren σ)) (hl : b.kM N') (e0 : ∀ i, i < N' → Jb (μ.via σ) μ' i)
  (e1 : μ'.blk g = μ.blk g') (e2 : μ'.cap g = μ.cap g') (e3 : μ'.sz g = μ.sz g') (e4 : μ'.base g = μ.base g') : dw N' μ' hp g b := by
 cases b with
 | cells own sz m c =>
  simp only [dw, aF.ren, e1, e2, e3, e4] at h ⊢
  refine ⟨h.1, h.2.1, fun hr => ?_⟩
  obtain ⟨cur, ty, fz, h1, h2, h3, h4⟩ := h.2.2 hr
  refine ⟨cur, ty, fz, h1, h2, h3, fun i hi => ⟨by have := (h4 i hi).1; simpa [Cont.row, BK] using this, fun o v hv => ?_⟩⟩
  obtain ⟨k1, cv, k2, k3⟩ := (h4 i hi).2 o (v.ren σ) (by show (lD σ (c.row i))[o]? = _; rw [LP, hv]; rfl)
  have hlow := hl i hi v (List.mem_of_getElem? hv)
  refine ⟨by rw [← YL σ]; exact k1, cv, k2, ?_⟩
  have k4 := Rep.kL (N' := N') k3 hlow
  exact k4.on (S := fun g => g < N') (fun g _ hg => ⟨hg, e0 g hg⟩) (Rep.Qq k4)
 | aW s l => simp only [dw, aF.ren, e1] at h ⊢; exact h
 | RZ s l => simp only [dw, aF.ren, e1] at h ⊢; exact h
 | sit s l pos => simp only [dw, aF.ren, e1, e4] at h ⊢; exact h
theorem aF.mQ (σ : Nat → Nat) (b : aF) : (b.ren σ).owned = b.owned := by cases b <;> rfl
theorem aF.kP (σ : Nat → Nat) (b : aF) (μ : MM) (g : Nat) : (b.ren σ).real μ g ↔ b.real μ g := by cases b <;> rfl
def EF (K' : Nat) (σ : Nat → Nat) (H : T aF) : List (Nat × aF) → Prop
 | [] => True
 | p :: l => (∃ b, H.get (σ p.1) = some b ∧ dN b (p.2.ren σ) ∧ p.2.kM K' ∧ p.1 < K') ∧ EF K' σ H l
theorem EF.get {σ : Nat → Nat} {H : T aF} : ∀ {l : List (Nat × aF)}, EF K' σ H l → ∀ p ∈ l, ∃ b, H.get (σ p.1) = some b ∧ dN b (p.2.ren σ) ∧ p.2.kM K' ∧ p.1 < K'
 | q :: l, h, p, hp => by
  rcases List.mem_cons.1 hp with rfl | hp
  ·exact h.1
  ·exact EF.get h.2 p hp
theorem AtB.renG {K'' : Nat} {σ : Nat → Nat} {fl : List (Nat × AV)} {bl : List (Nat × aF)} {fr' : Fr} {H H' : T aF} {a a' : Act} {μ : MM} {w w' : World} (hk : ∀ g, g < B → σ g = g) (hF : Ah K'' σ fr' fl) (hB : EF K'' σ H' bl) (hinj : ∀ i j, i < K'' → j < K'' → σ i = σ j → i = j)
  (ha : AtB n B K' H μ w H' fr' a a' w') : AtB n B K'' H μ w (hpL bl) (aQ fl) a a' w' := by
 obtain ⟨μ', k1, k2, k3, k4⟩ := ha.of
 have G := fun i b (hb : (hpL bl).get i = some b) => hB.get _ (bC hb)
 refine ⟨μ'.via σ, ⟨fun i b hb => ?_, fun i b hb => ?_, fun i b j b' hi hj ho hr hr' he => ?_⟩, ⟨⟨fun g hg => ?_, fun g hg => ?_, fun g hg => ?_, fun g hg => ?_⟩, k2.os, k2.tape, k2.output, k2.size, k2.block, fun b hb hm => k2.may b hb ?_⟩, ⟨k3.size, fun t v ht => ?_⟩, k4⟩
 ·obtain ⟨b0, h1, h2, h3, h4⟩ := G i b hb; exact h4
 ·obtain ⟨b0, h1, h2, h3, h4⟩ := G i b hb
  exact (h2.ok (k1.ok _ _ h1)).kL h3 (fun i _ => ⟨rfl, rfl, rfl, rfl⟩) rfl rfl rfl rfl
 ·obtain ⟨b0, h1, h2, h3, h4⟩ := G i b hi
  obtain ⟨b1, l1, l2, l3, l4⟩ := G j b' hj
  exact hinj i j h4 l4 (k1.sep _ _ _ _ h1 l1 (by rw [h2.owned, aF.mQ]; exact ho) ((h2.real _ _).2 ((aF.kP _ _ _ _).2 ((aF.fC rfl b).1 hr))) ((l2.real _ _).2 ((aF.kP _ _ _ _).2 ((aF.fC rfl b').1 hr'))) he)
 ·show μ'.blk (σ g) = _; rw [hk g hg]; exact k2.names.blk g hg
 ·show μ'.cap (σ g) = _; rw [hk g hg]; exact k2.names.cap g hg
 ·show μ'.sz (σ g) = _; rw [hk g hg]; exact k2.names.sz g hg
 ·show μ'.base (σ g) = _; rw [hk g hg]; exact k2.names.base g hg
 ·obtain ⟨i, x, m1, m2, m3, m4⟩ := hm
  obtain ⟨b0, h1, h2, h3, h4⟩ := G i x m1
  exact ⟨σ i, b0, h1, by rw [h2.owned, aF.mQ]; exact m2, (h2.real _ _).2 ((aF.kP _ _ _ _).2 ((aF.fC rfl x).1 m3)), m4⟩
 ·obtain ⟨u, h1, h2, h3⟩ := hF.get _ (iK ht)
  exact (h2 _ _ _ (k3.val t u h1)).kL h3
theorem aj.renG {K'' : Nat} {c : Code} {fr : Fr} {H : T aF} {Post Post' : Po} (h : aj P c n B K K' fr H Post)
  (k : ∀ e fr' H', Post e fr' H' → ∃ σ fl bl, (∀ g, g < B → σ g = g) ∧ Ah K'' σ fr' fl ∧ EF K'' σ H' bl ∧ (∀ i j, i < K'' → j < K'' → σ i = σ j → i = j) ∧ Post' e (aQ fl) (hpL bl)) : aj P c n B K K'' fr H Post' := by
 intro μ w a hg hf Q hQ
 refine h μ w a hg hf Q fun e fr' H' a' w' hp ha => ?_
 obtain ⟨σ, fl, bl, hk, hF, hB, hinj, hp'⟩ := k _ _ _ hp
 exact hQ e _ _ a' w' hp' (ha.renG hk hF hB hinj)
end Go.Sx
