/- THE ENGINE, part 3: an interpreter of the program's code over abstract values, and its proof. -/
import Derived.Test.YteggchdkjamdmaaGreatSm2
noncomputable section
set_option linter.unusedSimpArgs false
set_option linter.unusedVariables false
namespace Go.Sx
open M
def AA.eqb (a b : AA) : Bool := Nat.beq a.g b.g && Nat.beq a.i b.i && Nat.beq a.o b.o
theorem AA.eqb_of {a b : AA} (h : AA.eqb a b = true) : a.g = b.g ∧ a.i = b.i ∧ a.o = b.o := by
 simp only [AA.eqb, Bool.and_eq_true] at h
 exact ⟨Nat.eq_of_beq_eq_true h.1.1, Nat.eq_of_beq_eq_true h.1.2, Nat.eq_of_beq_eq_true h.2⟩
theorem AA.eqb_addr {a b : AA} (h : AA.eqb a b = true) (μ : MM) : μ.addr a = μ.addr b := by
 obtain ⟨h1, h2, h3⟩ := AA.eqb_of h
 simp [MM.addr, h1, h2, h3]
def beqB (a b : Bool) : Bool := bif a then b else !b
theorem beqB_of {a b : Bool} (h : beqB a b = true) : a = b := by cases a <;> cases b <;> first | rfl | cases h
def AV.eqb : AV → AV → Bool
 | .bool a, .bool b => beqB a b
 | .int _ k n, .int _ k' n' => decide (k = k') && decide (n = n')
 | .flt _ x, .flt _ y => Nat.beq x y
 | .raw _ x, .raw _ y => Nat.beq x y
 | .str _ l, .str _ l' => decide (l = l')
 | .ptr a, .ptr b => AA.eqb a b
 | .slc s own a len, .slc s' own' a' len' => beqB s s' && beqB own own' && AA.eqb a a' && Nat.beq len len'
 | .mp g, .mp g' => Nat.beq g g'
 | .nilp, .nilp => true
 | .nils, .nils => true
 | .nilm, .nilm => true
 | .cpx _ x y, .cpx _ x' y' => Nat.beq x x' && Nat.beq y y'
 | _, _ => false
theorem AV.eqb_of {a b : AV} (h : AV.eqb a b = true) : a.one = b.one ∧ ∀ N μ c, Rep N μ a c ↔ Rep N μ b c := by
 unfold AV.eqb at h
 split at h
 ·exact ⟨rfl, fun N μ c => by rw [beqB_of h]⟩
 ·simp only [Bool.and_eq_true, decide_eq_true_eq] at h
  exact ⟨rfl, fun N μ c => by simp only [Rep, h.1, h.2]⟩
 ·exact ⟨rfl, fun N μ c => by simp only [Rep, Nat.eq_of_beq_eq_true h]⟩
 ·exact ⟨rfl, fun N μ c => by simp only [Rep, Nat.eq_of_beq_eq_true h]⟩
 ·simp only [decide_eq_true_eq] at h
  exact ⟨rfl, fun N μ c => by simp only [Rep, h]⟩
 ·exact ⟨rfl, fun N μ c => by simp only [Rep, AA.eqb_addr h, (AA.eqb_of h).1]⟩
 ·simp only [Bool.and_eq_true] at h
  obtain ⟨h1, h2, h3⟩ := AA.eqb_of h.1.2
  refine ⟨rfl, fun N μ c => ?_⟩
  simp only [Rep, RepS, beqB_of h.1.1.1, beqB_of h.1.1.2, Nat.eq_of_beq_eq_true h.2, h1, h2, h3, AA.eqb_addr h.1.2]
 ·exact ⟨rfl, fun N μ c => by simp only [Rep, Nat.eq_of_beq_eq_true h]⟩
 ·exact ⟨rfl, fun N μ c => Iff.rfl⟩
 ·exact ⟨rfl, fun N μ c => Iff.rfl⟩
 ·exact ⟨rfl, fun N μ c => Iff.rfl⟩
 ·simp only [Bool.and_eq_true] at h
  exact ⟨rfl, fun N μ c => by simp only [Rep, Nat.eq_of_beq_eq_true h.1, Nat.eq_of_beq_eq_true h.2]⟩
 ·cases h
def eqbs : List AV → List AV → Bool
 | [], [] => true
 | a :: l, b :: l' => AV.eqb a b && eqbs l l'
 | _, _ => false
theorem eqbs_of : ∀ {l l' : List AV}, eqbs l l' = true → l.length = l'.length ∧ ∀ (o : Nat) (v : AV), l'[o]? = some v → ∃ u, l[o]? = some u ∧ AV.eqb u v = true
 | [], [], _ => ⟨rfl, fun o v h => by simp at h⟩
 | [], _ :: _, h => by cases h
 | _ :: _, [], h => by cases h
 | a :: l, b :: l', h => by
  simp only [eqbs, Bool.and_eq_true] at h
  obtain ⟨h1, h2⟩ := eqbs_of h.2
  refine ⟨by simp [h1], fun o v hv => ?_⟩
  cases o with
  | zero => simp at hv; subst hv; exact ⟨a, rfl, h.1⟩
  | succ o => simpa using h2 o v (by simpa using hv)
theorem eqbs_of' : ∀ {l l' : List AV}, eqbs l l' = true → ∀ (o : Nat) (u : AV), l[o]? = some u → ∃ v, l'[o]? = some v ∧ AV.eqb u v = true
 | [], [], _ => fun o v h => by simp at h
 | [], _ :: _, h => by cases h
 | _ :: _, [], h => by cases h
 | a :: l, b :: l', h => by
  simp only [eqbs, Bool.and_eq_true] at h
  intro o u hu
  cases o with
  | zero => simp at hu; subst hu; exact ⟨b, rfl, h.1⟩
  | succ o => simpa using eqbs_of' h.2 o u (by simpa using hu)
def rowsEq (r r' : Nat → List AV) : Nat → Bool
 | 0 => true
 | n + 1 => rowsEq r r' n && eqbs (r n) (r' n)
theorem rowsEq_of {r r' : Nat → List AV} : ∀ {n : Nat}, rowsEq r r' n = true → ∀ i, i < n → eqbs (r i) (r' i) = true
 | 0, _, i, hi => absurd hi (by omega)
 | n + 1, h, i, hi => by
  simp only [rowsEq, Bool.and_eq_true] at h
  rcases Nat.lt_or_ge i n with k | k
  ·exact rowsEq_of h.1 i k
  ·rw [show i = n by omega]; exact h.2
def ABk.eqb : ABk → ABk → Bool
 | .cells own sz n c, .cells own' sz' n' c' => beqB own own' && Nat.beq sz sz' && Nat.beq n n' && rowsEq c.row c'.row n
 | .mSI _ l, .mSI _ l' => decide (l = l')
 | .mII _ l, .mII _ l' => decide (l = l')
 | _, _ => false
theorem RowOk.eqb {N : Nat} {μ : MM} {r r' : List AV} {sz : Nat} {cur : Array Value} {base : Nat} (h : eqbs r r' = true) : RowOk N μ r sz cur base ↔ RowOk N μ r' sz cur base := by
 obtain ⟨h1, h2⟩ := eqbs_of h
 have h3 := eqbs_of' h
 constructor
 ·rintro ⟨k1, k2⟩
  refine ⟨by omega, fun o v hv => ?_⟩
  obtain ⟨u, hu, he⟩ := h2 o v hv
  obtain ⟨e1, e2⟩ := AV.eqb_of he
  obtain ⟨q0, c, q1, q2⟩ := k2 o u hu
  exact ⟨by rw [← e1]; exact q0, c, q1, (e2 _ _ _).1 q2⟩
 ·rintro ⟨k1, k2⟩
  refine ⟨by omega, fun o u hu => ?_⟩
  obtain ⟨v, hv, he⟩ := h3 o u hu
  obtain ⟨e1, e2⟩ := AV.eqb_of he
  obtain ⟨q0, c, q1, q2⟩ := k2 o v hv
  exact ⟨by rw [e1]; exact q0, c, q1, (e2 _ _ _).2 q2⟩
theorem ABk.eqb_of {b b' : ABk} (h : ABk.eqb b b' = true) : b.owned = b'.owned ∧ (∀ μ i, b.real μ i ↔ b'.real μ i) ∧ ∀ N μ hp i, BkOk N μ hp i b ↔ BkOk N μ hp i b' := by
 unfold ABk.eqb at h
 split at h
 ·simp only [Bool.and_eq_true] at h
  obtain ⟨⟨⟨h1, h2⟩, h3⟩, h4⟩ := h
  obtain rfl := beqB_of h1
  obtain rfl := Nat.eq_of_beq_eq_true h2
  obtain rfl := Nat.eq_of_beq_eq_true h3
  refine ⟨rfl, fun μ i => Iff.rfl, fun N μ hp i => ?_⟩
  have h5 := rowsEq_of h4
  simp only [BkOk]
  constructor
  ·rintro ⟨k1, k2, k3⟩
   refine ⟨k1, k2, fun hr => ?_⟩
   obtain ⟨cur, ty, fz, q1, q2, q3, q4⟩ := k3 hr
   exact ⟨cur, ty, fz, q1, q2, q3, fun j hj => (RowOk.eqb (h5 j hj)).1 (q4 j hj)⟩
  ·rintro ⟨k1, k2, k3⟩
   refine ⟨k1, k2, fun hr => ?_⟩
   obtain ⟨cur, ty, fz, q1, q2, q3, q4⟩ := k3 hr
   exact ⟨cur, ty, fz, q1, q2, q3, fun j hj => (RowOk.eqb (h5 j hj)).2 (q4 j hj)⟩
 ·simp only [decide_eq_true_eq] at h
  subst h
  exact ⟨rfl, fun μ i => Iff.rfl, fun N μ hp i => Iff.rfl⟩
 ·simp only [decide_eq_true_eq] at h
  subst h
  exact ⟨rfl, fun μ i => Iff.rfl, fun N μ hp i => Iff.rfl⟩
 ·cases h
def bears (H : T ABk) : List (Nat × ABk) → Bool
 | [] => true
 | p :: l => (match H.get p.1 with | some b => ABk.eqb b p.2 | none => false) && bears H l
theorem bears_of {H : T ABk} : ∀ {l : List (Nat × ABk)}, bears H l = true → ∀ p ∈ l, ∃ b, H.get p.1 = some b ∧ ABk.eqb b p.2 = true
 | [], _, p, hp => by cases hp
 | q :: l, h, p, hp => by
  simp only [bears, Bool.and_eq_true] at h
  rcases List.mem_cons.1 hp with rfl | hp
  ·have h1 := h.1
   split at h1
   ·rename_i b hb; exact ⟨b, hb, h1⟩
   ·cases h1
  ·exact bears_of h.2 p hp
theorem MM.upto.symm {N : Nat} {μ μ' : MM} (h : MM.upto N μ μ') : MM.upto N μ' μ :=
 ⟨fun g hg => (h.blk g hg).symm, fun g hg => (h.cap g hg).symm, fun g hg => (h.sz g hg).symm, fun g hg => (h.base g hg).symm⟩
theorem CallIs.frame {P : Program} {f : FuncId} {args args' : List AV} {v : AV} {bl : List (Nat × ABk)} {K : Nat} {path : List Bool} {g0 g : G} (h : CallIs P f args v ⟨hpL bl, K, [], path, True⟩ g0) (hcs : g0.cs) (hv : v.low 0 = true)
  (hlow : ∀ p ∈ bl, p.1 < K ∧ p.2.lowR K) (haft : bears g0.H bl = true) (hK : K ≤ g.nx) (hsub : bears g.H bl = true) (hA : ∀ μ cs, Reps g.nx μ args' cs → Reps K μ args cs) : CallIs P f args' v g g := by
 refine ⟨id, fun _ μ w cargs hg ha => ?_⟩
 have S : ∀ i b, (hpL bl).get i = some b → i < K ∧ b.lowR K ∧ ∃ b1, g.H.get i = some b1 ∧ ABk.eqb b1 b = true := fun i b hb => by
  have hm := hpL_get hb
  exact ⟨(hlow _ hm).1, (hlow _ hm).2, bears_of hsub _ hm⟩
 have hg0 : GOk K μ w.heap (hpL bl) := by
  refine ⟨fun i b hb => (S i b hb).1, fun i b hb => ?_, fun i b j b' hi hj ho hr hr' he => ?_⟩
  ·obtain ⟨h1, h2, b1, h3, h4⟩ := S i b hb
   exact (((ABk.eqb_of h4).2.2 _ _ _ _).1 (hg.ok _ _ h3)).lowB h2 (.refl _ _) h1 (Nat.le_refl _) fun _ => rfl
  ·obtain ⟨_, _, b1, h3, h4⟩ := S i b hi
   obtain ⟨_, _, b2, k3, k4⟩ := S j b' hj
   obtain ⟨q1, q2, _⟩ := ABk.eqb_of h4
   obtain ⟨r1, r2, _⟩ := ABk.eqb_of k4
   exact hg.sep i b1 j b2 h3 k3 (q1.trans ho) ((q2 _ _).2 hr) ((r2 _ _).2 hr') he
 have may1 : ∀ B, May μ (hpL bl) B → ∃ j b b1, (hpL bl).get j = some b ∧ g.H.get j = some b1 ∧ b1.owned = true ∧ b1.real μ j ∧ μ.blk j = B := fun B ⟨j, b, m1, m2, m3, m4⟩ => by
  obtain ⟨_, _, b1, h3, h4⟩ := S j b m1
  obtain ⟨q1, q2, _⟩ := ABk.eqb_of h4
  exact ⟨j, b, b1, m1, h3, q1.trans m2, (q2 _ _).2 m3, m4⟩
 have key : ∀ c w', After ⟨hpL bl, K, [], path, True⟩ μ w g0 v c w' → After g μ w g v c w' := by
  rintro c w' ⟨μ', hr, hg', hE⟩
  refine ⟨μ, hr.bare hv, ⟨hg.lt, fun i b1 hb1 => ?_, hg.sep⟩, ?_⟩
  ·cases hbl : (hpL bl).get i with
   | none =>
    refine (hg.ok i b1 hb1).later (.refl _ _) (Nat.le_refl _) (hg.lt _ _ hb1) fun hre => hE.block _ ((hg.ok i b1 hb1).lt_size hre) fun hm => ?_
    obtain ⟨j, b, b2, m1, m2, m3, m4, m5⟩ := may1 _ hm
    have := hg.sep j b2 i b1 m2 hb1 m3 m4 hre m5
    subst this
    rw [hbl] at m1; cases m1
   | some b =>
    obtain ⟨h1, h2, b2, h3, h4⟩ := S i b hbl
    rw [hb1] at h3
    cases h3
    obtain ⟨b3, k3, k4⟩ := bears_of haft _ (hpL_get hbl)
    have q := ((ABk.eqb_of k4).2.2 _ _ _ _).1 (hg'.ok _ _ k3)
    exact ((ABk.eqb_of h4).2.2 _ _ _ _).2 (q.lowB h2 hE.names.symm h1 hK fun _ => by rw [hE.names.blk i h1])
  ·exact ⟨Nat.le_refl _, .refl _ _, hE.os, hE.tape, hE.output, hE.size, fun B hB hn => hE.block B hB fun hm => hn (by obtain ⟨j, b, b1, m1, m2, m3, m4, m5⟩ := may1 B hm; exact ⟨j, b1, m2, m3, m4, m5⟩), fun B hB hm => hm⟩
 rcases h.2 hcs μ w cargs hg0 (hA _ _ ha) with ⟨c, w', e, r⟩ | ⟨f', a', w', e, r⟩
 ·exact .inl ⟨c, w', e, key _ _ r⟩
 ·exact .inr ⟨f', a', w', e, r.mono fun e w'' ⟨c, q, r⟩ => ⟨c, q, key _ _ r⟩⟩
def litT : List (List AV) → Nat → T (List AV)
 | [], _ => .e
 | r :: l, i => (litT l (i + 1)).upd i (some r)
def litB (own : Bool) (sz : Nat) (l : List (List AV)) : ABk := .cells own sz l.length (.lit [] (litT l 0))
theorem CallIs.rep {P : Program} {f : FuncId} {args : List AV} {v v' : AV} {g g' : G} (h : CallIs P f args v g g') (hv : ∀ N μ c, Rep N μ v c → Rep N μ v' c) : CallIs P f args v' g g' := by
 refine ⟨h.1, fun hc μ w cargs hg ha => ?_⟩
 rcases h.2 hc μ w cargs hg ha with ⟨c, w', e, μ', h1, h2, h3⟩ | ⟨f', a', w', e, r⟩
 ·exact .inl ⟨c, w', e, μ', hv _ _ _ h1, h2, h3⟩
 ·exact .inr ⟨f', a', w', e, r.mono fun e w'' ⟨c, q, μ', h1, h2, h3⟩ => ⟨c, q, μ', hv _ _ _ h1, h2, h3⟩⟩
def rowsLow (K : Nat) (r : Nat → List AV) : Nat → Bool
 | 0 => true
 | n + 1 => rowsLow K r n && (r n).all (fun v => v.low K)
theorem rowsLow_of {K : Nat} {r : Nat → List AV} : ∀ {n : Nat}, rowsLow K r n = true → ∀ i, i < n → ∀ v, v ∈ r i → v.low K = true
 | 0, _, i, hi => absurd hi (by omega)
 | n + 1, h, i, hi => by
  simp only [rowsLow, Bool.and_eq_true] at h
  rcases Nat.lt_or_ge i n with k | k
  ·exact rowsLow_of h.1 i k
  ·rw [show i = n by omega]; exact List.all_eq_true.1 h.2
def lowBl (K : Nat) : List (Nat × ABk) → Bool
 | [] => true
 | p :: l => Nat.blt p.1 K && (match p.2 with | .cells _ _ n c => rowsLow K c.row n | _ => true) && lowBl K l
theorem lowBl_of {K : Nat} : ∀ {l : List (Nat × ABk)}, lowBl K l = true → ∀ p ∈ l, p.1 < K ∧ p.2.lowR K
 | [], _, p, hp => by cases hp
 | q :: l, h, p, hp => by
  simp only [lowBl, Bool.and_eq_true] at h
  rcases List.mem_cons.1 hp with rfl | hp
  ·refine ⟨Nat.le_of_ble_eq_true h.1.1, ?_⟩
   have h2 := h.1.2
   cases hb : p.2 with
   | cells own sz n c => rw [hb] at h2; exact rowsLow_of h2
   | _ => trivial
  ·exact lowBl_of h.2 p hp
def condsR : List (Bool × Bool) → Prop → Prop
 | [], P => P
 | p :: l, P => condsR l (P ∧ p.1 = p.2)
def allB : List (Bool × Bool) → Bool
 | [] => true
 | p :: l => beqB p.1 p.2 && allB l
theorem condsR_of : ∀ {l : List (Bool × Bool)} {P : Prop}, allB l = true → P → condsR l P
 | [], P, _, h => h
 | p :: l, P, h, hP => by
  simp only [allB, Bool.and_eq_true] at h
  show condsR l (P ∧ p.1 = p.2)
  exact condsR_of (l := l) h.2 ⟨hP, beqB_of h.1⟩
def sumUp (bl : List (Nat × ABk)) : Res AV → AV × Prop × Bool
 | .done v g => (v, g.cs, bears g.H bl)
 | _ => (.top, False, false)
def tabS (A : List AV) (K : Nat) (bl : List (Nat × ABk)) (ok : Bool) (v : AV) (args : List AV) : M AV := fun g =>
 bif eqbs (args.map AV.fl1) A && Nat.ble K g.nx && bears g.H bl && ok then .done v g else .fail
theorem Reps.eqbs {N : Nat} {μ : MM} : ∀ {l l' : List AV} {cs : List Value}, Sx.eqbs l l' = true → Reps N μ l cs → Reps N μ l' cs
 | [], [], cs, _, h => h
 | [], _ :: _, _, h, _ => by cases h
 | _ :: _, [], _, h, _ => by cases h
 | a :: l, b :: l', cs, h, hr => by
  simp only [Sx.eqbs, Bool.and_eq_true] at h
  simp only [Reps] at hr ⊢
  obtain ⟨c, r, e, h1, h2⟩ := hr
  exact ⟨c, r, e, ((AV.eqb_of h.1).2 _ _ _).1 h1, Reps.eqbs h.2 h2⟩
theorem tabS_ok {P : Program} {f : FuncId} {A : List AV} {K : Nat} {bl : List (Nat × ABk)} {l : List (Bool × Bool)} {u v : AV} {path : List Bool} {run : Res AV} (hs : ∀ v g', run = .done v g' → CallIs P f A v ⟨hpL bl, K, [], path, True⟩ g')
  (e : sumUp bl run = (u, condsR l True, true)) (hv : u.low 0 = true) (huv : ∀ N μ c, Rep N μ u c → Rep N μ v c) (hlow : lowBl K bl = true) (hA : lows K A = true) {args : List AV} {x : AV} {g g' : G}
  (h : tabS A K bl (allB l) v args g = .done x g') : CallIs P f args x g g' := by
 unfold tabS at h
 cases hc : (eqbs (args.map AV.fl1) A && Nat.ble K g.nx && bears g.H bl && allB l) with
 | false => rw [hc, cond_false] at h; cases h
 | true =>
  rw [hc, cond_true] at h
  cases h
  simp only [Bool.and_eq_true] at hc
  obtain ⟨⟨⟨h1, h2⟩, h3⟩, h4⟩ := hc
  cases run with
  | done w g0 =>
   simp only [sumUp, Prod.mk.injEq] at e
   obtain ⟨rfl, e2, e3⟩ := e
   refine ((hs _ _ rfl).frame (by rw [e2]; exact condsR_of h4 trivial) hv (lowBl_of hlow) e3 (Nat.le_of_ble_eq_true h2) h3 fun μ cs hr => ?_).rep huv
   exact Reps.ofLow (.refl _ _) hA (hr.fl1.eqbs h1)
  | need b => simp only [sumUp, Prod.mk.injEq] at e; exact absurd e.2.2 (by simp)
  | fail => simp only [sumUp, Prod.mk.injEq] at e; exact absurd e.2.2 (by simp)
theorem tabS_tch (A : List AV) (K : Nat) (bl : List (Nat × ABk)) (ok : Bool) (v : AV) (args : List AV) : Tch (tabS A K bl ok v args) := ⟨fun g b g' h => by
 unfold tabS at h
 cases hc : (eqbs (args.map AV.fl1) A && Nat.ble K g.nx && bears g.H bl && ok) with
 | false => rw [hc, cond_false] at h; cases h
 | true => rw [hc, cond_true] at h; cases h; exact TR.refl _⟩
def orS (a b : M AV) : M AV := fun g =>
 match a g with
 | .done v g' => .done v g'
 | _ => b g
theorem orS_done {a b : M AV} {g g' : G} {v : AV} (h : orS a b g = .done v g') : a g = .done v g' ∨ b g = .done v g' := by
 unfold orS at h
 split at h
 ·cases h; left; assumption
 ·exact .inr h
theorem orS_tch {a b : M AV} (ha : Tch a) (hb : Tch b) : Tch (orS a b) := ⟨fun g v g' h => by
 rcases orS_done h with h | h
 ·exact ha.1 _ _ _ h
 ·exact hb.1 _ _ _ h⟩
end Go.Sx
