/- PIECES OF CODE IN A CANONICAL HEAP, names from a bound on free to change: what they lead to; loops by induction; from them what calls do. -/
import Derived.Test.YtehhljcjdiokjaaSyK
import Derived.Test.YtehhljcjdiokjaaSyO
set_option linter.unusedSimpArgs false
set_option linter.unusedVariables false
noncomputable section
namespace Go.Sx
open M

/-! ### other names -/
def AA.ren (σ : Nat → Nat) (a : AA) : AA := ⟨a.s, σ a.g, a.i, a.o⟩
mutual
def AV.ren (σ : Nat → Nat) : AV → AV
  | .ptr a => .ptr (a.ren σ)
  | .slc s own a len => .slc s own (a.ren σ) len
  | .mp g => .mp (σ g)
  | .fn f l c => .fn f (rens σ l) (rens σ c)
  | .agg l => .agg (rens σ l)
  | .tup l => .tup (rens σ l)
  | v => v
def rens (σ : Nat → Nat) : List AV → List AV
  | [] => []
  | v :: l => v.ren σ :: rens σ l
end
mutual
theorem Rep.unren {N N' : Nat} {μ : MM} {σ : Nat → Nat} : ∀ {v : AV} {c : Value}, Rep N μ (v.ren σ) c → v.low N' = true → Rep N' (μ.via σ) v c
  | .top, _, _, _ => by simp [Rep]
  | .bool _, _, r, _ => by simpa [Rep, AV.ren] using r
  | .sbool _, _, r, _ => by simpa [Rep, AV.ren] using r
  | .int .., _, r, _ => by simpa [Rep, AV.ren] using r
  | .flt .., _, r, _ => by simpa [Rep, AV.ren] using r
  | .raw .., _, r, _ => by simpa [Rep, AV.ren] using r
  | .bits .., _, r, _ => by simpa [Rep, AV.ren] using r
  | .cpx .., _, r, _ => by simpa [Rep, AV.ren] using r
  | .str .., _, r, _ => by simpa [Rep, AV.ren] using r
  | .ptr a, _, r, l => by
    have hl := blt_lt (by simpa [AV.low] using l)
    simp only [AV.ren, Rep] at r ⊢
    exact ⟨hl, r.2⟩
  | .nilp, _, r, _ => by simpa [Rep, AV.ren] using r
  | .slc _ own a len, _, r, l => by
    have hl := blt_lt (by simpa [AV.low] using l)
    simp only [AV.ren, Rep] at r ⊢
    exact ⟨hl, r.2⟩
  | .nils, _, r, _ => by simpa [Rep, AV.ren] using r
  | .mp g, _, r, l => by
    have hl := blt_lt (by simpa [AV.low] using l)
    simp only [AV.ren, Rep] at r ⊢
    exact ⟨hl, r.2⟩
  | .nilm, _, r, _ => by simpa [Rep, AV.ren] using r
  | .fn f x cap, _, r, lo => by
    have hl : lows N' x = true ∧ lows N' cap = true := by simpa [AV.low] using lo
    simp only [AV.ren, Rep] at r ⊢
    obtain ⟨fs, cs, rfl, h1, h2⟩ := r
    exact ⟨fs, cs, rfl, Reps.unren h1 hl.1, Reps.unren h2 hl.2⟩
  | .nilf, _, r, _ => by simpa [Rep, AV.ren] using r
  | .nili, _, r, _ => by simpa [Rep, AV.ren] using r
  | .agg x, _, r, lo => by
    simp only [AV.ren, Rep] at r ⊢
    obtain ⟨cs, rfl, h1⟩ := r
    exact ⟨cs, rfl, Reps.unren h1 (by simpa [AV.low] using lo)⟩
  | .tup x, _, r, lo => by
    simp only [AV.ren, Rep] at r ⊢
    obtain ⟨cs, rfl, h1⟩ := r
    exact ⟨cs, rfl, Reps.unren h1 (by simpa [AV.low] using lo)⟩
theorem Reps.unren {N N' : Nat} {μ : MM} {σ : Nat → Nat} : ∀ {l : List AV} {cs : List Value}, Reps N μ (rens σ l) cs → lows N' l = true → Reps N' (μ.via σ) l cs
  | [], _, r, _ => by simpa [Reps, rens] using r
  | v :: l, _, r, lo => by
    have hl : v.low N' = true ∧ lows N' l = true := by simpa [lows] using lo
    simp only [rens, Reps] at r ⊢
    obtain ⟨c, t, rfl, h1, h2⟩ := r
    exact ⟨c, t, rfl, Rep.unren h1 hl.1, Reps.unren h2 hl.2⟩
end

/-! ### pieces -/
/-- the world has gone on; names below the bound are where they were -/
structure ExtB (B : Nat) (H : T ABk) (μ : MM) (w : World) (H' : T ABk) (μ' : MM) (w' : World) : Prop where
  names : MM.upto B μ μ'
  os : w'.os = w.os
  tape : w'.tape = w.tape
  output : w'.output = w.output
  size : w.heap.size ≤ w'.heap.size
  block : ∀ b, b < w.heap.size → ¬ May μ H b → w'.heap[b]? = w.heap[b]?
  may : ∀ b, b < w.heap.size → May μ' H' b → May μ H b
theorem ExtB.trans {B : Nat} {H H' H'' : T ABk} {μ μ' μ'' : MM} {w w' w'' : World} (h : ExtB B H μ w H' μ' w') (k : ExtB B H' μ' w' H'' μ'' w'') : ExtB B H μ w H'' μ'' w'' where
  names := h.names.trans k.names (Nat.le_refl _)
  os := k.os.trans h.os
  tape := k.tape.trans h.tape
  output := k.output.trans h.output
  size := Nat.le_trans h.size k.size
  block := fun b hb hn => (k.block b (Nat.lt_of_lt_of_le hb h.size) fun hm => hn (h.may b hb hm)).trans (h.block b hb hn)
  may := fun b hb hm => h.may b hb (k.may b (Nat.lt_of_lt_of_le hb h.size) hm)
structure AtB (n B K : Nat) (H : T ABk) (μ : MM) (w : World) (H' : T ABk) (fr' : Fr) (a a' : Act) (w' : World) : Prop where
  of : ∃ μ', GOk K μ' w'.heap H' ∧ ExtB B H μ w H' μ' w' ∧ FrOk K μ' fr' a'.tmps n ∧ a'.defers = a.defers
abbrev Po := Ex → Fr → T ABk → Prop
/-- the piece leads from here to what Post says: from names below K to names below K', those below B kept -/
def GoesB (P : Program) (c : Code) (n B K K' : Nat) (fr : Fr) (H : T ABk) (Post : Po) : Prop :=
  ∀ μ w (a : Act), GOk K μ w.heap H → FrOk K μ fr a.tmps n → ∀ Q : Exit → Act → World → Prop, (∀ e fr' H' a' w', Post e fr' H' → AtB n B K' H μ w H' fr' a a' w' → Q e.ex a' w') → c.wp P Q a w
theorem AtB.trans {n B K : Nat} {H H' H'' : T ABk} {μ : MM} {w w' w'' : World} {fr'' : Fr} {a a' a'' : Act} {μ' : MM} (h1 : ExtB B H μ w H' μ' w') (h2 : a'.defers = a.defers) (h : AtB n B K H' μ' w' H'' fr'' a' a'' w'') : AtB n B K H μ w H'' fr'' a a'' w'' := by
  obtain ⟨μ'', k1, k2, k3, k4⟩ := h.of
  exact ⟨μ'', k1, h1.trans k2, k3, k4.trans h2⟩
theorem AtB.up {n B K K' : Nat} {H H' : T ABk} {μ : MM} {w w' : World} {fr' : Fr} {a a' : Act} (h : AtB n B K H μ w H' fr' a a' w') (hK : K ≤ K') : AtB n B K' H μ w H' fr' a a' w' := by
  obtain ⟨μ', k1, k2, k3, k4⟩ := h.of
  exact ⟨μ', k1.up hK fun _ _ h => h, k2, k3.later (.refl _ _) hK, k4⟩
section
variable {P : Program} {n B K K' : Nat}
theorem GoesB.mono {c : Code} {fr : Fr} {H : T ABk} {Post Post' : Po} (h : GoesB P c n B K K' fr H Post) (k : ∀ e fr' H', Post e fr' H' → Post' e fr' H') : GoesB P c n B K K' fr H Post' :=
  fun μ w a hg hf Q hQ => h μ w a hg hf Q fun e fr' H' a' w' hp ha => hQ e fr' H' a' w' (k _ _ _ hp) ha
theorem GoesB.up {K'' : Nat} {c : Code} {fr : Fr} {H : T ABk} {Post : Po} (h : GoesB P c n B K K' fr H Post) (hK : K' ≤ K'') : GoesB P c n B K K'' fr H Post :=
  fun μ w a hg hf Q hQ => h μ w a hg hf Q fun e fr' H' a' w' hp ha => hQ e fr' H' a' w' hp (ha.up hK)
/-- from a run of the engine -/
theorem GoesB.run {call : Calls'} (hcall : CallOk P call) {region : List Oper → Fr → M Fr} {loops : Loops} {rounds : Nat} (hreg : RegionOk P region n) {c : Code} (hl : LoopsIn P loops n c) {fr : Fr} {H : T ABk} {path : List Bool}
    {e : Ex} {fl : List (Nat × AV)} {bl : List (Nat × ABk)} (h : PieceP e fl bl (codeA P call region loops n rounds c fr ⟨H, K, [], path, True⟩)) (h1 : lowF K' fl) (h2 : lowH K' bl) (hB : B ≤ K) :
    GoesB P c n B K K' fr H fun e' fr' H' => e' = e ∧ fr' = frL fl ∧ H' = hpL bl := by
  have h := h.of
  generalize hr : codeA P call region loops n rounds c fr ⟨H, K, [], path, True⟩ = res at h
  unfold pieceP at h
  split at h
  · rename_i r g
    obtain ⟨rfl, hw, hh, hcs⟩ := h
    obtain ⟨_, hs⟩ := codeA_sound hcall hreg c hl _ _ _ _ hr
    intro μ w a hg hf Q hQ
    refine hs hcs μ w a hg hf Q fun a' w' hk => hQ r.1 _ _ a' w' ⟨rfl, rfl, rfl⟩ ⟨?_⟩
    obtain ⟨μ', k1, k2, k3, k4⟩ := hk
    have sub : ∀ i b, (hpL bl).get i = some b → g.H.get i = some b ∧ i < K' ∧ b.bare := fun i b hb => by
      have hm := hpL_get hb
      exact ⟨hh.get hm, (h2 _ hm).1, (h2 _ hm).2⟩
    refine ⟨μ', ⟨fun i b hb => (sub i b hb).2.1, fun i b hb => (k1.ok _ _ (sub i b hb).1).bare (sub i b hb).2.2 rfl rfl rfl rfl, fun i b j b' hi hj => k1.sep _ _ _ _ (sub i b hi).1 (sub j b' hj).1⟩, ?_, ⟨k3.size, fun t v ht => ?_⟩, k4⟩
    · exact ⟨k2.names.mono hB, k2.os, k2.tape, k2.output, k2.size, k2.block, fun b hb hm => k2.may b hb (by
        obtain ⟨i, b, m1, m2, m3, m4⟩ := hm
        exact ⟨i, b, (sub i b m1).1, m2, m3, m4⟩)⟩
    · have hm := frL_get ht
      exact Rep.ofLow (.refl _ _) (h1 _ hm) (k3.val t v (hw.get hm))
  · exact h.elim
/-- less is known ahead -/
theorem GoesB.weak {c : Code} {fr fr0 : Fr} {H H0 : T ABk} {Post : Po} (hf : ∀ t v, fr0.get t = some v → fr.get t = some v) (hH : ∀ i b, H0.get i = some b → H.get i = some b) (h : GoesB P c n B K K' fr0 H0 Post) : GoesB P c n B K K' fr H Post := by
  intro μ w a hg hfr Q hQ
  refine h μ w a (hg.sub hH) ⟨hfr.size, fun t v ht => hfr.val t v (hf t v ht)⟩ Q fun e fr' H' a' w' hp ha => hQ e fr' H' a' w' hp ⟨?_⟩
  obtain ⟨μ', k1, k2, k3, k4⟩ := ha.of
  have may : ∀ b, May μ H0 b → May μ H b := fun b ⟨i, x, m1, m2⟩ => ⟨i, x, hH i x m1, m2⟩
  exact ⟨μ', k1, ⟨k2.names, k2.os, k2.tape, k2.output, k2.size, fun b hb hn => k2.block b hb fun hm => hn (may b hm), fun b hb hm => may b (k2.may b hb hm)⟩, k3, k4⟩
/-- likewise, told in other words; blocks are known by their rows below their number -/
def SameC : ABk → ABk → Prop
  | .cells own sz m c, .cells own' sz' m' c' => own = own' ∧ sz = sz' ∧ m = m' ∧ ∀ i, i < m → c.row i = c'.row i
  | b, b' => b = b'
theorem SameC.refl (b : ABk) : SameC b b := by cases b <;> simp [SameC]
theorem SameC.owned {b b' : ABk} (h : SameC b b') : b.owned = b'.owned := by
  cases b <;> cases b' <;> simp_all [SameC, ABk.owned]
theorem SameC.real {b b' : ABk} (h : SameC b b') (μ : MM) (g : Nat) : b.real μ g ↔ b'.real μ g := by
  cases b <;> cases b' <;> simp_all [SameC, ABk.real]
theorem SameC.ok {N : Nat} {μ : MM} {hp : Array Obj} {g : Nat} {b b' : ABk} (h : SameC b b') (k : BkOk N μ hp g b) : BkOk N μ hp g b' := by
  cases b with
  | cells own sz m c =>
    cases b' with
    | cells own' sz' m' c' =>
      obtain ⟨rfl, rfl, rfl, hr⟩ := h
      refine ⟨k.1, k.2.1, fun hh => ?_⟩
      obtain ⟨cur, ty, fz, h1, h2, h3, h4⟩ := k.2.2 hh
      exact ⟨cur, ty, fz, h1, h2, h3, fun i hi => by rw [← hr i hi]; exact h4 i hi⟩
    | _ => simp [SameC] at h
  | _ => cases b' <;> simp [SameC] at h <;> first | exact h ▸ k | (obtain ⟨rfl, rfl⟩ := h; exact k) | (obtain ⟨rfl, rfl, rfl⟩ := h; exact k)
theorem GoesB.weakR {c : Code} {fr fr0 : Fr} {H H0 : T ABk} {Post : Po} (hf : ∀ t v, fr0.get t = some v → ∃ u, fr.get t = some u ∧ ∀ N μ cv, Rep N μ u cv → Rep N μ v cv) (hH : ∀ i b, H0.get i = some b → ∃ b', H.get i = some b' ∧ SameC b' b) (h : GoesB P c n B K K' fr0 H0 Post) : GoesB P c n B K K' fr H Post := by
  intro μ w a hg hfr Q hQ
  refine h μ w a ⟨fun i b hb => let ⟨b', h1, _⟩ := hH i b hb; hg.lt i b' h1, fun i b hb => let ⟨b', h1, h2⟩ := hH i b hb; h2.ok (hg.ok i b' h1), fun i b j b' hi hj ho hr hr' he => ?_⟩
    ⟨hfr.size, fun t v ht => let ⟨u, h1, h2⟩ := hf t v ht; h2 _ _ _ (hfr.val t u h1)⟩ Q fun e fr' H' a' w' hp ha => hQ e fr' H' a' w' hp ⟨?_⟩
  · obtain ⟨b1, h1, h2⟩ := hH i b hi
    obtain ⟨b2, k1, k2⟩ := hH j b' hj
    exact hg.sep i b1 j b2 h1 k1 (by rw [h2.owned]; exact ho) ((h2.real μ i).2 hr) ((k2.real μ j).2 hr') he
  · obtain ⟨μ', k1, k2, k3, k4⟩ := ha.of
    have may : ∀ b, May μ H0 b → May μ H b := fun b ⟨i, x, m1, m2, m3, m4⟩ => by
      obtain ⟨b', h1, h2⟩ := hH i x m1
      exact ⟨i, b', h1, by rw [h2.owned]; exact m2, (h2.real μ i).2 m3, m4⟩
    exact ⟨μ', k1, ⟨k2.names, k2.os, k2.tape, k2.output, k2.size, fun b hb hn => k2.block b hb fun hm => hn (may b hm), fun b hb hm => may b (k2.may b hb hm)⟩, k3, k4⟩
/-- other names behind it -/
structure Ren (B K' : Nat) (σ : Nat → Nat) (fr : Fr) (H : T ABk) (fr' : Fr) (H' : T ABk) : Prop where
  keep : ∀ g, g < B → σ g = g
  frs : ∀ t v, fr'.get t = some v → fr.get t = some (v.ren σ) ∧ v.low K' = true
  hps : ∀ i b, H'.get i = some b → ∃ b0, H.get (σ i) = some b0 ∧ SameC b0 b ∧ b.bare ∧ i < K'
  inj : ∀ i j b b', H'.get i = some b → H'.get j = some b' → σ i = σ j → i = j
theorem GoesB.ren {K'' : Nat} {c : Code} {fr : Fr} {H : T ABk} {Post Post' : Po} (h : GoesB P c n B K K' fr H Post) (k : ∀ e fr' H', Post e fr' H' → ∃ σ fr'' H'', Ren B K'' σ fr' H' fr'' H'' ∧ Post' e fr'' H'') : GoesB P c n B K K'' fr H Post' := by
  intro μ w a hg hf Q hQ
  refine h μ w a hg hf Q fun e fr' H' a' w' hp ha => ?_
  obtain ⟨σ, fr'', H'', R, hp'⟩ := k _ _ _ hp
  refine hQ e fr'' H'' a' w' hp' ⟨?_⟩
  obtain ⟨μ', k1, k2, k3, k4⟩ := ha.of
  refine ⟨μ'.via σ, ⟨fun i b hb => ?_, fun i b hb => ?_, fun i b j b' hi hj ho hr hr' he => ?_⟩, ⟨⟨fun g hg => ?_, fun g hg => ?_, fun g hg => ?_, fun g hg => ?_⟩, k2.os, k2.tape, k2.output, k2.size, k2.block, fun b hb hm => k2.may b hb ?_⟩, ⟨k3.size, fun t v ht => ?_⟩, k4⟩
  · obtain ⟨b0, h1, h2, h3, h4⟩ := R.hps i b hb; exact h4
  · obtain ⟨b0, h1, h2, h3, h4⟩ := R.hps i b hb
    exact (h2.ok (k1.ok _ _ h1)).bare h3 rfl rfl rfl rfl
  · obtain ⟨b0, h1, h2, h3, h4⟩ := R.hps i b hi
    obtain ⟨b1, l1, l2, l3, l4⟩ := R.hps j b' hj
    refine R.inj i j b b' hi hj (k1.sep _ _ _ _ h1 l1 (by rw [h2.owned]; exact ho) ?_ ?_ he)
    · exact (h2.real _ _).2 ((ABk.real_eq rfl b).1 hr)
    · exact (l2.real _ _).2 ((ABk.real_eq rfl b').1 hr')
  · show μ'.blk (σ g) = _; rw [R.keep g hg]; exact k2.names.blk g hg
  · show μ'.cap (σ g) = _; rw [R.keep g hg]; exact k2.names.cap g hg
  · show μ'.sz (σ g) = _; rw [R.keep g hg]; exact k2.names.sz g hg
  · show μ'.base (σ g) = _; rw [R.keep g hg]; exact k2.names.base g hg
  · obtain ⟨i, x, m1, m2, m3, m4⟩ := hm
    obtain ⟨b0, h1, h2, h3, h4⟩ := R.hps i x m1
    exact ⟨σ i, b0, h1, by rw [h2.owned]; exact m2, (h2.real _ _).2 ((ABk.real_eq rfl x).1 m3), m4⟩
  · obtain ⟨h1, h2⟩ := R.frs t v ht
    exact (k3.val t _ h1).unren h2
theorem GoesB.seq {K1 : Nat} {x y : Code} {fr : Fr} {H : T ABk} {Post : Po} (hK : K1 ≤ K')
    (h : GoesB P x n B K K1 fr H fun e fr' H' => match e with
      | .normal => GoesB P y n B K1 K' fr' H' Post
      | e => Post e fr' H') : GoesB P (.seq x y) n B K K' fr H Post := by
  intro μ w a hg hf Q hQ
  refine wp_seq (h μ w a hg hf _ fun e fr' H' a' w' hp ha => ?_)
  cases e with
  | normal =>
    obtain ⟨μ', k1, k2, k3, k4⟩ := ha.of
    exact hp μ' w' a' k1 k3 Q fun e'' fr'' H'' a'' w'' hp' ha' => hQ _ _ _ _ _ hp' (AtB.trans k2 k4 ha')
  | exit id => exact hQ _ _ _ _ _ hp (ha.up hK)
  | ret => exact hQ _ _ _ _ _ hp (ha.up hK)
theorem GoesB.block {id : Nat} {c : Code} {fr : Fr} {H : T ABk} {Post : Po}
    (h : GoesB P c n B K K' fr H fun e fr' H' => match e with
      | .exit id' => if id' = id then Post .normal fr' H' else Post (.exit id') fr' H'
      | e => Post e fr' H') : GoesB P (.block id c) n B K K' fr H Post := by
  intro μ w a hg hf Q hQ
  refine wp_block (h μ w a hg hf _ fun e fr' H' a' w' hp ha => ?_)
  cases e with
  | normal => exact hQ _ _ _ _ _ hp ha
  | ret => exact hQ _ _ _ _ _ hp ha
  | exit id' =>
    simp only [Ex.ex, Exit.inBlock]
    by_cases he : id' = id
    · simp only [he, if_true] at hp ⊢
      exact hQ .normal _ _ _ _ hp ha
    · simp only [if_neg he] at hp ⊢
      exact hQ (.exit id') _ _ _ _ hp ha
theorem GoesB.cond {c : Operand} {b s : Bool} {x y : Code} {fr : Fr} {H : T ABk} {Post : Po} (hc : evalA fr c = cmpB s b) (hx : b = true → GoesB P x n B K K' fr H Post) (hy : b = false → GoesB P y n B K K' fr H Post) : GoesB P (.cond c x y) n B K K' fr H Post := by
  intro μ w a hg hf Q hQ
  have e : a.eval c = .bool b := by
    have := hf.eval (a := a) c
    rw [hc] at this
    exact Rep_cmpB.1 this
  refine wp_cond e ?_
  cases b with
  | true => exact hx rfl μ w a hg hf Q hQ
  | false => exact hy rfl μ w a hg hf Q hQ
/-- a loop -/
theorem GoesB.loop {c : Code} {Post : Po} (I : Nat → Fr → T ABk → Prop)
    (h : ∀ k fr H, I k fr H → GoesB P c n B K K fr H fun e fr' H' => match e with
      | .normal => ∃ k', k' < k ∧ I k' fr' H'
      | e => Post e fr' H') : ∀ k fr H, I k fr H → GoesB P (.loop c) n B K K fr H Post := by
  have key : ∀ R k fr H, k < R → I k fr H → ∀ μ w (a : Act), GOk K μ w.heap H → FrOk K μ fr a.tmps n → ∀ Q : Exit → Act → World → Prop, (∀ e fr' H' a' w', Post e fr' H' → AtB n B K H μ w H' fr' a a' w' → Q e.ex a' w') → Code.rounds P c Q R a w := by
    intro R
    induction R with
    | zero => intro k fr H hk; omega
    | succ R ih =>
      intro k fr H hkR hI μ w a hg hf Q hQ
      rw [rounds_succ]
      refine wp_mono (h k fr H hI μ w a hg hf (fun e a' w' => (e = .normal ∧ ∃ k' fr' H', k' < k ∧ I k' fr' H' ∧ AtB n B K H μ w H' fr' a a' w') ∨ (e ≠ .normal ∧ Q e a' w')) fun e fr' H' a' w' hp ha => ?_) ?_
      · cases e with
        | normal =>
          obtain ⟨k', hk, hI'⟩ := hp
          exact .inl ⟨rfl, k', fr', H', hk, hI', ha⟩
        | exit id => exact .inr ⟨by simp [Ex.ex], hQ (.exit id) _ _ _ _ hp ha⟩
        | ret => exact .inr ⟨by simp [Ex.ex], hQ .ret _ _ _ _ hp ha⟩
      · rintro e a' w' (⟨rfl, k', fr', H', hk, hI', ha⟩ | ⟨hne, hq⟩)
        · obtain ⟨μ', k1, k2, k3, k4⟩ := ha.of
          exact ih k' fr' H' (by omega) hI' μ' w' a' k1 k3 Q fun e'' fr'' H'' a'' w'' hp' ha' => hQ _ _ _ _ _ hp' (AtB.trans k2 k4 ha')
        · cases e <;> first | exact absurd rfl hne | exact hq
  intro k fr H hI μ w a hg hf Q hQ
  exact wp_loop_rounds (k + 1) (key (k + 1) k fr H (by omega) hI μ w a hg hf Q hQ)
/-- a function, from its code: what it gives is told by its results' frame -/
theorem GoesB.call {f : FuncId} {fn : Func} {c : Code} (hf : P.funcs[f]? = some fn) (hb : fn.body = some c) (hname : (fn.name == "runtime.NumGoroutine") = false) {args : List AV} {H : T ABk} {V : AV → T ABk → Prop}
    (h : GoesB P c fn.ntmps B K K' (frameOf args 0 .e) H fun e fr' H' => (e = .ret ∨ e = .normal) ∧ ∃ vs g', resultsA P fr' fn.results.toList ⟨H', K', [], [], True⟩ = .done vs g' ∧ g'.cs ∧ V (packA vs) H')
    (μ : MM) (w : World) {cargs : Array Value} (hg : GOk K μ w.heap H) (ha : Reps K μ args cargs.toList) :
    CF P f cargs w fun cv w' => ∃ v μ' H', V v H' ∧ Rep K' μ' v cv ∧ GOk K' μ' w'.heap H' ∧ ExtB B H μ w H' μ' w' := by
  refine .inr ⟨f, cargs, w, run_enter hf hname hb cargs w, calls_of_wp hf hb (h μ w _ hg (FrOk.start ha fn.ntmps) _ fun e fr' H' a' w' hp hA => ?_)⟩
  obtain ⟨he, vs, g', hr, hcs, hV⟩ := hp
  obtain ⟨μ', k1, k2, k3, k4⟩ := hA.of
  obtain ⟨kk, hs⟩ := resultsA_sound hr
  obtain ⟨cs, e1, hvs⟩ := hs hcs μ' w' a'.tmps _ k1 k3
  obtain ⟨cv, e2, hcv⟩ := results_run e1 hvs
  have post : a'.defers = [] ∧ ∃ x, (results fn a'.tmps).run P w' = .ok x w' ∧ ∃ c0, Ending.returned x = .returned c0 ∧ ∃ v μ' H', V v H' ∧ Rep K' μ' v c0 ∧ GOk K' μ' w'.heap H' ∧ ExtB B H μ w H' μ' w' :=
    ⟨k4, cv, e2, cv, rfl, _, μ', H', hV, hcv, k1, k2⟩
  rcases he with rfl | rfl
  · exact post
  · exact post
end

/-! ### views of slices that are read -/
theorem RC_view {N : Nat} {μ : MM} {hp : Array Obj} {a : AA} {own : Bool} {esz sz n m : Nat} {c : Cont} (hb : BkOk N μ hp a.g (.cells own sz n c)) (he : 0 < esz) (hr : RC a esz sz n m) {μ' : MM} {i N' : Nat}
    (e1 : μ'.blk i = μ.blk a.g) (e2 : μ'.sz i = esz) (e3 : μ'.base i = μ.base a.g + a.i * sz + a.o) (hbare : ∀ j, j < m → ∀ v, v ∈ rowsOf a esz sz c j → v.low 0 = true) :
    BkOk N' μ' hp i (.cells false esz m (.fn (rowsOf a esz sz c))) := by
  refine ⟨e2, he, fun h => ?_⟩
  have hm : 0 < m := by
    rcases h with h | ⟨h, _⟩
    · exact h
    · cases h
  obtain ⟨cur, ty, fz, h1, h2, h3⟩ := rowsOf_ok hb he hr hm
  refine ⟨cur, ty, fz, by rw [e1]; exact h1, by rw [e3]; exact h2, fun h => (by cases h), fun j hj => ⟨(h3 j hj).1, fun o v hv => ?_⟩⟩
  obtain ⟨k1, cv, k2, k3⟩ := (h3 j hj).2 o v hv
  rw [e3]
  exact ⟨k1, cv, k2, k3.bare (hbare j hj v (List.mem_of_getElem? hv))⟩
end Go.Sx
