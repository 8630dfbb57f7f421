/- LAWS THAT ARE HANDED SLICES; what is known, entry by entry; blocks that are none. -/
import Derived.Test.YtehhljcjdiokjaaSyS
set_option linter.unusedSimpArgs false
set_option linter.unusedVariables false
noncomputable section
namespace Go.Sx
open M

/-! ### what is known, entry by entry -/
def kn : Known := fun _ => none
def kc (i : Nat) (s : List AV → M AV) (γ : Known) : Known := fun f => bif Nat.beq f i then some s else γ f
theorem kn_ok {P : Program} : KnownOk P kn := fun f s h => by cases h
theorem kn_tch : KnownT kn := fun f s h => by cases h
theorem kc_ok {P : Program} {i : Nat} {s : List AV → M AV} {γ : Known} (h : ∀ args v g g', s args g = .done v g' → CallIs P i args v g g') (k : KnownOk P γ) : KnownOk P (kc i s γ) := fun f s' hs => by
  unfold kc at hs
  cases h1 : Nat.beq f i with
  | true => rw [h1] at hs; cases hs; cases Nat.eq_of_beq_eq_true h1; exact h
  | false => rw [h1] at hs; exact k f s' hs
theorem kc_tch {i : Nat} {s : List AV → M AV} {γ : Known} (h : ∀ args, Tch (s args)) (k : KnownT γ) : KnownT (kc i s γ) := fun f s' hs => by
  unfold kc at hs
  cases h1 : Nat.beq f i with
  | true => rw [h1] at hs; cases hs; exact h
  | false => rw [h1] at hs; exact k f s' hs

theorem feq_selfc {x : Nat} (hx : x < 18446744073709551616) : feq (cn x) (cn x) = !isnan x := by
  have e : feq (cn x) (cn x) = feq x x := by unfold feq; rw [forder_cn]
  rw [e, feq_rk hx hx]
  cases isnan x <;> simp
/-! ### runs, told shortly -/
theorem eqq {v : AV} {r : Res AV} {q : Prop} (e : pureP v r = (v = v ∧ q)) (h : q) : PureP v r := ⟨by rw [e]; exact ⟨rfl, h⟩⟩
def selfW : List (Nat × AV) → Prop
  | [] => True
  | p :: l => some p.2 = some p.2 ∧ selfW l
theorem selfW_ok : ∀ l, selfW l
  | [] => trivial
  | _ :: l => ⟨rfl, selfW_ok l⟩
def selfH : List (Nat × ABk) → Prop
  | [] => True
  | p :: l => some p.2 = some p.2 ∧ selfH l
theorem selfH_ok : ∀ l, selfH l
  | [] => trivial
  | _ :: l => ⟨rfl, selfH_ok l⟩
theorem eqn {K' : Nat} {e : Ex} {fl : List (Nat × AV)} {bl : List (Nat × ABk)} {r : Res (Ex × Fr)} {q : Prop} (h : pieceN K' e fl bl r = (e = e ∧ selfW fl ∧ selfH bl ∧ true = true ∧ q)) (hq : q) : PieceN K' e fl bl r :=
  ⟨by rw [h]; exact ⟨rfl, selfW_ok _, selfH_ok _, rfl, hq⟩⟩

/-! ### a law's start: slices that are read -/
structure Gv where
  esz : Nat
  len : Nat
  blk : Nat
  base : Nat
  rows : Nat → List AV
def Gv.bk (v : Gv) : ABk := .cells false v.esz v.len (.fn v.rows)
def gvMM (l : List Gv) : MM :=
  ⟨fun i => (l[i]?).elim 0 (·.blk), fun _ => 0, fun i => (l[i]?).elim 0 (·.esz), fun i => (l[i]?).elim 0 (·.base)⟩
def gvL : List Gv → Nat → List (Nat × ABk)
  | [], _ => []
  | v :: l, i => (i, v.bk) :: gvL l (i + 1)
theorem gvL_mem : ∀ {l : List Gv} {i : Nat} {p : Nat × ABk}, p ∈ gvL l i → ∃ j v, l[j]? = some v ∧ p = (i + j, v.bk)
  | [], i, p, h => by cases h
  | v :: l, i, p, h => by
    rcases List.mem_cons.1 h with rfl | h
    · exact ⟨0, v, rfl, rfl⟩
    · obtain ⟨j, u, h1, rfl⟩ := gvL_mem h
      exact ⟨j + 1, u, by simpa using h1, by rw [show i + 1 + j = i + (j + 1) by omega]⟩
theorem gv_gok {l : List Gv} {hp : Array Obj} (h : ∀ i v, l[i]? = some v → ∀ (μ : MM) (N : Nat), μ.blk i = v.blk → μ.base i = v.base → μ.sz i = v.esz → BkOk N μ hp i v.bk) : GOk l.length (gvMM l) hp (hpL (gvL l 0)) where
  lt := fun i b hb => by
    obtain ⟨j, v, h1, h2⟩ := gvL_mem (hpL_get hb)
    cases h2
    have := (List.getElem?_eq_some_iff.1 h1).1
    omega
  ok := fun i b hb => by
    obtain ⟨j, v, h1, h2⟩ := gvL_mem (hpL_get hb)
    cases h2
    rw [Nat.zero_add]
    refine h j v h1 _ _ ?_ ?_ ?_ <;> simp [gvMM, h1]
  sep := fun i b j b' hi hj ho => by
    obtain ⟨k, v, h1, h2⟩ := gvL_mem (hpL_get hi)
    cases h2
    cases ho
theorem gv_may {l : List Gv} {μ : MM} {B : Nat} : ¬ May μ (hpL (gvL l 0)) B := by
  rintro ⟨i, b, hb, ho, _⟩
  obtain ⟨j, v, h1, h2⟩ := gvL_mem (hpL_get hb)
  cases h2
  cases ho
/-- the start of a run along a road, these blocks in memory -/
def G.of (bl : List (Nat × ABk)) (K : Nat) (path : List Bool) : G := ⟨hpL bl, K, [], path, True⟩
theorem heap_true {P : Program} {call : Calls'} (hcall : CallOk P call) {f : FuncId} {fn : Func} {c : Code} (hf : P.funcs[f]? = some fn) (hb : fn.body = some c) (hname : (fn.name == "runtime.NumGoroutine") = false) {args : List AV} {bl : List (Nat × ABk)} {K : Nat} {path : List Bool} {v : AV}
    (h : PureP v (call f args (G.of bl K path))) (hv : v.low 0 = true) (ht : ∀ c, (∀ N μ, Rep N μ v c) → c = .bool true) {μ : MM} {w : World} (hg : GOk K μ w.heap (hpL bl)) (hno : ∀ B, ¬ May μ (hpL bl) B) {cargs : Array Value} (ha : Reps K μ args cargs.toList) :
    Calls P f cargs w fun e w' => e = .returned (.bool true) ∧ RowKit.Below w.heap.size w w' := by
  have h := h.of
  unfold pureP at h
  split at h
  · rename_i v' g hr
    obtain ⟨rfl, hcs⟩ := h
    obtain ⟨_, hs⟩ := hcall _ _ _ _ _ hr
    have main : ∀ c w', After (G.of bl K path) μ w g v' c w' → c = .bool true ∧ RowKit.Below w.heap.size w w' := by
      rintro c w' ⟨μ', hv', _, hE⟩
      refine ⟨ht c fun N μ2 => ?_, hE.os, hE.tape, hE.output, hE.size, fun k hk => hE.block k hk (hno k)⟩
      have h1 : Rep 0 μ2 v' c := Rep.ofLow ⟨fun g hg => by omega, fun g hg => by omega, fun g hg => by omega, fun g hg => by omega⟩ hv hv'
      exact h1.later (.refl _ _) (Nat.zero_le _)
    rcases hs hcs μ w cargs hg ha with ⟨cv, w', e, _⟩ | ⟨f', args', w', e, hc⟩
    · rw [run_enter hf hname hb] at e; cases e
    · rw [run_enter hf hname hb] at e
      cases e
      refine hc.mono ?_
      rintro e1 w1 ⟨cv, rfl, h1⟩
      obtain ⟨h2, h3⟩ := main cv w1 h1
      exact ⟨by rw [h2], h3⟩
  · exact h.elim

/-! ### a slice that is nil, told as one of no room -/
section
variable {P : Program} {n B K K' : Nat}
def MM.at (μ : MM) (K esz : Nat) : MM :=
  ⟨fun i => if i = K then 0 else μ.blk i, fun i => if i = K then 0 else μ.cap i, fun i => if i = K then esz else μ.sz i, fun i => if i = K then 0 else μ.base i⟩
theorem MM.at_upto (μ : MM) (K esz : Nat) : MM.upto K μ (μ.at K esz) := ⟨fun g hg => if_neg (by omega), fun g hg => if_neg (by omega), fun g hg => if_neg (by omega), fun g hg => if_neg (by omega)⟩
def noSlc (K : Nat) : AV := .slc true true ⟨false, K, 0, 0⟩ 0
theorem GoesB.phantom {c : Code} {fr : Fr} {H : T ABk} {Post : Po} (t esz : Nat) (rows : Nat → List AV) (ht : fr.get t = some .nils) (hpos : 0 < esz) (hB : B ≤ K)
    (h : GoesB P c n B (K + 1) K' (fr.upd t (some (noSlc K))) (H.upd K (some (.cells true esz 0 (.fn rows)))) Post) : GoesB P c n B K K' fr H Post := by
  intro μ w a hg hf Q hQ
  have hu := MM.at_upto μ K esz
  have case : ∀ i b, (H.upd K (some (.cells true esz 0 (.fn rows)))).get i = some b → (i = K ∧ b = .cells true esz 0 (.fn rows)) ∨ (i < K ∧ H.get i = some b) := fun i b hb => by
    rw [T.get_upd] at hb
    split at hb
    · cases hb; exact .inl ⟨‹_›, rfl⟩
    · exact .inr ⟨hg.lt _ _ hb, hb⟩
  have unreal : ∀ b, b = ABk.cells true esz 0 (.fn rows) → ¬ b.real (μ.at K esz) K := by
    rintro b rfl hr
    simp [ABk.real, MM.at] at hr
  have may : ∀ b, May (μ.at K esz) (H.upd K (some (.cells true esz 0 (.fn rows)))) b → May μ H b := by
    rintro b ⟨i, x, m1, m2, m3, m4⟩
    rcases case i x m1 with ⟨rfl, rfl⟩ | ⟨hi, hx⟩
    · exact (unreal _ rfl m3).elim
    · rw [ABk.real_later hu hi] at m3
      rw [hu.blk i hi] at m4
      exact ⟨i, x, hx, m2, m3, m4⟩
  have may' : ∀ b, May μ H b → May (μ.at K esz) (H.upd K (some (.cells true esz 0 (.fn rows)))) b := by
    rintro b ⟨i, x, m1, m2, m3, m4⟩
    have hi := hg.lt _ _ m1
    refine ⟨i, x, ?_, m2, (ABk.real_later hu hi x).2 m3, by rw [hu.blk i hi]; exact m4⟩
    rw [T.get_upd, if_neg (by omega)]; exact m1
  have hE : ExtB B H μ w (H.upd K (some (.cells true esz 0 (.fn rows)))) (μ.at K esz) w := ⟨hu.mono hB, rfl, rfl, rfl, Nat.le_refl _, fun b _ _ => rfl, fun b _ hm => may b hm⟩
  refine h (μ.at K esz) w a ⟨fun i b hb => ?_, fun i b hb => ?_, fun i b j b' hi hj ho hr hr' he => ?_⟩ ⟨hf.size, fun t' v hv => ?_⟩ Q fun e fr' H' a' w' hp ha => hQ e fr' H' a' w' hp (AtB.trans hE rfl ha)
  · rcases case i b hb with ⟨rfl, _⟩ | ⟨hi, _⟩ <;> omega
  · rcases case i b hb with ⟨rfl, rfl⟩ | ⟨hi, hx⟩
    · refine ⟨by simp [MM.at], hpos, fun hr => ?_⟩
      simp [MM.at] at hr
    · exact (hg.ok i b hx).later hu (by omega) hi fun _ => rfl
  · rcases case i b hi with ⟨rfl, rfl⟩ | ⟨hi1, hx⟩
    · exact (unreal _ rfl hr).elim
    · rcases case j b' hj with ⟨rfl, rfl⟩ | ⟨hj1, hy⟩
      · exact (unreal _ rfl hr').elim
      · rw [ABk.real_later hu hi1] at hr
        rw [ABk.real_later hu hj1] at hr'
        rw [hu.blk i hi1, hu.blk j hj1] at he
        exact hg.sep _ _ _ _ hx hy ho hr hr' he
  · rw [T.get_upd] at hv
    split at hv
    · rename_i htt
      cases hv
      have := hf.val t .nils ht
      rw [htt]
      simp only [Rep] at this
      rw [this]
      simp only [noSlc, Rep]
      exact ⟨by omega, none, 0, rfl, Nat.le_refl _, fun h => absurd h (by omega), fun h => (by cases h), fun _ => ⟨rfl, rfl, .inl ⟨rfl, rfl, rfl⟩⟩⟩
    · exact (hf.val t' v hv).later hu (by omega)
/-! ### rows told in other words -/
def RowGe : List AV → List AV → Prop
  | [], [] => True
  | u :: l, v :: l' => AV.ge u v ∧ v.one = true ∧ RowGe l l'
  | _, _ => False
theorem RowGe.length : ∀ {r r' : List AV}, RowGe r r' → r'.length = r.length
  | [], [], _ => rfl
  | u :: l, v :: l', h => by simp [RowGe.length h.2.2]
  | [], _ :: _, h => h.elim
  | _ :: _, [], h => h.elim
theorem RowGe.get : ∀ {r r' : List AV}, RowGe r r' → ∀ {o : Nat} {v : AV}, r'[o]? = some v → ∃ u, r[o]? = some u ∧ AV.ge u v ∧ v.one = true
  | [], [], _, o, v, hv => by simp at hv
  | u :: l, w :: l', h, o, v, hv => by
    cases o with
    | zero => simp at hv; subst hv; exact ⟨u, rfl, h.1, h.2.1⟩
    | succ o => simpa using RowGe.get h.2.2 (by simpa using hv)
  | [], _ :: _, h, _, _, _ => h.elim
  | _ :: _, [], h, _, _, _ => h.elim
def SameG : ABk → ABk → Prop
  | .cells own sz m c, .cells own' sz' m' c' => own = own' ∧ sz = sz' ∧ m = m' ∧ ∀ i, i < m → RowGe (c.row i) (c'.row i)
  | b, b' => b = b'
theorem SameG.owned {b b' : ABk} (h : SameG b b') : b.owned = b'.owned := by
  cases b <;> cases b' <;> simp_all [SameG, ABk.owned]
theorem SameG.real {b b' : ABk} (h : SameG b b') (μ : MM) (g : Nat) : b.real μ g ↔ b'.real μ g := by
  cases b <;> cases b' <;> simp_all [SameG, ABk.real]
theorem SameG.ok {N : Nat} {μ : MM} {hp : Array Obj} {g : Nat} {b b' : ABk} (h : SameG b b') (k : BkOk N μ hp g b) : BkOk N μ hp g b' := by
  cases b with
  | cells own sz m c =>
    cases b' with
    | cells own' sz' m' c' =>
      obtain ⟨rfl, rfl, rfl, hr⟩ := h
      refine ⟨k.1, k.2.1, fun hh => ?_⟩
      obtain ⟨cur, ty, fz, h1, h2, h3, h4⟩ := k.2.2 hh
      refine ⟨cur, ty, fz, h1, h2, h3, fun i hi => ⟨(hr i hi).length.trans (h4 i hi).1, fun o v hv => ?_⟩⟩
      obtain ⟨u, e1, e2, e3⟩ := (hr i hi).get hv
      obtain ⟨_, cv, e4, e5⟩ := (h4 i hi).2 o u e1
      exact ⟨e3, cv, e4, e2 _ _ _ e5⟩
    | _ => simp [SameG] at h
  | _ => cases b' <;> simp [SameG] at h <;> first | exact h ▸ k | (obtain ⟨rfl, rfl⟩ := h; exact k) | (obtain ⟨rfl, rfl, rfl⟩ := h; exact k)
theorem GoesB.weakG {c : Code} {fr fr0 : Fr} {H H0 : T ABk} {Post : Po} (hf : ∀ t v, fr0.get t = some v → ∃ u, fr.get t = some u ∧ AV.ge u v) (hH : ∀ i b, H0.get i = some b → ∃ b', H.get i = some b' ∧ SameG b' b) (h : GoesB P c n B K K' fr0 H0 Post) : GoesB P c n B K K' fr H Post := by
  intro μ w a hg hfr Q hQ
  refine h μ w a ⟨fun i b hb => let ⟨b', h1, _⟩ := hH i b hb; hg.lt i b' h1, fun i b hb => let ⟨b', h1, h2⟩ := hH i b hb; h2.ok (hg.ok i b' h1), fun i b j b' hi hj ho hr hr' he => ?_⟩
    ⟨hfr.size, fun t v ht => let ⟨u, h1, h2⟩ := hf t v ht; h2 _ _ _ (hfr.val t u h1)⟩ Q fun e fr' H' a' w' hp ha => hQ e fr' H' a' w' hp ⟨?_⟩
  · obtain ⟨b1, h1, h2⟩ := hH i b hi
    obtain ⟨b2, k1, k2⟩ := hH j b' hj
    exact hg.sep i b1 j b2 h1 k1 (by rw [h2.owned]; exact ho) ((h2.real μ i).2 hr) ((k2.real μ j).2 hr') he
  · obtain ⟨μ', k1, k2, k3, k4⟩ := ha.of
    have may : ∀ b, May μ H0 b → May μ H b := fun b ⟨i, x, m1, m2, m3, m4⟩ => by
      obtain ⟨b', h1, h2⟩ := hH i x m1
      exact ⟨i, b', h1, by rw [h2.owned]; exact m2, (h2.real μ i).2 m3, m4⟩
    exact ⟨μ', k1, ⟨k2.names, k2.os, k2.tape, k2.output, k2.size, fun b hb hn => k2.block b hb fun hm => hn (may b hm), fun b hb hm => may b (k2.may b hb hm)⟩, k3, k4⟩
def GeG (H : T ABk) : List (Nat × ABk) → Prop
  | [] => True
  | p :: l => (∃ b, H.get p.1 = some b ∧ SameG b p.2) ∧ GeG H l
theorem GeG.get {H : T ABk} : ∀ {l : List (Nat × ABk)}, GeG H l → ∀ p ∈ l, ∃ b, H.get p.1 = some b ∧ SameG b p.2
  | q :: l, h, p, hp => by
    rcases List.mem_cons.1 hp with rfl | hp
    · exact h.1
    · exact GeG.get h.2 p hp
theorem GoesB.weakGL {c : Code} {fr : Fr} {H : T ABk} {fl : List (Nat × AV)} {bl : List (Nat × ABk)} {Post : Po} (hf : Ge fr fl) (hH : GeG H bl) (h : GoesB P c n B K K' (frL fl) (hpL bl) Post) : GoesB P c n B K K' fr H Post :=
  h.weakG (fun t v ht => hf.get _ (frL_get ht)) fun i b hb => hH.get _ (hpL_get hb)
end

/-! ### what a summary reads, what it gives -/
/-- the rows of a slice, something being told of them -/
def rd (esz : Nat) (x : AV) (p : Nat → (Nat → List AV) → Prop) : M (Nat × (Nat → List AV)) :=
  (srcOf esz x).andThen fun y => (req (p y.2.1 y.2.2 ∧ ∀ j, j < y.2.1 → ∀ u, u ∈ y.2.2 j → u.low 0 = true)).andThen fun _ => ret (y.2.1, y.2.2)
theorem rd_done {esz : Nat} {x : AV} {p : Nat → (Nat → List AV) → Prop} {y : Nat × (Nat → List AV)} {g g' : G} (h : rd esz x p g = .done y g') (he : 0 < esz) :
    ∃ q, Keep g g' q ∧ (q → Vw.Ok ⟨x, esz, y.1, y.2⟩ g ∧ p y.1 y.2) := by
  unfold rd at h
  obtain ⟨z, g1, a1, h1⟩ := done_of h
  obtain ⟨_, g2, a2, h2⟩ := done_of h1
  obtain ⟨rfl, rfl⟩ := ret_done h2
  obtain ⟨q1, k1, f1⟩ := Vw.Ok.of a1 he
  have k2 := req_done a2
  exact ⟨_, k1.trans k2, fun ⟨e1, e2, e3⟩ => ⟨f1 e1 e3, e2⟩⟩
theorem Tch.rd (esz : Nat) (x : AV) (p : Nat → (Nat → List AV) → Prop) : Tch (Sx.rd esz x p) := (Tch.srcOf _ _).andThen fun _ => (Tch.req _).andThen fun _ => Tch.ret _
theorem Vw.Ok.same {v : Vw} {g g' : G} {q : Prop} (h : v.Ok g') (k : Keep g g' q) : v.Ok g :=
  ⟨h.pos, h.bare, fun N μ w hg => h.view N μ w (by rw [k.1]; exact hg), h.val⟩
/-- a new slice -/
def newS (esz len : Nat) (rows : Nat → List AV) : M AV := (newB (.cells true esz len (.fn rows))).andThen fun nm => ret (.slc true true ⟨false, nm, 0, 0⟩ len)
theorem Tch.newS (esz len : Nat) (rows : Nat → List AV) : Tch (Sx.newS esz len rows) := (Tch.newB _).andThen fun _ => Tch.ret _
theorem newS_done {esz len : Nat} {rows : Nat → List AV} {v : AV} {g g' : G} (h : newS esz len rows g = .done v g') : v = .slc true true ⟨false, g.nx, 0, 0⟩ len ∧ g'.H = putNew g.H g.nx [.cells true esz len (.fn rows)] ∧ g'.nx = g.nx + 1 ∧ g'.cs = g.cs := by
  unfold newS at h
  obtain ⟨nm, g1, a1, h1⟩ := done_of h
  obtain ⟨rfl, rfl⟩ := ret_done h1
  cases a1
  exact ⟨rfl, rfl, rfl, rfl⟩
theorem res1 {P : Program} {rs : List ResultVar} {t K : Nat} {fr : Fr} {H : T ABk} {v : AV} (e : rs = [.tmp t]) (h : fr.get t = some v) : resultsA P fr rs ⟨H, K, [], [], True⟩ = .done [v] ⟨H, K, [], [], True⟩ := by
  subst e
  simp only [resultsA, resultA, h, Option.getD_some]; rfl
theorem res2 {P : Program} {rs : List ResultVar} {t t' K : Nat} {fr : Fr} {H : T ABk} {v v' : AV} (e : rs = [.tmp t, .tmp t']) (h : fr.get t = some v) (h' : fr.get t' = some v') : resultsA P fr rs ⟨H, K, [], [], True⟩ = .done [v, v'] ⟨H, K, [], [], True⟩ := by
  subst e
  simp only [resultsA, resultA, h, h', Option.getD_some]; rfl
theorem ge_new (own : Bool) (m N len : Nat) : AV.ge (.slc true own ⟨false, m, 0, 0⟩ len) ((AV.slc true own ⟨false, N, 0, 0⟩ len).ren fun i => ([m] : List Nat).getD (i - N) 0) := by
  simp only [AV.ren, AA.ren, Nat.sub_self]
  exact AV.ge.refl _
theorem news1 {H' : T ABk} {m : Nat} {b0 b : ABk} (h : H'.get m = some b0) (hs : SameC b0 b) (ho : b.owned = true) (hb : b.bare) : News H' [m] [b] :=
  ⟨rfl, fun i x hx => by
    cases i with
    | zero => simp at hx; subst hx; exact ⟨m, b0, rfl, h, hs, ho, hb⟩
    | succ i => simp at hx, by simp⟩
theorem news0 {H' : T ABk} : News H' [] [] := ⟨rfl, fun i x hx => by simp at hx, List.nodup_nil⟩
theorem hpL_one (n : Nat) (b : ABk) : (hpL [(n, b)]).get n = some b := by
  simp [hpL, T.get_upd]
theorem AV.ge.tup2 {u v u' v' : AV} (h : AV.ge u u') (h' : AV.ge v v') : AV.ge (.tup [u, v]) (.tup [u', v']) := fun N μ cv hr => by
  simp only [Rep, Reps] at hr ⊢
  obtain ⟨cs, e, c, r, e1, h1, c', r', e2, h2, e3⟩ := hr
  exact ⟨cs, e, c, r, e1, h _ _ _ h1, c', r', e2, h' _ _ _ h2, e3⟩
end Go.Sx
