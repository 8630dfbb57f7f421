/- WHAT IS KNOWN BEFOREHAND: functions that read slices, and give plain values or new slices: from their code in a small heap of views. -/
import Derived.Test.YtehhljcjdiokjaaSyP
set_option linter.unusedSimpArgs false
set_option linter.unusedVariables false
noncomputable section
namespace Go.Sx
open M

/-- told in other words -/
def AV.ge (u v : AV) : Prop := ∀ N μ cv, Rep N μ u cv → Rep N μ v cv
/-- a slice that is read: its element's cells, its length, its rows -/
structure Vw where
  x : AV
  esz : Nat
  len : Nat
  rows : Nat → List AV
def Vw.bk (v : Vw) : ABk := .cells false v.esz v.len (.fn v.rows)
def slcV (i len : Nat) : AV := .slc true false ⟨false, i, 0, 0⟩ len
def locBlk (μ : MM) : AV → Nat
  | .slc _ _ a _ => μ.blk a.g
  | _ => 0
def locBase (μ : MM) : AV → Nat
  | .slc _ _ a _ => μ.base a.g + a.i * μ.sz a.g + a.o
  | _ => 0
def vwMM (μ : MM) (l : List Vw) : MM :=
  ⟨fun i => (l[i]?).elim 0 fun v => locBlk μ v.x, fun _ => 0, fun i => (l[i]?).elim 0 fun v => v.esz, fun i => (l[i]?).elim 0 fun v => locBase μ v.x⟩
def vwL : List Vw → Nat → List (Nat × ABk)
  | [], _ => []
  | v :: l, i => (i, v.bk) :: vwL l (i + 1)
theorem vwL_mem : ∀ {l : List Vw} {i : Nat} {p : Nat × ABk}, p ∈ vwL l i → ∃ j v, l[j]? = some v ∧ p = (i + j, v.bk)
  | [], i, p, h => by cases h
  | v :: l, i, p, h => by
    rcases List.mem_cons.1 h with rfl | h
    · exact ⟨0, v, rfl, rfl⟩
    · obtain ⟨j, u, h1, rfl⟩ := vwL_mem h
      exact ⟨j + 1, u, by simpa using h1, by rw [show i + 1 + j = i + (j + 1) by omega]⟩
/-- it may be so read, there and then -/
structure Vw.Ok (v : Vw) (g : G) : Prop where
  pos : 0 < v.esz
  bare : ∀ j, j < v.len → ∀ u, u ∈ v.rows j → u.low 0 = true
  view : ∀ N μ (w : World), GOk N μ w.heap g.H → ∀ (μ' : MM) (i N' : Nat), μ'.blk i = locBlk μ v.x → μ'.sz i = v.esz → μ'.base i = locBase μ v.x → BkOk N' μ' w.heap i v.bk
  val : ∀ N μ c, Rep N μ v.x c → ∀ (μ' : MM) (i N' : Nat), i < N' → μ'.blk i = locBlk μ v.x → μ'.sz i = v.esz → μ'.base i = locBase μ v.x → Rep N' μ' (slcV i v.len) c
theorem Vw.Ok.of {x : AV} {esz : Nat} {y : Bool × Nat × (Nat → List AV)} {g g' : G} (h : srcOf esz x g = .done y g') (he : 0 < esz) :
    ∃ p, Keep g g' p ∧ (p → (∀ j, j < y.2.1 → ∀ u, u ∈ y.2.2 j → u.low 0 = true) → Vw.Ok ⟨x, esz, y.2.1, y.2.2⟩ g) := by
  unfold srcOf at h
  split at h
  · obtain ⟨rfl, rfl⟩ := ret_done h
    refine ⟨True, Keep.refl _, fun _ hb => ⟨he, hb, fun N μ w hg μ' i N' e1 e2 e3 => ?_, fun N μ c hx μ' i N' hi e1 e2 e3 => ?_⟩⟩
    · refine ⟨e2, he, fun h => ?_⟩
      rcases h with h | ⟨h, _⟩
      · cases h
      · cases h
    · simp only [Rep] at hx
      subst hx
      simp only [slcV, Rep, RepS]
      exact ⟨hi, none, 0, rfl, Nat.le_refl _, fun h => absurd h (by omega), fun h => (by cases h), fun h => (by cases h)⟩
  · rename_i s own a len
    obtain ⟨⟨bo, sz, n, c⟩, g1, a1, h1⟩ := done_of h
    obtain ⟨hb, rfl⟩ := getC_done a1
    simp only at h1 hb
    obtain ⟨_, g2, a2, h2⟩ := done_of h1
    obtain ⟨rfl, rfl⟩ := ret_done h2
    refine ⟨_, rowsCk_done a2, fun hp hbare => ⟨he, hbare, fun N μ w hg μ' i N' e1 e2 e3 => ?_, fun N μ cx hx μ' i N' hi e1 e2 e3 => ?_⟩⟩
    · have hbk := hg.ok _ _ hb
      have hsz : μ.sz a.g = sz := hbk.1
      exact RC_view hbk he hp e1 e2 (by rw [e3]; simp only [locBase, hsz]) hbare
    · simp only [Rep] at hx
      obtain ⟨_, A, C, rfl, hlen, hA, _⟩ := hx
      simp only [slcV, Rep, RepS]
      refine ⟨hi, A, C, rfl, hlen, fun h => ?_, fun h => (by cases h), fun h => (by cases h)⟩
      rw [hA h]
      simp only [MM.addr, e1, e3, locBlk, locBase, Nat.zero_mul, Nat.add_zero]
  · exact (no_done h).elim
theorem vw_gok {l : List Vw} {g : G} (h : ∀ v ∈ l, v.Ok g) {N : Nat} {μ : MM} {w : World} (hg : GOk N μ w.heap g.H) : GOk l.length (vwMM μ l) w.heap (hpL (vwL l 0)) where
  lt := fun i b hb => by
    obtain ⟨j, v, h1, h2⟩ := vwL_mem (hpL_get hb)
    cases h2
    have := (List.getElem?_eq_some_iff.1 h1).1
    omega
  ok := fun i b hb => by
    obtain ⟨j, v, h1, h2⟩ := vwL_mem (hpL_get hb)
    cases h2
    rw [Nat.zero_add]
    refine (h v (List.mem_of_getElem? h1)).view N μ w hg _ j _ ?_ ?_ ?_ <;> simp [vwMM, h1]
  sep := fun i b j b' hi hj ho => by
    obtain ⟨k, v, h1, h2⟩ := vwL_mem (hpL_get hi)
    cases h2
    cases ho
theorem vw_may {l : List Vw} {μ : MM} {B : Nat} : ¬ May μ (hpL (vwL l 0)) B := by
  rintro ⟨i, b, hb, ho, _⟩
  obtain ⟨j, v, h1, h2⟩ := vwL_mem (hpL_get hb)
  cases h2
  cases ho
theorem vw_val {l : List Vw} {g : G} {i : Nat} {v : Vw} (h : v.Ok g) (hi : l[i]? = some v) {N : Nat} {μ : MM} {c : Value} (hx : Rep N μ v.x c) : Rep l.length (vwMM μ l) (slcV i v.len) c :=
  h.val N μ c hx _ i _ (List.getElem?_eq_some_iff.1 hi).1 (by simp [vwMM, hi]) (by simp [vwMM, hi]) (by simp [vwMM, hi])

/-! ### new blocks -/
def putNew (H : T ABk) : Nat → List ABk → T ABk
  | _, [] => H
  | i, b :: l => putNew (H.upd i (some b)) (i + 1) l
theorem putNew_get : ∀ (l : List ABk) (H : T ABk) (i j : Nat), (putNew H i l).get j = if i ≤ j ∧ j < i + l.length then l[j - i]? else H.get j
  | [], H, i, j => by
    rw [if_neg (by simp)]; rfl
  | b :: l, H, i, j => by
    simp only [putNew, putNew_get l, T.get_upd, List.length_cons]
    by_cases h1 : j = i
    · subst h1; simp; omega
    · by_cases h2 : i + 1 ≤ j ∧ j < i + 1 + l.length
      · rw [if_pos h2, if_pos (by omega), show j - i = (j - (i + 1)) + 1 by omega, List.getElem?_cons_succ]
      · rw [if_neg h2, if_neg h1, if_neg (by omega)]
/-- the new names, where the small heap has them -/
def newMM (μ μ' : MM) (N : Nat) (nms : List Nat) : MM :=
  ⟨fun i => if i < N then μ.blk i else μ'.blk (nms.getD (i - N) 0), fun i => if i < N then μ.cap i else μ'.cap (nms.getD (i - N) 0), fun i => if i < N then μ.sz i else μ'.sz (nms.getD (i - N) 0), fun i => if i < N then μ.base i else μ'.base (nms.getD (i - N) 0)⟩
theorem newMM_lt {μ μ' : MM} {N : Nat} {nms : List Nat} : MM.upto N μ (newMM μ μ' N nms) := ⟨fun g hg => if_pos hg, fun g hg => if_pos hg, fun g hg => if_pos hg, fun g hg => if_pos hg⟩
theorem newMM_ge {μ μ' : MM} {N : Nat} {nms : List Nat} {i : Nat} (h : N ≤ i) : AtN (μ'.via fun i => nms.getD (i - N) 0) (newMM μ μ' N nms) i :=
  ⟨if_neg (by omega), if_neg (by omega), if_neg (by omega), if_neg (by omega)⟩
structure News (H' : T ABk) (nms : List Nat) (bs : List ABk) : Prop where
  len : nms.length = bs.length
  at' : ∀ (i : Nat) (b : ABk), bs[i]? = some b → ∃ nm b0, nms[i]? = some nm ∧ H'.get nm = some b0 ∧ SameC b0 b ∧ b.owned = true ∧ b.bare
  nodup : nms.Nodup
theorem news_ok {g : G} {μ : MM} {w w' : World} (hg : GOk g.nx μ w.heap g.H) {k K' : Nat} {Hc H' : T ABk} {μc μ' : MM} (hno : ∀ B, ¬ May μc Hc B) (hE : ExtB k Hc μc w H' μ' w') (hc : GOk K' μ' w'.heap H') {nms : List Nat} {bs : List ABk} (hn : News H' nms bs)
    {g' : G} (h1 : g'.H = putNew g.H g.nx bs) (h2 : g'.nx = g.nx + bs.length) :
    GOk g'.nx (newMM μ μ' g.nx nms) w'.heap g'.H ∧ Ext g μ w g' (newMM μ μ' g.nx nms) w' := by
  have old : ∀ B, B < w.heap.size → w'.heap[B]? = w.heap[B]? := fun B hB => hE.block B hB (hno B)
  have case : ∀ i b, g'.H.get i = some b → (i < g.nx ∧ g.H.get i = some b) ∨ ∃ j nm b0, i = g.nx + j ∧ bs[j]? = some b ∧ nms[j]? = some nm ∧ H'.get nm = some b0 ∧ SameC b0 b ∧ b.owned = true ∧ b.bare := fun i b hb => by
    rw [h1, putNew_get] at hb
    split at hb
    · rename_i hi
      obtain ⟨nm, b0, k1, k2, k3, k4, k5⟩ := hn.at' _ _ hb
      exact .inr ⟨i - g.nx, nm, b0, by omega, hb, k1, k2, k3, k4, k5⟩
    · exact .inl ⟨hg.lt _ _ hb, hb⟩
  have nmv : ∀ j nm, nms[j]? = some nm → nms.getD (g.nx + j - g.nx) 0 = nm := fun j nm h => by
    rw [show g.nx + j - g.nx = j by omega, List.getD_eq_getElem?_getD, h]; rfl
  have eqs : ∀ j nm, nms[j]? = some nm → (newMM μ μ' g.nx nms).blk (g.nx + j) = μ'.blk nm ∧ (newMM μ μ' g.nx nms).cap (g.nx + j) = μ'.cap nm ∧ (newMM μ μ' g.nx nms).sz (g.nx + j) = μ'.sz nm ∧ (newMM μ μ' g.nx nms).base (g.nx + j) = μ'.base nm := fun j nm h => by
    have hge : ¬ g.nx + j < g.nx := by omega
    refine ⟨?_, ?_, ?_, ?_⟩ <;> simp only [newMM, if_neg hge, nmv j nm h]
  have high : ∀ j nm b0 b, nms[j]? = some nm → H'.get nm = some b0 → SameC b0 b → b.owned = true → b.real (newMM μ μ' g.nx nms) (g.nx + j) → w.heap.size ≤ (newMM μ μ' g.nx nms).blk (g.nx + j) := fun j nm b0 b e1 e2 e3 e4 e5 => by
    obtain ⟨q1, q2, q3, q4⟩ := eqs j nm e1
    rw [q1]
    refine Nat.le_of_not_lt fun hlt => hno _ (hE.may _ hlt ⟨nm, b0, e2, by rw [e3.owned]; exact e4, (e3.real _ _).2 ((ABk.real_eq q2 b).1 e5), rfl⟩)
  constructor
  · refine ⟨fun i b hb => ?_, fun i b hb => ?_, fun i b j b' hi hj ho hr hr' he => ?_⟩
    · rw [h2]
      rcases case i b hb with ⟨h, _⟩ | ⟨j, nm, b0, rfl, h, _⟩
      · omega
      · have := (List.getElem?_eq_some_iff.1 h).1; omega
    · rcases case i b hb with ⟨h, hb'⟩ | ⟨j, nm, b0, rfl, e1, e2, e3, e4, e5, e6⟩
      · have ok := hg.ok _ _ hb'
        exact ok.later newMM_lt (by omega) h fun hr => old _ (ok.lt_size hr)
      · obtain ⟨q1, q2, q3, q4⟩ := eqs j nm e2
        exact (e4.ok (hc.ok _ _ e3)).bare e6 q1 q2 q3 q4
    · rcases case i b hi with ⟨hlt, hb1⟩ | ⟨i1, nm, b0, rfl, e1, e2, e3, e4, e5, e6⟩
      · rw [ABk.real_later newMM_lt hlt] at hr
        rw [newMM_lt.blk i hlt] at he
        rcases case j b' hj with ⟨hlt', hb2⟩ | ⟨j1, nm', b0', rfl, e1', e2', e3', e4', e5', e6'⟩
        · rw [ABk.real_later newMM_lt hlt'] at hr'
          rw [newMM_lt.blk j hlt'] at he
          exact hg.sep _ _ _ _ hb1 hb2 ho hr hr' he
        · have := high j1 nm' b0' b' e2' e3' e4' e5' hr'
          have := (hg.ok _ _ hb1).lt_size hr
          omega
      · rcases case j b' hj with ⟨hlt', hb2⟩ | ⟨j1, nm', b0', rfl, e1', e2', e3', e4', e5', e6'⟩
        · rw [ABk.real_later newMM_lt hlt'] at hr'
          rw [newMM_lt.blk j hlt'] at he
          have := high i1 nm b0 b e2 e3 e4 e5 hr
          have := (hg.ok _ _ hb2).lt_size hr'
          omega
        · obtain ⟨q1, q2, _⟩ := eqs i1 nm e2
          obtain ⟨q1', q2', _⟩ := eqs j1 nm' e2'
          have e : nm = nm' := hc.sep _ _ _ _ e3 e3' (by rw [e4.owned]; exact e5) ((e4.real _ _).2 ((ABk.real_eq q2 b).1 hr)) ((e4'.real _ _).2 ((ABk.real_eq q2' b').1 hr')) (by rw [← q1, ← q1']; exact he)
          subst e
          have hi1 := (List.getElem?_eq_some_iff.1 e2).1
          have : i1 = j1 := (List.getElem?_inj hi1 hn.nodup).1 (e2.trans e2'.symm)
          rw [this]
  · refine ⟨by omega, newMM_lt, hE.os, hE.tape, hE.output, hE.size, fun B hB _ => old B hB, fun B hB hm => ?_⟩
    obtain ⟨i, b, m1, m2, m3, m4⟩ := hm
    rcases case i b m1 with ⟨hlt, hb1⟩ | ⟨j, nm, b0, rfl, e1, e2, e3, e4, e5, e6⟩
    · rw [ABk.real_later newMM_lt hlt] at m3
      rw [newMM_lt.blk i hlt] at m4
      exact ⟨i, b, hb1, m2, m3, m4⟩
    · have := high j nm b0 b e2 e3 e4 e5 m3
      omega
theorem news_rep {μ μ' : MM} {N K' : Nat} {nms : List Nat} {v : AV} {c : Value} {M : Nat} (h : Rep K' μ' (v.ren fun i => nms.getD (i - N) 0) c) (hl : v.low M = true) (hS : v.inS fun i => N ≤ i) : Rep M (newMM μ μ' N nms) v c := by
  have h1 := h.unren hl
  exact h1.on (S := fun i => N ≤ i) (fun i hi hlt => ⟨hlt, newMM_ge hi⟩) hS
/-- an entry: slices are read, new slices and plain values given -/
theorem reads {P : Program} {f : FuncId} {fn : Func} {c : Code} (hf : P.funcs[f]? = some fn) (hb : fn.body = some c) (hname : (fn.name == "runtime.NumGoroutine") = false) {K' : Nat} {args argsC : List AV} {g g1 g' : G} {p : Prop} (kp : Keep g g1 p)
    (l : List Vw) (hl : p → ∀ v ∈ l, v.Ok g) (hargs : p → ∀ N μ (cs : List Value), Reps N μ args cs → Reps l.length (vwMM μ l) argsC cs)
    {nms : List Nat} {bs : List ABk} {v : AV}
    (h : p → GoesB P c fn.ntmps l.length l.length K' (frameOf argsC 0 .e) (hpL (vwL l 0)) fun e fr' H' => (e = .ret ∨ e = .normal) ∧ ∃ vs gr, resultsA P fr' fn.results.toList ⟨H', K', [], [], True⟩ = .done vs gr ∧ gr.cs ∧ AV.ge (packA vs) (v.ren (fun i => nms.getD (i - g.nx) 0)) ∧ News H' nms bs)
    (hv : v.low (g.nx + bs.length) = true) (hS : v.inS fun i => g.nx ≤ i) (h1 : g'.H = putNew g.H g.nx bs) (h2 : g'.nx = g.nx + bs.length) (h3 : g'.cs → g1.cs) : CallIs P f args v g g' := by
  refine ⟨fun hc => (kp.2.2 (h3 hc)).1, fun hcs μ w cargs hg ha => ?_⟩
  have hp := (kp.2.2 (h3 hcs)).2
  refine (GoesB.call hf hb hname (V := fun u H' => AV.ge u (v.ren (fun i => nms.getD (i - g.nx) 0)) ∧ News H' nms bs) ((h hp).mono fun e fr' H' ⟨k1, vs, gr, k2, k3, k4, k5⟩ => ⟨k1, vs, gr, k2, k3, k4, k5⟩) (vwMM μ l) w (vw_gok (hl hp) hg) (hargs hp _ _ _ ha)).mono ?_
  rintro cv w' ⟨u, μ', H', ⟨hge, hN⟩, hrep, hgk, hE⟩
  obtain ⟨q1, q2⟩ := news_ok hg (fun B => vw_may) hE hgk hN h1 h2
  refine ⟨newMM μ μ' g.nx nms, ?_, q1, q2⟩
  rw [h2]
  exact news_rep (hge _ _ _ hrep) hv hS
end Go.Sx
