/- THE ENGINE IS SOUND, second part: writing; new blocks; append. -/
import Derived.Test.YtehhljcjdiokjaaSxC
set_option linter.unusedSimpArgs false
set_option linter.unusedVariables false
noncomputable section
namespace Go.Sx
open M

/-! ### lists -/
theorem splice_get {α : Type} (l : List α) (o : Nat) (vs : List α) (h : o + vs.length ≤ l.length) (m : Nat) :
    (l.take o ++ vs ++ l.drop (o + vs.length))[m]? = if m < o then l[m]? else if m < o + vs.length then vs[m - o]? else l[m]? := by
  have ht : (l.take o).length = o := by simp; omega
  by_cases h1 : m < o
  · rw [if_pos h1, List.append_assoc, List.getElem?_append_left (by omega), List.getElem?_take, if_pos h1]
  · rw [if_neg h1, List.append_assoc, List.getElem?_append_right (by omega), ht]
    by_cases h2 : m < o + vs.length
    · rw [if_pos h2, List.getElem?_append_left (by omega)]
    · rw [if_neg h2, List.getElem?_append_right (by omega), List.getElem?_drop]
      congr 1; omega
theorem splice_length (l : List AV) (o : Nat) (vs : List AV) (h : o + vs.length ≤ l.length) : (splice l o vs).length = l.length := by
  simp [splice]; omega
theorem Rep.oneCell {N : Nat} {μ : MM} {v : AV} {c : Value} (h : Rep N μ v c) (h1 : v.one = true) : c.oneCell' = true := by
  cases v <;> simp [AV.one] at h1 <;> simp only [Rep] at h
  case slc s own a len => obtain ⟨_, A, C, rfl, _⟩ := h; rfl
  case flt => obtain ⟨b, rfl, _⟩ := h; rfl
  case raw => obtain ⟨rfl, _⟩ := h; rfl
  case bits => obtain ⟨b, rfl, _⟩ := h; rfl
  case cpx => obtain ⟨a, b, rfl, _⟩ := h; rfl
  case ptr => obtain ⟨_, rfl⟩ := h; rfl
  case mp => obtain ⟨_, rfl⟩ := h; rfl
  case fn => obtain ⟨_, _, rfl, _⟩ := h; rfl
  all_goals (subst h; rfl)
theorem Rep.cells {N : Nat} {μ : MM} {v : AV} {c : Value} (h : Rep N μ v c) (h1 : v.cells.all AV.one = true) : Reps N μ v.cells c.cells.toList ∧ ∀ x ∈ c.cells.toList, x.oneCell' = true := by
  have key : ∀ {l : List AV} {cs : List Value}, Reps N μ l cs → l.all AV.one = true → ∀ x ∈ cs, x.oneCell' = true := by
    intro l cs hr ha x hx
    obtain ⟨i, hi, rfl⟩ := List.getElem_of_mem hx
    have hil : i < l.length := by rw [← hr.length]; exact hi
    obtain ⟨c', hc', hrep⟩ := hr.get (List.getElem?_eq_getElem hil)
    rw [List.getElem?_eq_getElem hi] at hc'
    cases hc'
    exact hrep.oneCell (List.all_eq_true.1 ha _ (List.getElem_mem hil))
  cases v with
  | agg l =>
    simp only [Rep] at h
    obtain ⟨cs, rfl, hr⟩ := h
    exact ⟨hr, key hr h1⟩
  | _ =>
    simp only [AV.cells, List.all_cons, List.all_nil, Bool.and_true] at h1
    have ho := h.oneCell h1
    have hc : c.cells = #[c] := by cases c <;> first | rfl | simp [Value.oneCell'] at ho
    rw [hc]
    refine ⟨by simp only [AV.cells, Reps]; exact ⟨c, [], rfl, h, rfl⟩, fun x hx => ?_⟩
    simp at hx
    subst hx; exact ho
theorem Cont.row_put (c : Cont) (i : Nat) (r : List AV) (j : Nat) : (c.put i r).row j = if j = i then r else c.row j := by
  cases c with
  | lit d t =>
    simp only [Cont.put, Cont.row, T.get_upd]
    split <;> rfl
  | fn f =>
    simp only [Cont.put, Cont.row]
    cases h : Nat.beq j i with
    | true => simp [Nat.eq_of_beq_eq_true h]
    | false => simp [Nat.ne_of_beq_eq_false h]
theorem Cont.row_more (src : Nat → List AV) (n : Nat) (c : Cont) : ∀ m j, (Cont.more src n m c).row j = if n ≤ j ∧ j < n + m then src (j - n) else c.row j
  | 0, j => by simp only [Cont.more]; rw [if_neg (by omega)]
  | m + 1, j => by
    simp only [Cont.more, Cont.row_put, Cont.row_more src n c m]
    by_cases h : j = n + m
    · subst h; rw [if_pos rfl, if_pos (by omega)]; congr 1; omega
    · rw [if_neg h]
      by_cases h2 : n ≤ j ∧ j < n + m
      · rw [if_pos h2, if_pos (by omega)]
      · rw [if_neg h2, if_neg (by omega)]

/-! ### writing -/
theorem May.of {μ : MM} {H : T ABk} {g : Nat} {b : ABk} (hg : H.get g = some b) (ho : b.owned = true) (hr : b.real μ g) : May μ H (μ.blk g) := ⟨g, b, hg, ho, hr, rfl⟩
theorem run_storeVar {P : Program} {t : TypeId} {i : TypeInfo} (hi : P.info? t = some i) {w : World} {B o : Nat} {cur : Array Value} {ty : TypeId} (hB : w.heap[B]? = some (.cells cur ty (0, 0))) {v : Value}
    (hs : v.cells.size = i.size) (hf : o + i.size ≤ cur.size) (h1 : ∀ x ∈ v.cells.toList, x.oneCell' = true) :
    (storeVar t ⟨B, o, none⟩ v).run P w = .ok () (w.setRow B (cur.toList.take o ++ v.cells.toList ++ cur.toList.drop (o + v.cells.toList.length)).toArray) := by
  have hst := run_storeCells_at P B o ty v.cells.toList 0 cur w hB (by simp; omega) h1
  simp only [Nat.add_zero] at hst
  simp [storeVar, run_sizeOf hi, hs, hst]
theorem spliceN_eq {sz : Nat} {row : List AV} {o : Nat} {vs : List AV} (h : row.length = sz) (ho : o + vs.length ≤ sz) : spliceN sz row o vs = splice row o vs := by
  unfold spliceN
  cases e : Nat.beq sz vs.length with
  | false => rfl
  | true =>
    have e := Nat.eq_of_beq_eq_true e
    have o0 : o = 0 := by omega
    subst o0
    unfold splice
    rw [List.drop_eq_nil_of_le (by omega)]
    simp
theorem storeA_sound {P : Program} {t : TypeId} {a : AA} {v : AV} {g g' : G} {u : Unit} (h : storeA P t a v g = .done u g') :
    (g'.cs → g.cs) ∧ (g'.cs → ∀ μ w cv, GOk g.nx μ w.heap g.H → Rep g.nx μ v cv → ∃ w', (storeVar t (μ.addr a) cv).run P w = .ok () w' ∧ GOk g'.nx μ w'.heap g'.H ∧ Ext g μ w g' μ w') := by
  unfold storeA at h
  obtain ⟨y, g1, a1, h1⟩ := done_of h
  obtain ⟨hy, rfl⟩ := ofOpt_done a1
  obtain ⟨i, d, hi, hd, e1, e2⟩ := lay_some hy
  obtain ⟨⟨own, sz, n, c⟩, g2, a2, h2⟩ := done_of h1
  obtain ⟨hb, rfl⟩ := getC_done a2
  simp only at h2 hb
  obtain ⟨_, g3, a3, h3⟩ := done_of h2
  obtain ⟨hq, rfl⟩ := okIf_done a3
  simp only [Bool.and_eq_true] at hq
  obtain ⟨⟨rfl, hlen⟩, hone⟩ := hq
  have hlen' := Nat.eq_of_beq_eq_true hlen
  obtain ⟨u3, g4, a4, h4⟩ := done_of h3
  obtain ⟨u4, g5, a5, h5⟩ := done_of h4
  have k4 := (ck_done a4).trans (ck_done a5)
  obtain ⟨hH, hnx, hcs⟩ := setB_done h5
  have hc0 : g'.cs → g.cs ∧ a.i < n ∧ a.o + y.1 ≤ sz := fun hc => by rw [hcs] at hc; exact k4.2.2 hc
  refine ⟨fun hc => (hc0 hc).1, fun hc μ w cv hg hv => ?_⟩
  obtain ⟨_, hn, hf⟩ := hc0 hc
  obtain ⟨hsz, hpos, hcur⟩ := hg.ok _ _ hb
  obtain ⟨cur, ty, fz, hB, hfit, hown, hrows⟩ := hcur (.inl (by omega))
  obtain ⟨hfz, hcap, hb0⟩ := hown rfl
  simp only [hb0, Nat.zero_add] at hfit hrows
  rw [hfz] at hB
  rw [spliceN_eq (hrows _ hn).1 (by omega)] at hH
  obtain ⟨hreps, hone'⟩ := hv.cells hone
  have hcl : cv.cells.toList.length = y.1 := by rw [hreps.length, hlen']
  have hcz : cv.cells.size = y.1 := by rw [← hcl, Array.length_toList]
  have hrf := row_fits hn hfit
  have hrun := run_storeVar (P := P) (t := t) hi hB (o := a.i * sz + a.o) (v := cv) (by omega) (by omega) hone'
  have hgc := fun m => splice_get cur.toList (a.i * sz + a.o) cv.cells.toList (by simp only [Array.length_toList]; omega) m
  refine ⟨_, by unfold MM.addr; rw [hsz, hb0, Nat.zero_add]; exact hrun, ?_, ?_⟩
  · rw [hH, hnx, k4.2.1, k4.1]
    refine hg.upd (.refl _ _) (Nat.le_refl _) (hg.lt _ _ hb) ?_ ?_ ?_
    · rintro _ ⟨⟩
      refine ⟨hsz, hpos, fun _ => ⟨_, ty, (0, 0), setRow_heap w _ cur _ ty _ hB, ?_, fun _ => ⟨rfl, ?_, hb0⟩, fun j hj => ?_⟩⟩
      rotate_left 2
      rw [hb0, Nat.zero_add]
      rotate_right 2
      · simp; omega
      · rw [← hcap]; simp; omega
      · rw [Cont.row_put]
        have hjf := row_fits hj hfit
        obtain ⟨rl, rc⟩ := hrows j hj
        split
        · rename_i e; rw [e] at rl rc hjf ⊢
          refine ⟨by rw [splice_length _ _ _ (by omega)]; exact rl, fun o x hx => ?_⟩
          have ho : o < sz := by
            have := (List.getElem?_eq_some_iff.1 hx).1
            rw [splice_length _ _ _ (by omega), rl] at this; exact this
          rw [List.getElem?_toArray, hgc]
          unfold splice at hx
          rw [splice_get _ _ _ (by omega)] at hx
          split at hx
          · rw [if_pos (by omega)]
            obtain ⟨h0, c', h1, h2⟩ := rc _ _ hx
            exact ⟨h0, c', by simpa using h1, h2⟩
          · split at hx
            · rw [if_neg (by omega), if_pos (by omega)]
              obtain ⟨c', h1, h2⟩ := hreps.get hx
              exact ⟨List.all_eq_true.1 hone _ (List.mem_of_getElem? hx), c', by rw [← h1]; congr 1; omega, h2⟩
            · rw [if_neg (by omega), if_neg (by omega)]
              obtain ⟨h0, c', h1, h2⟩ := rc _ _ hx
              exact ⟨h0, c', by simpa using h1, h2⟩
        · rename_i hne
          refine ⟨rl, fun o x hx => ?_⟩
          have ho : o < sz := by
            have := (List.getElem?_eq_some_iff.1 hx).1
            rw [rl] at this; exact this
          obtain ⟨h0, c', h1, h2⟩ := rc _ _ hx
          refine ⟨h0, c', ?_, h2⟩
          rw [List.getElem?_toArray, hgc]
          have hdis : j * sz + o < a.i * sz + a.o ∨ a.i * sz + a.o + cv.cells.toList.length ≤ j * sz + o := by
            rcases Nat.lt_or_gt_of_ne hne with hlt | hgt
            · left
              have : (j + 1) * sz ≤ a.i * sz := Nat.mul_le_mul_right _ hlt
              rw [Nat.add_mul] at this; omega
            · right
              have : (a.i + 1) * sz ≤ j * sz := Nat.mul_le_mul_right _ hgt
              rw [Nat.add_mul] at this; omega
          rcases hdis with hd1 | hd1
          · rw [if_pos hd1]; simpa using h1
          · rw [if_neg (by omega), if_neg (by omega)]; simpa using h1
    · intro g1 b1 hg1 hne hr1
      refine setRow_other w _ _ _ fun e => hne ?_
      exact (hg.sep _ _ _ _ hb hg1 rfl (.inl (by omega)) hr1 e.symm).symm
    · rintro _ ⟨⟩ hr1 g1 b1 hg1 hne hr2 _ e
      exact hne (hg.sep _ _ _ _ hb hg1 rfl (.inl (by omega)) hr2 e).symm
  · have hgB : ∀ B, B ≠ μ.blk a.g → (w.setRow (μ.blk a.g) (cur.toList.take (a.i * sz + a.o) ++ cv.cells.toList ++ cur.toList.drop (a.i * sz + a.o + cv.cells.toList.length)).toArray).heap[B]? = w.heap[B]? := fun B hne => setRow_other w _ _ _ hne
    refine ⟨by rw [hnx, k4.2.1]; exact Nat.le_refl _, .refl _ _, rfl, rfl, rfl, by simp, fun B _ hnm => hgB B fun e => hnm ?_, fun B hB hm => ?_⟩
    · rw [e]; exact May.of hb rfl (.inl (by omega))
    · obtain ⟨g1, b1, hg1, ho1, hr1, rfl⟩ := hm
      rw [hH, T.get_upd, k4.1] at hg1
      split at hg1
      · rename_i e; rw [e]; exact May.of hb rfl (.inl (by omega))
      · exact May.of hg1 ho1 hr1
end Go.Sx
