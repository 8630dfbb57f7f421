/- THE ENGINE IS SOUND, fourth part: append. -/
import Derived.Test.YtehhljcjdiokjaaSxE
set_option linter.unusedSimpArgs false
set_option linter.unusedVariables false
noncomputable section
namespace Go.Sx
open M

/-! ### the rows of a slice's elements -/
def RC (a : AA) (esz sz n m : Nat) : Prop := if esz = sz ∧ a.o = 0 then a.i + m ≤ n else a.i < n ∧ a.o + m * esz ≤ sz
theorem same_of {esz sz : Nat} {a : AA} : (Nat.beq esz sz && Nat.beq a.o 0) = true ↔ esz = sz ∧ a.o = 0 := by
  simp [Bool.and_eq_true, Nat.beq_eq_true_eq]
theorem rowsCk_done {s : Bool} {a : AA} {esz sz n m : Nat} {u : Unit} {g g' : G} (h : rowsCk s a esz sz n m g = .done u g') : Keep g g' (RC a esz sz n m) := by
  unfold rowsCk at h
  cases hq : (Nat.beq esz sz && Nat.beq a.o 0) with
  | true =>
    rw [hq, cond_true] at h
    exact (ck_done h).mono fun hp => by unfold RC; rw [if_pos (same_of.1 hq)]; exact hp
  | false =>
    rw [hq, cond_false] at h
    obtain ⟨_, g1, a1, h1⟩ := done_of h
    refine ((ck_done a1).trans (ck_done h1)).mono fun hp => ?_
    unfold RC
    rw [if_neg fun e => by rw [same_of.2 e] at hq; cases hq]
    exact hp
theorem rowsOf_ok {N : Nat} {μ : MM} {hp : Array Obj} {a : AA} {own : Bool} {esz sz n m : Nat} {c : Cont} (hb : BkOk N μ hp a.g (.cells own sz n c)) (he : 0 < esz) (hr : RC a esz sz n m) (hm : 0 < m) :
    ∃ cur ty fz, hp[μ.blk a.g]? = some (.cells cur ty fz) ∧ μ.base a.g + a.i * sz + a.o + m * esz ≤ cur.size ∧ ∀ j, j < m → RowOk N μ (rowsOf a esz sz c j) esz cur (μ.base a.g + a.i * sz + a.o + j * esz) := by
  obtain ⟨hsz, hpos, hcur⟩ := hb
  unfold RC at hr
  by_cases hq : esz = sz ∧ a.o = 0
  · rw [if_pos hq] at hr
    obtain ⟨cur, ty, fz, hB, hfit, _, hrows⟩ := hcur (.inl (by omega))
    refine ⟨cur, ty, fz, hB, ?_, fun j hj => ?_⟩
    · have := row_fits (n := n) (sz := sz) (i := a.i + m - 1) (by omega) (Nat.le_refl _)
      rw [hq.1, hq.2]
      have e : (a.i + m - 1) * sz + sz = a.i * sz + m * sz := by
        rw [← Nat.succ_mul, ← Nat.add_mul]; congr 1; omega
      omega
    · have := hrows (a.i + j) (by omega)
      unfold rowsOf
      rw [same_of.2 hq, cond_true, hq.1, hq.2, Nat.add_zero, Nat.add_assoc, ← Nat.add_mul]
      exact this
  · rw [if_neg hq] at hr
    obtain ⟨cur, ty, fz, hB, hfit, _, hrows⟩ := hcur (.inl (by omega))
    have hrf : μ.base a.g + a.i * sz + sz ≤ cur.size := by have := row_fits hr.1 (Nat.le_refl (n * sz)); omega
    refine ⟨cur, ty, fz, hB, by omega, fun j hj => ?_⟩
    obtain ⟨rl, rc⟩ := hrows a.i hr.1
    have hqf : (Nat.beq esz sz && Nat.beq a.o 0) = false := by
      cases h : (Nat.beq esz sz && Nat.beq a.o 0) with
      | false => rfl
      | true => exact absurd (same_of.1 h) hq
    have hje : j * esz + esz ≤ m * esz := row_fits hj (Nat.le_refl _)
    unfold rowsOf
    rw [hqf, cond_false]
    refine ⟨by simp [rl]; omega, fun o v hv => ?_⟩
    rw [List.getElem?_take] at hv
    split at hv
    · rw [List.getElem?_drop] at hv
      obtain ⟨h0, c', h1, h2⟩ := rc _ _ hv
      exact ⟨h0, c', by rw [← h1]; congr 1; omega, h2⟩
    · cases hv

/-! ### what is appended -/
def SrcIs (N : Nat) (μ : MM) (w : World) (esz m : Nat) (r : Nat → List AV) (cy : Value) : Prop :=
  ∃ B C, cy = .slice B m C ∧ (0 < m → ∃ (ad : Addr) (news : List Value), B = some ad ∧ news.length = m * esz ∧ (∀ (j : Nat) v, news[j]? = some v → w.cell? (ad.add j) = some v) ∧ (∀ u ∈ news, u.oneCell' = true) ∧
    ∀ j, j < m → RowOk N μ (r j) esz news.toArray (j * esz))
theorem srcOf_sound {esz : Nat} {y : AV} {x : Bool × Nat × (Nat → List AV)} {g g' : G} (h : srcOf esz y g = .done x g') (he : 0 < esz) :
    ∃ p, Keep g g' p ∧ (p → ∀ N μ w cy, GOk N μ w.heap g.H → Rep N μ y cy → SrcIs N μ w esz x.2.1 x.2.2 cy) := by
  unfold srcOf at h
  split at h
  · obtain ⟨rfl, rfl⟩ := ret_done h
    refine ⟨True, Keep.refl _, fun _ N μ w cy _ hy => ?_⟩
    simp only [Rep] at hy
    exact ⟨none, 0, hy, fun h0 => absurd h0 (by simp)⟩
  · rename_i s own a len
    obtain ⟨⟨bo, sz, n, c⟩, g1, a1, h1⟩ := done_of h
    obtain ⟨hb, rfl⟩ := getC_done a1
    simp only at h1 hb
    obtain ⟨_, g2, a2, h2⟩ := done_of h1
    obtain ⟨rfl, rfl⟩ := ret_done h2
    refine ⟨_, rowsCk_done a2, fun hp N μ w cy hg hy => ?_⟩
    simp only [Rep] at hy
    obtain ⟨_, A, C, rfl, hlen, hA, _⟩ := hy
    refine ⟨A, C, rfl, fun h0 => ?_⟩
    simp only at h0
    obtain ⟨cur, ty, fz, hB, hfit, hrows⟩ := rowsOf_ok (hg.ok _ _ hb) he hp h0
    have hsz : μ.sz a.g = sz := (hg.ok _ _ hb).1
    have hnl : ((cur.toList.drop (μ.base a.g + a.i * sz + a.o)).take (len * esz)).length = len * esz := by simp; omega
    have hrow' : ∀ j, j < len → RowOk N μ (rowsOf a esz sz c j) esz ((cur.toList.drop (μ.base a.g + a.i * sz + a.o)).take (len * esz)).toArray (j * esz) := by
      intro j hj
      obtain ⟨rl, rc⟩ := hrows j hj
      refine ⟨rl, fun o v hv => ?_⟩
      obtain ⟨h0, c', h1, h2⟩ := rc o v hv
      refine ⟨h0, c', ?_, h2⟩
      have ho : o < esz := by have := (List.getElem?_eq_some_iff.1 hv).1; omega
      have hje : j * esz + esz ≤ len * esz := row_fits hj (Nat.le_refl _)
      rw [List.getElem?_toArray, List.getElem?_take, if_pos (by omega), List.getElem?_drop, ← Nat.add_assoc]
      simpa using h1
    refine ⟨_, _, hA h0, hnl, ?_, ?_, hrow'⟩
    · intro j v hv
      unfold MM.addr
      rw [hsz, Addr.add_lit, cell_of hB]
      rw [List.getElem?_take] at hv
      split at hv
      · rw [List.getElem?_drop] at hv; simpa using hv
      · cases hv
    · intro u hu
      obtain ⟨p, hp', rfl⟩ := List.getElem_of_mem hu
      rw [hnl] at hp'
      have hj : p / esz < len := Nat.div_lt_of_lt_mul (by rw [Nat.mul_comm]; exact hp')
      obtain ⟨rl, rc⟩ := hrow' (p / esz) hj
      have ho : p % esz < esz := Nat.mod_lt _ he
      obtain ⟨h0, c', h1, h2⟩ := rc (p % esz) _ (List.getElem?_eq_getElem (by rw [rl]; exact ho))
      have e : p / esz * esz + p % esz = p := by rw [Nat.mul_comm]; exact Nat.div_add_mod p esz
      rw [e, List.getElem?_toArray, List.getElem?_eq_getElem (by rw [hnl]; exact hp')] at h1
      cases h1
      exact h2.oneCell h0
  · cases h

/-! ### a block goes on under another name -/
theorem delB_ok {g g1 : G} {old : Nat} {u : Unit} (h : delB old g = .done u g1) {μ : MM} {w : World} (hg : GOk g.nx μ w.heap g.H) : GOk g1.nx μ w.heap g1.H ∧ Ext g μ w g1 μ w := by
  obtain ⟨hH, hnx, _⟩ := delB_done h
  have hs : ∀ k b, g1.H.get k = some b → g.H.get k = some b := fun k b hk => by
    rw [hH, T.get_upd] at hk
    split at hk
    · cases hk
    · exact hk
  refine ⟨by rw [hnx]; exact hg.sub hs, ⟨by omega, .refl _ _, rfl, rfl, rfl, Nat.le_refl _, fun _ _ _ => rfl, fun B _ hm => ?_⟩⟩
  obtain ⟨k, b, hk, r⟩ := hm
  exact ⟨k, b, hs k b hk, r⟩
theorem newB_empty {g g' : G} {nm sz : Nat} {c : Cont} (h : newB (.cells true sz 0 c) g = .done nm g') {μ : MM} {w : World} (hg : GOk g.nx μ w.heap g.H) (hpos : 0 < sz) (bk : Nat) :
    GOk g'.nx (μ.set g.nx bk 0 sz) w.heap g'.H ∧ Ext g μ w g' (μ.set g.nx bk 0 sz) w := by
  obtain ⟨_, hH, hnx, _⟩ := newB_done h
  have hu : MM.upto g.nx μ (μ.set g.nx bk 0 sz) := MM.upto_set μ (Nat.le_refl _)
  have hnr : ¬ (ABk.cells true sz 0 c).real (μ.set g.nx bk 0 sz) g.nx := by simp [ABk.real, MM.set_cap]
  constructor
  · rw [hH, hnx]
    refine hg.upd hu (by omega) (by omega) ?_ (fun _ _ _ _ _ => rfl) ?_
    · rintro _ ⟨⟩
      exact ⟨MM.set_sz .., hpos, fun hr => absurd hr hnr⟩
    · rintro _ ⟨⟩ hr; exact absurd hr hnr
  · refine ⟨by omega, hu, rfl, rfl, rfl, Nat.le_refl _, fun _ _ _ => rfl, fun B hB hm => ?_⟩
    obtain ⟨g1, b1, hg1, ho1, hr1, e⟩ := hm
    rw [hH, T.get_upd] at hg1
    split at hg1
    · rename_i e1; cases hg1; rw [e1] at hr1; exact absurd hr1 hnr
    · have hlt := hg.lt _ _ hg1
      rw [ABk.real_later hu hlt] at hr1
      rw [hu.blk _ hlt] at e
      exact ⟨g1, b1, hg1, ho1, hr1, e⟩
theorem reuse_ok {g g1 g2 : G} {old nm sz n n' : Nat} {c c' : Cont} {u : Unit} (h1 : delB old g = .done u g1) (h2 : newB (.cells true sz n' c') g1 = .done nm g2) {μ : MM} {w w' : World} (hg : GOk g.nx μ w.heap g.H)
    (hb : g.H.get old = some (.cells true sz n c)) (hreal : 0 < n ∨ 0 < μ.cap old) (hos : w'.os = w.os) (htape : w'.tape = w.tape) (hout : w'.output = w.output) (hsize : w'.heap.size = w.heap.size)
    (hoth : ∀ B, B ≠ μ.blk old → w'.heap[B]? = w.heap[B]?) {cur : Array Value} {ty : TypeId} (hB : w'.heap[μ.blk old]? = some (.cells cur ty (0, 0))) (hcap : cur.size = μ.cap old * sz) (hn : n' * sz ≤ cur.size)
    (hrows : ∀ i, i < n' → RowOk g.nx μ (c'.row i) sz cur (i * sz)) :
    GOk g2.nx (μ.set g.nx (μ.blk old) (μ.cap old) sz) w'.heap g2.H ∧ Ext g μ w g2 (μ.set g.nx (μ.blk old) (μ.cap old) sz) w' := by
  obtain ⟨hH1, hnx1, _⟩ := delB_done h1
  obtain ⟨_, hH, hnx, _⟩ := newB_done h2
  rw [hnx1] at hH hnx
  have hu : MM.upto g.nx μ (μ.set g.nx (μ.blk old) (μ.cap old) sz) := MM.upto_set μ (Nat.le_refl _)
  have hs : ∀ k b, g1.H.get k = some b → g.H.get k = some b ∧ k ≠ old := fun k b hk => by
    rw [hH1, T.get_upd] at hk
    split at hk
    · cases hk
    · exact ⟨hk, by assumption⟩
  have hpos : 0 < sz := (hg.ok _ _ hb).2.1
  have hrealb : (ABk.cells true sz n c).real μ old := by
    rcases hreal with h | h
    · exact .inl h
    · exact .inr ⟨rfl, h⟩
  have hdis : ∀ k b, g1.H.get k = some b → b.real μ k → μ.blk k ≠ μ.blk old := fun k b hk hr e =>
    (hs k b hk).2 (hg.sep _ _ _ _ hb (hs k b hk).1 rfl hrealb hr e.symm).symm
  have hg1 : GOk g.nx μ w.heap g1.H := hg.sub fun k b hk => (hs k b hk).1
  constructor
  · rw [hH, hnx]
    refine hg1.upd hu (by omega) (by omega) ?_ ?_ ?_
    · rintro _ ⟨⟩
      refine ⟨MM.set_sz .., hpos, fun _ => ⟨cur, ty, (0, 0), by rw [MM.set_blk]; exact hB, by rw [MM.set_base, Nat.zero_add]; exact hn, fun _ => ⟨rfl, by rw [MM.set_cap]; exact hcap, MM.set_base ..⟩, fun i hi => by rw [MM.set_base, Nat.zero_add]; exact (hrows i hi).later hu (by omega)⟩⟩
    · intro k b hk _ hr
      exact hoth _ (hdis k b hk hr)
    · rintro _ ⟨⟩ _ k b hk _ hr _ e
      rw [MM.set_blk] at e
      exact hdis k b hk hr e.symm
  · refine ⟨by omega, hu, hos, htape, hout, by rw [hsize]; exact Nat.le_refl _, fun B hB' hnm => hoth B fun e => hnm ?_, fun B hB' hm => ?_⟩
    · rw [e]; exact May.of hb rfl hrealb
    · obtain ⟨k, b, hk, ho, hr, e⟩ := hm
      rw [hH, T.get_upd] at hk
      split at hk
      · rename_i e1
        rw [e1, MM.set_blk] at e
        rw [← e]; exact May.of hb rfl hrealb
      · have hlt := hg1.lt _ _ hk
        rw [ABk.real_later hu hlt] at hr
        rw [hu.blk _ hlt] at e
        exact ⟨k, b, (hs k b hk).1, ho, hr, e⟩

/-! ### append -/
/-- nothing is appended -/
theorem run_append_none {P : Program} {t e : TypeId} {i : TypeInfo} (ht : P.underlying t = some (.slice e)) (hi : P.info? e = some i) (ty : TypeId) (w : World) (A B : Option Addr) (n C D : Nat) (hC : n ≤ C) :
    (Builtin.append_ #[t, t] ty #[.slice A n C, .slice B 0 D]).run P w = .ok (.slice A n C) w := by
  have hf : (Builtin.firstCells i.size 0 (.slice B 0 D)).run P w = .ok #[] w := by
    cases B with
    | none => simp [Builtin.firstCells]
    | some b => simp [Builtin.firstCells, loadCells, loadCellsFrom]
  cases A with
  | none => simp [Builtin.append_, run_underlying ht, sizeOf, typeInfo, hi, Builtin.lenOf, hC, hf]
  | some a => simp [Builtin.append_, run_underlying ht, sizeOf, typeInfo, hi, Builtin.lenOf, hC, hf, storeCells]
theorem newCells_rows {N : Nat} {μ : MM} {esz len m : Nat} {olds news : List Value} {ro rn c' : Nat → List AV} {tail : Array Value} (hlo : olds.length = len * esz)
    (ho : ∀ j, j < len → RowOk N μ (ro j) esz olds.toArray (j * esz)) (hn : ∀ j, j < m → RowOk N μ (rn j) esz news.toArray (j * esz))
    (hc : ∀ j, j < len + m → c' j = if j < len then ro j else rn (j - len)) (j : Nat) (hj : j < len + m) : RowOk N μ (c' j) esz (olds.toArray ++ news.toArray ++ tail) (j * esz) := by
  rw [hc j hj]
  split
  · rename_i h
    obtain ⟨rl, rc⟩ := ho j h
    refine ⟨rl, fun o v hv => ?_⟩
    obtain ⟨h0, c1, h1, h2⟩ := rc o v hv
    refine ⟨h0, c1, ?_, h2⟩
    have hlt := (Array.getElem?_eq_some_iff.1 h1).1
    rw [Array.append_assoc, Array.getElem?_append_left hlt]; exact h1
  · rename_i h
    obtain ⟨rl, rc⟩ := hn (j - len) (by omega)
    refine ⟨rl, fun o v hv => ?_⟩
    obtain ⟨h0, c1, h1, h2⟩ := rc o v hv
    refine ⟨h0, c1, ?_, h2⟩
    have hlt := (Array.getElem?_eq_some_iff.1 h1).1
    have e : j * esz + o = len * esz + ((j - len) * esz + o) := by
      rw [← Nat.add_assoc, ← Nat.add_mul]; congr 2; omega
    rw [Array.append_assoc, e, Array.getElem?_append_right (by simp; omega)]
    have e2 : len * esz + ((j - len) * esz + o) - olds.toArray.size = (j - len) * esz + o := by simp [hlo]
    rw [e2, Array.getElem?_append_left hlt]; exact h1
end Go.Sx
