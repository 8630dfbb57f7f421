/- THE ENGINE's MEANING: what it says of a value of the model that an abstract value stands for it, of a heap likewise; how both go on. -/
import Derived.Test.YtehhljcjdiokjaaSxA
set_option linter.unusedVariables false
set_option linter.unusedSimpArgs false
noncomputable section
namespace Go.Sx
open M

/-- where the blocks lie: of each name the block, its capacity in rows, the cells of a row -/
structure MM where
  blk : Nat → Nat
  cap : Nat → Nat
  sz : Nat → Nat
  base : Nat → Nat
def MM.addr (μ : MM) (a : AA) : Addr := ⟨μ.blk a.g, μ.base a.g + a.i * μ.sz a.g + a.o, none⟩
/-- the word of a canonical float -/
def FB (x b : Nat) : Prop := cn b = x ∧ b < 18446744073709551616
def RepS (μ : MM) (s own : Bool) (a : AA) (len : Nat) (c : Value) : Prop :=
  ∃ A C, c = .slice A len C ∧ len ≤ C ∧ (0 < len → A = some (μ.addr a)) ∧ (s = false → A.isSome = true) ∧
    (own = true → a.i = 0 ∧ a.o = 0 ∧ ((A = none ∧ C = 0 ∧ len = 0) ∨ (A = some ⟨μ.blk a.g, 0, none⟩ ∧ C = μ.cap a.g)))
mutual
def Rep (N : Nat) (μ : MM) : AV → Value → Prop
  | .top, _ => True
  | .bool b, c => c = .bool b
  | .sbool b, c => c = .bool b
  | .int _ k n, c => c = .int k n
  | .flt _ x, c => ∃ b, c = .float .f64 b ∧ FB x b
  | .raw _ x, c => c = .float .f64 x ∧ x < 18446744073709551616
  | .bits _ x, c => ∃ b : Nat, c = .int .u64 b ∧ FB x b
  | .cpx _ x y, c => ∃ a b, c = .complex .f64 a b ∧ FB x a ∧ FB y b
  | .str _ l, c => c = .string ⟨l.toArray⟩
  | .ptr a, c => a.g < N ∧ c = .pointer (some (μ.addr a))
  | .nilp, c => c = .pointer none
  | .slc s own a len, c => a.g < N ∧ RepS μ s own a len c
  | .nils, c => c = .slice none 0 0
  | .mp g, c => g < N ∧ c = .map (some (μ.blk g))
  | .nilm, c => c = .map none
  | .fn f l cap, c => ∃ fs cs, c = .func f fs cs ∧ Reps N μ l fs.toList ∧ Reps N μ cap cs.toList
  | .nilf, c => c = .nilFunc
  | .nili, c => c = .nilIface
  | .agg l, c => ∃ cs, c = .agg cs ∧ Reps N μ l cs.toList
  | .tup l, c => ∃ cs, c = .tuple cs ∧ Reps N μ l cs.toList
def Reps (N : Nat) (μ : MM) : List AV → List Value → Prop
  | [], cs => cs = []
  | v :: l, cs => ∃ c r, cs = c :: r ∧ Rep N μ v c ∧ Reps N μ l r
end

/-! ### lists of values -/
theorem Reps.length {N : Nat} {μ : MM} : ∀ {l : List AV} {cs : List Value}, Reps N μ l cs → cs.length = l.length
  | [], cs, h => by simp only [Reps] at h; simp [h]
  | v :: l, cs, h => by
    simp only [Reps] at h
    obtain ⟨c, r, rfl, _, h⟩ := h
    simp [Reps.length h]
theorem Reps.get {N : Nat} {μ : MM} : ∀ {l : List AV} {cs : List Value}, Reps N μ l cs → ∀ {i : Nat} {v : AV}, l[i]? = some v → ∃ c, cs[i]? = some c ∧ Rep N μ v c
  | [], cs, h, i, v, hv => by simp at hv
  | u :: l, cs, h, i, v, hv => by
    simp only [Reps] at h
    obtain ⟨c, r, rfl, hu, h⟩ := h
    cases i with
    | zero => simp at hv; subst hv; exact ⟨c, rfl, hu⟩
    | succ i => simpa using Reps.get h (by simpa using hv)
theorem Reps.of_get {N : Nat} {μ : MM} : ∀ {l : List AV} {cs : List Value}, cs.length = l.length → (∀ (i : Nat) (v : AV), l[i]? = some v → ∃ c, cs[i]? = some c ∧ Rep N μ v c) → Reps N μ l cs
  | [], cs, hl, _ => by simp only [Reps]; exact List.eq_nil_of_length_eq_zero hl
  | v :: l, [], hl, _ => by simp at hl
  | v :: l, c :: r, hl, h => by
    simp only [Reps]
    obtain ⟨c', hc, hv⟩ := h 0 v rfl
    simp at hc
    subst hc
    exact ⟨c, r, rfl, hv, Reps.of_get (by simpa using hl) fun i u hu => by simpa using h (i + 1) u (by simpa using hu)⟩
theorem Reps.drop {N : Nat} {μ : MM} {l : List AV} {cs : List Value} (h : Reps N μ l cs) (n : Nat) : Reps N μ (l.drop n) (cs.drop n) :=
  .of_get (by simp [h.length]) fun i v hv => by
    rw [List.getElem?_drop] at hv ⊢; exact h.get hv
theorem Reps.take {N : Nat} {μ : MM} {l : List AV} {cs : List Value} (h : Reps N μ l cs) (n : Nat) : Reps N μ (l.take n) (cs.take n) :=
  .of_get (by simp [h.length]) fun i v hv => by
    rw [List.getElem?_take] at hv ⊢
    split at hv
    · rename_i hi; rw [if_pos hi]; exact h.get hv
    · cases hv
theorem Reps.append {N : Nat} {μ : MM} : ∀ {l : List AV} {cs : List Value} {l' : List AV} {cs' : List Value}, Reps N μ l cs → Reps N μ l' cs' → Reps N μ (l ++ l') (cs ++ cs')
  | [], cs, l', cs', h, h' => by simp only [Reps] at h; subst h; exact h'
  | v :: l, cs, l', cs', h, h' => by
    simp only [Reps] at h
    obtain ⟨c, r, rfl, hv, h⟩ := h
    simp only [List.cons_append, Reps]
    exact ⟨c, r ++ cs', rfl, hv, h.append h'⟩
theorem Reps.map {N : Nat} {μ : MM} {α : Type} (f : α → AV) (f' : α → Value) : ∀ (l : List α), (∀ x, x ∈ l → Rep N μ (f x) (f' x)) → Reps N μ (l.map f) (l.map f')
  | [], _ => by simp [Reps]
  | x :: l, h => by
    simp only [List.map_cons, Reps]
    exact ⟨_, _, rfl, h x (by simp), Reps.map f f' l fun y hy => h y (by simp [hy])⟩

/-! ### later: more names, the old ones where they were -/
structure MM.upto (N : Nat) (μ μ' : MM) : Prop where
  blk : ∀ g, g < N → μ'.blk g = μ.blk g
  cap : ∀ g, g < N → μ'.cap g = μ.cap g
  sz : ∀ g, g < N → μ'.sz g = μ.sz g
  base : ∀ g, g < N → μ'.base g = μ.base g
theorem MM.upto.refl (N : Nat) (μ : MM) : MM.upto N μ μ := ⟨fun _ _ => rfl, fun _ _ => rfl, fun _ _ => rfl, fun _ _ => rfl⟩
theorem MM.upto.trans {N N' : Nat} {a b c : MM} (h : MM.upto N a b) (k : MM.upto N' b c) (hN : N ≤ N') : MM.upto N a c :=
  ⟨fun g hg => (k.blk g (by omega)).trans (h.blk g hg), fun g hg => (k.cap g (by omega)).trans (h.cap g hg), fun g hg => (k.sz g (by omega)).trans (h.sz g hg), fun g hg => (k.base g (by omega)).trans (h.base g hg)⟩
theorem MM.upto.addr {N : Nat} {μ μ' : MM} (h : MM.upto N μ μ') {a : AA} (ha : a.g < N) : μ'.addr a = μ.addr a := by
  simp [MM.addr, h.blk _ ha, h.sz _ ha, h.base _ ha]
mutual
theorem Rep.later {N N' : Nat} {μ μ' : MM} (h : MM.upto N μ μ') (hN : N ≤ N') : ∀ {v : AV} {c : Value}, Rep N μ v c → Rep N' μ' v c
  | .top, _, _ => by simp [Rep]
  | .bool _, _, r => by simpa [Rep] using r
  | .sbool _, _, r => by simpa [Rep] using r
  | .int .., _, r => by simpa [Rep] using r
  | .flt .., _, r => by simpa [Rep] using r
  | .raw .., _, r => by simpa [Rep] using r
  | .bits .., _, r => by simpa [Rep] using r
  | .cpx .., _, r => by simpa [Rep] using r
  | .str .., _, r => by simpa [Rep] using r
  | .ptr a, _, r => by
    simp only [Rep] at r ⊢
    exact ⟨by omega, by rw [h.addr r.1]; exact r.2⟩
  | .nilp, _, r => by simpa [Rep] using r
  | .slc _ own a len, _, r => by
    simp only [Rep, RepS] at r ⊢
    obtain ⟨hg, A, C, rfl, hl, h1, h3, h2⟩ := r
    exact ⟨by omega, A, C, rfl, hl, by rw [h.addr hg]; exact h1, h3, by rw [h.blk _ hg, h.cap _ hg]; exact h2⟩
  | .nils, _, r => by simpa [Rep] using r
  | .mp g, _, r => by
    simp only [Rep] at r ⊢
    exact ⟨by omega, by rw [h.blk _ r.1]; exact r.2⟩
  | .nilm, _, r => by simpa [Rep] using r
  | .fn f l cap, _, r => by
    simp only [Rep] at r ⊢
    obtain ⟨fs, cs, rfl, h1, h2⟩ := r
    exact ⟨fs, cs, rfl, Reps.later h hN h1, Reps.later h hN h2⟩
  | .nilf, _, r => by simpa [Rep] using r
  | .nili, _, r => by simpa [Rep] using r
  | .agg l, _, r => by
    simp only [Rep] at r ⊢
    obtain ⟨cs, rfl, h1⟩ := r
    exact ⟨cs, rfl, Reps.later h hN h1⟩
  | .tup l, _, r => by
    simp only [Rep] at r ⊢
    obtain ⟨cs, rfl, h1⟩ := r
    exact ⟨cs, rfl, Reps.later h hN h1⟩
theorem Reps.later {N N' : Nat} {μ μ' : MM} (h : MM.upto N μ μ') (hN : N ≤ N') : ∀ {l : List AV} {cs : List Value}, Reps N μ l cs → Reps N' μ' l cs
  | [], _, r => by simpa [Reps] using r
  | v :: l, _, r => by
    simp only [Reps] at r ⊢
    obtain ⟨c, t, rfl, h1, h2⟩ := r
    exact ⟨c, t, rfl, Rep.later h hN h1, Reps.later h hN h2⟩
end

theorem Rep.fl1 {N : Nat} {μ : MM} {v : AV} {c : Value} (h : Rep N μ v c) : Rep N μ v.fl1 c := by
  cases v with
  | raw s x => simp only [Rep] at h; simp only [AV.fl1, Rep]; exact ⟨x, h.1, rfl, h.2⟩
  | _ => exact h
theorem Reps.fl1 {N : Nat} {μ : MM} : ∀ {l : List AV} {cs : List Value}, Reps N μ l cs → Reps N μ (l.map AV.fl1) cs
  | [], _, h => h
  | v :: l, _, h => by
    simp only [Reps, List.map_cons] at h ⊢
    obtain ⟨c, r, rfl, h1, h2⟩ := h
    exact ⟨c, r, rfl, h1.fl1, Reps.fl1 h2⟩
theorem Rep.fl {N : Nat} {μ : MM} {v : AV} {c : Value} (h : Rep N μ v c) : Rep N μ v.fl c := by
  cases v with
  | raw s x => exact Rep.fl1 h
  | agg l =>
    simp only [Rep, AV.fl] at h ⊢
    obtain ⟨cs, rfl, h1⟩ := h
    exact ⟨cs, rfl, h1.fl1⟩
  | _ => exact h

/-! ### the heap -/
/-- a row of cells, from 'base' on -/
def RowOk (N : Nat) (μ : MM) (row : List AV) (sz : Nat) (cur : Array Value) (base : Nat) : Prop :=
  row.length = sz ∧ ∀ (o : Nat) (v : AV), row[o]? = some v → v.one = true ∧ ∃ c, cur[base + o]? = some c ∧ Rep N μ v c
def ABk.owned : ABk → Bool
  | .cells own .. => own
  | _ => true
/-- is there a block? (A slice of no room has none.) -/
def ABk.real (μ : MM) (g : Nat) : ABk → Prop
  | .cells own _ n _ => 0 < n ∨ (own = true ∧ 0 < μ.cap g)
  | _ => True
def entSI (l : List (List UInt8 × Int)) (es : List MapEntry) : Prop := es.map (fun e => (e.key, e.val)) = l.map fun p => (Value.string ⟨p.1.toArray⟩, Value.int .i64 p.2)
def entII (l : List (Int × Int)) (es : List MapEntry) : Prop := es.map (fun e => (e.key, e.val)) = l.map fun p => (Value.int .i64 p.1, Value.int .i64 p.2)
def BkOk (N : Nat) (μ : MM) (hp : Array Obj) (g : Nat) : ABk → Prop
  | .cells own sz n c => μ.sz g = sz ∧ 0 < sz ∧ ((0 < n ∨ (own = true ∧ 0 < μ.cap g)) → ∃ cur ty fz, hp[μ.blk g]? = some (.cells cur ty fz) ∧ μ.base g + n * sz ≤ cur.size ∧
      (own = true → fz = (0, 0) ∧ cur.size = μ.cap g * sz ∧ μ.base g = 0) ∧ ∀ i, i < n → RowOk N μ (c.row i) sz cur (μ.base g + i * sz))
  | .mSI _ l => ∃ es clock, hp[μ.blk g]? = some (.map es clock) ∧ entSI l es.toList
  | .mII _ l => ∃ es clock, hp[μ.blk g]? = some (.map es clock) ∧ entII l es.toList
  | .sit _ l pos => hp[μ.blk g]? = some (.stringIter ⟨l.toArray⟩ pos) ∧ μ.base g = 0
structure GOk (N : Nat) (μ : MM) (hp : Array Obj) (H : T ABk) : Prop where
  lt : ∀ g b, H.get g = some b → g < N
  ok : ∀ g b, H.get g = some b → BkOk N μ hp g b
  sep : ∀ g b g' b', H.get g = some b → H.get g' = some b' → b.owned = true → b.real μ g → b'.real μ g' → μ.blk g = μ.blk g' → g = g'
/-- the blocks that may be written -/
def May (μ : MM) (H : T ABk) (B : Nat) : Prop := ∃ g b, H.get g = some b ∧ b.owned = true ∧ b.real μ g ∧ μ.blk g = B
/-- the world has gone on -/
structure Ext (g : G) (μ : MM) (w : World) (g' : G) (μ' : MM) (w' : World) : Prop where
  nx : g.nx ≤ g'.nx
  names : MM.upto g.nx μ μ'
  os : w'.os = w.os
  tape : w'.tape = w.tape
  output : w'.output = w.output
  size : w.heap.size ≤ w'.heap.size
  block : ∀ B, B < w.heap.size → ¬ May μ g.H B → w'.heap[B]? = w.heap[B]?
  may : ∀ B, B < w.heap.size → May μ' g'.H B → May μ g.H B
theorem Ext.trans {g g' g'' : G} {μ μ' μ'' : MM} {w w' w'' : World} (h : Ext g μ w g' μ' w') (k : Ext g' μ' w' g'' μ'' w'') : Ext g μ w g'' μ'' w'' where
  nx := Nat.le_trans h.nx k.nx
  names := h.names.trans k.names h.nx
  os := k.os.trans h.os
  tape := k.tape.trans h.tape
  output := k.output.trans h.output
  size := Nat.le_trans h.size k.size
  block := fun B hB hn => (k.block B (Nat.lt_of_lt_of_le hB h.size) fun hm => hn (h.may B hB hm)).trans (h.block B hB hn)
  may := fun B hB hm => h.may B hB (k.may B (Nat.lt_of_lt_of_le hB h.size) hm)
/-- nothing has turned but a count of draws -/
theorem Ext.drawn {g g' : G} (μ : MM) (w : World) (n : Nat) (hH : g'.H = g.H) (hn : g'.nx = g.nx) : Ext g μ w g' μ { w with drawn := n } where
  nx := by rw [hn]; exact Nat.le_refl _
  names := .refl _ _
  os := rfl
  tape := rfl
  output := rfl
  size := Nat.le_refl _
  block := fun _ _ _ => rfl
  may := fun B _ hm => by rw [hH] at hm; exact hm
theorem Ext.same {g g' : G} (μ : MM) (w : World) (hH : g'.H = g.H) (hn : g'.nx = g.nx) : Ext g μ w g' μ w := Ext.drawn μ w w.drawn hH hn
theorem RowOk.later {N N' : Nat} {μ μ' : MM} (h : MM.upto N μ μ') (hN : N ≤ N') {row : List AV} {sz : Nat} {cur : Array Value} {base : Nat} (r : RowOk N μ row sz cur base) : RowOk N' μ' row sz cur base :=
  ⟨r.1, fun o v hv => let ⟨h0, c, h1, h2⟩ := r.2 o v hv; ⟨h0, c, h1, Rep.later h hN h2⟩⟩
theorem ABk.real_later {N : Nat} {μ μ' : MM} (h : MM.upto N μ μ') {g : Nat} (hg : g < N) (b : ABk) : b.real μ' g ↔ b.real μ g := by
  cases b <;> simp [ABk.real, h.cap g hg]
theorem BkOk.later {N N' : Nat} {μ μ' : MM} (h : MM.upto N μ μ') (hN : N ≤ N') {hp hp' : Array Obj} {g : Nat} (hg : g < N) {b : ABk} (hB : b.real μ g → hp'[μ.blk g]? = hp[μ.blk g]?) (r : BkOk N μ hp g b) : BkOk N' μ' hp' g b := by
  cases b with
  | cells own sz n c =>
    simp only [BkOk, h.blk g hg, h.cap g hg, h.sz g hg, h.base g hg] at r ⊢
    refine ⟨r.1, r.2.1, fun hr => ?_⟩
    obtain ⟨cur, ty, fz, h1, h2, h3, h4⟩ := r.2.2 hr
    exact ⟨cur, ty, fz, (hB hr).trans h1, h2, h3, fun i hi => (h4 i hi).later h hN⟩
  | mSI s l =>
    simp only [BkOk, h.blk g hg] at r ⊢
    obtain ⟨es, cl, h1, h2⟩ := r
    exact ⟨es, cl, (hB trivial).trans h1, h2⟩
  | mII s l =>
    simp only [BkOk, h.blk g hg] at r ⊢
    obtain ⟨es, cl, h1, h2⟩ := r
    exact ⟨es, cl, (hB trivial).trans h1, h2⟩
  | sit s l pos =>
    simp only [BkOk, h.blk g hg, h.base g hg] at r ⊢
    exact ⟨(hB trivial).trans r.1, r.2⟩
/-- where a real block lies, there is one -/
theorem BkOk.lt_size {N : Nat} {μ : MM} {hp : Array Obj} {g : Nat} {b : ABk} (r : BkOk N μ hp g b) (hr : b.real μ g) : μ.blk g < hp.size := by
  have key : ∀ {o : Obj}, hp[μ.blk g]? = some o → μ.blk g < hp.size := fun h => (Array.getElem?_eq_some_iff.1 h).1
  cases b with
  | cells own sz n c => obtain ⟨cur, ty, fz, h1, _⟩ := r.2.2 hr; exact key h1
  | mSI s l => obtain ⟨es, cl, h1, _⟩ := r; exact key h1
  | mII s l => obtain ⟨es, cl, h1, _⟩ := r; exact key h1
  | sit s l pos => exact key r.1
end Go.Sx
