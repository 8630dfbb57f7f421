/- CANONICAL HEAPS: a run in a small heap of nameless blocks holds wherever these blocks lie. -/
import Derived.Test.YtehhljcjdiokjaaSyI
set_option linter.unusedSimpArgs false
set_option linter.unusedVariables false
noncomputable section
namespace Go.Sx
open M

/-- a block whose contents bear no name -/
def ABk.bare : ABk → Prop
  | .cells _ _ n c => ∀ i, i < n → ∀ v, v ∈ c.row i → v.low 0 = true
  | _ => True
theorem Rep.bare {N N' : Nat} {μ μ' : MM} {v : AV} {c : Value} (h : Rep N μ v c) (hl : v.low 0 = true) : Rep N' μ' v c :=
  (Rep.ofLow (N := 0) (μ := μ') ⟨fun g hg => by omega, fun g hg => by omega, fun g hg => by omega, fun g hg => by omega⟩ hl h).later (.refl _ _) (Nat.zero_le _)
/-- a bare block, by another name -/
theorem BkOk.bare {N N' : Nat} {μ μ' : MM} {hp : Array Obj} {g g' : Nat} {b : ABk} (h : BkOk N μ hp g b) (hb : b.bare) (e1 : μ'.blk g' = μ.blk g) (e2 : μ'.cap g' = μ.cap g) (e3 : μ'.sz g' = μ.sz g) (e4 : μ'.base g' = μ.base g) : BkOk N' μ' hp g' b := by
  cases b with
  | cells own sz n c =>
    simp only [BkOk, e1, e2, e3, e4] at h ⊢
    refine ⟨h.1, h.2.1, fun hr => ?_⟩
    obtain ⟨cur, ty, fz, h1, h2, h3, h4⟩ := h.2.2 hr
    refine ⟨cur, ty, fz, h1, h2, h3, fun i hi => ⟨(h4 i hi).1, fun o v hv => ?_⟩⟩
    obtain ⟨k1, cv, k2, k3⟩ := (h4 i hi).2 o v hv
    exact ⟨k1, cv, k2, k3.bare (hb i hi v (List.mem_of_getElem? hv))⟩
  | mSI s l => simp only [BkOk, e1] at h ⊢; exact h
  | mII s l => simp only [BkOk, e1] at h ⊢; exact h
  | sit s l pos => simp only [BkOk, e1, e4] at h ⊢; exact h
theorem ABk.real_eq {μ μ' : MM} {g g' : Nat} (e : μ'.cap g' = μ.cap g) (b : ABk) : b.real μ' g' ↔ b.real μ g := by
  cases b <;> simp [ABk.real, e]
/-- the small heap's names, where the great heap has them -/
def MM.via (μ : MM) (ρ : Nat → Nat) : MM := ⟨fun i => μ.blk (ρ i), fun i => μ.cap (ρ i), fun i => μ.sz (ρ i), fun i => μ.base (ρ i)⟩
structure Canon (H : T ABk) (Hc : T ABk) (k : Nat) (ρ : Nat → Nat) : Prop where
  get : ∀ i b, Hc.get i = some b → i < k ∧ b.bare ∧ H.get (ρ i) = some b
  inj : ∀ i j b b', Hc.get i = some b → Hc.get j = some b' → ρ i = ρ j → i = j
theorem Canon.gok {N : Nat} {μ : MM} {hp : Array Obj} {H Hc : T ABk} {k : Nat} {ρ : Nat → Nat} (C : Canon H Hc k ρ) (h : GOk N μ hp H) : GOk k (μ.via ρ) hp Hc where
  lt := fun i b hb => (C.get i b hb).1
  ok := fun i b hb => by
    obtain ⟨h1, h2, h3⟩ := C.get i b hb
    exact (h.ok _ _ h3).bare h2 rfl rfl rfl rfl
  sep := fun i b j b' hi hj ho hr hr' he => by
    obtain ⟨h1, h2, h3⟩ := C.get i b hi
    obtain ⟨k1, k2, k3⟩ := C.get j b' hj
    exact C.inj i j b b' hi hj (h.sep _ _ _ _ h3 k3 ho ((ABk.real_eq rfl b).1 hr) ((ABk.real_eq rfl b').1 hr') he)
/-- the great heap behind it -/
structure Canon' (H H' : T ABk) (Hc Hc' : T ABk) (k : Nat) (ρ : Nat → Nat) : Prop where
  /-- what was in the small heap is as it says there, or nothing is known of it -/
  ins : ∀ i b, Hc.get i = some b → H'.get (ρ i) = none ∨ ∃ b', Hc'.get i = some b' ∧ b'.bare ∧ (b'.owned = true → b.owned = true) ∧ (∀ μ m, b'.real μ m → b.real μ m) ∧ H'.get (ρ i) = some b'
  out : ∀ nm, (∀ i b, Hc.get i = some b → nm ≠ ρ i) → H'.get nm = H.get nm
theorem Canon.back {g : G} {μ : MM} {w w' : World} {Hc : T ABk} {k : Nat} {ρ : Nat → Nat} {gc gc' : G} {μc' : MM} {g' : G} (C : Canon g.H Hc k ρ) (hg : GOk g.nx μ w.heap g.H)
    (e1 : gc.H = Hc) (e2 : gc.nx = k) (hE : Ext gc (μ.via ρ) w gc' μc' w') (hc' : GOk gc'.nx μc' w'.heap gc'.H) (D : Canon' g.H g'.H Hc gc'.H k ρ) (hn : g'.nx = g.nx) :
    GOk g'.nx μ w'.heap g'.H ∧ Ext g μ w g' μ w' := by
  subst e1
  have blk : ∀ i, i < k → μc'.blk i = μ.blk (ρ i) := fun i hi => hE.names.blk i (by omega)
  have cap : ∀ i, i < k → μc'.cap i = μ.cap (ρ i) := fun i hi => hE.names.cap i (by omega)
  have szz : ∀ i, i < k → μc'.sz i = μ.sz (ρ i) := fun i hi => hE.names.sz i (by omega)
  have bas : ∀ i, i < k → μc'.base i = μ.base (ρ i) := fun i hi => hE.names.base i (by omega)
  have mayc : ∀ B, May (μ.via ρ) gc.H B → May μ g.H B := fun B ⟨i, b, h1, h2, h3, h4⟩ => by
    obtain ⟨k1, k2, k3⟩ := C.get i b h1
    exact ⟨ρ i, b, k3, h2, (ABk.real_eq rfl b).1 h3, h4⟩
  -- a block of the great heap behind it: an old one that is as it was, or one of the small heap
  have cases' : ∀ nm b', g'.H.get nm = some b' → ((∀ i b, gc.H.get i = some b → nm ≠ ρ i) ∧ g.H.get nm = some b') ∨ ∃ i b, gc.H.get i = some b ∧ nm = ρ i ∧ gc'.H.get i = some b' ∧ b'.bare ∧ (b'.owned = true → b.owned = true) ∧ (∀ μ m, b'.real μ m → b.real μ m) := by
    intro nm b' hb
    by_cases h : ∃ i b, gc.H.get i = some b ∧ nm = ρ i
    · obtain ⟨i, b, h1, rfl⟩ := h
      rcases D.ins i b h1 with h2 | ⟨b2, h2, h3, h4, h6, h5⟩
      · rw [h2] at hb; cases hb
      · rw [h5] at hb; cases hb
        exact .inr ⟨i, b, h1, rfl, h2, h3, h4, h6⟩
    · have h' : ∀ i b, gc.H.get i = some b → nm ≠ ρ i := fun i b h1 e => h ⟨i, b, h1, e⟩
      rw [D.out nm h'] at hb
      exact .inl ⟨h', hb⟩
  have realc : ∀ i b b', gc.H.get i = some b → gc'.H.get i = some b' → (b'.real μ (ρ i) ↔ b'.real μc' i) := fun i b b' h1 h2 => (ABk.real_eq (cap i (C.get i b h1).1) b').symm
  have back : ∀ i b b', gc.H.get i = some b → gc'.H.get i = some b' → b'.bare → BkOk g.nx μ w'.heap (ρ i) b' := fun i b b' h1 h2 h3 => by
    have hi := (C.get i b h1).1
    exact (hc'.ok i b' h2).bare h3 (blk i hi).symm (cap i hi).symm (szz i hi).symm (bas i hi).symm
  -- who lies where something owned of the small heap lies
  have may' : ∀ i b', gc'.H.get i = some b' → b'.owned = true → b'.real μc' i → μc'.blk i < w.heap.size → May μ g.H (μc'.blk i) := fun i b' h1 h2 h3 h4 =>
    mayc _ (hE.may _ h4 ⟨i, b', h1, h2, h3, rfl⟩)
  constructor
  · rw [hn]
    refine ⟨fun nm b' hb => ?_, fun nm b' hb => ?_, fun n1 b1 n2 b2 hb1 hb2 ho hr1 hr2 he => ?_⟩
    · rcases cases' nm b' hb with ⟨_, h⟩ | ⟨i, b, h1, rfl, _⟩
      · exact hg.lt _ _ h
      · exact hg.lt _ _ (C.get i b h1).2.2
    · rcases cases' nm b' hb with ⟨h', h⟩ | ⟨i, b, h1, rfl, h2, h3, _⟩
      · have old := hg.ok _ _ h
        refine old.later (.refl _ _) (Nat.le_refl _) (hg.lt _ _ h) fun hr => hE.block _ (old.lt_size hr) ?_
        rintro ⟨i, b, k1, k2, k3, k4⟩
        obtain ⟨m1, m2, m3⟩ := C.get i b k1
        exact h' i b k1 (hg.sep _ _ _ _ m3 h k2 ((ABk.real_eq rfl b).1 k3) hr k4).symm
      · exact back i b b' h1 h2 h3
    · have old : ∀ nm b', g'.H.get nm = some b' → ∃ b, g.H.get nm = some b ∧ (b'.owned = true → b.owned = true) ∧ (b'.real μ nm → b.real μ nm) := by
        intro nm b' hb
        rcases cases' nm b' hb with ⟨_, h⟩ | ⟨i, b, h1, rfl, h2, h3, h4, h5⟩
        · exact ⟨b', h, id, id⟩
        · exact ⟨b, (C.get i b h1).2.2, h4, h5 _ _⟩
      obtain ⟨c1, k1, k2, k3⟩ := old n1 b1 hb1
      obtain ⟨c2, l1, l2, l3⟩ := old n2 b2 hb2
      exact hg.sep _ _ _ _ k1 l1 (k2 ho) (k3 hr1) (l3 hr2) he
  · refine ⟨by rw [hn]; exact Nat.le_refl _, .refl _ _, hE.os, hE.tape, hE.output, hE.size, fun B hB hnm => hE.block B hB fun hm => hnm (mayc B hm), fun B hB hm => ?_⟩
    obtain ⟨nm, b', h1, h2, h3, rfl⟩ := hm
    rcases cases' nm b' h1 with ⟨_, h⟩ | ⟨i, b, i1, rfl, i2, i3, i4⟩
    · exact ⟨nm, b', h, h2, h3, rfl⟩
    · have hi := (C.get i b i1).1
      have := may' i b' i2 h2 ((realc i b b' i1 i2).1 h3) (by rw [blk i hi]; exact hB)
      rw [blk i hi] at this
      exact this
end Go.Sx
