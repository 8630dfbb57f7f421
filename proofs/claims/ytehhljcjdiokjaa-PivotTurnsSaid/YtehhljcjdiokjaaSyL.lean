/- DRAWN REGIONS WITH MAKERS OF MEMORY IN NO ORDER: a wider plan, good for every order. Each operation runs in the part of the heap that is surely there; its new names are those of the text's order. -/
import Derived.Test.YtehhljcjdiokjaaSxX
import Derived.Test.YtehhljcjdiokjaaSxV
set_option linter.unusedSimpArgs false
set_option linter.unusedVariables false
noncomputable section
namespace Go.Sx
open M

/-! ### values all whose names are in a set -/
mutual
def AV.inS (S : Nat → Prop) : AV → Prop
  | .ptr a => S a.g
  | .slc _ _ a _ => S a.g
  | .mp g => S g
  | .fn _ l c => insS S l ∧ insS S c
  | .agg l => insS S l
  | .tup l => insS S l
  | _ => True
def insS (S : Nat → Prop) : List AV → Prop
  | [] => True
  | v :: l => v.inS S ∧ insS S l
end
mutual
theorem AV.inS.mono {S S' : Nat → Prop} (h : ∀ g, S g → S' g) : ∀ {v : AV}, v.inS S → v.inS S'
  | .top, _ => trivial
  | .bool _, _ => trivial
  | .sbool _, _ => trivial
  | .int .., _ => trivial
  | .flt .., _ => trivial
  | .raw .., _ => trivial
  | .bits .., _ => trivial
  | .cpx .., _ => trivial
  | .str .., _ => trivial
  | .ptr a, k => h _ k
  | .nilp, _ => trivial
  | .slc .., k => h _ k
  | .nils, _ => trivial
  | .mp g, k => h _ k
  | .nilm, _ => trivial
  | .fn f l c, k => by
    simp only [AV.inS] at k ⊢
    exact ⟨insS.mono h k.1, insS.mono h k.2⟩
  | .nilf, _ => trivial
  | .nili, _ => trivial
  | .agg l, k => by simp only [AV.inS] at k ⊢; exact insS.mono h k
  | .tup l, k => by simp only [AV.inS] at k ⊢; exact insS.mono h k
theorem insS.mono {S S' : Nat → Prop} (h : ∀ g, S g → S' g) : ∀ {l : List AV}, insS S l → insS S' l
  | [], _ => trivial
  | v :: l, k => by simp only [insS] at k ⊢; exact ⟨AV.inS.mono h k.1, insS.mono h k.2⟩
end
/-- the same names at the same places -/
structure AtN (μ μ' : MM) (g : Nat) : Prop where
  blk : μ'.blk g = μ.blk g
  cap : μ'.cap g = μ.cap g
  sz : μ'.sz g = μ.sz g
  base : μ'.base g = μ.base g
theorem AtN.addr {μ μ' : MM} {a : AA} (h : AtN μ μ' a.g) : μ'.addr a = μ.addr a := by simp [MM.addr, h.blk, h.sz, h.base]
mutual
theorem Rep.on {N N' : Nat} {μ μ' : MM} {S : Nat → Prop} (h : ∀ g, S g → g < N → g < N' ∧ AtN μ μ' g) : ∀ {v : AV} {c : Value}, v.inS S → Rep N μ v c → Rep N' μ' v c
  | .top, _, _, _ => by simp [Rep]
  | .bool _, _, _, r => by simpa [Rep] using r
  | .sbool _, _, _, r => by simpa [Rep] using r
  | .int .., _, _, r => by simpa [Rep] using r
  | .flt .., _, _, r => by simpa [Rep] using r
  | .raw .., _, _, r => by simpa [Rep] using r
  | .bits .., _, _, r => by simpa [Rep] using r
  | .cpx .., _, _, r => by simpa [Rep] using r
  | .str .., _, _, r => by simpa [Rep] using r
  | .ptr a, _, l, r => by
    simp only [Rep, AV.inS] at r l ⊢
    obtain ⟨h1, h2⟩ := h _ l r.1
    exact ⟨h1, by rw [h2.addr]; exact r.2⟩
  | .nilp, _, _, r => by simpa [Rep] using r
  | .slc _ own a len, _, l, r => by
    simp only [Rep, RepS, AV.inS] at r l ⊢
    obtain ⟨hg, A, C, rfl, hlen, h1, h3, h2⟩ := r
    obtain ⟨k1, k2⟩ := h _ l hg
    exact ⟨k1, A, C, rfl, hlen, by rw [k2.addr]; exact h1, h3, by rw [k2.blk, k2.cap]; exact h2⟩
  | .nils, _, _, r => by simpa [Rep] using r
  | .mp g, _, l, r => by
    simp only [Rep, AV.inS] at r l ⊢
    obtain ⟨h1, h2⟩ := h _ l r.1
    exact ⟨h1, by rw [h2.blk]; exact r.2⟩
  | .nilm, _, _, r => by simpa [Rep] using r
  | .fn f l cap, _, lo, r => by
    simp only [Rep, AV.inS] at r lo ⊢
    obtain ⟨fs, cs, rfl, h1, h2⟩ := r
    exact ⟨fs, cs, rfl, Reps.on h lo.1 h1, Reps.on h lo.2 h2⟩
  | .nilf, _, _, r => by simpa [Rep] using r
  | .nili, _, _, r => by simpa [Rep] using r
  | .agg l, _, lo, r => by
    simp only [Rep, AV.inS] at r lo ⊢
    obtain ⟨cs, rfl, h1⟩ := r
    exact ⟨cs, rfl, Reps.on h lo h1⟩
  | .tup l, _, lo, r => by
    simp only [Rep, AV.inS] at r lo ⊢
    obtain ⟨cs, rfl, h1⟩ := r
    exact ⟨cs, rfl, Reps.on h lo h1⟩
theorem Reps.on {N N' : Nat} {μ μ' : MM} {S : Nat → Prop} (h : ∀ g, S g → g < N → g < N' ∧ AtN μ μ' g) : ∀ {l : List AV} {cs : List Value}, insS S l → Reps N μ l cs → Reps N' μ' l cs
  | [], _, _, r => by simpa [Reps] using r
  | v :: l, _, lo, r => by
    simp only [Reps, insS] at r lo ⊢
    obtain ⟨c, t, rfl, h1, h2⟩ := r
    exact ⟨c, t, rfl, Rep.on h lo.1 h1, Reps.on h lo.2 h2⟩
end
mutual
theorem Rep.inN {N : Nat} {μ : MM} : ∀ {v : AV} {c : Value}, Rep N μ v c → v.inS (· < N)
  | .top, _, _ => trivial
  | .bool _, _, _ => trivial
  | .sbool _, _, _ => trivial
  | .int .., _, _ => trivial
  | .flt .., _, _ => trivial
  | .raw .., _, _ => trivial
  | .bits .., _, _ => trivial
  | .cpx .., _, _ => trivial
  | .str .., _, _ => trivial
  | .ptr a, _, r => by simp only [Rep, AV.inS] at r ⊢; exact r.1
  | .nilp, _, _ => trivial
  | .slc .., _, r => by simp only [Rep, AV.inS] at r ⊢; exact r.1
  | .nils, _, _ => trivial
  | .mp g, _, r => by simp only [Rep, AV.inS] at r ⊢; exact r.1
  | .nilm, _, _ => trivial
  | .fn f l c, _, r => by
    simp only [Rep, AV.inS] at r ⊢
    obtain ⟨fs, cs, rfl, h1, h2⟩ := r
    exact ⟨Reps.inN h1, Reps.inN h2⟩
  | .nilf, _, _ => trivial
  | .nili, _, _ => trivial
  | .agg l, _, r => by
    simp only [Rep, AV.inS] at r ⊢
    obtain ⟨cs, rfl, h1⟩ := r
    exact Reps.inN h1
  | .tup l, _, r => by
    simp only [Rep, AV.inS] at r ⊢
    obtain ⟨cs, rfl, h1⟩ := r
    exact Reps.inN h1
theorem Reps.inN {N : Nat} {μ : MM} : ∀ {l : List AV} {cs : List Value}, Reps N μ l cs → insS (· < N) l
  | [], _, _ => trivial
  | v :: l, _, r => by
    simp only [Reps, insS] at r ⊢
    obtain ⟨c, t, rfl, h1, h2⟩ := r
    exact ⟨Rep.inN h1, Reps.inN h2⟩
end
/-- a block's contents name only what is in the set -/
def ABk.inS (S : Nat → Prop) : ABk → Prop
  | .cells _ _ n c => ∀ i, i < n → ∀ (o : Nat) (v : AV), (c.row i)[o]? = some v → v.inS S
  | _ => True
theorem ABk.inS.mono {S S' : Nat → Prop} (h : ∀ g, S g → S' g) : ∀ {b : ABk}, b.inS S → b.inS S'
  | .cells .., k => fun i hi o v hv => (k i hi o v hv).mono h
  | .mSI .., _ => trivial
  | .mII .., _ => trivial
  | .sit .., _ => trivial
theorem BkOk.inN {N : Nat} {μ : MM} {hp : Array Obj} {g : Nat} {b : ABk} (r : BkOk N μ hp g b) : b.inS (· < N) := by
  cases b with
  | cells own sz n c =>
    intro i hi o v hv
    obtain ⟨cur, ty, fz, _, _, _, h4⟩ := r.2.2 (.inl (by omega))
    obtain ⟨_, cv, _, h5⟩ := (h4 i hi).2 o v hv
    exact h5.inN
  | _ => trivial
theorem ABk.real_at {μ μ' : MM} {g : Nat} (h : AtN μ μ' g) (b : ABk) : b.real μ' g ↔ b.real μ g := by
  cases b <;> simp [ABk.real, h.cap]
theorem BkOk.on {N N' : Nat} {μ μ' : MM} {S : Nat → Prop} (h : ∀ g, S g → g < N → g < N' ∧ AtN μ μ' g) {hp hp' : Array Obj} {g : Nat} {b : ABk} (hg : AtN μ μ' g) (hS : b.inS S) (hB : b.real μ g → hp'[μ.blk g]? = hp[μ.blk g]?) (r : BkOk N μ hp g b) : BkOk N' μ' hp' g b := by
  cases b with
  | cells own sz n c =>
    simp only [BkOk, hg.blk, hg.cap, hg.sz, hg.base] at r ⊢
    refine ⟨r.1, r.2.1, fun hr => ?_⟩
    obtain ⟨cur, ty, fz, h1, h2, h3, h4⟩ := r.2.2 hr
    exact ⟨cur, ty, fz, (hB hr).trans h1, h2, h3, fun i hi => ⟨(h4 i hi).1, fun o v hv => let ⟨k0, cv, k1, k2⟩ := (h4 i hi).2 o v hv; ⟨k0, cv, k1, k2.on h (hS i hi o v hv)⟩⟩⟩
  | mSI s l =>
    simp only [BkOk, hg.blk] at r ⊢
    obtain ⟨es, cl, h1, h2⟩ := r
    exact ⟨es, cl, (hB trivial).trans h1, h2⟩
  | mII s l =>
    simp only [BkOk, hg.blk] at r ⊢
    obtain ⟨es, cl, h1, h2⟩ := r
    exact ⟨es, cl, (hB trivial).trans h1, h2⟩
  | sit s l pos =>
    simp only [BkOk, hg.blk, hg.base] at r ⊢
    exact ⟨(hB trivial).trans r.1, r.2⟩

/-! ### some names of one heap put into another -/
def mergeT {α : Type} (h src : T α) : List Nat → T α
  | [] => h
  | nm :: l => mergeT (h.upd nm (src.get nm)) src l
theorem get_mergeT {α : Type} (src : T α) : ∀ (l : List Nat) (h : T α) (i : Nat), (mergeT h src l).get i = if i ∈ l then src.get i else h.get i
  | [], h, i => by simp [mergeT]
  | k :: l, h, i => by
    simp only [mergeT, get_mergeT src l, T.get_upd, List.mem_cons]
    by_cases h1 : i ∈ l
    · simp [h1]
    · by_cases h2 : i = k
      · subst h2; simp [h1]
      · simp [h1, h2]

/-! ### plans -/
structure PlanB (P : Program) (ops : Array Oper) (nT : Nat) (g0 gf : G) (fr0 frf : Fr) where
  V : Nat → AV
  fr : Nat → Fr
  H : Nat → T ABk
  nx : Nat → Nat
  T : Nat → List Nat
  bef : Nat → Nat → Bool
  fin : Nat → Fr
  gin : Nat → G
  gout : Nat → G
  fr_0 : fr 0 = fr0
  fr_n : fr ops.size = frf
  H_0 : H 0 = g0.H
  nx_0 : nx 0 = g0.nx
  H_n : H ops.size = gf.H
  nx_n : nx ops.size = gf.nx
  fin_ok : ∀ j, j < ops.size → ∀ t v, (fin j).get t = some v → (fr j).get t = some v ∧ ∀ k, k < ops.size → k ≠ j → bef k j = false → bef j k = false → dstOf ops k ≠ some t
  fr_s : ∀ j, j < ops.size → ∀ t, (fr (j + 1)).get t = if dstOf ops j = some t then some (V j) else (fr j).get t
  dst_lt : ∀ j, j < ops.size → ∀ d, dstOf ops j = some d → d < nT
  dst_inj : ∀ i j d, i < ops.size → j < ops.size → dstOf ops i = some d → dstOf ops j = some d → i = j
  bef_lt : ∀ k j, bef k j = true → k < j
  bef_edge : ∀ j o, ops[j]? = some o → ∀ e ∈ o.after, Region.binds .any e = true → bef e.on j = true
  bef_inv : ∀ k j, j < ops.size → bef k j = true → ∃ o e, ops[j]? = some o ∧ e ∈ o.after ∧ Region.binds .any e = true ∧ (k = e.on ∨ bef k e.on = true)
  op_ok : ∀ j o, ops[j]? = some o → (gout j).cs → ∀ μ w (a : Act), GOk (gin j).nx μ w.heap (gin j).H → FrOk (gin j).nx μ (fin j) a.tmps nT → StepWp P ops o (gin j) μ w (gout j) (V j) a
  gin_nx : ∀ j, j < ops.size → (gin j).nx = nx j
  gout_nx : ∀ j, j < ops.size → (gout j).nx = nx (j + 1)
  nx_s : ∀ j, j < ops.size → nx j ≤ nx (j + 1)
  tr : ∀ j, j < ops.size → ∀ nm b, nm < nx j → (gin j).H.get nm = some b → nm ∉ T j → (gout j).H.get nm = some b
  T_vis : ∀ j, j < ops.size → ∀ nm ∈ T j, ∃ b, (gin j).H.get nm = some b
  vis : ∀ j, j < ops.size → ∀ nm b, (gin j).H.get nm = some b → (H j).get nm = some b ∧ ∀ k, k < ops.size → k ≠ j → bef k j = false → bef j k = false → nm ∉ T k ∧ (k < j → ¬ (nx k ≤ nm ∧ nm < nx (k + 1)))
  H_w : ∀ j, j < ops.size → ∀ nm, (nm ∈ T j ∨ nx j ≤ nm ∧ nm < nx (j + 1)) → ∀ b, (H (j + 1)).get nm = some b → (gout j).H.get nm = some b ∧ b.owned = true ∧ b.inS fun g => g < nx 0 ∨ ∃ m, m < ops.size ∧ (m = j ∨ bef m j = true) ∧ nx m ≤ g ∧ g < nx (m + 1)
  H_o : ∀ j, j < ops.size → ∀ nm, ¬ (nm ∈ T j ∨ nx j ≤ nm ∧ nm < nx (j + 1)) → (H (j + 1)).get nm = (H j).get nm
  V_in : ∀ j, j < ops.size → (V j).inS fun g => g < nx 0 ∨ ∃ m, m < ops.size ∧ (m = j ∨ bef m j = true) ∧ nx m ≤ g ∧ g < nx (m + 1)
  cs_ok : gf.cs → ∀ j, j < ops.size → (gout j).cs
  cs_0 : gf.cs → g0.cs

namespace PlanB
variable {P : Program} {ops : Array Oper} {nT : Nat} {g0 gf : G} {fr0 frf : Fr} (L : PlanB P ops nT g0 gf fr0 frf)
/-- it writes the name, or makes it -/
def W (j nm : Nat) : Prop := nm ∈ L.T j ∨ L.nx j ≤ nm ∧ nm < L.nx (j + 1)
/-- the names that are surely there behind it -/
def SN (j g : Nat) : Prop := g < L.nx 0 ∨ ∃ m, m < ops.size ∧ (m = j ∨ L.bef m j = true) ∧ L.nx m ≤ g ∧ g < L.nx (m + 1)
theorem nx_mono (p q : Nat) (hpq : p ≤ q) (hq : q ≤ ops.size) : L.nx p ≤ L.nx q := by
  induction q with
  | zero => rw [show p = 0 by omega]; exact Nat.le_refl _
  | succ q ih =>
    by_cases h : p = q + 1
    · rw [h]; exact Nat.le_refl _
    · exact Nat.le_trans (ih (by omega) (by omega)) (L.nx_s q (by omega))
theorem agree (p q nm : Nat) (hpq : p ≤ q) (hq : q ≤ ops.size) (hk : ∀ k, p ≤ k → k < q → ¬ L.W k nm) : (L.H q).get nm = (L.H p).get nm := by
  induction q with
  | zero => rw [show p = 0 by omega]
  | succ q ih =>
    by_cases h : p = q + 1
    · rw [h]
    · rw [L.H_o q (by omega) nm (hk q (by omega) (by omega))]
      exact ih (by omega) (by omega) fun k h1 h2 => hk k h1 (by omega)
theorem fr_val (j : Nat) (hj : j ≤ ops.size) (t : Nat) (v : AV) (h : (L.fr j).get t = some v) : (∃ k, k < j ∧ dstOf ops k = some t ∧ v = L.V k) ∨ (fr0.get t = some v ∧ ∀ k, k < j → dstOf ops k ≠ some t) := by
  induction j with
  | zero => rw [L.fr_0] at h; exact .inr ⟨h, fun k hk => by omega⟩
  | succ j ih =>
    rw [L.fr_s j (by omega)] at h
    split at h
    · rename_i e
      cases h
      exact .inl ⟨j, by omega, e, rfl⟩
    · rename_i e
      rcases ih (by omega) h with ⟨k, h1, h2, h3⟩ | ⟨h1, h2⟩
      · exact .inl ⟨k, by omega, h2, h3⟩
      · refine .inr ⟨h1, fun k hk => ?_⟩
        by_cases hkj : k = j
        · rw [hkj]; exact e
        · exact h2 k (by omega)
theorem SN_lt {j g : Nat} (hj : j < ops.size) (h : L.SN j g) : g < L.nx (j + 1) := by
  rcases h with h | ⟨m, hm, hmj, _, h2⟩
  · exact Nat.lt_of_lt_of_le h (L.nx_mono 0 (j + 1) (by omega) hj)
  · have : m ≤ j := by
      rcases hmj with rfl | hb
      · omega
      · exact Nat.le_of_lt (L.bef_lt _ _ hb)
    exact Nat.lt_of_lt_of_le h2 (L.nx_mono (m + 1) (j + 1) (by omega) hj)
/-- where a name of the heap comes from -/
theorem names_of (hb : ∀ nm b, (L.H 0).get nm = some b → nm < L.nx 0) : ∀ q, q ≤ ops.size → ∀ nm b, (L.H q).get nm = some b → nm < L.nx 0 ∨ ∃ m, m < q ∧ L.nx m ≤ nm ∧ nm < L.nx (m + 1)
  | 0, _, nm, b, h => .inl (hb nm b h)
  | q + 1, hq, nm, b, h => by
    have up : (nm < L.nx 0 ∨ ∃ m, m < q ∧ L.nx m ≤ nm ∧ nm < L.nx (m + 1)) → nm < L.nx 0 ∨ ∃ m, m < q + 1 ∧ L.nx m ≤ nm ∧ nm < L.nx (m + 1) := by
      rintro (h | ⟨m, h1, h2⟩)
      · exact .inl h
      · exact .inr ⟨m, by omega, h2⟩
    by_cases hW : L.W q nm
    · rcases hW with hT | hr
      · obtain ⟨b', hb'⟩ := L.T_vis q (by omega) nm hT
        exact up (names_of hb q (by omega) nm b' (L.vis q (by omega) nm b' hb').1)
      · exact .inr ⟨q, by omega, hr⟩
    · rw [L.H_o q (by omega) nm hW] at h
      exact up (names_of hb q (by omega) nm b h)
theorem lt_of (hb : ∀ nm b, (L.H 0).get nm = some b → nm < L.nx 0) {q : Nat} (hq : q ≤ ops.size) {nm : Nat} {b : ABk} (h : (L.H q).get nm = some b) : nm < L.nx q := by
  rcases L.names_of hb q hq nm b h with h | ⟨m, h1, _, h3⟩
  · exact Nat.lt_of_lt_of_le h (L.nx_mono 0 q (by omega) hq)
  · exact Nat.lt_of_lt_of_le h3 (L.nx_mono (m + 1) q (by omega) hq)
/-- what it holds comes from the start, or from one that wrote it -/
theorem src_of : ∀ q, q ≤ ops.size → ∀ nm b, (L.H q).get nm = some b → ((L.H 0).get nm = some b ∧ ∀ k, k < q → ¬ L.W k nm) ∨ ∃ k, k < q ∧ L.W k nm ∧ b.inS (L.SN k)
  | 0, _, nm, b, h => .inl ⟨h, fun k hk => by omega⟩
  | q + 1, hq, nm, b, h => by
    by_cases hW : L.W q nm
    · exact .inr ⟨q, by omega, hW, (L.H_w q (by omega) nm hW b h).2.2⟩
    · rw [L.H_o q (by omega) nm hW] at h
      rcases src_of q (by omega) nm b h with ⟨h1, h2⟩ | ⟨k, h1, h2⟩
      · refine .inl ⟨h1, fun k hk => ?_⟩
        by_cases e : k = q
        · rw [e]; exact hW
        · exact h2 k (by omega)
      · exact .inr ⟨k, by omega, h2⟩
/-- who writes the same is in order -/
theorem ord (hb : ∀ nm b, (L.H 0).get nm = some b → nm < L.nx 0) {j k nm : Nat} (hj : j < ops.size) (hk : k < ops.size) (hne : j ≠ k) (h1 : L.W j nm) (h2 : L.W k nm) : L.bef j k = true ∨ L.bef k j = true := by
  have key : ∀ j k, j < ops.size → k < ops.size → j ≠ k → nm ∈ L.T j → L.W k nm → L.bef j k = true ∨ L.bef k j = true := fun j k hj hk hne hT hW => by
    cases b1 : L.bef j k with
    | true => exact .inl rfl
    | false =>
      cases b2 : L.bef k j with
      | true => exact .inr rfl
      | false =>
        obtain ⟨b, hv⟩ := L.T_vis j hj nm hT
        obtain ⟨v1, v2⟩ := L.vis j hj nm b hv
        obtain ⟨v3, v4⟩ := v2 k hk (Ne.symm hne) b2 b1
        rcases hW with h | h
        · exact absurd h v3
        · have := L.lt_of hb (by omega) v1
          rcases Nat.lt_or_ge k j with hkj | hkj
          · exact absurd h (v4 hkj)
          · have := L.nx_mono j k hkj (by omega)
            omega
  rcases h1 with h1 | h1
  · exact key j k hj hk hne h1 h2
  · rcases h2 with h2 | h2
    · exact (key k j hk hj (Ne.symm hne) h2 (.inr h1)).symm
    · rcases Nat.lt_or_ge j k with h | h
      · have := L.nx_mono (j + 1) k h (by omega)
        omega
      · have := L.nx_mono (k + 1) j (by omega) (by omega)
        omega

/-- what holds when the operations of D are done -/
structure Inv (μ0 : MM) (w0 : World) (a0 : Act) (D : Nat → Prop) (a : Act) (w : World) (h : Sx.T ABk) (μ : MM) : Prop where
  at' : ∀ nm, ∃ q, q ≤ ops.size ∧ h.get nm = (L.H q).get nm ∧ ∀ k, k < ops.size → L.W k nm → (D k ↔ k < q)
  gok : GOk (L.nx ops.size) μ w.heap h
  names : MM.upto (L.nx 0) μ0 μ
  os : w.os = w0.os
  tape : w.tape = w0.tape
  output : w.output = w0.output
  hsize : w0.heap.size ≤ w.heap.size
  block : ∀ B, B < w0.heap.size → ¬ May μ0 (L.H 0) B → w.heap[B]? = w0.heap[B]?
  may : ∀ B, B < w0.heap.size → May μ h B → May μ0 (L.H 0) B
  defers : a.defers = a0.defers
  size : nT ≤ a.tmps.size
  done : ∀ k, k < ops.size → D k → ∀ d, dstOf ops k = some d → Rep (L.nx ops.size) μ (L.V k) (a.tmps.getD d undef)
  rest : ∀ t, (∀ k, k < ops.size → D k → dstOf ops k ≠ some t) → a.tmps.getD t undef = a0.tmps.getD t undef
  down : ∀ j, j < ops.size → D j → ∀ k, L.bef k j = true → D k
variable {L}
section
variable {μ0 : MM} {w0 : World} {a0 : Act} {D : Nat → Prop} {a : Act} {w : World} {h : Sx.T ABk} {μ : MM} (I : L.Inv μ0 w0 a0 D a w h μ) (hb : GOk (L.nx 0) μ0 w0.heap (L.H 0))
include I
theorem Inv.frame (h0 : FrOk g0.nx μ0 fr0 a0.tmps nT) {j : Nat} (hj : j < ops.size) (hD : ¬ D j) (hP : ∀ k, L.bef k j = true → D k) : FrOk (L.nx j) μ (L.fin j) a.tmps nT where
  size := I.size
  val := fun t v hv => by
    obtain ⟨h1, h2⟩ := L.fin_ok j hj t v hv
    rcases L.fr_val j (by omega) t v h1 with ⟨k, hk, hd, rfl⟩ | ⟨h3, h4⟩
    · have hb : L.bef k j = true := by
        cases hb : L.bef k j with
        | true => rfl
        | false =>
          cases hb' : L.bef j k with
          | true => exact absurd (L.bef_lt _ _ hb') (by omega)
          | false => exact absurd hd (h2 k (by omega) (by omega) hb hb')
      refine (I.done k (by omega) (hP k hb) t hd).on (S := L.SN k) (fun g hg _ => ⟨?_, rfl, rfl, rfl, rfl⟩) (L.V_in k (by omega))
      exact Nat.lt_of_lt_of_le (L.SN_lt (by omega) hg) (L.nx_mono (k + 1) j hk (by omega))
    · have : ∀ k, k < ops.size → D k → dstOf ops k ≠ some t := fun k hk hDk e => by
        by_cases hkj : k < j
        · exact h4 k hkj e
        · have hne : k ≠ j := fun e => hD (e ▸ hDk)
          cases hb : L.bef j k with
          | true => exact hD (I.down k hk hDk j hb)
          | false =>
            cases hb' : L.bef k j with
            | true => exact absurd (L.bef_lt _ _ hb') (by omega)
            | false => exact h2 k hk hne hb' hb e
      rw [I.rest t this]
      exact (h0.val t v h3).later (by rw [← L.nx_0]; exact I.names) (by rw [← L.nx_0]; exact L.nx_mono 0 j (by omega) (by omega))
include hb
/-- what is seen by an operation is there -/
theorem Inv.reads {j : Nat} (hj : j < ops.size) (hD : ¬ D j) (hP : ∀ k, L.bef k j = true → D k) {nm : Nat} {b : ABk} (hv : (L.gin j).H.get nm = some b) : h.get nm = some b ∧ ∀ k, k < ops.size → L.W k nm → k ≠ j → (D k ↔ L.bef k j = true) := by
  obtain ⟨v1, v2⟩ := L.vis j hj nm b hv
  have hlt := L.lt_of hb.lt (by omega) v1
  have o : ∀ k, k < ops.size → L.W k nm → k ≠ j → L.bef k j = true ∨ L.bef j k = true := fun k hk hW hne => by
    cases b1 : L.bef k j with
    | true => exact .inl rfl
    | false =>
      cases b2 : L.bef j k with
      | true => exact .inr rfl
      | false =>
        obtain ⟨v3, v4⟩ := v2 k hk hne b1 b2
        rcases hW with h | h
        · exact absurd h v3
        · rcases Nat.lt_or_ge k j with hkj | hkj
          · exact absurd h (v4 hkj)
          · have := L.nx_mono j k hkj (by omega)
            omega
  have o' : ∀ k, k < ops.size → L.W k nm → k ≠ j → (D k ↔ L.bef k j = true) := fun k hk hW hne => by
    rcases o k hk hW hne with h | h
    · exact ⟨fun _ => h, fun _ => hP k h⟩
    · exact ⟨fun hd => absurd (I.down k hk hd j h) hD, fun h' => hP k h'⟩
  refine ⟨?_, o'⟩
  obtain ⟨q, q1, q2, q3⟩ := I.at' nm
  rw [q2, ← v1]
  rcases Nat.lt_or_ge q j with hq | hq
  · refine (L.agree q j nm (by omega) (by omega) fun k k1 k2 hW => ?_).symm
    have hbef : L.bef k j = true := by
      rcases o k (by omega) hW (by omega) with h | h
      · exact h
      · exact absurd (L.bef_lt _ _ h) (by omega)
    have := (q3 k (by omega) hW).1 (hP k hbef)
    omega
  · refine L.agree j q nm hq q1 fun k k1 k2 hW => ?_
    have hd := (q3 k (by omega) hW).2 k2
    by_cases e : k = j
    · exact hD (e ▸ hd)
    · have := L.bef_lt _ _ ((o' k (by omega) hW e).1 hd)
      omega
theorem Inv.own (nm : Nat) (b : ABk) (hn : h.get nm = some b) : nm < L.nx 0 ∨ ∃ m, m < ops.size ∧ D m ∧ L.nx m ≤ nm ∧ nm < L.nx (m + 1) := by
  obtain ⟨q, q1, q2, q3⟩ := I.at' nm
  rw [q2] at hn
  rcases L.names_of hb.lt q q1 nm b hn with h | ⟨m, m1, m2⟩
  · exact .inl h
  · exact .inr ⟨m, by omega, (q3 m (by omega) (.inr m2)).2 m1, m2⟩
theorem Inv.holds (nm : Nat) (b : ABk) (hn : h.get nm = some b) : b.inS fun g => g < L.nx 0 ∨ ∃ m, m < ops.size ∧ D m ∧ L.nx m ≤ g ∧ g < L.nx (m + 1) := by
  obtain ⟨q, q1, q2, q3⟩ := I.at' nm
  rw [q2] at hn
  rcases L.src_of q q1 nm b hn with ⟨h1, _⟩ | ⟨k, k1, k2, k3⟩
  · exact (hb.ok nm b h1).inN.mono fun g hg => .inl hg
  · have hDk := (q3 k (by omega) k2).2 k1
    refine k3.mono fun g hg => ?_
    rcases hg with hg | ⟨m, m1, m2, m3⟩
    · exact .inl hg
    · refine .inr ⟨m, m1, ?_, m3⟩
      rcases m2 with rfl | m2
      · exact hDk
      · exact I.down k (by omega) hDk m m2
theorem Inv.gok_in {j : Nat} (hj : j < ops.size) (hD : ¬ D j) (hP : ∀ k, L.bef k j = true → D k) : GOk (L.nx j) μ w.heap (L.gin j).H where
  lt := fun nm b hv => L.lt_of hb.lt (by omega) (L.vis j hj nm b hv).1
  ok := fun nm b hv => by
    have hn := (I.reads hb hj hD hP hv).1
    refine (I.gok.ok nm b hn).on (S := (· < L.nx j)) (fun g hg _ => ⟨hg, rfl, rfl, rfl, rfl⟩) ⟨rfl, rfl, rfl, rfl⟩ ?_ fun _ => rfl
    rcases L.src_of j (by omega) nm b (L.vis j hj nm b hv).1 with ⟨h1, _⟩ | ⟨k, k1, k2, k3⟩
    · exact (hb.ok nm b h1).inN.mono fun g hg => Nat.lt_of_lt_of_le hg (L.nx_mono 0 j (by omega) (by omega))
    · exact k3.mono fun g hg => Nat.lt_of_lt_of_le (L.SN_lt (by omega) hg) (L.nx_mono (k + 1) j k1 (by omega))
  sep := fun g b g' b' hv hv' => I.gok.sep g b g' b' (I.reads hb hj hD hP hv).1 (I.reads hb hj hD hP hv').1
end
end PlanB
end Go.Sx
