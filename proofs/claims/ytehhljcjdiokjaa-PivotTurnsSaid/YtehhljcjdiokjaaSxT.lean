/- DRAWN REGIONS, the law behind them: a plan of a region is good for every order. -/
import Derived.Test.YtehhljcjdiokjaaSxS
import Derived.Orders
import Derived.Still
set_option linter.unusedSimpArgs false
set_option linter.unusedVariables false
noncomputable section
namespace Go.Sx
open M

/-! ### values that name old blocks only -/
mutual
def AV.low (N : Nat) : AV → Bool
  | .ptr a => Nat.blt a.g N
  | .slc _ _ a _ => Nat.blt a.g N
  | .mp g => Nat.blt g N
  | .fn _ l c => lows N l && lows N c
  | .agg l => lows N l
  | .tup l => lows N l
  | _ => true
def lows (N : Nat) : List AV → Bool
  | [] => true
  | v :: l => v.low N && lows N l
end
theorem blt_lt {a b : Nat} (h : Nat.blt a b = true) : a < b := Nat.le_of_ble_eq_true h
mutual
theorem Rep.ofLow {N N' : Nat} {μ μ' : MM} (h : MM.upto N μ μ') : ∀ {v : AV} {c : Value}, v.low N = true → Rep N' μ' v c → Rep N μ v c
  | .top, _, _, _ => by simp [Rep]
  | .bool _, _, _, r => by simpa [Rep] using r
  | .sbool _, _, _, r => by simpa [Rep] using r
  | .int .., _, _, r => by simpa [Rep] using r
  | .flt .., _, _, r => by simpa [Rep] using r
  | .raw .., _, _, r => by simpa [Rep] using r
  | .bits .., _, _, r => by simpa [Rep] using r
  | .cpx .., _, _, r => by simpa [Rep] using r
  | .str .., _, _, r => by simpa [Rep] using r
  | .ptr a, _, l, r => by
    have hl := blt_lt (by simpa [AV.low] using l)
    simp only [Rep] at r ⊢
    exact ⟨hl, by rw [← h.addr hl]; exact r.2⟩
  | .nilp, _, _, r => by simpa [Rep] using r
  | .slc _ own a len, _, l, r => by
    have hl := blt_lt (by simpa [AV.low] using l)
    simp only [Rep, RepS] at r ⊢
    obtain ⟨_, A, C, rfl, hlen, h1, h3, h2⟩ := r
    exact ⟨hl, A, C, rfl, hlen, by rw [← h.addr hl]; exact h1, h3, by rw [← h.blk _ hl, ← h.cap _ hl]; exact h2⟩
  | .nils, _, _, r => by simpa [Rep] using r
  | .mp g, _, l, r => by
    have hl := blt_lt (by simpa [AV.low] using l)
    simp only [Rep] at r ⊢
    exact ⟨hl, by rw [← h.blk _ hl]; exact r.2⟩
  | .nilm, _, _, r => by simpa [Rep] using r
  | .fn f l cap, _, lo, r => by
    have hl : lows N l = true ∧ lows N cap = true := by simpa [AV.low] using lo
    simp only [Rep] at r ⊢
    obtain ⟨fs, cs, rfl, h1, h2⟩ := r
    exact ⟨fs, cs, rfl, Reps.ofLow h hl.1 h1, Reps.ofLow h hl.2 h2⟩
  | .nilf, _, _, r => by simpa [Rep] using r
  | .nili, _, _, r => by simpa [Rep] using r
  | .agg l, _, lo, r => by
    simp only [Rep] at r ⊢
    obtain ⟨cs, rfl, h1⟩ := r
    exact ⟨cs, rfl, Reps.ofLow h (by simpa [AV.low] using lo) h1⟩
  | .tup l, _, lo, r => by
    simp only [Rep] at r ⊢
    obtain ⟨cs, rfl, h1⟩ := r
    exact ⟨cs, rfl, Reps.ofLow h (by simpa [AV.low] using lo) h1⟩
theorem Reps.ofLow {N N' : Nat} {μ μ' : MM} (h : MM.upto N μ μ') : ∀ {l : List AV} {cs : List Value}, lows N l = true → Reps N' μ' l cs → Reps N μ l cs
  | [], _, _, r => by simpa [Reps] using r
  | v :: l, _, lo, r => by
    have hl : v.low N = true ∧ lows N l = true := by simpa [lows] using lo
    simp only [Reps] at r ⊢
    obtain ⟨c, t, rfl, h1, h2⟩ := r
    exact ⟨c, t, rfl, Rep.ofLow h hl.1 h1, Reps.ofLow h hl.2 h2⟩
end

/-! ### plans -/
def dstOf (ops : Array Oper) (k : Nat) : Option Tmp := (ops[k]?).bind (·.dst)
/-- one operation, or its being left out -/
def StepWp (P : Program) (ops : Array Oper) (o : Oper) (g : G) (μ : MM) (w : World) (g' : G) (v : AV) (a : Act) : Prop :=
  ∀ (next : Act → World → Prop) (Q : Exit → Act → World → Prop), (∀ c w', After g μ w g' v c w' → next (a.put o.dst c) w') →
    if Region.wanted o (yielded ops a.tmps) then o.wp P a w next Q else next (a.put o.dst undef) w
structure Plan (P : Program) (ops : Array Oper) (nT : Nat) (g0 gf : G) (fr0 frf : Fr) where
  V : Nat → AV
  fr : Nat → Fr
  H : Nat → T ABk
  nx : Nat → Nat
  ch : Nat → Bool
  T : Nat → List Nat
  bef : Nat → Nat → Bool
  fin : Nat → Fr
  gin : Nat → G
  gout : Nat → G
  lim : Nat → Nat
  NX : Nat
  fr_0 : fr 0 = fr0
  fr_n : fr ops.size = frf
  H_0 : H 0 = g0.H
  nx_0 : nx 0 = g0.nx
  H_n : H ops.size = gf.H
  nx_n : nx ops.size = gf.nx
  fin_ok : ∀ j, j < ops.size → ∀ t v, (fin j).get t = some v → (fr j).get t = some v ∧ ∀ k, k < ops.size → k ≠ j → bef k j = false → bef j k = false → dstOf ops k ≠ some t
  fr_s : ∀ j, j < ops.size → ∀ t, (fr (j + 1)).get t = if dstOf ops j = some t then some (V j) else (fr j).get t
  dst_lt : ∀ j, j < ops.size → ∀ d, dstOf ops j = some d → d < nT
  dst_inj : ∀ i j d, i < ops.size → j < ops.size → dstOf ops i = some d → dstOf ops j = some d → i = j
  bef_lt : ∀ k j, bef k j = true → k < j
  bef_edge : ∀ j o, ops[j]? = some o → ∀ e ∈ o.after, Region.binds .any e = true → bef e.on j = true
  bef_inv : ∀ k j, j < ops.size → bef k j = true → ∃ o e, ops[j]? = some o ∧ e ∈ o.after ∧ Region.binds .any e = true ∧ (k = e.on ∨ bef k e.on = true)
  op_ok : ∀ j o, ops[j]? = some o → (gout j).cs → ∀ μ w (a : Act), GOk (gin j).nx μ w.heap (gin j).H → FrOk (gin j).nx μ (fin j) a.tmps nT → StepWp P ops o (gin j) μ w (gout j) (V j) a
  tr_nx : ∀ j, j < ops.size → (gin j).nx ≤ (gout j).nx
  tr : ∀ j, j < ops.size → ∀ nm, nm < (gin j).nx → nm ∉ T j → (gout j).H.get nm = (gin j).H.get nm
  reader : ∀ j, j < ops.size → ch j = false → H (j + 1) = H j ∧ nx (j + 1) = nx j ∧ T j = [] ∧ (V j).low (lim j) = true ∧ (gin j).nx = NX ∧
    ∀ nm b, (gin j).H.get nm = some b → (H j).get nm = some b ∧ nm < lim j ∧ ∀ k, k < ops.size → k ≠ j → ch k = true → bef k j = false → bef j k = false → nm ∉ T k
  chain : ∀ j, j < ops.size → ch j = true → (gin j).H = H j ∧ (gin j).nx = nx j ∧ H (j + 1) = (gout j).H ∧ nx (j + 1) = (gout j).nx
  ch_total : ∀ i j, i < j → j < ops.size → ch i = true → ch j = true → bef i j = true
  lim_is : ∀ j, j < ops.size → lim j = nx 0 ∨ ∃ k, k < ops.size ∧ ch k = true ∧ bef k j = true ∧ lim j = nx (k + 1)
  NX_ok : nx ops.size ≤ NX
  cs_ok : gf.cs → ∀ j, j < ops.size → (gout j).cs
  cs_0 : gf.cs → g0.cs

namespace Plan
variable {P : Program} {ops : Array Oper} {nT : Nat} {g0 gf : G} {fr0 frf : Fr} (L : Plan P ops nT g0 gf fr0 frf)
theorem nx_s (j : Nat) (hj : j < ops.size) : L.nx j ≤ L.nx (j + 1) := by
  cases hc : L.ch j with
  | false => rw [(L.reader j hj hc).2.1]; exact Nat.le_refl _
  | true =>
    obtain ⟨_, h1, _, h2⟩ := L.chain j hj hc
    have := L.tr_nx j hj
    omega
theorem nx_mono (p q : Nat) (hpq : p ≤ q) (hq : q ≤ ops.size) : L.nx p ≤ L.nx q := by
  induction q with
  | zero => rw [show p = 0 by omega]; exact Nat.le_refl _
  | succ q ih =>
    by_cases h : p = q + 1
    · rw [h]; exact Nat.le_refl _
    · exact Nat.le_trans (ih (by omega) (by omega)) (L.nx_s q (by omega))
theorem agree (p q nm : Nat) (hpq : p ≤ q) (hq : q ≤ ops.size) (hn : nm < L.nx p) (hk : ∀ k, p ≤ k → k < q → L.ch k = true → nm ∉ L.T k) : (L.H q).get nm = (L.H p).get nm := by
  induction q with
  | zero => rw [show p = 0 by omega]
  | succ q ih =>
    by_cases h : p = q + 1
    · rw [h]
    · have ih := ih (by omega) (by omega) fun k h1 h2 => hk k h1 (by omega)
      cases hc : L.ch q with
      | false => rw [(L.reader q (by omega) hc).1]; exact ih
      | true =>
        obtain ⟨e1, e2, e3, _⟩ := L.chain q (by omega) hc
        rw [e3, L.tr q (by omega) nm (by rw [e2]; have := L.nx_mono p q (by omega) (by omega); omega) (hk q (by omega) (by omega) hc), e1]
        exact ih
theorem same (p q : Nat) (hpq : p ≤ q) (hq : q ≤ ops.size) (hk : ∀ k, p ≤ k → k < q → L.ch k = false) : L.H q = L.H p ∧ L.nx q = L.nx p := by
  induction q with
  | zero => rw [show p = 0 by omega]; exact ⟨rfl, rfl⟩
  | succ q ih =>
    by_cases h : p = q + 1
    · rw [h]; exact ⟨rfl, rfl⟩
    · have ih := ih (by omega) (by omega) fun k h1 h2 => hk k h1 (by omega)
      obtain ⟨e1, e2, _⟩ := L.reader q (by omega) (hk q (by omega) (by omega))
      rw [e1, e2]; exact ih
theorem fr_val (j : Nat) (hj : j ≤ ops.size) (t : Nat) (v : AV) (h : (L.fr j).get t = some v) : (∃ k, k < j ∧ dstOf ops k = some t ∧ v = L.V k) ∨ (fr0.get t = some v ∧ ∀ k, k < j → dstOf ops k ≠ some t) := by
  induction j with
  | zero => rw [L.fr_0] at h; exact .inr ⟨h, fun k hk => by omega⟩
  | succ j ih =>
    rw [L.fr_s j (by omega)] at h
    split at h
    · rename_i e
      cases h
      exact .inl ⟨j, by omega, e, rfl⟩
    · rename_i e
      rcases ih (by omega) h with ⟨k, h1, h2, h3⟩ | ⟨h1, h2⟩
      · exact .inl ⟨k, by omega, h2, h3⟩
      · refine .inr ⟨h1, fun k hk => ?_⟩
        by_cases hkj : k = j
        · rw [hkj]; exact e
        · exact h2 k (by omega)

/-- what holds when the operations of D are done: 'p' says which of the chain's are -/
structure Inv (μ0 : MM) (w0 : World) (a0 : Act) (D : Nat → Prop) (a : Act) (w : World) (p : Nat) (μ : MM) : Prop where
  p_le : p ≤ ops.size
  p_ok : ∀ k, k < ops.size → L.ch k = true → (D k ↔ k < p)
  gok : GOk (L.nx p) μ w.heap (L.H p)
  ext : ∀ g : G, g.H = L.H p → g.nx = L.nx p → Ext g0 μ0 w0 g μ w
  defers : a.defers = a0.defers
  size : nT ≤ a.tmps.size
  done : ∀ k, k < ops.size → D k → ∀ d, dstOf ops k = some d → Rep (L.nx p) μ (L.V k) (a.tmps.getD d undef)
  rest : ∀ t, (∀ k, k < ops.size → D k → dstOf ops k ≠ some t) → a.tmps.getD t undef = a0.tmps.getD t undef
  down : ∀ j, j < ops.size → D j → ∀ k, L.bef k j = true → D k
variable {L}
theorem Inv.names {μ0 : MM} {w0 : World} {a0 : Act} {D : Nat → Prop} {a : Act} {w : World} {p : Nat} {μ : MM} (I : L.Inv μ0 w0 a0 D a w p μ) : MM.upto g0.nx μ0 μ ∧ g0.nx ≤ L.nx p :=
  let E := I.ext ⟨L.H p, L.nx p, [], [], True⟩ rfl rfl
  ⟨E.names, E.nx⟩
theorem Inv.frame {μ0 : MM} {w0 : World} {a0 : Act} {D : Nat → Prop} {a : Act} {w : World} {p : Nat} {μ : MM} (I : L.Inv μ0 w0 a0 D a w p μ) (h0 : FrOk g0.nx μ0 fr0 a0.tmps nT) {j : Nat} (hj : j < ops.size) (hD : ¬ D j)
    (hP : ∀ k, L.bef k j = true → D k) {N : Nat} (hN : L.nx p ≤ N) : FrOk N μ (L.fin j) a.tmps nT where
  size := I.size
  val := fun t v hv => by
    obtain ⟨h1, h2⟩ := L.fin_ok j hj t v hv
    rcases L.fr_val j (by omega) t v h1 with ⟨k, hk, hd, rfl⟩ | ⟨h3, h4⟩
    · have hb : L.bef k j = true := by
        cases hb : L.bef k j with
        | true => rfl
        | false =>
          cases hb' : L.bef j k with
          | true => exact absurd (L.bef_lt _ _ hb') (by omega)
          | false => exact absurd hd (h2 k (by omega) (by omega) hb hb')
      exact (I.done k (by omega) (hP k hb) t hd).later (MM.upto.refl _ _) hN
    · have : ∀ k, k < ops.size → D k → dstOf ops k ≠ some t := fun k hk hDk e => by
        by_cases hkj : k < j
        · exact h4 k hkj e
        · have hne : k ≠ j := fun e => hD (e ▸ hDk)
          cases hb : L.bef j k with
          | true => exact hD (I.down k hk hDk j hb)
          | false =>
            cases hb' : L.bef k j with
            | true => exact absurd (L.bef_lt _ _ hb') (by omega)
            | false => exact h2 k hk hne hb' hb e
      rw [I.rest t this]
      exact (h0.val t v h3).later I.names.1 (Nat.le_trans I.names.2 hN)
end Plan
end Go.Sx
