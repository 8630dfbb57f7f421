/- DRAWN REGIONS: every order, by a plan: the end. -/
import Derived.Test.YtehhljcjdiokjaaSxU
set_option linter.unusedSimpArgs false
set_option linter.unusedVariables false
noncomputable section
namespace Go.Sx
open M
namespace Plan
variable {P : Program} {ops : Array Oper} {nT : Nat} {g0 gf : G} {fr0 frf : Fr} {L : Plan P ops nT g0 gf fr0 frf}
theorem Inv.gok_in {μ0 : MM} {w0 : World} {a0 : Act} {D : Nat → Prop} {a : Act} {w : World} {p : Nat} {μ : MM} (I : L.Inv μ0 w0 a0 D a w p μ) {j : Nat} (hj : j < ops.size) (hD : ¬ D j)
    (hP : ∀ k, L.bef k j = true → D k) : GOk (L.gin j).nx μ w.heap (L.gin j).H ∧ L.nx p ≤ (L.gin j).nx := by
  cases hc : L.ch j with
  | false =>
    obtain ⟨h1, h2, h3, h4, h5, h6⟩ := L.reader j hj hc
    have hpn : L.nx p ≤ L.NX := Nat.le_trans (L.nx_mono p _ I.p_le (Nat.le_refl _)) L.NX_ok
    rw [h5]
    exact ⟨I.gok.up hpn fun g b h => I.reads hj hD hP hc h, hpn⟩
  | true =>
    obtain ⟨h1, h2, h3, h4⟩ := L.chain j hj hc
    obtain ⟨e1, e2⟩ := I.chains hj hD hP hc
    rw [h1, h2, e1, e2]
    exact ⟨I.gok, Nat.le_refl _⟩
theorem Inv.step {μ0 : MM} {w0 : World} {a0 : Act} {D : Nat → Prop} {a : Act} {w : World} {p : Nat} {μ : MM} (I : L.Inv μ0 w0 a0 D a w p μ) (h0 : FrOk g0.nx μ0 fr0 a0.tmps nT) (hcs : gf.cs) {j : Nat} (hj : j < ops.size) (hD : ¬ D j)
    (hP : ∀ k, L.bef k j = true → D k) {Q : Exit → Act → World → Prop} {K : Act → World → Prop} (hK : ∀ a' w' p' μ', L.Inv μ0 w0 a0 (fun k => D k ∨ k = j) a' w' p' μ' → K a' w') : wpOp P ops Q j K a w := by
  obtain ⟨hg, hle⟩ := I.gok_in hj hD hP
  have ho : ops[j]? = some ops[j] := Array.getElem?_eq_getElem hj
  have hd : dstOf ops j = (ops[j]).dst := by simp [dstOf, ho]
  have := L.op_ok j _ ho (L.cs_ok hcs j hj) μ w a hg (I.frame h0 hj hD hP hle) K Q fun c w' hA => by
    obtain ⟨p', μ', hI⟩ := I.after hj hD hP hA
    rw [hd] at hI
    exact hK _ _ _ _ hI
  unfold wpOp
  rw [ho]
  dsimp only
  split
  · rename_i hw; rw [if_pos hw] at this; exact .inl this
  · rename_i hw; rw [if_neg hw] at this; exact this
theorem Inv.fin {μ0 : MM} {w0 : World} {a0 : Act} {D : Nat → Prop} {a : Act} {w : World} {p : Nat} {μ : MM} (I : L.Inv μ0 w0 a0 D a w p μ) (h0 : FrOk g0.nx μ0 fr0 a0.tmps nT) (hall : ∀ k, k < ops.size → D k) : FrAfter nT g0 μ0 w0 gf frf a0 a w := by
  obtain ⟨e1, e2⟩ := L.same p ops.size I.p_le (Nat.le_refl _) fun k k1 k2 => by
    cases hc : L.ch k with
    | false => rfl
    | true => have := (I.p_ok k k2 hc).1 (hall k k2); omega
  rw [L.H_n] at e1
  rw [L.nx_n] at e2
  refine ⟨μ, by rw [e1, e2]; exact I.gok, I.ext gf e1 e2, ⟨I.size, fun t v hv => ?_⟩, I.defers⟩
  rw [← L.fr_n] at hv
  rcases L.fr_val ops.size (Nat.le_refl _) t v hv with ⟨k, hk, hd, rfl⟩ | ⟨h1, h2⟩
  · rw [e2]; exact I.done k hk (hall k hk) t hd
  · rw [I.rest t fun k hk _ => h2 k hk, e2]
    exact (h0.val t v h1).later I.names.1 I.names.2
theorem Inv.start {μ0 : MM} {w0 : World} {a0 : Act} (hg : GOk g0.nx μ0 w0.heap g0.H) (h0 : FrOk g0.nx μ0 fr0 a0.tmps nT) (D : Nat → Prop) (hD : ∀ k, ¬ D k) : L.Inv μ0 w0 a0 D a0 w0 0 μ0 where
  p_le := Nat.zero_le _
  p_ok := fun k _ _ => ⟨fun h => absurd h (hD k), fun h => by omega⟩
  gok := by rw [L.H_0, L.nx_0]; exact hg
  ext := fun g e1 e2 => Ext.same μ0 w0 (by rw [e1, L.H_0]) (by rw [e2, L.nx_0])
  defers := rfl
  size := h0.size
  done := fun k _ h => absurd h (hD k)
  rest := fun _ _ => rfl
  down := fun j _ h => absurd h (hD j)
def listedD (listed : Array Bool) (k : Nat) : Prop := listed.getD k false = true
theorem listedD_set {listed : Array Bool} {i : Nat} (hi : i < listed.size) : listedD (listed.setIfInBounds i true) = fun k => listedD listed k ∨ k = i := by
  funext k
  simp only [listedD, Array.getD_eq_getD_getElem?]
  by_cases h : i = k
  · subst h
    rw [Array.getElem?_setIfInBounds_self_of_lt hi]
    simp
  · rw [Array.getElem?_setIfInBounds_ne h]
    simp [Ne.symm h]
theorem listed_not {listed : Array Bool} {k : Nat} (hk : k < listed.size) : listed.getD k true = false ↔ ¬ listedD listed k := by
  simp [listedD, hk]
theorem any {μ0 : MM} {w0 : World} {a0 : Act} (h0 : FrOk g0.nx μ0 fr0 a0.tmps nT) (hcs : gf.cs) {Q : Exit → Act → World → Prop} (hQ : ∀ a w, FrAfter nT g0 μ0 w0 gf frf a0 a w → Q .normal a w) :
    ∀ (fuel : Nat) (listed : Array Bool) (a : Act) (w : World) (p : Nat) (μ : MM), listed.size = ops.size → listed.toList.count false ≤ fuel → L.Inv μ0 w0 a0 (listedD listed) a w p μ → wpAny P .any ops Q fuel listed a w := by
  have final : ∀ (listed : Array Bool) a w p μ, listed.size = ops.size → L.Inv μ0 w0 a0 (listedD listed) a w p μ → Region.ready .any ops listed = [] → Q .normal a w := by
    intro listed a w p μ hs I hr
    refine hQ _ _ (I.fin h0 ?_)
    intro k
    induction k using Nat.strongRecOn with
    | _ k ih =>
      intro hk
      refine Classical.byContradiction fun hn => ?_
      have : k ∈ Region.ready .any ops listed := by
        refine mem_ready.2 ⟨(listed_not (by omega)).2 hn, ops[k], Array.getElem?_eq_getElem hk, fun e he hb => ?_⟩
        have hb := L.bef_lt _ _ (L.bef_edge k _ (Array.getElem?_eq_getElem hk) e he hb)
        exact ih e.on hb (by omega)
      rw [hr] at this
      cases this
  intro fuel
  induction fuel with
  | zero =>
    intro listed a w p μ hs hc I
    have hr : Region.ready .any ops listed = [] := by
      cases h : Region.ready .any ops listed with
      | nil => rfl
      | cons i l =>
        have hi : i ∈ Region.ready .any ops listed := by rw [h]; exact List.mem_cons_self
        obtain ⟨h1, o, ho, _⟩ := mem_ready.1 hi
        have hlt : i < ops.size := (Array.getElem?_eq_some_iff.1 ho).1
        have : false ∈ listed.toList := by
          have : listed[i]'(by omega) = false := by simpa [show i < listed.size by omega] using h1
          rw [← this]; simp
        have := List.count_pos_iff.2 this
        omega
    exact ⟨hr, final listed a w p μ hs I hr⟩
  | succ fuel ih =>
    intro listed a w p μ hs hc I
    refine ⟨final listed a w p μ hs I, fun i hi => ?_⟩
    obtain ⟨h1, o, ho, h2⟩ := mem_ready.1 hi
    have hlt : i < ops.size := (Array.getElem?_eq_some_iff.1 ho).1
    refine I.step h0 hcs hlt ((listed_not (by omega)).1 h1) ?_ fun a' w' p' μ' I' => ?_
    · intro k hb
      obtain ⟨o', e, ho', he, hbi, hk⟩ := L.bef_inv k i hlt hb
      rw [ho] at ho'
      cases ho'
      have he' : listedD listed e.on := h2 e he hbi
      rcases hk with rfl | hk
      · exact he'
      · exact I.down e.on (by have := L.bef_lt _ _ (L.bef_edge i o ho e he hbi); omega) he' k hk
    · refine ih _ a' w' p' μ' (by simpa using hs) ?_ (by rw [listedD_set (by omega)]; exact I')
      rw [Array.toList_setIfInBounds, List.count_set (by simp; omega)]
      have : listed.toList[i]'(by simp; omega) = false := by simpa [show i < listed.size by omega] using h1
      rw [this]
      have hm : false ∈ listed.toList := by rw [← this]; simp
      have := List.count_pos_iff.2 hm
      simp only [show (true == false) = false from rfl, beq_self_eq_true, if_true, Bool.false_eq_true, if_false]
      omega
theorem leads (L : Plan P ops nT g0 gf fr0 frf) (hm : P.follows .mixedOrders = true) (id : Nat) : Leads P (.region id ops true) nT fr0 g0 (.normal, frf) gf := by
  refine ⟨L.cs_0, fun hcs μ w a hg hf Q hQ => wp_region_any hm ?_⟩
  have hE : Ext g0 μ w g0 μ { w with drawn := w.drawn + 1 } := Ext.drawn μ w _ rfl rfl
  refine any (L := L) (w0 := { w with drawn := w.drawn + 1 }) hf hcs (fun a' w' h => hQ a' w' (h.trans hE rfl)) ops.size _ a _ 0 μ (by simp) ?_ (Inv.start (w0 := { w with drawn := w.drawn + 1 }) hg hf _ ?_)
  · rw [Array.toList_replicate]; simp
  · intro k h
    simp only [listedD, Array.getD_eq_getD_getElem?, Array.getElem?_replicate] at h
    split at h <;> simp at h
end Plan
end Go.Sx
