/- DRAWN REGIONS WITH MAKERS OF MEMORY IN NO ORDER: every order, by a wider plan. -/
import Derived.Test.YtehhljcjdiokjaaSyL
set_option linter.unusedSimpArgs false
set_option linter.unusedVariables false
noncomputable section
namespace Go.Sx
open M
namespace PlanB
variable {P : Program} {ops : Array Oper} {nT : Nat} {g0 gf : G} {fr0 frf : Fr} {L : PlanB P ops nT g0 gf fr0 frf}
/-- names as one has them below a bound, as the other has them from there on -/
def mix (n : Nat) (a b : MM) : MM := ⟨fun g => if g < n then a.blk g else b.blk g, fun g => if g < n then a.cap g else b.cap g, fun g => if g < n then a.sz g else b.sz g, fun g => if g < n then a.base g else b.base g⟩
theorem mix_lt {n : Nat} {a b : MM} {g : Nat} (h : g < n) : AtN a (mix n a b) g := ⟨by simp [mix, h], by simp [mix, h], by simp [mix, h], by simp [mix, h]⟩
theorem mix_ge {n : Nat} {a b : MM} {g : Nat} (h : n ≤ g) : AtN b (mix n a b) g := ⟨by simp [mix, Nat.not_lt.2 h], by simp [mix, Nat.not_lt.2 h], by simp [mix, Nat.not_lt.2 h], by simp [mix, Nat.not_lt.2 h]⟩
section
variable {μ0 : MM} {w0 : World} {a0 : Act} {D : Nat → Prop} {a : Act} {w : World} {h : Sx.T ABk} {μ : MM}
theorem Inv.after (I : L.Inv μ0 w0 a0 D a w h μ) (hb : GOk (L.nx 0) μ0 w0.heap (L.H 0)) {j : Nat} (hj : j < ops.size) (hD : ¬ D j)
    (hP : ∀ k, L.bef k j = true → D k) {c : Value} {w' : World} (hA : After (L.gin j) μ w (L.gout j) (L.V j) c w') : ∃ h' μ', L.Inv μ0 w0 a0 (fun k => D k ∨ k = j) (a.put (dstOf ops j) c) w' h' μ' := by
  obtain ⟨μ', hv, hg', hE⟩ := hA
  rw [L.gout_nx j hj] at hv hg'
  have hup : MM.upto (L.nx j) μ μ' := by rw [← L.gin_nx j hj]; exact hE.names
  have hnx := L.nx_s j hj
  have hNF : L.nx (j + 1) ≤ L.nx ops.size := L.nx_mono (j + 1) ops.size hj (Nat.le_refl _)
  have A1 : ∀ g, g < L.nx (j + 1) → AtN μ' (mix (L.nx (j + 1)) μ' μ) g := fun g hg => mix_lt hg
  have A2 : ∀ g, g < L.nx j ∨ L.nx (j + 1) ≤ g → AtN μ (mix (L.nx (j + 1)) μ' μ) g := fun g hg => by
    rcases hg with hg | hg
    · have := A1 g (by omega)
      exact ⟨this.blk.trans (hup.blk g hg), this.cap.trans (hup.cap g hg), this.sz.trans (hup.sz g hg), this.base.trans (hup.base g hg)⟩
    · exact mix_ge hg
  have AD : ∀ g, (g < L.nx 0 ∨ ∃ m, m < ops.size ∧ D m ∧ L.nx m ≤ g ∧ g < L.nx (m + 1)) → AtN μ (mix (L.nx (j + 1)) μ' μ) g := fun g hg => by
    refine A2 g ?_
    rcases hg with hg | ⟨m, m1, m2, m3, m4⟩
    · exact .inl (Nat.lt_of_lt_of_le hg (L.nx_mono 0 j (by omega) (by omega)))
    · have hne : m ≠ j := fun e => hD (e ▸ m2)
      rcases Nat.lt_or_ge m j with hm | hm
      · exact .inl (Nat.lt_of_lt_of_le m4 (L.nx_mono (m + 1) j hm (by omega)))
      · exact .inr (Nat.le_trans (L.nx_mono (j + 1) m (by omega) (by omega)) m3)
  have ASN : ∀ k, k < ops.size → D k → ∀ g, L.SN k g → AtN μ (mix (L.nx (j + 1)) μ' μ) g := fun k hk hDk g hg => by
    refine AD g ?_
    rcases hg with hg | ⟨m, m1, m2, m3⟩
    · exact .inl hg
    · refine .inr ⟨m, m1, ?_, m3⟩
      rcases m2 with rfl | m2
      · exact hDk
      · exact I.down k hk hDk m m2
  -- the heap behind it
  have hh : ∃ h' : Sx.T ABk, ∀ nm, (L.W j nm → h'.get nm = (L.H (j + 1)).get nm) ∧ (¬ L.W j nm → h'.get nm = h.get nm) := by
    refine ⟨mergeT h (L.H (j + 1)) (L.T j ++ (List.range (L.nx (j + 1) - L.nx j)).map (L.nx j + ·)), fun nm => ?_⟩
    have hm : nm ∈ L.T j ++ (List.range (L.nx (j + 1) - L.nx j)).map (L.nx j + ·) ↔ L.W j nm := by
      rw [List.mem_append, List.mem_map]
      unfold W
      constructor
      · rintro (h | ⟨i, h1, rfl⟩)
        · exact .inl h
        · have := List.mem_range.1 h1
          exact .inr ⟨by omega, by omega⟩
      · rintro (h | h)
        · exact .inl h
        · exact .inr ⟨nm - L.nx j, List.mem_range.2 (by omega), by omega⟩
    rw [get_mergeT]
    exact ⟨fun hW => if_pos (hm.2 hW), fun hW => if_neg fun hn => hW (hm.1 hn)⟩
  obtain ⟨h', hh⟩ := hh
  have view : ∀ nm b, h'.get nm = some b → ((L.gout j).H.get nm = some b ∧ (b.owned = true ∨ (L.gin j).H.get nm = some b)) ∨ (h.get nm = some b ∧ (L.gin j).H.get nm = none) := fun nm b hn => by
    by_cases hW : L.W j nm
    · rw [(hh nm).1 hW] at hn
      obtain ⟨h1, h2, _⟩ := L.H_w j hj nm hW b hn
      exact .inl ⟨h1, .inl h2⟩
    · rw [(hh nm).2 hW] at hn
      cases hv : (L.gin j).H.get nm with
      | none => exact .inr ⟨hn, rfl⟩
      | some b1 =>
        have := (I.reads hb hj hD hP hv).1
        rw [hn] at this
        cases this
        exact .inl ⟨L.tr j hj nm b (L.lt_of hb.lt (by omega) (L.vis j hj nm b hv).1) hv fun hT => hW (.inl hT), .inr rfl⟩
  have mayS : ∀ B, May μ (L.gin j).H B → ∃ g b, (L.gin j).H.get g = some b ∧ h.get g = some b ∧ b.owned = true ∧ b.real μ g ∧ μ.blk g = B := fun B ⟨g, b, e1, e2, e3, e4⟩ => ⟨g, b, e1, (I.reads hb hj hD hP e1).1, e2, e3, e4⟩
  have mayH : ∀ B, May μ (L.gin j).H B → May μ h B := fun B hm => let ⟨g, b, _, e1, e2⟩ := mayS B hm; ⟨g, b, e1, e2⟩
  have AH : ∀ nm b, h.get nm = some b → AtN μ (mix (L.nx (j + 1)) μ' μ) nm := fun nm b hn => AD nm (I.own hb nm b hn)
  have ltO : ∀ nm b, (L.gout j).H.get nm = some b → nm < L.nx (j + 1) := fun nm b hn => hg'.lt nm b hn
  have mayO : ∀ g b B, (L.gout j).H.get g = some b → b.owned = true → b.real (mix (L.nx (j + 1)) μ' μ) g → (mix (L.nx (j + 1)) μ' μ).blk g = B → May μ' (L.gout j).H B := fun g b B h1 h2 h3 h4 =>
    ⟨g, b, h1, h2, (ABk.real_at (A1 g (ltO g b h1)) b).1 h3, by rw [← (A1 g (ltO g b h1)).blk]; exact h4⟩
  refine ⟨h', mix (L.nx (j + 1)) μ' μ, ?_⟩
  have hne : ∀ k, k < ops.size → D k → ∀ d, dstOf ops k = some d → dstOf ops j ≠ some d := fun k hk hDk d hd e => hD (by rw [L.dst_inj j k d hj hk e hd]; exact hDk)
  exact {
    at' := fun nm => by
      by_cases hW : L.W j nm
      · refine ⟨j + 1, hj, (hh nm).1 hW, fun k hk hWk => ⟨?_, fun hlt => ?_⟩⟩
        · rintro (hk' | rfl)
          · by_cases e : k = j
            · omega
            · rcases L.ord hb.lt hk hj e hWk hW with o | o
              · have := L.bef_lt _ _ o; omega
              · exact absurd (I.down k hk hk' j o) hD
          · omega
        · by_cases e : k = j
          · exact .inr e
          · rcases L.ord hb.lt hk hj e hWk hW with o | o
            · exact .inl (hP k o)
            · have := L.bef_lt _ _ o; omega
      · obtain ⟨q, q1, q2, q3⟩ := I.at' nm
        refine ⟨q, q1, ((hh nm).2 hW).trans q2, fun k hk hWk => ?_⟩
        rw [← q3 k hk hWk]
        exact ⟨fun h => h.resolve_right fun e => hW (e ▸ hWk), .inl⟩
    gok := {
      lt := fun nm b hn => by
        rcases view nm b hn with ⟨h1, _⟩ | ⟨h1, _⟩
        · exact Nat.lt_of_lt_of_le (ltO nm b h1) hNF
        · exact I.gok.lt nm b h1
      ok := fun nm b hn => by
        rcases view nm b hn with ⟨h1, _⟩ | ⟨h1, h2⟩
        · exact (hg'.ok nm b h1).on (S := (· < L.nx (j + 1))) (fun g hg _ => ⟨Nat.lt_of_lt_of_le hg hNF, A1 g hg⟩) (A1 nm (ltO nm b h1)) (hg'.ok nm b h1).inN fun _ => rfl
        · refine (I.gok.ok nm b h1).on (fun g hg hlt => ⟨hlt, AD g hg⟩) (AH nm b h1) (I.holds hb nm b h1) fun hr => hE.block _ ((I.gok.ok nm b h1).lt_size hr) fun hm => ?_
          obtain ⟨g, b', e0, e1, e2, e3, e4⟩ := mayS _ hm
          have := I.gok.sep g b' nm b e1 h1 e2 e3 hr e4
          rw [this, h2] at e0
          cases e0
      sep := fun g b g' b' hn hn' ho hr hr' hB => by
        rcases view g b hn with ⟨h1, k1⟩ | ⟨h1, k1⟩ <;> rcases view g' b' hn' with ⟨h2, k2⟩ | ⟨h2, k2⟩
        · refine hg'.sep g b g' b' h1 h2 ho ((ABk.real_at (A1 g (ltO g b h1)) b).1 hr) ((ABk.real_at (A1 g' (ltO g' b' h2)) b').1 hr') ?_
          rw [← (A1 g (ltO g b h1)).blk, ← (A1 g' (ltO g' b' h2)).blk]; exact hB
        · have hr2 := (ABk.real_at (AH g' b' h2) b').1 hr'
          have hB' : (mix (L.nx (j + 1)) μ' μ).blk g = μ.blk g' := hB.trans (AH g' b' h2).blk
          obtain ⟨g2, b2, e0, e1, e2, e3, e4⟩ := mayS _ (hE.may _ ((I.gok.ok g' b' h2).lt_size hr2) (mayO g b _ h1 ho hr hB'))
          have := I.gok.sep g2 b2 g' b' e1 h2 e2 e3 hr2 e4
          rw [this, k2] at e0
          cases e0
        · have hr1 := (ABk.real_at (AH g b h1) b).1 hr
          have hB' : (mix (L.nx (j + 1)) μ' μ).blk g' = μ.blk g := hB.symm.trans (AH g b h1).blk
          rcases k2 with k2 | k2
          · obtain ⟨g2, b2, e0, e1, e2, e3, e4⟩ := mayS _ (hE.may _ ((I.gok.ok g b h1).lt_size hr1) (mayO g' b' _ h2 k2 hr' hB'))
            have := I.gok.sep g2 b2 g b e1 h1 e2 e3 hr1 e4
            rw [this, k1] at e0
            cases e0
          · have hn2 := (I.reads hb hj hD hP k2).1
            have := I.gok.sep g b g' b' h1 hn2 ho hr1 ((ABk.real_at (AH g' b' hn2) b').1 hr') (by rw [← (AH g' b' hn2).blk]; exact hB'.symm)
            rw [← this, k1] at k2
            cases k2
        · refine I.gok.sep g b g' b' h1 h2 ho ((ABk.real_at (AH g b h1) b).1 hr) ((ABk.real_at (AH g' b' h2) b').1 hr') ?_
          rw [← (AH g b h1).blk, ← (AH g' b' h2).blk]; exact hB }
    names := ⟨fun g hg => ((AD g (.inl hg)).blk).trans (I.names.blk g hg), fun g hg => ((AD g (.inl hg)).cap).trans (I.names.cap g hg), fun g hg => ((AD g (.inl hg)).sz).trans (I.names.sz g hg), fun g hg => ((AD g (.inl hg)).base).trans (I.names.base g hg)⟩
    os := hE.os.trans I.os
    tape := hE.tape.trans I.tape
    output := hE.output.trans I.output
    hsize := Nat.le_trans I.hsize hE.size
    block := fun B hB hn => (hE.block B (Nat.lt_of_lt_of_le hB I.hsize) fun hm => hn (I.may B hB (mayH B hm))).trans (I.block B hB hn)
    may := fun B hB ⟨g, b, hn, ho, hr, hbk⟩ => by
      rcases view g b hn with ⟨h1, _⟩ | ⟨h1, _⟩
      · exact I.may B hB (mayH B (hE.may B (Nat.lt_of_lt_of_le hB I.hsize) (mayO g b B h1 ho hr hbk)))
      · exact I.may B hB ⟨g, b, h1, ho, (ABk.real_at (AH g b h1) b).1 hr, by rw [← (AH g b h1).blk]; exact hbk⟩
    defers := by rw [Act.put_defers]; exact I.defers
    size := by rw [size_put]; exact I.size
    done := fun k hk hDk d hd => by
      rcases hDk with hk' | rfl
      · rw [getD_put_ne (hne k hk hk' d hd)]
        exact (I.done k hk hk' d hd).on (S := L.SN k) (fun g hg hlt => ⟨hlt, ASN k hk hk' g hg⟩) (L.V_in k hk)
      · rw [hd, getD_put_eq (Nat.lt_of_lt_of_le (L.dst_lt k hk d hd) I.size)]
        exact hv.on (S := (· < L.nx (k + 1))) (fun g hg _ => ⟨Nat.lt_of_lt_of_le hg hNF, A1 g hg⟩) hv.inN
    rest := fun t ht => by
      rw [getD_put_ne (ht j hj (.inr rfl))]
      exact I.rest t fun k hk hDk => ht k hk (.inl hDk)
    down := fun i hi hDi k hk => by
      rcases hDi with h | rfl
      · exact .inl (I.down i hi h k hk)
      · exact .inl (hP k hk) }
theorem Inv.step (I : L.Inv μ0 w0 a0 D a w h μ) (hb : GOk (L.nx 0) μ0 w0.heap (L.H 0)) (h0 : FrOk g0.nx μ0 fr0 a0.tmps nT) (hcs : gf.cs) {j : Nat} (hj : j < ops.size) (hD : ¬ D j)
    (hP : ∀ k, L.bef k j = true → D k) {Q : Exit → Act → World → Prop} {K : Act → World → Prop} (hK : ∀ a' w' h' μ', L.Inv μ0 w0 a0 (fun k => D k ∨ k = j) a' w' h' μ' → K a' w') : wpOp P ops Q j K a w := by
  have ho : ops[j]? = some ops[j] := Array.getElem?_eq_getElem hj
  have hd : dstOf ops j = (ops[j]).dst := by simp [dstOf, ho]
  have e := L.gin_nx j hj
  have := L.op_ok j _ ho (L.cs_ok hcs j hj) μ w a (by rw [e]; exact I.gok_in hb hj hD hP) (by rw [e]; exact I.frame h0 hj hD hP) K Q fun c w' hA => by
    obtain ⟨h', μ', hI⟩ := I.after hb hj hD hP hA
    rw [hd] at hI
    exact hK _ _ _ _ hI
  unfold wpOp
  rw [ho]
  dsimp only
  split
  · rename_i hw; rw [if_pos hw] at this; exact .inl this
  · rename_i hw; rw [if_neg hw] at this; exact this
theorem Inv.fin (I : L.Inv μ0 w0 a0 D a w h μ) (hb : GOk (L.nx 0) μ0 w0.heap (L.H 0)) (h0 : FrOk g0.nx μ0 fr0 a0.tmps nT) (hall : ∀ k, k < ops.size → D k) : FrAfter nT g0 μ0 w0 gf frf a0 a w := by
  have eq : ∀ nm, h.get nm = gf.H.get nm := fun nm => by
    obtain ⟨q, q1, q2, q3⟩ := I.at' nm
    rw [q2, ← L.H_n]
    refine (L.agree q ops.size nm q1 (Nat.le_refl _) fun k k1 k2 hW => ?_).symm
    have := (q3 k k2 hW).1 (hall k k2)
    omega
  refine ⟨μ, ?_, ?_, ⟨I.size, fun t v hv => ?_⟩, I.defers⟩
  · rw [← L.nx_n]
    exact { lt := fun g b hg => I.gok.lt g b (by rw [eq]; exact hg)
            ok := fun g b hg => I.gok.ok g b (by rw [eq]; exact hg)
            sep := fun g b g' b' hg hg' => I.gok.sep g b g' b' (by rw [eq]; exact hg) (by rw [eq]; exact hg') }
  · exact { nx := by rw [← L.nx_0, ← L.nx_n]; exact L.nx_mono 0 _ (by omega) (Nat.le_refl _)
            names := by rw [← L.nx_0]; exact I.names
            os := I.os
            tape := I.tape
            output := I.output
            size := I.hsize
            block := fun B hB hn => I.block B hB (by rw [L.H_0]; exact hn)
            may := fun B hB ⟨g, b, e1, e2⟩ => by
              have := I.may B hB ⟨g, b, by rw [eq]; exact e1, e2⟩
              rw [L.H_0] at this
              exact this }
  · rw [← L.fr_n] at hv
    rcases L.fr_val ops.size (Nat.le_refl _) t v hv with ⟨k, hk, hd, rfl⟩ | ⟨h1, h2⟩
    · rw [← L.nx_n]; exact I.done k hk (hall k hk) t hd
    · rw [I.rest t fun k hk _ => h2 k hk]
      exact (h0.val t v h1).later (by rw [← L.nx_0]; exact I.names) (by rw [← L.nx_0, ← L.nx_n]; exact L.nx_mono 0 _ (by omega) (Nat.le_refl _))
theorem Inv.start (hb : GOk (L.nx 0) μ0 w0.heap (L.H 0)) (h0 : FrOk g0.nx μ0 fr0 a0.tmps nT) (D : Nat → Prop) (hD : ∀ k, ¬ D k) : L.Inv μ0 w0 a0 D a0 w0 (L.H 0) μ0 where
  at' := fun nm => ⟨0, by omega, rfl, fun k hk _ => ⟨fun h => absurd h (hD k), fun h => by omega⟩⟩
  gok := hb.up (L.nx_mono 0 _ (by omega) (Nat.le_refl _)) fun _ _ h => h
  names := MM.upto.refl _ _
  os := rfl
  tape := rfl
  output := rfl
  hsize := Nat.le_refl _
  block := fun _ _ _ => rfl
  may := fun _ _ h => h
  defers := rfl
  size := h0.size
  done := fun k _ h => absurd h (hD k)
  rest := fun _ _ => rfl
  down := fun j _ h => absurd h (hD j)
end
theorem any {μ0 : MM} {w0 : World} {a0 : Act} (hb : GOk (L.nx 0) μ0 w0.heap (L.H 0)) (h0 : FrOk g0.nx μ0 fr0 a0.tmps nT) (hcs : gf.cs) {Q : Exit → Act → World → Prop} (hQ : ∀ a w, FrAfter nT g0 μ0 w0 gf frf a0 a w → Q .normal a w) :
    ∀ (fuel : Nat) (listed : Array Bool) (a : Act) (w : World) (h : Sx.T ABk) (μ : MM), listed.size = ops.size → listed.toList.count false ≤ fuel → L.Inv μ0 w0 a0 (Plan.listedD listed) a w h μ → wpAny P .any ops Q fuel listed a w := by
  have final : ∀ (listed : Array Bool) a w h μ, listed.size = ops.size → L.Inv μ0 w0 a0 (Plan.listedD listed) a w h μ → Region.ready .any ops listed = [] → Q .normal a w := by
    intro listed a w h μ hs I hr
    refine hQ _ _ (I.fin hb h0 ?_)
    intro k
    induction k using Nat.strongRecOn with
    | _ k ih =>
      intro hk
      refine Classical.byContradiction fun hn => ?_
      have : k ∈ Region.ready .any ops listed := by
        refine mem_ready.2 ⟨(Plan.listed_not (by omega)).2 hn, ops[k], Array.getElem?_eq_getElem hk, fun e he hb => ?_⟩
        have hb := L.bef_lt _ _ (L.bef_edge k _ (Array.getElem?_eq_getElem hk) e he hb)
        exact ih e.on hb (by omega)
      rw [hr] at this
      cases this
  intro fuel
  induction fuel with
  | zero =>
    intro listed a w h μ hs hc I
    have hr : Region.ready .any ops listed = [] := by
      cases hr : Region.ready .any ops listed with
      | nil => rfl
      | cons i l =>
        have hi : i ∈ Region.ready .any ops listed := by rw [hr]; exact List.mem_cons_self
        obtain ⟨h1, o, ho, _⟩ := mem_ready.1 hi
        have hlt : i < ops.size := (Array.getElem?_eq_some_iff.1 ho).1
        have : false ∈ listed.toList := by
          have : listed[i]'(by omega) = false := by simpa [show i < listed.size by omega] using h1
          rw [← this]; simp
        have := List.count_pos_iff.2 this
        omega
    exact ⟨hr, final listed a w h μ hs I hr⟩
  | succ fuel ih =>
    intro listed a w h μ hs hc I
    refine ⟨final listed a w h μ hs I, fun i hi => ?_⟩
    obtain ⟨h1, o, ho, h2⟩ := mem_ready.1 hi
    have hlt : i < ops.size := (Array.getElem?_eq_some_iff.1 ho).1
    refine I.step hb h0 hcs hlt ((Plan.listed_not (by omega)).1 h1) ?_ fun a' w' h' μ' I' => ?_
    · intro k hb
      obtain ⟨o', e, ho', he, hbi, hk⟩ := L.bef_inv k i hlt hb
      rw [ho] at ho'
      cases ho'
      have he' : Plan.listedD listed e.on := h2 e he hbi
      rcases hk with rfl | hk
      · exact he'
      · exact I.down e.on (by have := L.bef_lt _ _ (L.bef_edge i o ho e he hbi); omega) he' k hk
    · refine ih _ a' w' h' μ' (by simpa using hs) ?_ (by rw [Plan.listedD_set (by omega)]; exact I')
      rw [Array.toList_setIfInBounds, List.count_set (by simp; omega)]
      have : listed.toList[i]'(by simp; omega) = false := by simpa [show i < listed.size by omega] using h1
      rw [this]
      have hm : false ∈ listed.toList := by rw [← this]; simp
      have := List.count_pos_iff.2 hm
      simp only [show (true == false) = false from rfl, beq_self_eq_true, if_true, Bool.false_eq_true, if_false]
      omega
theorem leads (L : PlanB P ops nT g0 gf fr0 frf) (hm : P.follows .mixedOrders = true) (id : Nat) : Leads P (.region id ops true) nT fr0 g0 (.normal, frf) gf := by
  refine ⟨L.cs_0, fun hcs μ w a hg hf Q hQ => wp_region_any hm ?_⟩
  have hE : Ext g0 μ w g0 μ { w with drawn := w.drawn + 1 } := Ext.drawn μ w _ rfl rfl
  have hb : GOk (L.nx 0) μ ({ w with drawn := w.drawn + 1 } : World).heap (L.H 0) := by rw [L.nx_0, L.H_0]; exact hg
  refine any (L := L) (w0 := { w with drawn := w.drawn + 1 }) hb hf hcs (fun a' w' h => hQ a' w' (h.trans hE rfl)) ops.size _ a _ (L.H 0) μ (by simp) ?_ (Inv.start (w0 := { w with drawn := w.drawn + 1 }) hb hf _ ?_)
  · rw [Array.toList_replicate]; simp
  · intro k h
    simp only [Plan.listedD, Array.getD_eq_getD_getElem?, Array.getElem?_replicate] at h
    split at h <;> simp at h
end PlanB
end Go.Sx
