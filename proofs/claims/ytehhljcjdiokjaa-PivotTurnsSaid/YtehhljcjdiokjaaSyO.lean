/- DRAWN REGIONS WITH MAKERS OF MEMORY IN NO ORDER: the pass gives a plan; the engine with both kinds of plans is sound. -/
import Derived.Test.YtehhljcjdiokjaaSyN
set_option linter.unusedSimpArgs false
set_option linter.unusedVariables false
noncomputable section
namespace Go.Sx
open M

theorem passB_cs {P : Program} {call : Calls'} {C : Cfg} {fr : Fr} {mk : Mk} {ops : Array Oper} (hcall : CallOk P call) (hall : C.all = ops.toList) {j : Nat} {o : Oper} {g g' : G} {rc : RcB} (h : RcOkB P call C j o fr mk g rc g') (hc : g'.cs) : rc.gout.cs ∧ g.cs := by
  have h1 : rc.gout.cs := by
    have := hc
    rw [h.out] at this
    exact putP_cs this
  refine ⟨h1, ?_⟩
  have run := h.run
  rw [hall] at run
  have := (oneA_sound hcall run).1 h1
  rw [h.gin] at this
  exact this
section
variable {P : Program} {call : Calls'} {ops : Array Oper} {nT : Nat} {ms : List Nat} {Ts : List (List Nat)} {g g' : G} {fr : Fr} {rcs : List RcB}
theorem planB_at (hp : passB P call ⟨nT, ops.toList, ms, Ts, 0, g.nx⟩ 0 ops.toList fr [] g = .done rcs g') : ∀ j (hj : j < ops.size), ∃ rc mk', rcs[j]? = some rc ∧ RcOkB P call ⟨nT, ops.toList, ms, Ts, 0, g.nx⟩ j ops[j] (frAtB fr rcs j) mk' (gAtB g rcs j) rc (gAtB g rcs (j + 1)) ∧
      (∀ p ∈ mk', ∃ m, m < j ∧ p = (m, (gAtB g rcs m).nx, (gAtB g rcs (m + 1)).nx)) ∧ (∀ m, m < j → (m, (gAtB g rcs m).nx, (gAtB g rcs (m + 1)).nx) ∈ mk') := by
  have hat := passB_at hp
  have raw : ∀ j (hj : j < ops.size), ∃ rc mk', rcs[j]? = some rc ∧ RcOkB P call ⟨nT, ops.toList, ms, Ts, 0, g.nx⟩ j ops[j] (frAtB fr rcs j) mk' (gAtB g rcs j) rc (gAtB g rcs (j + 1)) ∧
      (∀ p ∈ mk', ∃ m r, m < j ∧ rcs[m]? = some r ∧ p = (m, r.gin.nx, r.g1.nx)) ∧ (∀ m r, m < j → rcs[m]? = some r → (m, r.gin.nx, r.g1.nx) ∈ mk') := fun j hj => by
    obtain ⟨rc, mk', h1, h2, h3, _, h5⟩ := hat.2.2.2 j ops[j] (by simp [hj])
    rw [Nat.zero_add] at h2
    refine ⟨rc, mk', h1, h2, fun p hpm => ?_, fun m r hm hr => by simpa using h5 m r hm hr⟩
    rcases h3 p hpm with h | ⟨m, r, k1, k2, k4⟩
    · cases h
    · exact ⟨m, r, k1, k2, by simpa using k4⟩
  have nxs : ∀ m, m < ops.size → ∀ r, rcs[m]? = some r → r.gin.nx = (gAtB g rcs m).nx ∧ r.g1.nx = (gAtB g rcs (m + 1)).nx := fun m hm r hr => by
    obtain ⟨rc, mk', h1, h2, _⟩ := raw m hm
    rw [hr] at h1
    cases h1
    exact ⟨by rw [h2.gin]; rfl, by rw [h2.g1]⟩
  intro j hj
  obtain ⟨rc, mk', h1, h2, h3, h5⟩ := raw j hj
  refine ⟨rc, mk', h1, h2, fun p hpm => ?_, fun m hm => ?_⟩
  · obtain ⟨m, r, k1, k2, k3⟩ := h3 p hpm
    obtain ⟨e1, e2⟩ := nxs m (by omega) r k2
    exact ⟨m, k1, by rw [k3, e1, e2]⟩
  · obtain ⟨r, _, k1, _⟩ := raw m (by omega)
    obtain ⟨e1, e2⟩ := nxs m (by omega) r k1
    rw [← e1, ← e2]
    exact h5 m r hm k1
theorem planB_down (hcall : CallOk P call) (hp : passB P call ⟨nT, ops.toList, ms, Ts, 0, g.nx⟩ 0 ops.toList fr [] g = .done rcs g') (hcs : g'.cs) : ∀ i, i ≤ ops.size → (gAtB g rcs (ops.size - i)).cs := by
  have hat := passB_at hp
  intro i
  induction i with
  | zero =>
    intro _
    have e : gAtB g rcs ops.toList.length = g' := hat.2.1
    rw [Nat.sub_zero, show ops.size = ops.toList.length by simp, e]
    exact hcs
  | succ i ih =>
    intro hi
    have h := ih (by omega)
    obtain ⟨rc, mk', h1, h2, _⟩ := planB_at hp (ops.size - (i + 1)) (by omega)
    rw [show ops.size - (i + 1) + 1 = ops.size - i by omega] at h2
    exact (passB_cs hcall rfl h2 h).2
theorem planB_cs (hcall : CallOk P call) (hp : passB P call ⟨nT, ops.toList, ms, Ts, 0, g.nx⟩ 0 ops.toList fr [] g = .done rcs g') (hcs : g'.cs) (j : Nat) (hj : j ≤ ops.size) : (gAtB g rcs j).cs := by
  have := planB_down hcall hp hcs (ops.size - j) (by omega)
  rwa [show ops.size - (ops.size - j) = j by omega] at this
theorem inR_is {ms : List Nat} {nx0 j a b x : Nat} {mk : Mk} : inR (rgOf ms nx0 j mk a b) x = true ↔ x < nx0 ∨ (a ≤ x ∧ x < b) ∨ ∃ p ∈ mk, befM ms p.1 j = true ∧ p.2.1 ≤ x ∧ x < p.2.2 := by
  have e : ∀ p q : Nat, (Nat.ble p x && Nat.blt x q) = true ↔ p ≤ x ∧ x < q := fun p q => by
    rw [Bool.and_eq_true]
    exact ⟨fun ⟨h1, h2⟩ => ⟨Nat.le_of_ble_eq_true h1, blt_lt h2⟩, fun ⟨h1, h2⟩ => ⟨Nat.ble_eq_true_of_le h1, Nat.ble_eq_true_of_le h2⟩⟩
  unfold inR rgOf
  simp only [List.any_cons, Bool.or_eq_true, e, List.any_map, List.any_eq_true, List.mem_filter, Function.comp]
  constructor
  · rintro (h | h | ⟨p, ⟨h1, h2⟩, h3⟩)
    · exact .inl h.2
    · exact .inr (.inl h)
    · exact .inr (.inr ⟨p, h1, h2, h3⟩)
  · rintro (h | h | ⟨p, h1, h2, h3⟩)
    · exact .inl ⟨Nat.zero_le _, h⟩
    · exact .inr (.inl h)
    · exact .inr (.inr ⟨p, ⟨h1, h2⟩, h3⟩)
def planB (hcall : CallOk P call) (hct : CallT call) (hst : staticOk ms nT 0 0 ops.toList = true)
    (hp : passB P call ⟨nT, ops.toList, ms, Ts, 0, g.nx⟩ 0 ops.toList fr [] g = .done rcs g') (hseen : seenOkB ⟨nT, ops.toList, ms, Ts, 0, g.nx⟩ 0 rcs = true) (hcs : g'.cs) : PlanB P ops nT g g' fr (lastFrB fr rcs) :=
  have hat := passB_at hp
  have at_j := planB_at hp
  have dstC : ∀ k, (Cfg.mk nT ops.toList ms Ts 0 g.nx).dst k = dstOf ops k := fun k => by simp [Cfg.dst, dstOf]
  have mem_inc : ∀ k j, k < ops.size → j < ops.size → k ≠ j → befP ops ms k j = false → befP ops ms j k = false → k ∈ (Cfg.mk nT ops.toList ms Ts 0 g.nx).inc j := fun k j hk hj hne h1 h2 => by
    unfold Cfg.inc
    rw [mem_incs]
    simp only [befP, show Nat.blt j ops.size = true from Nat.ble_eq_true_of_le hj, show Nat.blt k ops.size = true from Nat.ble_eq_true_of_le hk, Bool.true_and] at h1 h2
    exact ⟨by simpa using hk, hne, h1, h2⟩
  have toS : ∀ j (hj : j < ops.size) (mk' : Mk), (∀ p ∈ mk', ∃ m, m < j ∧ p = (m, (gAtB g rcs m).nx, (gAtB g rcs (m + 1)).nx)) → ∀ x, inR (rgOf ms g.nx j mk' (gAtB g rcs j).nx (gAtB g rcs (j + 1)).nx) x = true →
      x < (gAtB g rcs 0).nx ∨ ∃ m, m < ops.size ∧ (m = j ∨ befP ops ms m j = true) ∧ (gAtB g rcs m).nx ≤ x ∧ x < (gAtB g rcs (m + 1)).nx := fun j hj mk' hmk x hx => by
    rcases inR_is.1 hx with h | h | ⟨p, h1, h2, h3⟩
    · exact .inl h
    · exact .inr ⟨j, hj, .inl rfl, h⟩
    · obtain ⟨m, hm, rfl⟩ := hmk p h1
      refine .inr ⟨m, by omega, .inr ?_, h3⟩
      simp only [befP, Bool.and_eq_true]
      exact ⟨Nat.ble_eq_true_of_le hj, h2⟩
  have trj : ∀ j (hj : j < ops.size) rc, rcs[j]? = some rc → ∃ l, rc.gout.tch = l ++ [] ∧ rc.gin.nx ≤ rc.gout.nx ∧ ∀ nm, nm < rc.gin.nx → nm ∉ l → rc.gout.H.get nm = rc.gin.H.get nm := fun j hj rc hrc => by
    obtain ⟨rc', mk', h1, h2, _⟩ := at_j j hj
    rw [hrc] at h1
    cases h1
    have := (Tch.oneA P hct _ _ _ _).of _ _ _ h2.run
    have e : rc.gin.tch = [] := by rw [h2.gin]; rfl
    rw [← e]
    exact this
  { V := fun j => ((rcs[j]?).map (·.v)).getD .top
    fr := frAtB fr rcs
    H := fun j => (gAtB g rcs j).H
    nx := fun j => (gAtB g rcs j).nx
    T := fun j => ((rcs[j]?).map (·.T)).getD []
    bef := befP ops ms
    fin := fun j => ((rcs[j]?).map (·.fin)).getD .e
    gin := fun j => ((rcs[j]?).map (·.gin)).getD g
    gout := fun j => ((rcs[j]?).map (·.gout)).getD g
    fr_0 := rfl
    fr_n := by rw [← hat.2.2.1]; simp
    H_0 := rfl
    nx_0 := rfl
    H_n := by rw [← hat.2.1]; simp
    nx_n := by rw [← hat.2.1]; simp
    fin_ok := fun j hj t v h => by
      obtain ⟨rc, mk', h1, h2, _⟩ := at_j j hj
      simp only [h1, Option.map_some, Option.getD_some, h2.fin, Cfg.fin, get_eraseAll] at h
      split at h
      · cases h
      · rename_i hn
        refine ⟨h, fun k hk hne b1 b2 e => hn ?_⟩
        rw [List.mem_filterMap]
        exact ⟨k, mem_inc k j hk hj hne b1 b2, by rw [dstC, e]⟩
    fr_s := fun j hj t => by
      obtain ⟨rc, mk', h1, h2, _⟩ := at_j j hj
      have e : frAtB fr rcs (j + 1) = rc.fr1 := by simp [frAtB, h1]
      have hd : dstOf ops j = (ops[j]).dst := by simp [dstOf, hj]
      rw [e, h2.fr1, hd]
      simp only [h1, Option.map_some, Option.getD_some, nextFr]
      cases hdd : (ops[j]).dst with
      | none => simp
      | some d =>
        simp only [T.get_upd, Option.some.injEq]
        by_cases ht : t = d
        · rw [if_pos ht, if_pos ht.symm]
        · rw [if_neg ht, if_neg (Ne.symm ht)]
    dst_lt := fun j hj d hd => by
      have := (staticOk_at hst j ops[j] (by simp [hj])).2.2 d (by simpa [dstOf, hj] using hd)
      exact this.1
    dst_inj := fun i j d hi hj h1 h2 => by
      have e1 : (ops[i]).dst = some d := by simpa [dstOf, hi] using h1
      have e2 : (ops[j]).dst = some d := by simpa [dstOf, hj] using h2
      rcases Nat.lt_trichotomy i j with h | h | h
      · exact absurd e2 (((staticOk_at hst i ops[i] (by simp [hi])).2.2 d e1).2.2 j ops[j] h (by simp [hj]))
      · exact h
      · exact absurd e1 (((staticOk_at hst j ops[j] (by simp [hj])).2.2 d e2).2.2 i ops[i] h (by simp [hi]))
    bef_lt := fun k j h => befP_lt hst j k h
    bef_edge := fun j o ho e he hb => by
      have hj := (Array.getElem?_eq_some_iff.1 ho).1
      have s2 := (staticOk_at hst j o (by simpa using ho)).2.1
      rw [Nat.zero_add] at s2
      simp only [befP, Bool.and_eq_true]
      refine ⟨Nat.ble_eq_true_of_le hj, ?_⟩
      unfold befM
      rw [s2, maskOf_bit]
      exact ⟨e, he, hb, .inl rfl⟩
    bef_inv := fun k j hj h => by
      have s := staticOk_at hst j ops[j] (by simp [hj])
      simp only [befP, Bool.and_eq_true] at h
      have hb := h.2
      unfold befM at hb
      have s2 := s.2.1
      rw [Nat.zero_add] at s2
      rw [s2, maskOf_bit] at hb
      obtain ⟨e, he, hbi, hk⟩ := hb
      refine ⟨ops[j], e, by simp [hj], he, hbi, hk.imp id fun hk => ?_⟩
      have := s.1 e he hbi
      simp only [befP, Bool.and_eq_true]
      exact ⟨Nat.ble_eq_true_of_le (by omega), hk⟩
    op_ok := fun j o ho hcs μ w a hg hf => by
      have hj := (Array.getElem?_eq_some_iff.1 ho).1
      obtain ⟨rc, mk', h1, h2, _⟩ := at_j j hj
      have eo : o = ops[j] := by rw [Array.getElem?_eq_getElem hj] at ho; cases ho; rfl
      simp only [h1, Option.map_some, Option.getD_some] at hcs hg hf ⊢
      rw [eo]
      exact (oneA_sound hcall h2.run).2 hcs μ w a nT hg hf
    gin_nx := fun j hj => by
      obtain ⟨rc, mk', h1, h2, _⟩ := at_j j hj
      simp only [h1, Option.map_some, Option.getD_some]
      rw [h2.gin]; rfl
    gout_nx := fun j hj => by
      obtain ⟨rc, mk', h1, h2, _⟩ := at_j j hj
      simp only [h1, Option.map_some, Option.getD_some]
      rw [h2.out]; rfl
    nx_s := fun j hj => by
      obtain ⟨rc, mk', h1, h2, _⟩ := at_j j hj
      show (gAtB g rcs j).nx ≤ (gAtB g rcs (j + 1)).nx
      have e : (gAtB g rcs (j + 1)).nx = rc.gout.nx := by rw [h2.out]; rfl
      rw [e]
      exact h2.nxs
    tr := fun j hj nm b hn hb hT => by
      obtain ⟨rc, mk', h1, h2, _⟩ := at_j j hj
      obtain ⟨l, t1, _, t3⟩ := trj j hj rc h1
      simp only [h1, Option.map_some, Option.getD_some] at hb hT ⊢
      rw [t3 nm (by rw [h2.gin]; exact hn) fun hm => hT ?_]
      · exact hb
      · rw [h2.T, tOf, List.mem_filter, t1, List.append_nil]
        exact ⟨hm, by rw [hb]; rfl⟩
    T_vis := fun j hj nm hn => by
      obtain ⟨rc, mk', h1, h2, _⟩ := at_j j hj
      simp only [h1, Option.map_some, Option.getD_some] at hn ⊢
      rw [h2.T, tOf, List.mem_filter] at hn
      exact Option.isSome_iff_exists.1 hn.2
    vis := fun j hj nm b hb => by
      obtain ⟨rc, mk', h1, h2, h3, h4⟩ := at_j j hj
      simp only [h1, Option.map_some, Option.getD_some] at hb
      rw [h2.gin] at hb
      simp only [viewB] at hb
      cases hl : light (ops[j]).op with
      | true => rw [hl] at hb; simp [T.get] at hb
      | false =>
        rw [hl] at hb
        simp only [cond_false, get_eraseAll] at hb
        split at hb
        · cases hb
        · rename_i hn1
          split at hb
          · cases hb
          · rename_i hn2
            refine ⟨hb, fun k hk hne b1 b2 => ⟨fun hT => ?_, fun hkj hr => hn1 ?_⟩⟩
            · obtain ⟨rk, mkk, k1, k2, _⟩ := at_j k hk
              simp only [k1, Option.map_some, Option.getD_some] at hT
              rcases seenOkB_at hseen k rk k1 with hs | hs
              · refine hn2 ?_
                rw [List.mem_flatMap]
                exact ⟨k, mem_inc k j hk hj hne b1 b2, by simpa using hs nm hT⟩
              · have := hs j (by rw [Nat.zero_add]; exact mem_inc j k hj hk (Ne.symm hne) b2 b1) ops[j] (by simp [hj])
                rw [hl] at this
                cases this
            · unfold hidOf
              rw [List.mem_flatMap]
              refine ⟨_, List.mem_filter.2 ⟨h4 k hkj, ?_⟩, ?_⟩
              · simp only [befP, show Nat.blt j ops.size = true from Nat.ble_eq_true_of_le hj, Bool.true_and] at b1
                simp [b1]
              · rw [List.mem_range'_1]
                simp only
                omega
    H_w := fun j hj nm hW b hb => by
      obtain ⟨rc, mk', h1, h2, h3, h4⟩ := at_j j hj
      simp only [h1, Option.map_some, Option.getD_some] at hW ⊢
      have hc1 := planB_cs hcall hp hcs (j + 1) hj
      have e1 : (gAtB g rcs (j + 1)).nx = rc.gout.nx := by rw [h2.out]; rfl
      have e2 : rc.gin.nx = (gAtB g rcs j).nx := by rw [h2.gin]; rfl
      have hns : nm ∈ nsOf rc.gin rc.gout := by
        unfold nsOf
        rw [List.mem_append]
        rcases hW with h | h
        · exact .inl (by rw [← h2.T]; exact h)
        · refine .inr ?_
          rw [List.mem_range'_1]
          omega
      have hb' := hb
      rw [h2.out] at hb' hc1
      simp only [outB] at hb' hc1
      rw [get_putH, if_pos hns] at hb'
      obtain ⟨k1, k2⟩ := keepB_some hb'
      have hn := putP_at hc1 nm hns
      rw [k1] at hn
      obtain ⟨o1, o2⟩ := ABk.inS_of k2 hn
      refine ⟨k1, o1, o2.mono fun x hx => ?_⟩
      rw [← e1] at hx
      exact toS j hj mk' h3 x hx
    H_o := fun j hj nm hW => by
      obtain ⟨rc, mk', h1, h2, h3, h4⟩ := at_j j hj
      simp only [h1, Option.map_some, Option.getD_some] at hW
      have e1 : (gAtB g rcs (j + 1)).nx = rc.gout.nx := by rw [h2.out]; rfl
      have e2 : rc.gin.nx = (gAtB g rcs j).nx := by rw [h2.gin]; rfl
      show (gAtB g rcs (j + 1)).H.get nm = (gAtB g rcs j).H.get nm
      rw [h2.out]
      show (putH _ rc.gout.H (nsOf rc.gin rc.gout) (gAtB g rcs j).H).get nm = _
      rw [get_putH, if_neg]
      unfold nsOf
      rw [List.mem_append, not_or]
      refine ⟨fun hm => hW (.inl (by rw [h2.T]; exact hm)), fun hm => hW (.inr ?_)⟩
      rw [List.mem_range'_1] at hm
      omega
    V_in := fun j hj => by
      obtain ⟨rc, mk', h1, h2, h3, h4⟩ := at_j j hj
      simp only [h1, Option.map_some, Option.getD_some]
      have e1 : (gAtB g rcs (j + 1)).nx = rc.gout.nx := by rw [h2.out]; rfl
      have := h2.inB
      rw [← e1] at this
      exact (AV.inS_of this).mono fun x hx => toS j hj mk' h3 x hx
    cs_ok := fun _ j hj => by
      obtain ⟨rc, mk', h1, h2, h3, h4⟩ := at_j j hj
      simp only [h1, Option.map_some, Option.getD_some]
      exact (passB_cs hcall rfl h2 (planB_cs hcall hp hcs (j + 1) hj)).1
    cs_0 := fun _ => planB_cs hcall hp hcs 0 (Nat.zero_le _) }
end
theorem regionB_ok {P : Program} {call : Calls'} (hcall : CallOk P call) (hct : CallT call) (hm : P.follows .mixedOrders = true) (n : Nat) : RegionOk P (regionB P call n) n := fun ops id fr fr' g g' h => by
  obtain ⟨hst, Ts, rcs, hp, hs, rfl⟩ := regionB_done h
  exact ⟨fun hc => planB_cs hcall hp hc 0 (Nat.zero_le _), fun hc => ((planB hcall hct hst hp hs hc).leads hm id).2 hc⟩
theorem regionC_ok {P : Program} {call : Calls'} (hcall : CallOk P call) (hct : CallT call) (hm : P.follows .mixedOrders = true) (n : Nat) : RegionOk P (regionC P call n) n := fun ops id fr fr' g g' h => by
  unfold regionC at h
  split at h
  · exact regionB_ok hcall hct hm n ops id fr fr' g g' h
  · exact regionA_ok hcall hct hm n ops id fr fr' g g' h
/-- THE ENGINE IS SOUND, with both kinds of plans -/
theorem engineLC {P : Program} {Γ : Known} {Λ : FuncId → Loops} (hΓ : KnownOk P Γ) (hT : KnownT Γ) (hΛ : LoopsOk P Λ) (hΛT : ∀ f, LoopsT (Λ f)) (hn : noSuch P = true) (hm : P.follows .mixedOrders = true) (rounds fuel : Nat) : CallOk P (runA P Γ Λ (regionC P) rounds fuel) :=
  runA_sound hΓ hΛ (fun fuel h n => regionC_ok h (runA_tch hT hΛT (fun call hc n l fr => regionC_tch hc n l fr) fuel) hm n) (.of hn) fuel
theorem engineC {P : Program} {Γ : Known} (hΓ : KnownOk P Γ) (hT : KnownT Γ) (hn : noSuch P = true) (hm : P.follows .mixedOrders = true) (rounds fuel : Nat) : CallOk P (runN P Γ (regionC P) rounds fuel) :=
  engineLC hΓ hT (fun _ _ _ _ _ => LoopsIn.none _ _ _) (fun _ _ _ h => by cases h) hn hm rounds fuel
theorem runN_regionC {P : Program} {Γ : Known} (hΓ : KnownOk P Γ) (hT : KnownT Γ) (hn : noSuch P = true) (hm : P.follows .mixedOrders = true) (rounds fuel n : Nat) : RegionOk P (regionC P (runN P Γ (regionC P) rounds fuel) n) n :=
  regionC_ok (engineC hΓ hT hn hm rounds fuel) (runA_tch hT (fun _ _ _ h => by cases h) (fun call hc n l fr => regionC_tch hc n l fr) fuel) hm n
end Go.Sx
