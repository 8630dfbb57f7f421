/- THE ENGINE, part 3: an interpreter of the program's code over abstract values, and its proof. -/
import Derived.Test.YtmdcfmknjbeciaaSm2
import Derived.Deep.Slices
import Derived.OpenShut
noncomputable section
/- DRAWN REGIONS WITH MAKERS OF MEMORY IN NO ORDER: the pass gives a plan; the engine with both kinds of plans is sound. -/
set_option linter.unusedSimpArgs false
set_option linter.unusedVariables false
namespace Go.Sx
open M

theorem passB_cs {P : Program} {call : Calls'} {C : Cfg} {fr : Fr} {mk : Mk} {ops : Array Oper} (hcall : CallOk P call) (hall : C.all = ops.toList) {j : Nat} {o : Oper} {g g' : G} {rc : RcB} (h : RcOkB P call C j o fr mk g rc g') (hc : g'.cs) : rc.gout.cs ∧ g.cs := by
  have h1 : rc.gout.cs := by
    have := hc
    rw [h.out] at this
    exact putP_cs this
  refine ⟨h1, ?_⟩
  have run := h.run
  rw [hall] at run
  have := (oneA_sound hcall run).1 h1
  rw [h.gin] at this
  exact this
section
variable {P : Program} {call : Calls'} {ops : Array Oper} {nT : Nat} {ms : List Nat} {Ts : List (List Nat)} {g g' : G} {fr : Fr} {rcs : List RcB}
theorem planB_at (hp : passB P call ⟨nT, ops.toList, ms, Ts, 0, g.nx⟩ 0 ops.toList fr [] g = .done rcs g') : ∀ j (hj : j < ops.size), ∃ rc mk', rcs[j]? = some rc ∧ RcOkB P call ⟨nT, ops.toList, ms, Ts, 0, g.nx⟩ j ops[j] (frAtB fr rcs j) mk' (gAtB g rcs j) rc (gAtB g rcs (j + 1)) ∧
      (∀ p ∈ mk', ∃ m, m < j ∧ p = (m, (gAtB g rcs m).nx, (gAtB g rcs (m + 1)).nx)) ∧ (∀ m, m < j → (m, (gAtB g rcs m).nx, (gAtB g rcs (m + 1)).nx) ∈ mk') := by
  have hat := passB_at hp
  have raw : ∀ j (hj : j < ops.size), ∃ rc mk', rcs[j]? = some rc ∧ RcOkB P call ⟨nT, ops.toList, ms, Ts, 0, g.nx⟩ j ops[j] (frAtB fr rcs j) mk' (gAtB g rcs j) rc (gAtB g rcs (j + 1)) ∧
      (∀ p ∈ mk', ∃ m r, m < j ∧ rcs[m]? = some r ∧ p = (m, r.gin.nx, r.g1.nx)) ∧ (∀ m r, m < j → rcs[m]? = some r → (m, r.gin.nx, r.g1.nx) ∈ mk') := fun j hj => by
    obtain ⟨rc, mk', h1, h2, h3, _, h5⟩ := hat.2.2.2 j ops[j] (by simp [hj])
    rw [Nat.zero_add] at h2
    refine ⟨rc, mk', h1, h2, fun p hpm => ?_, fun m r hm hr => by simpa using h5 m r hm hr⟩
    rcases h3 p hpm with h | ⟨m, r, k1, k2, k4⟩
    · cases h
    · exact ⟨m, r, k1, k2, by simpa using k4⟩
  have nxs : ∀ m, m < ops.size → ∀ r, rcs[m]? = some r → r.gin.nx = (gAtB g rcs m).nx ∧ r.g1.nx = (gAtB g rcs (m + 1)).nx := fun m hm r hr => by
    obtain ⟨rc, mk', h1, h2, _⟩ := raw m hm
    rw [hr] at h1
    cases h1
    exact ⟨by rw [h2.gin]; rfl, by rw [h2.g1]⟩
  intro j hj
  obtain ⟨rc, mk', h1, h2, h3, h5⟩ := raw j hj
  refine ⟨rc, mk', h1, h2, fun p hpm => ?_, fun m hm => ?_⟩
  · obtain ⟨m, r, k1, k2, k3⟩ := h3 p hpm
    obtain ⟨e1, e2⟩ := nxs m (by omega) r k2
    exact ⟨m, k1, by rw [k3, e1, e2]⟩
  · obtain ⟨r, _, k1, _⟩ := raw m (by omega)
    obtain ⟨e1, e2⟩ := nxs m (by omega) r k1
    rw [← e1, ← e2]
    exact h5 m r hm k1
theorem planB_down (hcall : CallOk P call) (hp : passB P call ⟨nT, ops.toList, ms, Ts, 0, g.nx⟩ 0 ops.toList fr [] g = .done rcs g') (hcs : g'.cs) : ∀ i, i ≤ ops.size → (gAtB g rcs (ops.size - i)).cs := by
  have hat := passB_at hp
  intro i
  induction i with
  | zero =>
    intro _
    have e : gAtB g rcs ops.toList.length = g' := hat.2.1
    rw [Nat.sub_zero, show ops.size = ops.toList.length by simp, e]
    exact hcs
  | succ i ih =>
    intro hi
    have h := ih (by omega)
    obtain ⟨rc, mk', h1, h2, _⟩ := planB_at hp (ops.size - (i + 1)) (by omega)
    rw [show ops.size - (i + 1) + 1 = ops.size - i by omega] at h2
    exact (passB_cs hcall rfl h2 h).2
theorem planB_cs (hcall : CallOk P call) (hp : passB P call ⟨nT, ops.toList, ms, Ts, 0, g.nx⟩ 0 ops.toList fr [] g = .done rcs g') (hcs : g'.cs) (j : Nat) (hj : j ≤ ops.size) : (gAtB g rcs j).cs := by
  have := planB_down hcall hp hcs (ops.size - j) (by omega)
  rwa [show ops.size - (ops.size - j) = j by omega] at this
theorem inR_is {ms : List Nat} {nx0 j a b x : Nat} {mk : Mk} : inR (rgOf ms nx0 j mk a b) x = true ↔ x < nx0 ∨ (a ≤ x ∧ x < b) ∨ ∃ p ∈ mk, befM ms p.1 j = true ∧ p.2.1 ≤ x ∧ x < p.2.2 := by
  have e : ∀ p q : Nat, (Nat.ble p x && Nat.blt x q) = true ↔ p ≤ x ∧ x < q := fun p q => by
    rw [Bool.and_eq_true]
    exact ⟨fun ⟨h1, h2⟩ => ⟨Nat.le_of_ble_eq_true h1, blt_lt h2⟩, fun ⟨h1, h2⟩ => ⟨Nat.ble_eq_true_of_le h1, Nat.ble_eq_true_of_le h2⟩⟩
  unfold inR rgOf
  simp only [List.any_cons, Bool.or_eq_true, e, List.any_map, List.any_eq_true, List.mem_filter, Function.comp]
  constructor
  · rintro (h | h | ⟨p, ⟨h1, h2⟩, h3⟩)
    · exact .inl h.2
    · exact .inr (.inl h)
    · exact .inr (.inr ⟨p, h1, h2, h3⟩)
  · rintro (h | h | ⟨p, h1, h2, h3⟩)
    · exact .inl ⟨Nat.zero_le _, h⟩
    · exact .inr (.inl h)
    · exact .inr (.inr ⟨p, ⟨h1, h2⟩, h3⟩)
def planB (hcall : CallOk P call) (hct : CallT call) (hst : staticOk ms nT 0 0 ops.toList = true)
    (hp : passB P call ⟨nT, ops.toList, ms, Ts, 0, g.nx⟩ 0 ops.toList fr [] g = .done rcs g') (hseen : seenOkB ⟨nT, ops.toList, ms, Ts, 0, g.nx⟩ 0 rcs = true) (hcs : g'.cs) : PlanB P ops nT g g' fr (lastFrB fr rcs) :=
  have hat := passB_at hp
  have at_j := planB_at hp
  have dstC : ∀ k, (Cfg.mk nT ops.toList ms Ts 0 g.nx).dst k = dstOf ops k := fun k => by simp [Cfg.dst, dstOf]
  have mem_inc : ∀ k j, k < ops.size → j < ops.size → k ≠ j → befP ops ms k j = false → befP ops ms j k = false → k ∈ (Cfg.mk nT ops.toList ms Ts 0 g.nx).inc j := fun k j hk hj hne h1 h2 => by
    unfold Cfg.inc
    rw [mem_incs]
    simp only [befP, show Nat.blt j ops.size = true from Nat.ble_eq_true_of_le hj, show Nat.blt k ops.size = true from Nat.ble_eq_true_of_le hk, Bool.true_and] at h1 h2
    exact ⟨by simpa using hk, hne, h1, h2⟩
  have toS : ∀ j (hj : j < ops.size) (mk' : Mk), (∀ p ∈ mk', ∃ m, m < j ∧ p = (m, (gAtB g rcs m).nx, (gAtB g rcs (m + 1)).nx)) → ∀ x, inR (rgOf ms g.nx j mk' (gAtB g rcs j).nx (gAtB g rcs (j + 1)).nx) x = true →
      x < (gAtB g rcs 0).nx ∨ ∃ m, m < ops.size ∧ (m = j ∨ befP ops ms m j = true) ∧ (gAtB g rcs m).nx ≤ x ∧ x < (gAtB g rcs (m + 1)).nx := fun j hj mk' hmk x hx => by
    rcases inR_is.1 hx with h | h | ⟨p, h1, h2, h3⟩
    · exact .inl h
    · exact .inr ⟨j, hj, .inl rfl, h⟩
    · obtain ⟨m, hm, rfl⟩ := hmk p h1
      refine .inr ⟨m, by omega, .inr ?_, h3⟩
      simp only [befP, Bool.and_eq_true]
      exact ⟨Nat.ble_eq_true_of_le hj, h2⟩
  have trj : ∀ j (hj : j < ops.size) rc, rcs[j]? = some rc → ∃ l, rc.gout.tch = l ++ [] ∧ rc.gin.nx ≤ rc.gout.nx ∧ ∀ nm, nm < rc.gin.nx → nm ∉ l → rc.gout.H.get nm = rc.gin.H.get nm := fun j hj rc hrc => by
    obtain ⟨rc', mk', h1, h2, _⟩ := at_j j hj
    rw [hrc] at h1
    cases h1
    have := (Tch.oneA P hct _ _ _ _).of _ _ _ h2.run
    have e : rc.gin.tch = [] := by rw [h2.gin]; rfl
    rw [← e]
    exact this
  { V := fun j => ((rcs[j]?).map (·.v)).getD .top
    fr := frAtB fr rcs
    H := fun j => (gAtB g rcs j).H
    nx := fun j => (gAtB g rcs j).nx
    T := fun j => ((rcs[j]?).map (·.T)).getD []
    bef := befP ops ms
    fin := fun j => ((rcs[j]?).map (·.fin)).getD .e
    gin := fun j => ((rcs[j]?).map (·.gin)).getD g
    gout := fun j => ((rcs[j]?).map (·.gout)).getD g
    fr_0 := rfl
    fr_n := by rw [← hat.2.2.1]; simp
    H_0 := rfl
    nx_0 := rfl
    H_n := by rw [← hat.2.1]; simp
    nx_n := by rw [← hat.2.1]; simp
    fin_ok := fun j hj t v h => by
      obtain ⟨rc, mk', h1, h2, _⟩ := at_j j hj
      simp only [h1, Option.map_some, Option.getD_some, h2.fin, Cfg.fin, get_eraseAll] at h
      split at h
      · cases h
      · rename_i hn
        refine ⟨h, fun k hk hne b1 b2 e => hn ?_⟩
        rw [List.mem_filterMap]
        exact ⟨k, mem_inc k j hk hj hne b1 b2, by rw [dstC, e]⟩
    fr_s := fun j hj t => by
      obtain ⟨rc, mk', h1, h2, _⟩ := at_j j hj
      have e : frAtB fr rcs (j + 1) = rc.fr1 := by simp [frAtB, h1]
      have hd : dstOf ops j = (ops[j]).dst := by simp [dstOf, hj]
      rw [e, h2.fr1, hd]
      simp only [h1, Option.map_some, Option.getD_some, nextFr]
      cases hdd : (ops[j]).dst with
      | none => simp
      | some d =>
        simp only [T.get_upd, Option.some.injEq]
        by_cases ht : t = d
        · rw [if_pos ht, if_pos ht.symm]
        · rw [if_neg ht, if_neg (Ne.symm ht)]
    dst_lt := fun j hj d hd => by
      have := (staticOk_at hst j ops[j] (by simp [hj])).2.2 d (by simpa [dstOf, hj] using hd)
      exact this.1
    dst_inj := fun i j d hi hj h1 h2 => by
      have e1 : (ops[i]).dst = some d := by simpa [dstOf, hi] using h1
      have e2 : (ops[j]).dst = some d := by simpa [dstOf, hj] using h2
      rcases Nat.lt_trichotomy i j with h | h | h
      · exact absurd e2 (((staticOk_at hst i ops[i] (by simp [hi])).2.2 d e1).2.2 j ops[j] h (by simp [hj]))
      · exact h
      · exact absurd e1 (((staticOk_at hst j ops[j] (by simp [hj])).2.2 d e2).2.2 i ops[i] h (by simp [hi]))
    bef_lt := fun k j h => befP_lt hst j k h
    bef_edge := fun j o ho e he hb => by
      have hj := (Array.getElem?_eq_some_iff.1 ho).1
      have s2 := (staticOk_at hst j o (by simpa using ho)).2.1
      rw [Nat.zero_add] at s2
      simp only [befP, Bool.and_eq_true]
      refine ⟨Nat.ble_eq_true_of_le hj, ?_⟩
      unfold befM
      rw [s2, maskOf_bit]
      exact ⟨e, he, hb, .inl rfl⟩
    bef_inv := fun k j hj h => by
      have s := staticOk_at hst j ops[j] (by simp [hj])
      simp only [befP, Bool.and_eq_true] at h
      have hb := h.2
      unfold befM at hb
      have s2 := s.2.1
      rw [Nat.zero_add] at s2
      rw [s2, maskOf_bit] at hb
      obtain ⟨e, he, hbi, hk⟩ := hb
      refine ⟨ops[j], e, by simp [hj], he, hbi, hk.imp id fun hk => ?_⟩
      have := s.1 e he hbi
      simp only [befP, Bool.and_eq_true]
      exact ⟨Nat.ble_eq_true_of_le (by omega), hk⟩
    op_ok := fun j o ho hcs μ w a hg hf => by
      have hj := (Array.getElem?_eq_some_iff.1 ho).1
      obtain ⟨rc, mk', h1, h2, _⟩ := at_j j hj
      have eo : o = ops[j] := by rw [Array.getElem?_eq_getElem hj] at ho; cases ho; rfl
      simp only [h1, Option.map_some, Option.getD_some] at hcs hg hf ⊢
      rw [eo]
      exact (oneA_sound hcall h2.run).2 hcs μ w a nT hg hf
    gin_nx := fun j hj => by
      obtain ⟨rc, mk', h1, h2, _⟩ := at_j j hj
      simp only [h1, Option.map_some, Option.getD_some]
      rw [h2.gin]; rfl
    gout_nx := fun j hj => by
      obtain ⟨rc, mk', h1, h2, _⟩ := at_j j hj
      simp only [h1, Option.map_some, Option.getD_some]
      rw [h2.out]; rfl
    nx_s := fun j hj => by
      obtain ⟨rc, mk', h1, h2, _⟩ := at_j j hj
      show (gAtB g rcs j).nx ≤ (gAtB g rcs (j + 1)).nx
      have e : (gAtB g rcs (j + 1)).nx = rc.gout.nx := by rw [h2.out]; rfl
      rw [e]
      exact h2.nxs
    tr := fun j hj nm b hn hb hT => by
      obtain ⟨rc, mk', h1, h2, _⟩ := at_j j hj
      obtain ⟨l, t1, _, t3⟩ := trj j hj rc h1
      simp only [h1, Option.map_some, Option.getD_some] at hb hT ⊢
      rw [t3 nm (by rw [h2.gin]; exact hn) fun hm => hT ?_]
      · exact hb
      · rw [h2.T, tOf, List.mem_filter, t1, List.append_nil]
        exact ⟨hm, by rw [hb]; rfl⟩
    T_vis := fun j hj nm hn => by
      obtain ⟨rc, mk', h1, h2, _⟩ := at_j j hj
      simp only [h1, Option.map_some, Option.getD_some] at hn ⊢
      rw [h2.T, tOf, List.mem_filter] at hn
      exact Option.isSome_iff_exists.1 hn.2
    vis := fun j hj nm b hb => by
      obtain ⟨rc, mk', h1, h2, h3, h4⟩ := at_j j hj
      simp only [h1, Option.map_some, Option.getD_some] at hb
      rw [h2.gin] at hb
      simp only [viewB] at hb
      cases hl : light (ops[j]).op with
      | true => rw [hl] at hb; simp [T.get] at hb
      | false =>
        rw [hl] at hb
        simp only [cond_false, get_eraseAll] at hb
        split at hb
        · cases hb
        · rename_i hn1
          split at hb
          · cases hb
          · rename_i hn2
            refine ⟨hb, fun k hk hne b1 b2 => ⟨fun hT => ?_, fun hkj hr => hn1 ?_⟩⟩
            · obtain ⟨rk, mkk, k1, k2, _⟩ := at_j k hk
              simp only [k1, Option.map_some, Option.getD_some] at hT
              rcases seenOkB_at hseen k rk k1 with hs | hs
              · refine hn2 ?_
                rw [List.mem_flatMap]
                exact ⟨k, mem_inc k j hk hj hne b1 b2, by simpa using hs nm hT⟩
              · have := hs j (by rw [Nat.zero_add]; exact mem_inc j k hj hk (Ne.symm hne) b2 b1) ops[j] (by simp [hj])
                rw [hl] at this
                cases this
            · unfold hidOf
              rw [List.mem_flatMap]
              refine ⟨_, List.mem_filter.2 ⟨h4 k hkj, ?_⟩, ?_⟩
              · simp only [befP, show Nat.blt j ops.size = true from Nat.ble_eq_true_of_le hj, Bool.true_and] at b1
                simp [b1]
              · rw [List.mem_range'_1]
                simp only
                omega
    H_w := fun j hj nm hW b hb => by
      obtain ⟨rc, mk', h1, h2, h3, h4⟩ := at_j j hj
      simp only [h1, Option.map_some, Option.getD_some] at hW ⊢
      have hc1 := planB_cs hcall hp hcs (j + 1) hj
      have e1 : (gAtB g rcs (j + 1)).nx = rc.gout.nx := by rw [h2.out]; rfl
      have e2 : rc.gin.nx = (gAtB g rcs j).nx := by rw [h2.gin]; rfl
      have hns : nm ∈ nsOf rc.gin rc.gout := by
        unfold nsOf
        rw [List.mem_append]
        rcases hW with h | h
        · exact .inl (by rw [← h2.T]; exact h)
        · refine .inr ?_
          rw [List.mem_range'_1]
          omega
      have hb' := hb
      rw [h2.out] at hb' hc1
      simp only [outB] at hb' hc1
      rw [get_putH, if_pos hns] at hb'
      obtain ⟨k1, k2⟩ := keepB_some hb'
      have hn := putP_at hc1 nm hns
      rw [k1] at hn
      obtain ⟨o1, o2⟩ := ABk.inS_of k2 hn
      refine ⟨k1, o1, o2.mono fun x hx => ?_⟩
      rw [← e1] at hx
      exact toS j hj mk' h3 x hx
    H_o := fun j hj nm hW => by
      obtain ⟨rc, mk', h1, h2, h3, h4⟩ := at_j j hj
      simp only [h1, Option.map_some, Option.getD_some] at hW
      have e1 : (gAtB g rcs (j + 1)).nx = rc.gout.nx := by rw [h2.out]; rfl
      have e2 : rc.gin.nx = (gAtB g rcs j).nx := by rw [h2.gin]; rfl
      show (gAtB g rcs (j + 1)).H.get nm = (gAtB g rcs j).H.get nm
      rw [h2.out]
      show (putH _ rc.gout.H (nsOf rc.gin rc.gout) (gAtB g rcs j).H).get nm = _
      rw [get_putH, if_neg]
      unfold nsOf
      rw [List.mem_append, not_or]
      refine ⟨fun hm => hW (.inl (by rw [h2.T]; exact hm)), fun hm => hW (.inr ?_)⟩
      rw [List.mem_range'_1] at hm
      omega
    V_in := fun j hj => by
      obtain ⟨rc, mk', h1, h2, h3, h4⟩ := at_j j hj
      simp only [h1, Option.map_some, Option.getD_some]
      have e1 : (gAtB g rcs (j + 1)).nx = rc.gout.nx := by rw [h2.out]; rfl
      have := h2.inB
      rw [← e1] at this
      exact (AV.inS_of this).mono fun x hx => toS j hj mk' h3 x hx
    cs_ok := fun _ j hj => by
      obtain ⟨rc, mk', h1, h2, h3, h4⟩ := at_j j hj
      simp only [h1, Option.map_some, Option.getD_some]
      exact (passB_cs hcall rfl h2 (planB_cs hcall hp hcs (j + 1) hj)).1
    cs_0 := fun _ => planB_cs hcall hp hcs 0 (Nat.zero_le _) }
end
theorem regionB_ok {P : Program} {call : Calls'} (hcall : CallOk P call) (hct : CallT call) (hm : P.follows .mixedOrders = true) (n : Nat) : RegionOk P (regionB P call n) n := fun ops id fr fr' g g' h => by
  obtain ⟨hst, Ts, rcs, hp, hs, rfl⟩ := regionB_done h
  exact ⟨fun hc => planB_cs hcall hp hc 0 (Nat.zero_le _), fun hc => ((planB hcall hct hst hp hs hc).leads hm id).2 hc⟩
theorem regionC_ok {P : Program} {call : Calls'} (hcall : CallOk P call) (hct : CallT call) (hm : P.follows .mixedOrders = true) (n : Nat) : RegionOk P (regionC P call n) n := fun ops id fr fr' g g' h => by
  unfold regionC at h
  split at h
  · exact regionB_ok hcall hct hm n ops id fr fr' g g' h
  · exact regionA_ok hcall hct hm n ops id fr fr' g g' h
/-- THE ENGINE IS SOUND, with both kinds of plans -/
theorem engineLC {P : Program} {Γ : Known} {Λ : FuncId → Loops} (hΓ : KnownOk P Γ) (hT : KnownT Γ) (hΛ : LoopsOk P Λ) (hΛT : ∀ f, LoopsT (Λ f)) (hn : noSuch P = true) (hm : P.follows .mixedOrders = true) (rounds fuel : Nat) : CallOk P (runA P Γ Λ (regionC P) rounds fuel) :=
  runA_sound hΓ hΛ (fun fuel h n => regionC_ok h (runA_tch hT hΛT (fun call hc n l fr => regionC_tch hc n l fr) fuel) hm n) (.of hn) fuel
theorem engineC {P : Program} {Γ : Known} (hΓ : KnownOk P Γ) (hT : KnownT Γ) (hn : noSuch P = true) (hm : P.follows .mixedOrders = true) (rounds fuel : Nat) : CallOk P (runN P Γ (regionC P) rounds fuel) :=
  engineLC hΓ hT (fun _ _ _ _ _ => LoopsIn.none _ _ _) (fun _ _ _ h => by cases h) hn hm rounds fuel
theorem runN_regionC {P : Program} {Γ : Known} (hΓ : KnownOk P Γ) (hT : KnownT Γ) (hn : noSuch P = true) (hm : P.follows .mixedOrders = true) (rounds fuel n : Nat) : RegionOk P (regionC P (runN P Γ (regionC P) rounds fuel) n) n :=
  regionC_ok (engineC hΓ hT hn hm rounds fuel) (runA_tch hT (fun _ _ _ h => by cases h) (fun call hc n l fr => regionC_tch hc n l fr) fuel) hm n
end Go.Sx
/- PIECES OF CODE IN A CANONICAL HEAP, names from a bound on free to change: what they lead to; loops by induction; from them what calls do. -/
set_option linter.unusedSimpArgs false
set_option linter.unusedVariables false
namespace Go.Sx
open M

/-! ### other names -/
def AA.ren (σ : Nat → Nat) (a : AA) : AA := ⟨a.s, σ a.g, a.i, a.o⟩
mutual
def AV.ren (σ : Nat → Nat) : AV → AV
  | .ptr a => .ptr (a.ren σ)
  | .slc s own a len => .slc s own (a.ren σ) len
  | .mp g => .mp (σ g)
  | .fn f l c => .fn f (rens σ l) (rens σ c)
  | .agg l => .agg (rens σ l)
  | .tup l => .tup (rens σ l)
  | v => v
def rens (σ : Nat → Nat) : List AV → List AV
  | [] => []
  | v :: l => v.ren σ :: rens σ l
end
mutual
theorem Rep.unren {N N' : Nat} {μ : MM} {σ : Nat → Nat} : ∀ {v : AV} {c : Value}, Rep N μ (v.ren σ) c → v.low N' = true → Rep N' (μ.via σ) v c
  | .top, _, _, _ => by simp [Rep]
  | .bool _, _, r, _ => by simpa [Rep, AV.ren] using r
  | .sbool _, _, r, _ => by simpa [Rep, AV.ren] using r
  | .int .., _, r, _ => by simpa [Rep, AV.ren] using r
  | .flt .., _, r, _ => by simpa [Rep, AV.ren] using r
  | .raw .., _, r, _ => by simpa [Rep, AV.ren] using r
  | .bits .., _, r, _ => by simpa [Rep, AV.ren] using r
  | .cpx .., _, r, _ => by simpa [Rep, AV.ren] using r
  | .str .., _, r, _ => by simpa [Rep, AV.ren] using r
  | .ptr a, _, r, l => by
    have hl := blt_lt (by simpa [AV.low] using l)
    simp only [AV.ren, Rep] at r ⊢
    exact ⟨hl, r.2⟩
  | .nilp, _, r, _ => by simpa [Rep, AV.ren] using r
  | .slc _ own a len, _, r, l => by
    have hl := blt_lt (by simpa [AV.low] using l)
    simp only [AV.ren, Rep] at r ⊢
    exact ⟨hl, r.2⟩
  | .nils, _, r, _ => by simpa [Rep, AV.ren] using r
  | .mp g, _, r, l => by
    have hl := blt_lt (by simpa [AV.low] using l)
    simp only [AV.ren, Rep] at r ⊢
    exact ⟨hl, r.2⟩
  | .nilm, _, r, _ => by simpa [Rep, AV.ren] using r
  | .fn f x cap, _, r, lo => by
    have hl : lows N' x = true ∧ lows N' cap = true := by simpa [AV.low] using lo
    simp only [AV.ren, Rep] at r ⊢
    obtain ⟨fs, cs, rfl, h1, h2⟩ := r
    exact ⟨fs, cs, rfl, Reps.unren h1 hl.1, Reps.unren h2 hl.2⟩
  | .nilf, _, r, _ => by simpa [Rep, AV.ren] using r
  | .nili, _, r, _ => by simpa [Rep, AV.ren] using r
  | .agg x, _, r, lo => by
    simp only [AV.ren, Rep] at r ⊢
    obtain ⟨cs, rfl, h1⟩ := r
    exact ⟨cs, rfl, Reps.unren h1 (by simpa [AV.low] using lo)⟩
  | .tup x, _, r, lo => by
    simp only [AV.ren, Rep] at r ⊢
    obtain ⟨cs, rfl, h1⟩ := r
    exact ⟨cs, rfl, Reps.unren h1 (by simpa [AV.low] using lo)⟩
theorem Reps.unren {N N' : Nat} {μ : MM} {σ : Nat → Nat} : ∀ {l : List AV} {cs : List Value}, Reps N μ (rens σ l) cs → lows N' l = true → Reps N' (μ.via σ) l cs
  | [], _, r, _ => by simpa [Reps, rens] using r
  | v :: l, _, r, lo => by
    have hl : v.low N' = true ∧ lows N' l = true := by simpa [lows] using lo
    simp only [rens, Reps] at r ⊢
    obtain ⟨c, t, rfl, h1, h2⟩ := r
    exact ⟨c, t, rfl, Rep.unren h1 hl.1, Reps.unren h2 hl.2⟩
end

/-! ### pieces -/
/-- the world has gone on; names below the bound are where they were -/
structure ExtB (B : Nat) (H : T ABk) (μ : MM) (w : World) (H' : T ABk) (μ' : MM) (w' : World) : Prop where
  names : MM.upto B μ μ'
  os : w'.os = w.os
  tape : w'.tape = w.tape
  output : w'.output = w.output
  size : w.heap.size ≤ w'.heap.size
  block : ∀ b, b < w.heap.size → ¬ May μ H b → w'.heap[b]? = w.heap[b]?
  may : ∀ b, b < w.heap.size → May μ' H' b → May μ H b
theorem ExtB.trans {B : Nat} {H H' H'' : T ABk} {μ μ' μ'' : MM} {w w' w'' : World} (h : ExtB B H μ w H' μ' w') (k : ExtB B H' μ' w' H'' μ'' w'') : ExtB B H μ w H'' μ'' w'' where
  names := h.names.trans k.names (Nat.le_refl _)
  os := k.os.trans h.os
  tape := k.tape.trans h.tape
  output := k.output.trans h.output
  size := Nat.le_trans h.size k.size
  block := fun b hb hn => (k.block b (Nat.lt_of_lt_of_le hb h.size) fun hm => hn (h.may b hb hm)).trans (h.block b hb hn)
  may := fun b hb hm => h.may b hb (k.may b (Nat.lt_of_lt_of_le hb h.size) hm)
structure AtB (n B K : Nat) (H : T ABk) (μ : MM) (w : World) (H' : T ABk) (fr' : Fr) (a a' : Act) (w' : World) : Prop where
  of : ∃ μ', GOk K μ' w'.heap H' ∧ ExtB B H μ w H' μ' w' ∧ FrOk K μ' fr' a'.tmps n ∧ a'.defers = a.defers
abbrev Po := Ex → Fr → T ABk → Prop
/-- the piece leads from here to what Post says: from names below K to names below K', those below B kept -/
def GoesB (P : Program) (c : Code) (n B K K' : Nat) (fr : Fr) (H : T ABk) (Post : Po) : Prop :=
  ∀ μ w (a : Act), GOk K μ w.heap H → FrOk K μ fr a.tmps n → ∀ Q : Exit → Act → World → Prop, (∀ e fr' H' a' w', Post e fr' H' → AtB n B K' H μ w H' fr' a a' w' → Q e.ex a' w') → c.wp P Q a w
theorem AtB.trans {n B K : Nat} {H H' H'' : T ABk} {μ : MM} {w w' w'' : World} {fr'' : Fr} {a a' a'' : Act} {μ' : MM} (h1 : ExtB B H μ w H' μ' w') (h2 : a'.defers = a.defers) (h : AtB n B K H' μ' w' H'' fr'' a' a'' w'') : AtB n B K H μ w H'' fr'' a a'' w'' := by
  obtain ⟨μ'', k1, k2, k3, k4⟩ := h.of
  exact ⟨μ'', k1, h1.trans k2, k3, k4.trans h2⟩
theorem AtB.up {n B K K' : Nat} {H H' : T ABk} {μ : MM} {w w' : World} {fr' : Fr} {a a' : Act} (h : AtB n B K H μ w H' fr' a a' w') (hK : K ≤ K') : AtB n B K' H μ w H' fr' a a' w' := by
  obtain ⟨μ', k1, k2, k3, k4⟩ := h.of
  exact ⟨μ', k1.up hK fun _ _ h => h, k2, k3.later (.refl _ _) hK, k4⟩
section
variable {P : Program} {n B K K' : Nat}
theorem GoesB.mono {c : Code} {fr : Fr} {H : T ABk} {Post Post' : Po} (h : GoesB P c n B K K' fr H Post) (k : ∀ e fr' H', Post e fr' H' → Post' e fr' H') : GoesB P c n B K K' fr H Post' :=
  fun μ w a hg hf Q hQ => h μ w a hg hf Q fun e fr' H' a' w' hp ha => hQ e fr' H' a' w' (k _ _ _ hp) ha
theorem GoesB.up {K'' : Nat} {c : Code} {fr : Fr} {H : T ABk} {Post : Po} (h : GoesB P c n B K K' fr H Post) (hK : K' ≤ K'') : GoesB P c n B K K'' fr H Post :=
  fun μ w a hg hf Q hQ => h μ w a hg hf Q fun e fr' H' a' w' hp ha => hQ e fr' H' a' w' hp (ha.up hK)
/-- from a run of the engine -/
theorem GoesB.run {call : Calls'} (hcall : CallOk P call) {region : List Oper → Fr → M Fr} {loops : Loops} {rounds : Nat} (hreg : RegionOk P region n) {c : Code} (hl : LoopsIn P loops n c) {fr : Fr} {H : T ABk} {path : List Bool}
    {e : Ex} {fl : List (Nat × AV)} {bl : List (Nat × ABk)} (h : PieceP e fl bl (codeA P call region loops n rounds c fr ⟨H, K, [], path, True⟩)) (h1 : lowF K' fl) (h2 : lowH K' bl) (hB : B ≤ K) :
    GoesB P c n B K K' fr H fun e' fr' H' => e' = e ∧ fr' = frL fl ∧ H' = hpL bl := by
  have h := h.of
  generalize hr : codeA P call region loops n rounds c fr ⟨H, K, [], path, True⟩ = res at h
  unfold pieceP at h
  split at h
  · rename_i r g
    obtain ⟨rfl, hw, hh, hcs⟩ := h
    obtain ⟨_, hs⟩ := codeA_sound hcall hreg c hl _ _ _ _ hr
    intro μ w a hg hf Q hQ
    refine hs hcs μ w a hg hf Q fun a' w' hk => hQ r.1 _ _ a' w' ⟨rfl, rfl, rfl⟩ ⟨?_⟩
    obtain ⟨μ', k1, k2, k3, k4⟩ := hk
    have sub : ∀ i b, (hpL bl).get i = some b → g.H.get i = some b ∧ i < K' ∧ b.bare := fun i b hb => by
      have hm := hpL_get hb
      exact ⟨hh.get hm, (h2 _ hm).1, (h2 _ hm).2⟩
    refine ⟨μ', ⟨fun i b hb => (sub i b hb).2.1, fun i b hb => (k1.ok _ _ (sub i b hb).1).bare (sub i b hb).2.2 rfl rfl rfl rfl, fun i b j b' hi hj => k1.sep _ _ _ _ (sub i b hi).1 (sub j b' hj).1⟩, ?_, ⟨k3.size, fun t v ht => ?_⟩, k4⟩
    · exact ⟨k2.names.mono hB, k2.os, k2.tape, k2.output, k2.size, k2.block, fun b hb hm => k2.may b hb (by
        obtain ⟨i, b, m1, m2, m3, m4⟩ := hm
        exact ⟨i, b, (sub i b m1).1, m2, m3, m4⟩)⟩
    · have hm := frL_get ht
      exact Rep.ofLow (.refl _ _) (h1 _ hm) (k3.val t v (hw.get hm))
  · exact h.elim
/-- less is known ahead -/
theorem GoesB.weak {c : Code} {fr fr0 : Fr} {H H0 : T ABk} {Post : Po} (hf : ∀ t v, fr0.get t = some v → fr.get t = some v) (hH : ∀ i b, H0.get i = some b → H.get i = some b) (h : GoesB P c n B K K' fr0 H0 Post) : GoesB P c n B K K' fr H Post := by
  intro μ w a hg hfr Q hQ
  refine h μ w a (hg.sub hH) ⟨hfr.size, fun t v ht => hfr.val t v (hf t v ht)⟩ Q fun e fr' H' a' w' hp ha => hQ e fr' H' a' w' hp ⟨?_⟩
  obtain ⟨μ', k1, k2, k3, k4⟩ := ha.of
  have may : ∀ b, May μ H0 b → May μ H b := fun b ⟨i, x, m1, m2⟩ => ⟨i, x, hH i x m1, m2⟩
  exact ⟨μ', k1, ⟨k2.names, k2.os, k2.tape, k2.output, k2.size, fun b hb hn => k2.block b hb fun hm => hn (may b hm), fun b hb hm => may b (k2.may b hb hm)⟩, k3, k4⟩
/-- likewise, told in other words; blocks are known by their rows below their number -/
def SameC : ABk → ABk → Prop
  | .cells own sz m c, .cells own' sz' m' c' => own = own' ∧ sz = sz' ∧ m = m' ∧ ∀ i, i < m → c.row i = c'.row i
  | b, b' => b = b'
theorem SameC.refl (b : ABk) : SameC b b := by cases b <;> simp [SameC]
theorem SameC.owned {b b' : ABk} (h : SameC b b') : b.owned = b'.owned := by
  cases b <;> cases b' <;> simp_all [SameC, ABk.owned]
theorem SameC.real {b b' : ABk} (h : SameC b b') (μ : MM) (g : Nat) : b.real μ g ↔ b'.real μ g := by
  cases b <;> cases b' <;> simp_all [SameC, ABk.real]
theorem SameC.ok {N : Nat} {μ : MM} {hp : Array Obj} {g : Nat} {b b' : ABk} (h : SameC b b') (k : BkOk N μ hp g b) : BkOk N μ hp g b' := by
  cases b with
  | cells own sz m c =>
    cases b' with
    | cells own' sz' m' c' =>
      obtain ⟨rfl, rfl, rfl, hr⟩ := h
      refine ⟨k.1, k.2.1, fun hh => ?_⟩
      obtain ⟨cur, ty, fz, h1, h2, h3, h4⟩ := k.2.2 hh
      exact ⟨cur, ty, fz, h1, h2, h3, fun i hi => by rw [← hr i hi]; exact h4 i hi⟩
    | _ => simp [SameC] at h
  | _ => cases b' <;> simp [SameC] at h <;> first | exact h ▸ k | (obtain ⟨rfl, rfl⟩ := h; exact k) | (obtain ⟨rfl, rfl, rfl⟩ := h; exact k)
theorem GoesB.weakR {c : Code} {fr fr0 : Fr} {H H0 : T ABk} {Post : Po} (hf : ∀ t v, fr0.get t = some v → ∃ u, fr.get t = some u ∧ ∀ N μ cv, Rep N μ u cv → Rep N μ v cv) (hH : ∀ i b, H0.get i = some b → ∃ b', H.get i = some b' ∧ SameC b' b) (h : GoesB P c n B K K' fr0 H0 Post) : GoesB P c n B K K' fr H Post := by
  intro μ w a hg hfr Q hQ
  refine h μ w a ⟨fun i b hb => let ⟨b', h1, _⟩ := hH i b hb; hg.lt i b' h1, fun i b hb => let ⟨b', h1, h2⟩ := hH i b hb; h2.ok (hg.ok i b' h1), fun i b j b' hi hj ho hr hr' he => ?_⟩
    ⟨hfr.size, fun t v ht => let ⟨u, h1, h2⟩ := hf t v ht; h2 _ _ _ (hfr.val t u h1)⟩ Q fun e fr' H' a' w' hp ha => hQ e fr' H' a' w' hp ⟨?_⟩
  · obtain ⟨b1, h1, h2⟩ := hH i b hi
    obtain ⟨b2, k1, k2⟩ := hH j b' hj
    exact hg.sep i b1 j b2 h1 k1 (by rw [h2.owned]; exact ho) ((h2.real μ i).2 hr) ((k2.real μ j).2 hr') he
  · obtain ⟨μ', k1, k2, k3, k4⟩ := ha.of
    have may : ∀ b, May μ H0 b → May μ H b := fun b ⟨i, x, m1, m2, m3, m4⟩ => by
      obtain ⟨b', h1, h2⟩ := hH i x m1
      exact ⟨i, b', h1, by rw [h2.owned]; exact m2, (h2.real μ i).2 m3, m4⟩
    exact ⟨μ', k1, ⟨k2.names, k2.os, k2.tape, k2.output, k2.size, fun b hb hn => k2.block b hb fun hm => hn (may b hm), fun b hb hm => may b (k2.may b hb hm)⟩, k3, k4⟩
/-- other names behind it -/
structure Ren (B K' : Nat) (σ : Nat → Nat) (fr : Fr) (H : T ABk) (fr' : Fr) (H' : T ABk) : Prop where
  keep : ∀ g, g < B → σ g = g
  frs : ∀ t v, fr'.get t = some v → fr.get t = some (v.ren σ) ∧ v.low K' = true
  hps : ∀ i b, H'.get i = some b → ∃ b0, H.get (σ i) = some b0 ∧ SameC b0 b ∧ b.bare ∧ i < K'
  inj : ∀ i j b b', H'.get i = some b → H'.get j = some b' → σ i = σ j → i = j
theorem GoesB.ren {K'' : Nat} {c : Code} {fr : Fr} {H : T ABk} {Post Post' : Po} (h : GoesB P c n B K K' fr H Post) (k : ∀ e fr' H', Post e fr' H' → ∃ σ fr'' H'', Ren B K'' σ fr' H' fr'' H'' ∧ Post' e fr'' H'') : GoesB P c n B K K'' fr H Post' := by
  intro μ w a hg hf Q hQ
  refine h μ w a hg hf Q fun e fr' H' a' w' hp ha => ?_
  obtain ⟨σ, fr'', H'', R, hp'⟩ := k _ _ _ hp
  refine hQ e fr'' H'' a' w' hp' ⟨?_⟩
  obtain ⟨μ', k1, k2, k3, k4⟩ := ha.of
  refine ⟨μ'.via σ, ⟨fun i b hb => ?_, fun i b hb => ?_, fun i b j b' hi hj ho hr hr' he => ?_⟩, ⟨⟨fun g hg => ?_, fun g hg => ?_, fun g hg => ?_, fun g hg => ?_⟩, k2.os, k2.tape, k2.output, k2.size, k2.block, fun b hb hm => k2.may b hb ?_⟩, ⟨k3.size, fun t v ht => ?_⟩, k4⟩
  · obtain ⟨b0, h1, h2, h3, h4⟩ := R.hps i b hb; exact h4
  · obtain ⟨b0, h1, h2, h3, h4⟩ := R.hps i b hb
    exact (h2.ok (k1.ok _ _ h1)).bare h3 rfl rfl rfl rfl
  · obtain ⟨b0, h1, h2, h3, h4⟩ := R.hps i b hi
    obtain ⟨b1, l1, l2, l3, l4⟩ := R.hps j b' hj
    refine R.inj i j b b' hi hj (k1.sep _ _ _ _ h1 l1 (by rw [h2.owned]; exact ho) ?_ ?_ he)
    · exact (h2.real _ _).2 ((ABk.real_eq rfl b).1 hr)
    · exact (l2.real _ _).2 ((ABk.real_eq rfl b').1 hr')
  · show μ'.blk (σ g) = _; rw [R.keep g hg]; exact k2.names.blk g hg
  · show μ'.cap (σ g) = _; rw [R.keep g hg]; exact k2.names.cap g hg
  · show μ'.sz (σ g) = _; rw [R.keep g hg]; exact k2.names.sz g hg
  · show μ'.base (σ g) = _; rw [R.keep g hg]; exact k2.names.base g hg
  · obtain ⟨i, x, m1, m2, m3, m4⟩ := hm
    obtain ⟨b0, h1, h2, h3, h4⟩ := R.hps i x m1
    exact ⟨σ i, b0, h1, by rw [h2.owned]; exact m2, (h2.real _ _).2 ((ABk.real_eq rfl x).1 m3), m4⟩
  · obtain ⟨h1, h2⟩ := R.frs t v ht
    exact (k3.val t _ h1).unren h2
theorem GoesB.seq {K1 : Nat} {x y : Code} {fr : Fr} {H : T ABk} {Post : Po} (hK : K1 ≤ K')
    (h : GoesB P x n B K K1 fr H fun e fr' H' => match e with
      | .normal => GoesB P y n B K1 K' fr' H' Post
      | e => Post e fr' H') : GoesB P (.seq x y) n B K K' fr H Post := by
  intro μ w a hg hf Q hQ
  refine wp_seq (h μ w a hg hf _ fun e fr' H' a' w' hp ha => ?_)
  cases e with
  | normal =>
    obtain ⟨μ', k1, k2, k3, k4⟩ := ha.of
    exact hp μ' w' a' k1 k3 Q fun e'' fr'' H'' a'' w'' hp' ha' => hQ _ _ _ _ _ hp' (AtB.trans k2 k4 ha')
  | exit id => exact hQ _ _ _ _ _ hp (ha.up hK)
  | ret => exact hQ _ _ _ _ _ hp (ha.up hK)
theorem GoesB.block {id : Nat} {c : Code} {fr : Fr} {H : T ABk} {Post : Po}
    (h : GoesB P c n B K K' fr H fun e fr' H' => match e with
      | .exit id' => if id' = id then Post .normal fr' H' else Post (.exit id') fr' H'
      | e => Post e fr' H') : GoesB P (.block id c) n B K K' fr H Post := by
  intro μ w a hg hf Q hQ
  refine wp_block (h μ w a hg hf _ fun e fr' H' a' w' hp ha => ?_)
  cases e with
  | normal => exact hQ _ _ _ _ _ hp ha
  | ret => exact hQ _ _ _ _ _ hp ha
  | exit id' =>
    simp only [Ex.ex, Exit.inBlock]
    by_cases he : id' = id
    · simp only [he, if_true] at hp ⊢
      exact hQ .normal _ _ _ _ hp ha
    · simp only [if_neg he] at hp ⊢
      exact hQ (.exit id') _ _ _ _ hp ha
theorem GoesB.cond {c : Operand} {b s : Bool} {x y : Code} {fr : Fr} {H : T ABk} {Post : Po} (hc : evalA fr c = cmpB s b) (hx : b = true → GoesB P x n B K K' fr H Post) (hy : b = false → GoesB P y n B K K' fr H Post) : GoesB P (.cond c x y) n B K K' fr H Post := by
  intro μ w a hg hf Q hQ
  have e : a.eval c = .bool b := by
    have := hf.eval (a := a) c
    rw [hc] at this
    exact Rep_cmpB.1 this
  refine wp_cond e ?_
  cases b with
  | true => exact hx rfl μ w a hg hf Q hQ
  | false => exact hy rfl μ w a hg hf Q hQ
/-- a loop -/
theorem GoesB.loop {c : Code} {Post : Po} (I : Nat → Fr → T ABk → Prop)
    (h : ∀ k fr H, I k fr H → GoesB P c n B K K fr H fun e fr' H' => match e with
      | .normal => ∃ k', k' < k ∧ I k' fr' H'
      | e => Post e fr' H') : ∀ k fr H, I k fr H → GoesB P (.loop c) n B K K fr H Post := by
  have key : ∀ R k fr H, k < R → I k fr H → ∀ μ w (a : Act), GOk K μ w.heap H → FrOk K μ fr a.tmps n → ∀ Q : Exit → Act → World → Prop, (∀ e fr' H' a' w', Post e fr' H' → AtB n B K H μ w H' fr' a a' w' → Q e.ex a' w') → Code.rounds P c Q R a w := by
    intro R
    induction R with
    | zero => intro k fr H hk; omega
    | succ R ih =>
      intro k fr H hkR hI μ w a hg hf Q hQ
      rw [rounds_succ]
      refine wp_mono (h k fr H hI μ w a hg hf (fun e a' w' => (e = .normal ∧ ∃ k' fr' H', k' < k ∧ I k' fr' H' ∧ AtB n B K H μ w H' fr' a a' w') ∨ (e ≠ .normal ∧ Q e a' w')) fun e fr' H' a' w' hp ha => ?_) ?_
      · cases e with
        | normal =>
          obtain ⟨k', hk, hI'⟩ := hp
          exact .inl ⟨rfl, k', fr', H', hk, hI', ha⟩
        | exit id => exact .inr ⟨by simp [Ex.ex], hQ (.exit id) _ _ _ _ hp ha⟩
        | ret => exact .inr ⟨by simp [Ex.ex], hQ .ret _ _ _ _ hp ha⟩
      · rintro e a' w' (⟨rfl, k', fr', H', hk, hI', ha⟩ | ⟨hne, hq⟩)
        · obtain ⟨μ', k1, k2, k3, k4⟩ := ha.of
          exact ih k' fr' H' (by omega) hI' μ' w' a' k1 k3 Q fun e'' fr'' H'' a'' w'' hp' ha' => hQ _ _ _ _ _ hp' (AtB.trans k2 k4 ha')
        · cases e <;> first | exact absurd rfl hne | exact hq
  intro k fr H hI μ w a hg hf Q hQ
  exact wp_loop_rounds (k + 1) (key (k + 1) k fr H (by omega) hI μ w a hg hf Q hQ)
/-- a function, from its code: what it gives is told by its results' frame -/
theorem GoesB.call {f : FuncId} {fn : Func} {c : Code} (hf : P.funcs[f]? = some fn) (hb : fn.body = some c) (hname : (fn.name == "runtime.NumGoroutine") = false) {args : List AV} {H : T ABk} {V : AV → T ABk → Prop}
    (h : GoesB P c fn.ntmps B K K' (frameOf args 0 .e) H fun e fr' H' => (e = .ret ∨ e = .normal) ∧ ∃ vs g', resultsA P fr' fn.results.toList ⟨H', K', [], [], True⟩ = .done vs g' ∧ g'.cs ∧ V (packA vs) H')
    (μ : MM) (w : World) {cargs : Array Value} (hg : GOk K μ w.heap H) (ha : Reps K μ args cargs.toList) :
    CF P f cargs w fun cv w' => ∃ v μ' H', V v H' ∧ Rep K' μ' v cv ∧ GOk K' μ' w'.heap H' ∧ ExtB B H μ w H' μ' w' := by
  refine .inr ⟨f, cargs, w, run_enter hf hname hb cargs w, calls_of_wp hf hb (h μ w _ hg (FrOk.start ha fn.ntmps) _ fun e fr' H' a' w' hp hA => ?_)⟩
  obtain ⟨he, vs, g', hr, hcs, hV⟩ := hp
  obtain ⟨μ', k1, k2, k3, k4⟩ := hA.of
  obtain ⟨kk, hs⟩ := resultsA_sound hr
  obtain ⟨cs, e1, hvs⟩ := hs hcs μ' w' a'.tmps _ k1 k3
  obtain ⟨cv, e2, hcv⟩ := results_run e1 hvs
  have post : a'.defers = [] ∧ ∃ x, (results fn a'.tmps).run P w' = .ok x w' ∧ ∃ c0, Ending.returned x = .returned c0 ∧ ∃ v μ' H', V v H' ∧ Rep K' μ' v c0 ∧ GOk K' μ' w'.heap H' ∧ ExtB B H μ w H' μ' w' :=
    ⟨k4, cv, e2, cv, rfl, _, μ', H', hV, hcv, k1, k2⟩
  rcases he with rfl | rfl
  · exact post
  · exact post
end

/-! ### views of slices that are read -/
theorem RC_view {N : Nat} {μ : MM} {hp : Array Obj} {a : AA} {own : Bool} {esz sz n m : Nat} {c : Cont} (hb : BkOk N μ hp a.g (.cells own sz n c)) (he : 0 < esz) (hr : RC a esz sz n m) {μ' : MM} {i N' : Nat}
    (e1 : μ'.blk i = μ.blk a.g) (e2 : μ'.sz i = esz) (e3 : μ'.base i = μ.base a.g + a.i * sz + a.o) (hbare : ∀ j, j < m → ∀ v, v ∈ rowsOf a esz sz c j → v.low 0 = true) :
    BkOk N' μ' hp i (.cells false esz m (.fn (rowsOf a esz sz c))) := by
  refine ⟨e2, he, fun h => ?_⟩
  have hm : 0 < m := by
    rcases h with h | ⟨h, _⟩
    · exact h
    · cases h
  obtain ⟨cur, ty, fz, h1, h2, h3⟩ := rowsOf_ok hb he hr hm
  refine ⟨cur, ty, fz, by rw [e1]; exact h1, by rw [e3]; exact h2, fun h => (by cases h), fun j hj => ⟨(h3 j hj).1, fun o v hv => ?_⟩⟩
  obtain ⟨k1, cv, k2, k3⟩ := (h3 j hj).2 o v hv
  rw [e3]
  exact ⟨k1, cv, k2, k3.bare (hbare j hj v (List.mem_of_getElem? hv))⟩
end Go.Sx
/- WHAT IS KNOWN BEFOREHAND: functions that read slices, and give plain values or new slices: from their code in a small heap of views. -/
set_option linter.unusedSimpArgs false
set_option linter.unusedVariables false
namespace Go.Sx
open M

/-- told in other words -/
def AV.ge (u v : AV) : Prop := ∀ N μ cv, Rep N μ u cv → Rep N μ v cv
/-- a slice that is read: its element's cells, its length, its rows -/
structure Vw where
  x : AV
  esz : Nat
  len : Nat
  rows : Nat → List AV
def Vw.bk (v : Vw) : ABk := .cells false v.esz v.len (.fn v.rows)
def slcV (i len : Nat) : AV := .slc true false ⟨false, i, 0, 0⟩ len
def locBlk (μ : MM) : AV → Nat
  | .slc _ _ a _ => μ.blk a.g
  | _ => 0
def locBase (μ : MM) : AV → Nat
  | .slc _ _ a _ => μ.base a.g + a.i * μ.sz a.g + a.o
  | _ => 0
def vwMM (μ : MM) (l : List Vw) : MM :=
  ⟨fun i => (l[i]?).elim 0 fun v => locBlk μ v.x, fun _ => 0, fun i => (l[i]?).elim 0 fun v => v.esz, fun i => (l[i]?).elim 0 fun v => locBase μ v.x⟩
def vwL : List Vw → Nat → List (Nat × ABk)
  | [], _ => []
  | v :: l, i => (i, v.bk) :: vwL l (i + 1)
theorem vwL_mem : ∀ {l : List Vw} {i : Nat} {p : Nat × ABk}, p ∈ vwL l i → ∃ j v, l[j]? = some v ∧ p = (i + j, v.bk)
  | [], i, p, h => by cases h
  | v :: l, i, p, h => by
    rcases List.mem_cons.1 h with rfl | h
    · exact ⟨0, v, rfl, rfl⟩
    · obtain ⟨j, u, h1, rfl⟩ := vwL_mem h
      exact ⟨j + 1, u, by simpa using h1, by rw [show i + 1 + j = i + (j + 1) by omega]⟩
/-- it may be so read, there and then -/
structure Vw.Ok (v : Vw) (g : G) : Prop where
  pos : 0 < v.esz
  bare : ∀ j, j < v.len → ∀ u, u ∈ v.rows j → u.low 0 = true
  view : ∀ N μ (w : World), GOk N μ w.heap g.H → ∀ (μ' : MM) (i N' : Nat), μ'.blk i = locBlk μ v.x → μ'.sz i = v.esz → μ'.base i = locBase μ v.x → BkOk N' μ' w.heap i v.bk
  val : ∀ N μ c, Rep N μ v.x c → ∀ (μ' : MM) (i N' : Nat), i < N' → μ'.blk i = locBlk μ v.x → μ'.sz i = v.esz → μ'.base i = locBase μ v.x → Rep N' μ' (slcV i v.len) c
theorem Vw.Ok.of {x : AV} {esz : Nat} {y : Bool × Nat × (Nat → List AV)} {g g' : G} (h : srcOf esz x g = .done y g') (he : 0 < esz) :
    ∃ p, Keep g g' p ∧ (p → (∀ j, j < y.2.1 → ∀ u, u ∈ y.2.2 j → u.low 0 = true) → Vw.Ok ⟨x, esz, y.2.1, y.2.2⟩ g) := by
  unfold srcOf at h
  split at h
  · obtain ⟨rfl, rfl⟩ := ret_done h
    refine ⟨True, Keep.refl _, fun _ hb => ⟨he, hb, fun N μ w hg μ' i N' e1 e2 e3 => ?_, fun N μ c hx μ' i N' hi e1 e2 e3 => ?_⟩⟩
    · refine ⟨e2, he, fun h => ?_⟩
      rcases h with h | ⟨h, _⟩
      · cases h
      · cases h
    · simp only [Rep] at hx
      subst hx
      simp only [slcV, Rep, RepS]
      exact ⟨hi, none, 0, rfl, Nat.le_refl _, fun h => absurd h (by omega), fun h => (by cases h), fun h => (by cases h)⟩
  · rename_i s own a len
    obtain ⟨⟨bo, sz, n, c⟩, g1, a1, h1⟩ := done_of h
    obtain ⟨hb, rfl⟩ := getC_done a1
    simp only at h1 hb
    obtain ⟨_, g2, a2, h2⟩ := done_of h1
    obtain ⟨rfl, rfl⟩ := ret_done h2
    refine ⟨_, rowsCk_done a2, fun hp hbare => ⟨he, hbare, fun N μ w hg μ' i N' e1 e2 e3 => ?_, fun N μ cx hx μ' i N' hi e1 e2 e3 => ?_⟩⟩
    · have hbk := hg.ok _ _ hb
      have hsz : μ.sz a.g = sz := hbk.1
      exact RC_view hbk he hp e1 e2 (by rw [e3]; simp only [locBase, hsz]) hbare
    · simp only [Rep] at hx
      obtain ⟨_, A, C, rfl, hlen, hA, _⟩ := hx
      simp only [slcV, Rep, RepS]
      refine ⟨hi, A, C, rfl, hlen, fun h => ?_, fun h => (by cases h), fun h => (by cases h)⟩
      rw [hA h]
      simp only [MM.addr, e1, e3, locBlk, locBase, Nat.zero_mul, Nat.add_zero]
  · exact (no_done h).elim
theorem vw_gok {l : List Vw} {g : G} (h : ∀ v ∈ l, v.Ok g) {N : Nat} {μ : MM} {w : World} (hg : GOk N μ w.heap g.H) : GOk l.length (vwMM μ l) w.heap (hpL (vwL l 0)) where
  lt := fun i b hb => by
    obtain ⟨j, v, h1, h2⟩ := vwL_mem (hpL_get hb)
    cases h2
    have := (List.getElem?_eq_some_iff.1 h1).1
    omega
  ok := fun i b hb => by
    obtain ⟨j, v, h1, h2⟩ := vwL_mem (hpL_get hb)
    cases h2
    rw [Nat.zero_add]
    refine (h v (List.mem_of_getElem? h1)).view N μ w hg _ j _ ?_ ?_ ?_ <;> simp [vwMM, h1]
  sep := fun i b j b' hi hj ho => by
    obtain ⟨k, v, h1, h2⟩ := vwL_mem (hpL_get hi)
    cases h2
    cases ho
theorem vw_may {l : List Vw} {μ : MM} {B : Nat} : ¬ May μ (hpL (vwL l 0)) B := by
  rintro ⟨i, b, hb, ho, _⟩
  obtain ⟨j, v, h1, h2⟩ := vwL_mem (hpL_get hb)
  cases h2
  cases ho
theorem vw_val {l : List Vw} {g : G} {i : Nat} {v : Vw} (h : v.Ok g) (hi : l[i]? = some v) {N : Nat} {μ : MM} {c : Value} (hx : Rep N μ v.x c) : Rep l.length (vwMM μ l) (slcV i v.len) c :=
  h.val N μ c hx _ i _ (List.getElem?_eq_some_iff.1 hi).1 (by simp [vwMM, hi]) (by simp [vwMM, hi]) (by simp [vwMM, hi])

/-! ### new blocks -/
def putNew (H : T ABk) : Nat → List ABk → T ABk
  | _, [] => H
  | i, b :: l => putNew (H.upd i (some b)) (i + 1) l
theorem putNew_get : ∀ (l : List ABk) (H : T ABk) (i j : Nat), (putNew H i l).get j = if i ≤ j ∧ j < i + l.length then l[j - i]? else H.get j
  | [], H, i, j => by
    rw [if_neg (by simp)]; rfl
  | b :: l, H, i, j => by
    simp only [putNew, putNew_get l, T.get_upd, List.length_cons]
    by_cases h1 : j = i
    · subst h1; simp; omega
    · by_cases h2 : i + 1 ≤ j ∧ j < i + 1 + l.length
      · rw [if_pos h2, if_pos (by omega), show j - i = (j - (i + 1)) + 1 by omega, List.getElem?_cons_succ]
      · rw [if_neg h2, if_neg h1, if_neg (by omega)]
/-- the new names, where the small heap has them -/
def newMM (μ μ' : MM) (N : Nat) (nms : List Nat) : MM :=
  ⟨fun i => if i < N then μ.blk i else μ'.blk (nms.getD (i - N) 0), fun i => if i < N then μ.cap i else μ'.cap (nms.getD (i - N) 0), fun i => if i < N then μ.sz i else μ'.sz (nms.getD (i - N) 0), fun i => if i < N then μ.base i else μ'.base (nms.getD (i - N) 0)⟩
theorem newMM_lt {μ μ' : MM} {N : Nat} {nms : List Nat} : MM.upto N μ (newMM μ μ' N nms) := ⟨fun g hg => if_pos hg, fun g hg => if_pos hg, fun g hg => if_pos hg, fun g hg => if_pos hg⟩
theorem newMM_ge {μ μ' : MM} {N : Nat} {nms : List Nat} {i : Nat} (h : N ≤ i) : AtN (μ'.via fun i => nms.getD (i - N) 0) (newMM μ μ' N nms) i :=
  ⟨if_neg (by omega), if_neg (by omega), if_neg (by omega), if_neg (by omega)⟩
structure News (H' : T ABk) (nms : List Nat) (bs : List ABk) : Prop where
  len : nms.length = bs.length
  at' : ∀ (i : Nat) (b : ABk), bs[i]? = some b → ∃ nm b0, nms[i]? = some nm ∧ H'.get nm = some b0 ∧ SameC b0 b ∧ b.owned = true ∧ b.bare
  nodup : nms.Nodup
theorem news_ok {g : G} {μ : MM} {w w' : World} (hg : GOk g.nx μ w.heap g.H) {k K' : Nat} {Hc H' : T ABk} {μc μ' : MM} (hno : ∀ B, ¬ May μc Hc B) (hE : ExtB k Hc μc w H' μ' w') (hc : GOk K' μ' w'.heap H') {nms : List Nat} {bs : List ABk} (hn : News H' nms bs)
    {g' : G} (h1 : g'.H = putNew g.H g.nx bs) (h2 : g'.nx = g.nx + bs.length) :
    GOk g'.nx (newMM μ μ' g.nx nms) w'.heap g'.H ∧ Ext g μ w g' (newMM μ μ' g.nx nms) w' := by
  have old : ∀ B, B < w.heap.size → w'.heap[B]? = w.heap[B]? := fun B hB => hE.block B hB (hno B)
  have case : ∀ i b, g'.H.get i = some b → (i < g.nx ∧ g.H.get i = some b) ∨ ∃ j nm b0, i = g.nx + j ∧ bs[j]? = some b ∧ nms[j]? = some nm ∧ H'.get nm = some b0 ∧ SameC b0 b ∧ b.owned = true ∧ b.bare := fun i b hb => by
    rw [h1, putNew_get] at hb
    split at hb
    · rename_i hi
      obtain ⟨nm, b0, k1, k2, k3, k4, k5⟩ := hn.at' _ _ hb
      exact .inr ⟨i - g.nx, nm, b0, by omega, hb, k1, k2, k3, k4, k5⟩
    · exact .inl ⟨hg.lt _ _ hb, hb⟩
  have nmv : ∀ j nm, nms[j]? = some nm → nms.getD (g.nx + j - g.nx) 0 = nm := fun j nm h => by
    rw [show g.nx + j - g.nx = j by omega, List.getD_eq_getElem?_getD, h]; rfl
  have eqs : ∀ j nm, nms[j]? = some nm → (newMM μ μ' g.nx nms).blk (g.nx + j) = μ'.blk nm ∧ (newMM μ μ' g.nx nms).cap (g.nx + j) = μ'.cap nm ∧ (newMM μ μ' g.nx nms).sz (g.nx + j) = μ'.sz nm ∧ (newMM μ μ' g.nx nms).base (g.nx + j) = μ'.base nm := fun j nm h => by
    have hge : ¬ g.nx + j < g.nx := by omega
    refine ⟨?_, ?_, ?_, ?_⟩ <;> simp only [newMM, if_neg hge, nmv j nm h]
  have high : ∀ j nm b0 b, nms[j]? = some nm → H'.get nm = some b0 → SameC b0 b → b.owned = true → b.real (newMM μ μ' g.nx nms) (g.nx + j) → w.heap.size ≤ (newMM μ μ' g.nx nms).blk (g.nx + j) := fun j nm b0 b e1 e2 e3 e4 e5 => by
    obtain ⟨q1, q2, q3, q4⟩ := eqs j nm e1
    rw [q1]
    refine Nat.le_of_not_lt fun hlt => hno _ (hE.may _ hlt ⟨nm, b0, e2, by rw [e3.owned]; exact e4, (e3.real _ _).2 ((ABk.real_eq q2 b).1 e5), rfl⟩)
  constructor
  · refine ⟨fun i b hb => ?_, fun i b hb => ?_, fun i b j b' hi hj ho hr hr' he => ?_⟩
    · rw [h2]
      rcases case i b hb with ⟨h, _⟩ | ⟨j, nm, b0, rfl, h, _⟩
      · omega
      · have := (List.getElem?_eq_some_iff.1 h).1; omega
    · rcases case i b hb with ⟨h, hb'⟩ | ⟨j, nm, b0, rfl, e1, e2, e3, e4, e5, e6⟩
      · have ok := hg.ok _ _ hb'
        exact ok.later newMM_lt (by omega) h fun hr => old _ (ok.lt_size hr)
      · obtain ⟨q1, q2, q3, q4⟩ := eqs j nm e2
        exact (e4.ok (hc.ok _ _ e3)).bare e6 q1 q2 q3 q4
    · rcases case i b hi with ⟨hlt, hb1⟩ | ⟨i1, nm, b0, rfl, e1, e2, e3, e4, e5, e6⟩
      · rw [ABk.real_later newMM_lt hlt] at hr
        rw [newMM_lt.blk i hlt] at he
        rcases case j b' hj with ⟨hlt', hb2⟩ | ⟨j1, nm', b0', rfl, e1', e2', e3', e4', e5', e6'⟩
        · rw [ABk.real_later newMM_lt hlt'] at hr'
          rw [newMM_lt.blk j hlt'] at he
          exact hg.sep _ _ _ _ hb1 hb2 ho hr hr' he
        · have := high j1 nm' b0' b' e2' e3' e4' e5' hr'
          have := (hg.ok _ _ hb1).lt_size hr
          omega
      · rcases case j b' hj with ⟨hlt', hb2⟩ | ⟨j1, nm', b0', rfl, e1', e2', e3', e4', e5', e6'⟩
        · rw [ABk.real_later newMM_lt hlt'] at hr'
          rw [newMM_lt.blk j hlt'] at he
          have := high i1 nm b0 b e2 e3 e4 e5 hr
          have := (hg.ok _ _ hb2).lt_size hr'
          omega
        · obtain ⟨q1, q2, _⟩ := eqs i1 nm e2
          obtain ⟨q1', q2', _⟩ := eqs j1 nm' e2'
          have e : nm = nm' := hc.sep _ _ _ _ e3 e3' (by rw [e4.owned]; exact e5) ((e4.real _ _).2 ((ABk.real_eq q2 b).1 hr)) ((e4'.real _ _).2 ((ABk.real_eq q2' b').1 hr')) (by rw [← q1, ← q1']; exact he)
          subst e
          have hi1 := (List.getElem?_eq_some_iff.1 e2).1
          have : i1 = j1 := (List.getElem?_inj hi1 hn.nodup).1 (e2.trans e2'.symm)
          rw [this]
  · refine ⟨by omega, newMM_lt, hE.os, hE.tape, hE.output, hE.size, fun B hB _ => old B hB, fun B hB hm => ?_⟩
    obtain ⟨i, b, m1, m2, m3, m4⟩ := hm
    rcases case i b m1 with ⟨hlt, hb1⟩ | ⟨j, nm, b0, rfl, e1, e2, e3, e4, e5, e6⟩
    · rw [ABk.real_later newMM_lt hlt] at m3
      rw [newMM_lt.blk i hlt] at m4
      exact ⟨i, b, hb1, m2, m3, m4⟩
    · have := high j nm b0 b e2 e3 e4 e5 m3
      omega
theorem news_rep {μ μ' : MM} {N K' : Nat} {nms : List Nat} {v : AV} {c : Value} {M : Nat} (h : Rep K' μ' (v.ren fun i => nms.getD (i - N) 0) c) (hl : v.low M = true) (hS : v.inS fun i => N ≤ i) : Rep M (newMM μ μ' N nms) v c := by
  have h1 := h.unren hl
  exact h1.on (S := fun i => N ≤ i) (fun i hi hlt => ⟨hlt, newMM_ge hi⟩) hS
/-- an entry: slices are read, new slices and plain values given -/
theorem reads {P : Program} {f : FuncId} {fn : Func} {c : Code} (hf : P.funcs[f]? = some fn) (hb : fn.body = some c) (hname : (fn.name == "runtime.NumGoroutine") = false) {K' : Nat} {args argsC : List AV} {g g1 g' : G} {p : Prop} (kp : Keep g g1 p)
    (l : List Vw) (hl : p → ∀ v ∈ l, v.Ok g) (hargs : p → ∀ N μ (cs : List Value), Reps N μ args cs → Reps l.length (vwMM μ l) argsC cs)
    {nms : List Nat} {bs : List ABk} {v : AV}
    (h : p → GoesB P c fn.ntmps l.length l.length K' (frameOf argsC 0 .e) (hpL (vwL l 0)) fun e fr' H' => (e = .ret ∨ e = .normal) ∧ ∃ vs gr, resultsA P fr' fn.results.toList ⟨H', K', [], [], True⟩ = .done vs gr ∧ gr.cs ∧ AV.ge (packA vs) (v.ren (fun i => nms.getD (i - g.nx) 0)) ∧ News H' nms bs)
    (hv : v.low (g.nx + bs.length) = true) (hS : v.inS fun i => g.nx ≤ i) (h1 : g'.H = putNew g.H g.nx bs) (h2 : g'.nx = g.nx + bs.length) (h3 : g'.cs → g1.cs) : CallIs P f args v g g' := by
  refine ⟨fun hc => (kp.2.2 (h3 hc)).1, fun hcs μ w cargs hg ha => ?_⟩
  have hp := (kp.2.2 (h3 hcs)).2
  refine (GoesB.call hf hb hname (V := fun u H' => AV.ge u (v.ren (fun i => nms.getD (i - g.nx) 0)) ∧ News H' nms bs) ((h hp).mono fun e fr' H' ⟨k1, vs, gr, k2, k3, k4, k5⟩ => ⟨k1, vs, gr, k2, k3, k4, k5⟩) (vwMM μ l) w (vw_gok (hl hp) hg) (hargs hp _ _ _ ha)).mono ?_
  rintro cv w' ⟨u, μ', H', ⟨hge, hN⟩, hrep, hgk, hE⟩
  obtain ⟨q1, q2⟩ := news_ok hg (fun B => vw_may) hE hgk hN h1 h2
  refine ⟨newMM μ μ' g.nx nms, ?_, q1, q2⟩
  rw [h2]
  exact news_rep (hge _ _ _ hrep) hv hS
end Go.Sx
/- PIECES OF CODE: runs of the engine, told by lists. -/
set_option linter.unusedSimpArgs false
set_option linter.unusedVariables false
namespace Go.Sx
open M

theorem ct {α : Sort _} {b : Bool} {x y : α} (h : b = true) : cond b x y = x := by rw [h]; rfl
theorem cf {α : Sort _} {b : Bool} {x y : α} (h : b = false) : cond b x y = y := by rw [h]; rfl
theorem cond_elim {b : Bool} {A B C : Prop} (h : cond b A B) (ha : b = true → A → C) (hb : b = false → B → C) : C := by
  cases b
  · exact hb rfl h
  · exact ha rfl h
/-- a part of a code: by 0 the one, by 1 the other of two; of a block or loop what is in it -/
def nav : List Nat → Code → Code
  | [], c => c
  | i :: l, .seq a b => bif Nat.beq i 0 then nav l a else nav l b
  | i :: l, .cond _ a b => bif Nat.beq i 0 then nav l a else nav l b
  | _ :: l, .block _ c => nav l c
  | _ :: l, .loop c => nav l c
  | _, c => c
def bodyOf (f : Func) : Code := f.body.getD .skip
def pieceN (K' : Nat) (e : Ex) (fl : List (Nat × AV)) (hl : List (Nat × ABk)) : Res (Ex × Fr) → Prop
  | .done r g => r.1 = e ∧ Wants r.2 fl ∧ WantsH g.H hl ∧ Nat.ble g.nx K' = true ∧ g.cs
  | _ => False
/-- the run of a piece ends so: some temporaries, some blocks, no more names than K' -/
structure PieceN (K' : Nat) (e : Ex) (fl : List (Nat × AV)) (hl : List (Nat × ABk)) (r : Res (Ex × Fr)) : Prop where
  of : pieceN K' e fl hl r
section
variable {P : Program} {n B K K' : Nat}
theorem GoesB.runN {call : Calls'} (hcall : CallOk P call) {region : List Oper → Fr → M Fr} {loops : Loops} {rounds : Nat} (hreg : RegionOk P region n) {c : Code} (hl : LoopsIn P loops n c) {fr : Fr} {H : T ABk} {path : List Bool}
    {e : Ex} {fl : List (Nat × AV)} {bl : List (Nat × ABk)} (h : PieceN K' e fl bl (codeA P call region loops n rounds c fr ⟨H, K, [], path, True⟩)) (hB : B ≤ K) :
    GoesB P c n B K K' fr H fun e' fr' H' => e' = e ∧ fr' = frL fl ∧ H' = hpL bl := by
  have h := h.of
  generalize hr : codeA P call region loops n rounds c fr ⟨H, K, [], path, True⟩ = res at h
  unfold pieceN at h
  split at h
  · rename_i r g
    obtain ⟨rfl, hw, hh, hnx, hcs⟩ := h
    have hnx := Nat.le_of_ble_eq_true hnx
    obtain ⟨_, hs⟩ := codeA_sound hcall hreg c hl _ _ _ _ hr
    intro μ w a hg hf Q hQ
    refine hs hcs μ w a hg hf Q fun a' w' hk => hQ r.1 _ _ a' w' ⟨rfl, rfl, rfl⟩ ⟨?_⟩
    obtain ⟨μ', k1, k2, k3, k4⟩ := hk
    have sub : ∀ i b, (hpL bl).get i = some b → g.H.get i = some b := fun i b hb => hh.get (hpL_get hb)
    refine ⟨μ', k1.up hnx sub, ?_, ⟨k3.size, fun t v ht => (k3.val t v (hw.get (frL_get ht))).later (.refl _ _) hnx⟩, k4⟩
    exact ⟨k2.names.mono hB, k2.os, k2.tape, k2.output, k2.size, k2.block, fun b hb hm => k2.may b hb (by
        obtain ⟨i, x, m1, m2, m3, m4⟩ := hm
        exact ⟨i, x, sub i x m1, m2, m3, m4⟩)⟩
  · exact h.elim
theorem AV.ge.refl (v : AV) : AV.ge v v := fun _ _ _ h => h
theorem AV.ge.int (s s' : Bool) (k : IntKind) (n : Int) : AV.ge (.int s k n) (.int s' k n) := fun _ _ _ h => by simpa only [Rep] using h
theorem AV.ge.int' (s s' : Bool) (k : IntKind) {n n' : Int} (e : n = n') : AV.ge (.int s k n) (.int s' k n') := e ▸ AV.ge.int s s' k n
theorem AV.ge.bool (b : Bool) : AV.ge (.bool b) (.sbool b) := fun _ _ _ h => by simpa only [Rep] using h
theorem AV.ge.bool' {b b' : Bool} (e : b = b') : AV.ge (.bool b) (.sbool b') := e ▸ AV.ge.bool b
theorem AV.ge.sbool' {b b' : Bool} (e : b = b') : AV.ge (.sbool b) (.sbool b') := e ▸ AV.ge.refl _
theorem AV.ge.sboolb {b b' : Bool} (e : b = b') : AV.ge (.sbool b) (.bool b') := fun _ _ _ h => by subst e; simpa only [Rep] using h
theorem AV.ge.flt' (s s' : Bool) {x x' : Nat} (e : x = x') : AV.ge (.flt s x) (.flt s' x') := fun _ _ _ h => by subst e; simpa only [Rep] using h
theorem AV.ge.cpx' (s s' : Bool) {x x' y y' : Nat} (e : x = x') (e' : y = y') : AV.ge (.cpx s x y) (.cpx s' x' y') := fun _ _ _ h => by subst e e'; simpa only [Rep] using h
theorem AV.ge.str' (s s' : Bool) {l l' : List UInt8} (e : l = l') : AV.ge (.str s l) (.str s' l') := fun _ _ _ h => by subst e; simpa only [Rep] using h
theorem AV.ge.nils (a : AA) : AV.ge (.slc false false a 0) (.slc true false a 0) := fun _ _ _ h => by
  simp only [Rep, RepS] at h ⊢
  obtain ⟨h1, A, C, h2, h3, h4, h5, h6⟩ := h
  exact ⟨h1, A, C, h2, h3, h4, fun h => (by cases h), h6⟩
theorem AV.ge.slc (s own : Bool) (a : AA) {len len' : Nat} (e : len = len') : AV.ge (.slc s own a len) (.slc true own a len') := fun _ _ _ h => by
  subst e
  simp only [Rep, RepS] at h ⊢
  obtain ⟨h1, A, C, h2, h3, h4, h5, h6⟩ := h
  exact ⟨h1, A, C, h2, h3, h4, fun h => (by cases h), h6⟩
def Ge (fr : Fr) : List (Nat × AV) → Prop
  | [] => True
  | p :: l => (∃ u, fr.get p.1 = some u ∧ AV.ge u p.2) ∧ Ge fr l
theorem Ge.get {fr : Fr} : ∀ {l : List (Nat × AV)}, Ge fr l → ∀ p ∈ l, ∃ u, fr.get p.1 = some u ∧ AV.ge u p.2
  | q :: l, h, p, hp => by
    rcases List.mem_cons.1 hp with rfl | hp
    · exact h.1
    · exact Ge.get h.2 p hp
def GeH (H : T ABk) : List (Nat × ABk) → Prop
  | [] => True
  | p :: l => (∃ b, H.get p.1 = some b ∧ SameC b p.2) ∧ GeH H l
theorem GeH.get {H : T ABk} : ∀ {l : List (Nat × ABk)}, GeH H l → ∀ p ∈ l, ∃ b, H.get p.1 = some b ∧ SameC b p.2
  | q :: l, h, p, hp => by
    rcases List.mem_cons.1 hp with rfl | hp
    · exact h.1
    · exact GeH.get h.2 p hp
theorem GoesB.weakL {c : Code} {fr : Fr} {H : T ABk} {fl : List (Nat × AV)} {bl : List (Nat × ABk)} {Post : Po} (hf : Ge fr fl) (hH : GeH H bl) (h : GoesB P c n B K K' (frL fl) (hpL bl) Post) : GoesB P c n B K K' fr H Post :=
  h.weakR (fun t v ht => hf.get _ (frL_get ht)) fun i b hb => hH.get _ (hpL_get hb)
/-- less is told behind -/
theorem AtB.weakL {H : T ABk} {μ : MM} {w w' : World} {H' : T ABk} {fr' : Fr} {a a' : Act} {fl : List (Nat × AV)} {bl : List (Nat × ABk)} (hf : Ge fr' fl) (hH : GeH H' bl) (h : AtB n B K H μ w H' fr' a a' w') : AtB n B K H μ w (hpL bl) (frL fl) a a' w' := by
  obtain ⟨μ', k1, k2, k3, k4⟩ := h.of
  have G := fun i b (hb : (hpL bl).get i = some b) => hH.get _ (hpL_get hb)
  refine ⟨μ', ⟨fun i b hb => ?_, fun i b hb => ?_, fun i b j b' hi hj ho hr hr' he => ?_⟩, ⟨k2.names, k2.os, k2.tape, k2.output, k2.size, k2.block, fun b hb hm => k2.may b hb ?_⟩, ⟨k3.size, fun t v ht => ?_⟩, k4⟩
  · obtain ⟨b0, h1, h2⟩ := G i b hb; exact k1.lt i b0 h1
  · obtain ⟨b0, h1, h2⟩ := G i b hb; exact h2.ok (k1.ok i b0 h1)
  · obtain ⟨b0, h1, h2⟩ := G i b hi
    obtain ⟨b1, l1, l2⟩ := G j b' hj
    exact k1.sep i b0 j b1 h1 l1 (by rw [h2.owned]; exact ho) ((h2.real _ _).2 hr) ((l2.real _ _).2 hr') he
  · obtain ⟨i, x, m1, m2, m3, m4⟩ := hm
    obtain ⟨b0, h1, h2⟩ := G i x m1
    exact ⟨i, b0, h1, by rw [h2.owned]; exact m2, (h2.real _ _).2 m3, m4⟩
  · obtain ⟨u, h1, h2⟩ := hf.get _ (frL_get ht)
    exact h2 _ _ _ (k3.val t u h1)
theorem GoesB.post {c : Code} {fr : Fr} {H : T ABk} {Post Post' : Po} (h : GoesB P c n B K K' fr H Post) (k : ∀ e fr' H', Post e fr' H' → ∃ fl bl, Ge fr' fl ∧ GeH H' bl ∧ Post' e (frL fl) (hpL bl)) : GoesB P c n B K K' fr H Post' :=
  fun μ w a hg hf Q hQ => h μ w a hg hf Q fun e fr' H' a' w' hp ha => by
    obtain ⟨fl, bl, h1, h2, h3⟩ := k _ _ _ hp
    exact hQ e _ _ a' w' h3 (ha.weakL h1 h2)
/-- other names, by lists -/
def RenF (K' : Nat) (σ : Nat → Nat) (fr : Fr) : List (Nat × AV) → Prop
  | [] => True
  | p :: l => (∃ u, fr.get p.1 = some u ∧ AV.ge u (p.2.ren σ) ∧ p.2.low K' = true) ∧ RenF K' σ fr l
def RenH (K' : Nat) (σ : Nat → Nat) (H : T ABk) : List (Nat × ABk) → Prop
  | [] => True
  | p :: l => (∃ b, H.get (σ p.1) = some b ∧ SameC b p.2 ∧ p.2.bare ∧ p.1 < K') ∧ RenH K' σ H l
theorem RenF.get {σ : Nat → Nat} {fr : Fr} : ∀ {l : List (Nat × AV)}, RenF K' σ fr l → ∀ p ∈ l, ∃ u, fr.get p.1 = some u ∧ AV.ge u (p.2.ren σ) ∧ p.2.low K' = true
  | q :: l, h, p, hp => by
    rcases List.mem_cons.1 hp with rfl | hp
    · exact h.1
    · exact RenF.get h.2 p hp
theorem RenH.get {σ : Nat → Nat} {H : T ABk} : ∀ {l : List (Nat × ABk)}, RenH K' σ H l → ∀ p ∈ l, ∃ b, H.get (σ p.1) = some b ∧ SameC b p.2 ∧ p.2.bare ∧ p.1 < K'
  | q :: l, h, p, hp => by
    rcases List.mem_cons.1 hp with rfl | hp
    · exact h.1
    · exact RenH.get h.2 p hp
theorem GoesB.renL {K'' : Nat} {c : Code} {fr : Fr} {H : T ABk} {Post Post' : Po} (h : GoesB P c n B K K' fr H Post)
    (k : ∀ e fr' H', Post e fr' H' → ∃ σ fl bl, (∀ g, g < B → σ g = g) ∧ RenF K'' σ fr' fl ∧ RenH K'' σ H' bl ∧ (∀ i j, i < K'' → j < K'' → σ i = σ j → i = j) ∧ Post' e (frL fl) (hpL bl)) : GoesB P c n B K K'' fr H Post' := by
  intro μ w a hg hf Q hQ
  refine h μ w a hg hf Q fun e fr' H' a' w' hp ha => ?_
  obtain ⟨σ, fl, bl, hk, hF, hB, hinj, hp'⟩ := k _ _ _ hp
  refine hQ e _ _ a' w' hp' ⟨?_⟩
  obtain ⟨μ', k1, k2, k3, k4⟩ := ha.of
  have G := fun i b (hb : (hpL bl).get i = some b) => hB.get _ (hpL_get hb)
  refine ⟨μ'.via σ, ⟨fun i b hb => ?_, fun i b hb => ?_, fun i b j b' hi hj ho hr hr' he => ?_⟩, ⟨⟨fun g hg => ?_, fun g hg => ?_, fun g hg => ?_, fun g hg => ?_⟩, k2.os, k2.tape, k2.output, k2.size, k2.block, fun b hb hm => k2.may b hb ?_⟩, ⟨k3.size, fun t v ht => ?_⟩, k4⟩
  · obtain ⟨b0, h1, h2, h3, h4⟩ := G i b hb; exact h4
  · obtain ⟨b0, h1, h2, h3, h4⟩ := G i b hb
    exact (h2.ok (k1.ok _ _ h1)).bare h3 rfl rfl rfl rfl
  · obtain ⟨b0, h1, h2, h3, h4⟩ := G i b hi
    obtain ⟨b1, l1, l2, l3, l4⟩ := G j b' hj
    exact hinj i j h4 l4 (k1.sep _ _ _ _ h1 l1 (by rw [h2.owned]; exact ho) ((h2.real _ _).2 ((ABk.real_eq rfl b).1 hr)) ((l2.real _ _).2 ((ABk.real_eq rfl b').1 hr')) he)
  · show μ'.blk (σ g) = _; rw [hk g hg]; exact k2.names.blk g hg
  · show μ'.cap (σ g) = _; rw [hk g hg]; exact k2.names.cap g hg
  · show μ'.sz (σ g) = _; rw [hk g hg]; exact k2.names.sz g hg
  · show μ'.base (σ g) = _; rw [hk g hg]; exact k2.names.base g hg
  · obtain ⟨i, x, m1, m2, m3, m4⟩ := hm
    obtain ⟨b0, h1, h2, h3, h4⟩ := G i x m1
    exact ⟨σ i, b0, h1, by rw [h2.owned]; exact m2, (h2.real _ _).2 ((ABk.real_eq rfl x).1 m3), m4⟩
  · obtain ⟨u, h1, h2, h3⟩ := hF.get _ (frL_get ht)
    exact (h2 _ _ _ (k3.val t u h1)).unren h3
end
end Go.Sx
/- WHAT A LAW IS HANDED: readings of flat types, cell by cell; slices of them as views. -/
set_option linter.unusedSimpArgs false
set_option linter.unusedVariables false
namespace Go.Sx
open M

inductive Sh where
  | int (k : IntKind)
  | str
  | bool
  | f64
def Sh.ok : Sh → Value → Prop
  | .int k, v => ∃ n, v = .int k n ∧ (Lit.int k n).wf = true
  | .str, v => ∃ s : ByteArray, v = .string s ∧ s.size ≤ maxLen
  | .bool, v => ∃ b, v = .bool b
  | .f64, v => ∃ b, v = .float .f64 b ∧ b < 18446744073709551616
def intOf : Value → Int
  | .int _ n => n
  | _ => 0
def strOf : Value → List UInt8
  | .string s => s.data.toList
  | _ => []
def boolOf : Value → Bool
  | .bool b => b
  | _ => false
def fltOf : Value → Nat
  | .float _ b => b
  | _ => 0
def Sh.av : Sh → Value → AV
  | .int k, v => .int true k (intOf v)
  | .str, v => .str true (strOf v)
  | .bool, v => .sbool (boolOf v)
  | .f64, v => .raw true (fltOf v)
theorem Sh.rep {N : Nat} {μ : MM} : ∀ {sh : Sh} {v : Value}, sh.ok v → Rep N μ (sh.av v) v
  | .int k, v, h => by obtain ⟨n, rfl, _⟩ := h; simp only [Sh.av, Rep, intOf]
  | .str, v, h => by obtain ⟨s, rfl, _⟩ := h; simp only [Sh.av, Rep, strOf]
  | .bool, v, h => by obtain ⟨b, rfl⟩ := h; simp only [Sh.av, Rep, boolOf]
  | .f64, v, h => by obtain ⟨b, rfl, hb⟩ := h; simp only [Sh.av, Rep, fltOf]; exact ⟨trivial, hb⟩
theorem Sh.one {sh : Sh} {v : Value} : (sh.av v).one = true := by cases sh <;> rfl
theorem Sh.low {sh : Sh} {v : Value} {N : Nat} : (sh.av v).low N = true := by cases sh <;> rfl
def flatFs (P : Program) (r : TypeId → Option (List Sh)) : Nat → List Field → Option (List Sh)
  | _, [] => some []
  | off, f :: fs =>
    match r f.type, flatFs P r (off + P.cellsOf f.type) fs with
    | some l, some m => bif Nat.beq f.offset off && Nat.beq l.length (P.cellsOf f.type) then some (l ++ m) else none
    | _, _ => none
def manySh (l : List Sh) : Nat → List Sh
  | 0 => []
  | n + 1 => l ++ manySh l n
def flatT (P : Program) : Nat → TypeId → Option (List Sh)
  | 0, _ => none
  | n + 1, t =>
    match P.underlying t with
    | some (.int k) => some [.int k]
    | some .string => some [.str]
    | some .bool => some [.bool]
    | some (.struct fs) => flatFs P (flatT P n) 0 fs.toList
    | some (.array m e) =>
      match flatT P n e with
      | some l => bif Nat.beq l.length (P.cellsOf e) then some (manySh l m) else none
      | none => none
    | _ => none
def Okl (shs : List Sh) (cs : List Value) : Prop := ∀ (i : Nat) (sh : Sh), shs[i]? = some sh → ∃ v, cs[i]? = some v ∧ sh.ok v
section
variable {H : Type} {enc : TypeId × Value → H} {P : Program} {w : World} {base : Nat} {spare : Nat → Bool} {held : Bool}
theorem okl_one {sh : Sh} {v : Value} (h : sh.ok v) : Okl [sh] [v] := fun i s hi => by
  cases i with
  | zero => simp at hi; subst hi; exact ⟨v, rfl, h⟩
  | succ i => simp at hi
theorem okl_fields {r : TypeId → Option (List Sh)} {cs : List Value} (ih : ∀ t l, r t = some l → ∀ (n : Nat) (c : List Value) (x : DataW H × List MemPlace), DataW.trod enc P w base spare held n t c = some x → Okl l c) :
    ∀ (fs : List Field) (off : Nat) (l : List Sh), flatFs P r off fs = some l → (∀ f ∈ fs, ∃ (n : Nat) (x : DataW H × List MemPlace), DataW.trod enc P w base spare held n f.type ((cs.drop f.offset).take (P.cellsOf f.type)) = some x) → ∀ (i : Nat) (sh : Sh), l[i]? = some sh → ∃ v, cs[off + i]? = some v ∧ sh.ok v
  | [], off, l, h, _, i, sh, hi => by simp only [flatFs, Option.some.injEq] at h; subst h; simp at hi
  | f :: fs, off, l, h, hf, i, sh, hi => by
    simp only [flatFs] at h
    cases h1 : r f.type with
    | none => rw [h1] at h; cases h
    | some a =>
      cases h2 : flatFs P r (off + P.cellsOf f.type) fs with
      | none => rw [h1, h2] at h; cases h
      | some m =>
        rw [h1, h2] at h
        simp only at h
        cases hb : (Nat.beq f.offset off && Nat.beq a.length (P.cellsOf f.type)) with
        | false => rw [hb, cond_false] at h; cases h
        | true =>
          rw [hb, cond_true] at h
          cases h
          simp only [Bool.and_eq_true] at hb
          have eo := Nat.eq_of_beq_eq_true hb.1
          have el := Nat.eq_of_beq_eq_true hb.2
          by_cases hlt : i < a.length
          · rw [List.getElem?_append_left hlt] at hi
            obtain ⟨n, x, hx⟩ := hf f List.mem_cons_self
            obtain ⟨v, hv, hok⟩ := ih _ _ h1 n _ x hx i sh hi
            refine ⟨v, ?_, hok⟩
            rw [List.getElem?_take, if_pos (by omega), List.getElem?_drop, eo] at hv
            exact hv
          · rw [List.getElem?_append_right (by omega)] at hi
            obtain ⟨v, hv, hok⟩ := okl_fields ih fs (off + P.cellsOf f.type) m h2 (fun g hg => hf g (List.mem_cons_of_mem _ hg)) _ sh hi
            refine ⟨v, ?_, hok⟩
            rw [← hv]
            congr 1
            omega
theorem manySh_get (l : List Sh) : ∀ (m i : Nat) (sh : Sh), (manySh l m)[i]? = some sh → ∃ j k, j < m ∧ i = j * l.length + k ∧ l[k]? = some sh
  | 0, i, sh, h => by simp [manySh] at h
  | m + 1, i, sh, h => by
    simp only [manySh] at h
    by_cases hlt : i < l.length
    · rw [List.getElem?_append_left hlt] at h
      exact ⟨0, i, by omega, by omega, h⟩
    · rw [List.getElem?_append_right (by omega)] at h
      obtain ⟨j, k, h1, h2, h3⟩ := manySh_get l m _ sh h
      exact ⟨j + 1, k, by omega, by rw [Nat.succ_mul]; omega, h3⟩
theorem trod_flat : ∀ (n : Nat) (t : TypeId) (shs : List Sh), flatT P n t = some shs → ∀ (fuel : Nat) (cs : List Value) (x : DataW H × List MemPlace), DataW.trod enc P w base spare held fuel t cs = some x → Okl shs cs := by
  intro n
  induction n with
  | zero => intro t shs h; cases h
  | succ n ih =>
    intro t shs h fuel cs x hx
    simp only [flatT] at h
    generalize hu : P.underlying t = u at h
    split at h
    · cases h
      obtain ⟨k, rfl, _, hw⟩ := DataW.trod_int hu hx
      exact okl_one ⟨_, rfl, hw⟩
    · cases h
      obtain ⟨s, rfl, _, hs⟩ := DataW.trod_string hu hx
      exact okl_one ⟨_, rfl, hs⟩
    · cases h
      obtain ⟨b, rfl, _⟩ := DataW.trod_bool hu hx
      exact okl_one ⟨_, rfl⟩
    · rename_i fs
      obtain ⟨xs, m, _, _, hl, hxl, hf⟩ := DataW.trod_struct hu hx
      intro i sh hi
      have := okl_fields (cs := cs) (fun t l ht k c y hy => ih t l ht k c y hy) fs.toList 0 shs h (fun f hfm => by
        obtain ⟨j, hj, rfl⟩ := List.getElem_of_mem hfm
        have hj' : j < fs.size := by simpa using hj
        have e := hf j fs[j] (by simp [hj'])
        refine ⟨m, xs[j]'(by omega), ?_⟩
        rw [List.getElem?_eq_getElem (by omega)] at e
        simpa using e) i sh hi
      simpa using this
    · rename_i m e
      cases h1 : flatT P n e with
      | none => rw [h1] at h; cases h
      | some l =>
        rw [h1] at h
        simp only at h
        cases hb : Nat.beq l.length (P.cellsOf e) with
        | false => rw [hb, cond_false] at h; cases h
        | true =>
          rw [hb, cond_true] at h
          cases h
          have el := Nat.eq_of_beq_eq_true hb
          obtain ⟨xs, k, _, _, hl, hxl, hf⟩ := DataW.trod_array hu hx
          intro i sh hi
          obtain ⟨j, q, hj, rfl, hq⟩ := manySh_get l m i sh hi
          have e1 := hf j hj
          rw [List.getElem?_eq_getElem (by omega)] at e1
          obtain ⟨v, hv, hok⟩ := ih e l h1 _ _ _ e1 q sh hq
          refine ⟨v, ?_, hok⟩
          have hql := (List.getElem?_eq_some_iff.1 hq).1
          rw [List.getElem?_take, if_pos (by omega), List.getElem?_drop, ← el] at hv
          exact hv
    · cases h
end
/-- the cells of a row, as they are read -/
def rowAv : List Sh → Nat → (Nat → Value) → List AV
  | [], _, _ => []
  | sh :: l, o, c => sh.av (c o) :: rowAv l (o + 1) c
theorem rowAv_length (l : List Sh) (o : Nat) (c : Nat → Value) : (rowAv l o c).length = l.length := by
  induction l generalizing o with
  | nil => rfl
  | cons sh l ih => simp [rowAv, ih]
theorem rowAv_get (l : List Sh) (o : Nat) (c : Nat → Value) (i : Nat) : (rowAv l o c)[i]? = (l[i]?).map fun sh => sh.av (c (o + i)) := by
  induction l generalizing o i with
  | nil => simp [rowAv]
  | cons sh l ih =>
    cases i with
    | zero => simp [rowAv]
    | succ i => simp only [rowAv, List.getElem?_cons_succ, ih]; rw [show o + 1 + i = o + (i + 1) by omega]
theorem reps_row {N : Nat} {μ : MM} {l : List Sh} {cs : List Value} {c : Nat → Value} (hl : cs.length = l.length) (h : ∀ (i : Nat) (sh : Sh), l[i]? = some sh → cs[i]? = some (c i) ∧ sh.ok (c i)) : Reps N μ (rowAv l 0 c) cs :=
  .of_get (by rw [rowAv_length]; exact hl) fun i v hv => by
    rw [rowAv_get] at hv
    cases hs : l[i]? with
    | none => rw [hs] at hv; cases hv
    | some sh =>
      rw [hs] at hv
      simp only [Option.map_some, Option.some.injEq, Nat.zero_add] at hv
      subst hv
      obtain ⟨h1, h2⟩ := h i sh hs
      exact ⟨_, h1, Sh.rep h2⟩
section
open Go.WideShapes
variable {H : Type} {enc : TypeId × Value → H} {P : Program} {W : World} {held : Bool}
/-- a struct that is handed in by its value -/
theorem open_agg {t : TypeId} {fs : Array Field} {n : Nat} {shs : List Sh} {r : Reach} {b0 : Nat} {v : Value} {d : DataW H} {ps : List MemPlace} {sp : Nat → Bool} (ht : P.underlying t = some (.struct fs)) (hflat : flatT P n t = some shs) (hlen : shs.length = P.cellsOf t)
    (hval : Value.okWide P W r b0 t v) (hd : DataW.Trod enc P W 0 sp held t v d ps) :
    ∃ c : Nat → Value, (∀ N μ, Rep N μ (.agg (rowAv shs 0 c)) v) ∧ ∀ (i : Nat) (sh : Sh), shs[i]? = some sh → sh.ok (c i) := by
  obtain ⟨cs, rfl, hsz⟩ := okWide_struct ht hval
  obtain ⟨fuel, hx⟩ := hd
  have hok := trod_flat n t shs hflat fuel _ _ hx
  refine ⟨fun i => cs.getD i undef, fun N μ => ?_, fun i sh hi => ?_⟩
  · simp only [Rep]
    refine ⟨cs, rfl, reps_row (by simpa [hlen] using hsz) fun i sh hi => ?_⟩
    obtain ⟨v, hv, ho⟩ := hok i sh hi
    have hv' : cs[i]? = some v := by simpa [Value.cells] using hv
    rw [Array.getD_eq_getD_getElem?, hv']
    exact ⟨by simpa using hv', ho⟩
  · obtain ⟨v, hv, ho⟩ := hok i sh hi
    have hv' : cs[i]? = some v := by simpa [Value.cells] using hv
    simp only [Array.getD_eq_getD_getElem?, hv']
    exact ho
theorem heap_of_cell {w : World} {b o : Nat} {sp : Option Nat} {v : Value} (h : w.cell? ⟨b, o, sp⟩ = some v) : sp = none ∧ ∃ cur ty fz, w.heap[b]? = some (.cells cur ty fz) ∧ cur[o]? = some v := by
  unfold World.cell? at h
  split at h
  · rename_i c e fz hb
    split at h
    · cases h
    · rename_i hs
      refine ⟨by cases sp <;> simp_all, c, e, fz, hb, h⟩
  · cases h
/-- a slice of flat elements that is handed in -/
theorem open_slc {t e : TypeId} {n : Nat} {shs : List Sh} {fuel : Nat} {v : Value} {x : DataW H × List MemPlace} {sp : Nat → Bool} (ht : P.underlying t = some (.slice e)) (hflat : flatT P n e = some shs) (hlen : shs.length = P.cellsOf e) (hpos : 0 < shs.length)
    (hd : DataW.trod enc P W 0 sp held fuel t [v] = some x) :
    ∃ (len blk bs : Nat) (c : Nat → Nat → Value),
      (∀ (μ : MM) (i N : Nat), i < N → μ.blk i = blk → μ.base i = bs → μ.sz i = shs.length → Rep N μ (slcV i len) v) ∧
      (∀ (μ : MM) (i N : Nat), μ.blk i = blk → μ.base i = bs → μ.sz i = shs.length → BkOk N μ W.heap i (.cells false shs.length len (.fn fun j => rowAv shs 0 (c j)))) ∧
      (∀ j, j < len → ∀ (i : Nat) (sh : Sh), shs[i]? = some sh → sh.ok (c j i)) ∧
      ((len = 0 ∧ x.1 = .nil) ∨ ∃ es sps, x.1 = .slice es sps ∧ es.length = len) := by
  rcases Go.Deep.open_slice ht hd with ⟨h0, hx⟩ | ⟨a, len, cap, m, k, D, Pl, h0, _, hl, hm, hmm, hx, hel⟩
  · cases h0
    refine ⟨0, 0, 0, fun _ _ => undef, fun μ i N hi _ _ _ => ?_, fun μ i N _ _ hs => ⟨hs, hpos, fun h => ?_⟩, fun j hj => by omega, .inl ⟨rfl, by rw [hx]⟩⟩
    · simp only [slcV, Rep, RepS]
      exact ⟨hi, none, 0, rfl, Nat.le_refl _, fun h => absurd h (by omega), fun h => (by cases h), fun h => (by cases h)⟩
    · rcases h with h | ⟨h, _⟩
      · exact absurd h (by omega)
      · cases h
  · cases h0
    have hmlen : len ≤ m := by rw [hmm]; split <;> omega
    have cell : ∀ j, j < len → ∀ (i : Nat) (sh : Sh), shs[i]? = some sh → ∃ u, W.cell? (a.add (j * shs.length + i)) = some u ∧ sh.ok u := fun j hj i sh hi => by
      obtain ⟨cs', h1, h2⟩ := hel j (by omega)
      obtain ⟨_, hcl, hc⟩ := World.cells?_some h1
      obtain ⟨u, hu, ho⟩ := trod_flat n e shs hflat _ _ _ h2 i sh hi
      have hil := (List.getElem?_eq_some_iff.1 hi).1
      refine ⟨u, ?_, ho⟩
      rw [← hu, ← hc i (by omega), ← hlen, Go.Deep.add_add]
    rcases Nat.eq_zero_or_pos len with rfl | h0
    · refine ⟨0, 0, 0, fun _ _ => undef, fun μ i N hi _ _ _ => ?_, fun μ i N _ _ hs => ⟨hs, hpos, fun h => ?_⟩, fun j hj => by omega, .inr ⟨_, _, by rw [hx], by simp⟩⟩
      · simp only [slcV, Rep, RepS]
        exact ⟨hi, _, _, rfl, hl, fun h => absurd h (by omega), fun h => (by cases h), fun h => (by cases h)⟩
      · rcases h with h | ⟨h, _⟩
        · exact absurd h (by omega)
        · cases h
    obtain ⟨ab, ao, asp⟩ := a
    obtain rfl : asp = none := by
      obtain ⟨u, hu, _⟩ := cell 0 h0 0 shs[0] (List.getElem?_eq_getElem hpos)
      rw [Nat.zero_mul, Nat.zero_add, Addr.add_zero'] at hu
      exact (heap_of_cell hu).1
    have cell' : ∀ j, j < len → ∀ (i : Nat) (sh : Sh), shs[i]? = some sh → ∃ u, W.cell? ⟨ab, ao + (j * shs.length + i), none⟩ = some u ∧ sh.ok u := fun j hj i sh hi => by
      obtain ⟨u, hu, ho⟩ := cell j hj i sh hi
      rw [Addr.add_lit] at hu
      exact ⟨u, hu, ho⟩
    refine ⟨len, ab, ao, fun j i => (W.cell? ⟨ab, ao + (j * shs.length + i), none⟩).getD undef, fun μ i N hi e1 e2 e3 => ?_, fun μ i N e1 e2 e3 => ⟨e3, hpos, fun h => ?_⟩, fun j hj i sh hi => ?_, .inr ⟨_, _, by rw [hx], by simp⟩⟩
    · simp only [slcV, Rep, RepS]
      exact ⟨hi, _, _, rfl, hl, fun h => by simp [MM.addr, e1, e2], fun h => (by cases h), fun h => (by cases h)⟩
    · obtain ⟨u, hu, _⟩ := cell' 0 h0 0 shs[0] (List.getElem?_eq_getElem hpos)
      obtain ⟨_, cur, ty, fz, hB, _⟩ := heap_of_cell hu
      have at' : ∀ j, j < len → ∀ (i : Nat) (sh : Sh), shs[i]? = some sh → ∃ u, cur[ao + (j * shs.length + i)]? = some u ∧ sh.ok u ∧ W.cell? ⟨ab, ao + (j * shs.length + i), none⟩ = some u := fun j hj i sh hi => by
        obtain ⟨u, hu, ho⟩ := cell' j hj i sh hi
        obtain ⟨_, cur', ty', fz', hB', hc'⟩ := heap_of_cell hu
        rw [hB] at hB'
        cases hB'
        exact ⟨u, hc', ho, hu⟩
      refine ⟨cur, ty, fz, by rw [e1]; exact hB, ?_, fun h => (by cases h), fun j hj => ⟨rowAv_length _ _ _, fun o v hv => ?_⟩⟩
      · obtain ⟨u, hu, _⟩ := at' (len - 1) (by omega) (shs.length - 1) shs[shs.length - 1] (List.getElem?_eq_getElem (by omega))
        have := (Array.getElem?_eq_some_iff.1 hu).1
        have e4 : (len - 1) * shs.length + shs.length = len * shs.length := by rw [← Nat.succ_mul]; congr 1; omega
        rw [e2]; omega
      · simp only [Cont.row] at hv
        rw [rowAv_get] at hv
        cases hs : shs[o]? with
        | none => rw [hs] at hv; cases hv
        | some sh =>
          rw [hs] at hv
          simp only [Option.map_some, Option.some.injEq, Nat.zero_add] at hv
          subst hv
          obtain ⟨u, h1, h2, h3⟩ := at' j hj o sh hs
          refine ⟨Sh.one, u, by rw [e2, Nat.add_assoc]; exact h1, ?_⟩
          rw [h3, Option.getD_some]
          exact Sh.rep h2
    · obtain ⟨u, hu, ho⟩ := cell' j hj i sh hi
      simp only [hu, Option.getD_some]
      exact ho
end
end Go.Sx
/- LAWS THAT ARE HANDED SLICES; what is known, entry by entry; blocks that are none. -/
set_option linter.unusedSimpArgs false
set_option linter.unusedVariables false
namespace Go.Sx
open M

/-! ### what is known, entry by entry -/
def kn : Known := fun _ => none
def kc (i : Nat) (s : List AV → M AV) (γ : Known) : Known := fun f => bif Nat.beq f i then some s else γ f
theorem kn_ok {P : Program} : KnownOk P kn := fun f s h => by cases h
theorem kn_tch : KnownT kn := fun f s h => by cases h
theorem kc_ok {P : Program} {i : Nat} {s : List AV → M AV} {γ : Known} (h : ∀ args v g g', s args g = .done v g' → CallIs P i args v g g') (k : KnownOk P γ) : KnownOk P (kc i s γ) := fun f s' hs => by
  unfold kc at hs
  cases h1 : Nat.beq f i with
  | true => rw [h1] at hs; cases hs; cases Nat.eq_of_beq_eq_true h1; exact h
  | false => rw [h1] at hs; exact k f s' hs
theorem kc_tch {i : Nat} {s : List AV → M AV} {γ : Known} (h : ∀ args, Tch (s args)) (k : KnownT γ) : KnownT (kc i s γ) := fun f s' hs => by
  unfold kc at hs
  cases h1 : Nat.beq f i with
  | true => rw [h1] at hs; cases hs; exact h
  | false => rw [h1] at hs; exact k f s' hs

theorem feq_selfc {x : Nat} (hx : x < 18446744073709551616) : feq (cn x) (cn x) = !isnan x := by
  have e : feq (cn x) (cn x) = feq x x := by unfold feq; rw [forder_cn]
  rw [e, feq_rk hx hx]
  cases isnan x <;> simp
/-! ### runs, told shortly -/
theorem eqq {v : AV} {r : Res AV} {q : Prop} (e : pureP v r = (v = v ∧ q)) (h : q) : PureP v r := ⟨by rw [e]; exact ⟨rfl, h⟩⟩
def selfW : List (Nat × AV) → Prop
  | [] => True
  | p :: l => some p.2 = some p.2 ∧ selfW l
theorem selfW_ok : ∀ l, selfW l
  | [] => trivial
  | _ :: l => ⟨rfl, selfW_ok l⟩
def selfH : List (Nat × ABk) → Prop
  | [] => True
  | p :: l => some p.2 = some p.2 ∧ selfH l
theorem selfH_ok : ∀ l, selfH l
  | [] => trivial
  | _ :: l => ⟨rfl, selfH_ok l⟩
theorem eqn {K' : Nat} {e : Ex} {fl : List (Nat × AV)} {bl : List (Nat × ABk)} {r : Res (Ex × Fr)} {q : Prop} (h : pieceN K' e fl bl r = (e = e ∧ selfW fl ∧ selfH bl ∧ true = true ∧ q)) (hq : q) : PieceN K' e fl bl r :=
  ⟨by rw [h]; exact ⟨rfl, selfW_ok _, selfH_ok _, rfl, hq⟩⟩

/-! ### a law's start: slices that are read -/
structure Gv where
  esz : Nat
  len : Nat
  blk : Nat
  base : Nat
  rows : Nat → List AV
def Gv.bk (v : Gv) : ABk := .cells false v.esz v.len (.fn v.rows)
def gvMM (l : List Gv) : MM :=
  ⟨fun i => (l[i]?).elim 0 (·.blk), fun _ => 0, fun i => (l[i]?).elim 0 (·.esz), fun i => (l[i]?).elim 0 (·.base)⟩
def gvL : List Gv → Nat → List (Nat × ABk)
  | [], _ => []
  | v :: l, i => (i, v.bk) :: gvL l (i + 1)
theorem gvL_mem : ∀ {l : List Gv} {i : Nat} {p : Nat × ABk}, p ∈ gvL l i → ∃ j v, l[j]? = some v ∧ p = (i + j, v.bk)
  | [], i, p, h => by cases h
  | v :: l, i, p, h => by
    rcases List.mem_cons.1 h with rfl | h
    · exact ⟨0, v, rfl, rfl⟩
    · obtain ⟨j, u, h1, rfl⟩ := gvL_mem h
      exact ⟨j + 1, u, by simpa using h1, by rw [show i + 1 + j = i + (j + 1) by omega]⟩
theorem gv_gok {l : List Gv} {hp : Array Obj} (h : ∀ i v, l[i]? = some v → ∀ (μ : MM) (N : Nat), μ.blk i = v.blk → μ.base i = v.base → μ.sz i = v.esz → BkOk N μ hp i v.bk) : GOk l.length (gvMM l) hp (hpL (gvL l 0)) where
  lt := fun i b hb => by
    obtain ⟨j, v, h1, h2⟩ := gvL_mem (hpL_get hb)
    cases h2
    have := (List.getElem?_eq_some_iff.1 h1).1
    omega
  ok := fun i b hb => by
    obtain ⟨j, v, h1, h2⟩ := gvL_mem (hpL_get hb)
    cases h2
    rw [Nat.zero_add]
    refine h j v h1 _ _ ?_ ?_ ?_ <;> simp [gvMM, h1]
  sep := fun i b j b' hi hj ho => by
    obtain ⟨k, v, h1, h2⟩ := gvL_mem (hpL_get hi)
    cases h2
    cases ho
theorem gv_may {l : List Gv} {μ : MM} {B : Nat} : ¬ May μ (hpL (gvL l 0)) B := by
  rintro ⟨i, b, hb, ho, _⟩
  obtain ⟨j, v, h1, h2⟩ := gvL_mem (hpL_get hb)
  cases h2
  cases ho
/-- the start of a run along a road, these blocks in memory -/
def G.of (bl : List (Nat × ABk)) (K : Nat) (path : List Bool) : G := ⟨hpL bl, K, [], path, True⟩
theorem heap_true {P : Program} {call : Calls'} (hcall : CallOk P call) {f : FuncId} {fn : Func} {c : Code} (hf : P.funcs[f]? = some fn) (hb : fn.body = some c) (hname : (fn.name == "runtime.NumGoroutine") = false) {args : List AV} {bl : List (Nat × ABk)} {K : Nat} {path : List Bool} {v : AV}
    (h : PureP v (call f args (G.of bl K path))) (hv : v.low 0 = true) (ht : ∀ c, (∀ N μ, Rep N μ v c) → c = .bool true) {μ : MM} {w : World} (hg : GOk K μ w.heap (hpL bl)) (hno : ∀ B, ¬ May μ (hpL bl) B) {cargs : Array Value} (ha : Reps K μ args cargs.toList) :
    Calls P f cargs w fun e w' => e = .returned (.bool true) ∧ RowKit.Below w.heap.size w w' := by
  have h := h.of
  unfold pureP at h
  split at h
  · rename_i v' g hr
    obtain ⟨rfl, hcs⟩ := h
    obtain ⟨_, hs⟩ := hcall _ _ _ _ _ hr
    have main : ∀ c w', After (G.of bl K path) μ w g v' c w' → c = .bool true ∧ RowKit.Below w.heap.size w w' := by
      rintro c w' ⟨μ', hv', _, hE⟩
      refine ⟨ht c fun N μ2 => ?_, hE.os, hE.tape, hE.output, hE.size, fun k hk => hE.block k hk (hno k)⟩
      have h1 : Rep 0 μ2 v' c := Rep.ofLow ⟨fun g hg => by omega, fun g hg => by omega, fun g hg => by omega, fun g hg => by omega⟩ hv hv'
      exact h1.later (.refl _ _) (Nat.zero_le _)
    rcases hs hcs μ w cargs hg ha with ⟨cv, w', e, _⟩ | ⟨f', args', w', e, hc⟩
    · rw [run_enter hf hname hb] at e; cases e
    · rw [run_enter hf hname hb] at e
      cases e
      refine hc.mono ?_
      rintro e1 w1 ⟨cv, rfl, h1⟩
      obtain ⟨h2, h3⟩ := main cv w1 h1
      exact ⟨by rw [h2], h3⟩
  · exact h.elim

/-! ### a slice that is nil, told as one of no room -/
section
variable {P : Program} {n B K K' : Nat}
def MM.at (μ : MM) (K esz : Nat) : MM :=
  ⟨fun i => if i = K then 0 else μ.blk i, fun i => if i = K then 0 else μ.cap i, fun i => if i = K then esz else μ.sz i, fun i => if i = K then 0 else μ.base i⟩
theorem MM.at_upto (μ : MM) (K esz : Nat) : MM.upto K μ (μ.at K esz) := ⟨fun g hg => if_neg (by omega), fun g hg => if_neg (by omega), fun g hg => if_neg (by omega), fun g hg => if_neg (by omega)⟩
def noSlc (K : Nat) : AV := .slc true true ⟨false, K, 0, 0⟩ 0
theorem GoesB.phantom {c : Code} {fr : Fr} {H : T ABk} {Post : Po} (t esz : Nat) (rows : Nat → List AV) (ht : fr.get t = some .nils) (hpos : 0 < esz) (hB : B ≤ K)
    (h : GoesB P c n B (K + 1) K' (fr.upd t (some (noSlc K))) (H.upd K (some (.cells true esz 0 (.fn rows)))) Post) : GoesB P c n B K K' fr H Post := by
  intro μ w a hg hf Q hQ
  have hu := MM.at_upto μ K esz
  have case : ∀ i b, (H.upd K (some (.cells true esz 0 (.fn rows)))).get i = some b → (i = K ∧ b = .cells true esz 0 (.fn rows)) ∨ (i < K ∧ H.get i = some b) := fun i b hb => by
    rw [T.get_upd] at hb
    split at hb
    · cases hb; exact .inl ⟨‹_›, rfl⟩
    · exact .inr ⟨hg.lt _ _ hb, hb⟩
  have unreal : ∀ b, b = ABk.cells true esz 0 (.fn rows) → ¬ b.real (μ.at K esz) K := by
    rintro b rfl hr
    simp [ABk.real, MM.at] at hr
  have may : ∀ b, May (μ.at K esz) (H.upd K (some (.cells true esz 0 (.fn rows)))) b → May μ H b := by
    rintro b ⟨i, x, m1, m2, m3, m4⟩
    rcases case i x m1 with ⟨rfl, rfl⟩ | ⟨hi, hx⟩
    · exact (unreal _ rfl m3).elim
    · rw [ABk.real_later hu hi] at m3
      rw [hu.blk i hi] at m4
      exact ⟨i, x, hx, m2, m3, m4⟩
  have may' : ∀ b, May μ H b → May (μ.at K esz) (H.upd K (some (.cells true esz 0 (.fn rows)))) b := by
    rintro b ⟨i, x, m1, m2, m3, m4⟩
    have hi := hg.lt _ _ m1
    refine ⟨i, x, ?_, m2, (ABk.real_later hu hi x).2 m3, by rw [hu.blk i hi]; exact m4⟩
    rw [T.get_upd, if_neg (by omega)]; exact m1
  have hE : ExtB B H μ w (H.upd K (some (.cells true esz 0 (.fn rows)))) (μ.at K esz) w := ⟨hu.mono hB, rfl, rfl, rfl, Nat.le_refl _, fun b _ _ => rfl, fun b _ hm => may b hm⟩
  refine h (μ.at K esz) w a ⟨fun i b hb => ?_, fun i b hb => ?_, fun i b j b' hi hj ho hr hr' he => ?_⟩ ⟨hf.size, fun t' v hv => ?_⟩ Q fun e fr' H' a' w' hp ha => hQ e fr' H' a' w' hp (AtB.trans hE rfl ha)
  · rcases case i b hb with ⟨rfl, _⟩ | ⟨hi, _⟩ <;> omega
  · rcases case i b hb with ⟨rfl, rfl⟩ | ⟨hi, hx⟩
    · refine ⟨by simp [MM.at], hpos, fun hr => ?_⟩
      simp [MM.at] at hr
    · exact (hg.ok i b hx).later hu (by omega) hi fun _ => rfl
  · rcases case i b hi with ⟨rfl, rfl⟩ | ⟨hi1, hx⟩
    · exact (unreal _ rfl hr).elim
    · rcases case j b' hj with ⟨rfl, rfl⟩ | ⟨hj1, hy⟩
      · exact (unreal _ rfl hr').elim
      · rw [ABk.real_later hu hi1] at hr
        rw [ABk.real_later hu hj1] at hr'
        rw [hu.blk i hi1, hu.blk j hj1] at he
        exact hg.sep _ _ _ _ hx hy ho hr hr' he
  · rw [T.get_upd] at hv
    split at hv
    · rename_i htt
      cases hv
      have := hf.val t .nils ht
      rw [htt]
      simp only [Rep] at this
      rw [this]
      simp only [noSlc, Rep]
      exact ⟨by omega, none, 0, rfl, Nat.le_refl _, fun h => absurd h (by omega), fun h => (by cases h), fun _ => ⟨rfl, rfl, .inl ⟨rfl, rfl, rfl⟩⟩⟩
    · exact (hf.val t' v hv).later hu (by omega)
/-! ### rows told in other words -/
def RowGe : List AV → List AV → Prop
  | [], [] => True
  | u :: l, v :: l' => AV.ge u v ∧ v.one = true ∧ RowGe l l'
  | _, _ => False
theorem RowGe.length : ∀ {r r' : List AV}, RowGe r r' → r'.length = r.length
  | [], [], _ => rfl
  | u :: l, v :: l', h => by simp [RowGe.length h.2.2]
  | [], _ :: _, h => h.elim
  | _ :: _, [], h => h.elim
theorem RowGe.get : ∀ {r r' : List AV}, RowGe r r' → ∀ {o : Nat} {v : AV}, r'[o]? = some v → ∃ u, r[o]? = some u ∧ AV.ge u v ∧ v.one = true
  | [], [], _, o, v, hv => by simp at hv
  | u :: l, w :: l', h, o, v, hv => by
    cases o with
    | zero => simp at hv; subst hv; exact ⟨u, rfl, h.1, h.2.1⟩
    | succ o => simpa using RowGe.get h.2.2 (by simpa using hv)
  | [], _ :: _, h, _, _, _ => h.elim
  | _ :: _, [], h, _, _, _ => h.elim
def SameG : ABk → ABk → Prop
  | .cells own sz m c, .cells own' sz' m' c' => own = own' ∧ sz = sz' ∧ m = m' ∧ ∀ i, i < m → RowGe (c.row i) (c'.row i)
  | b, b' => b = b'
theorem SameG.owned {b b' : ABk} (h : SameG b b') : b.owned = b'.owned := by
  cases b <;> cases b' <;> simp_all [SameG, ABk.owned]
theorem SameG.real {b b' : ABk} (h : SameG b b') (μ : MM) (g : Nat) : b.real μ g ↔ b'.real μ g := by
  cases b <;> cases b' <;> simp_all [SameG, ABk.real]
theorem SameG.ok {N : Nat} {μ : MM} {hp : Array Obj} {g : Nat} {b b' : ABk} (h : SameG b b') (k : BkOk N μ hp g b) : BkOk N μ hp g b' := by
  cases b with
  | cells own sz m c =>
    cases b' with
    | cells own' sz' m' c' =>
      obtain ⟨rfl, rfl, rfl, hr⟩ := h
      refine ⟨k.1, k.2.1, fun hh => ?_⟩
      obtain ⟨cur, ty, fz, h1, h2, h3, h4⟩ := k.2.2 hh
      refine ⟨cur, ty, fz, h1, h2, h3, fun i hi => ⟨(hr i hi).length.trans (h4 i hi).1, fun o v hv => ?_⟩⟩
      obtain ⟨u, e1, e2, e3⟩ := (hr i hi).get hv
      obtain ⟨_, cv, e4, e5⟩ := (h4 i hi).2 o u e1
      exact ⟨e3, cv, e4, e2 _ _ _ e5⟩
    | _ => simp [SameG] at h
  | _ => cases b' <;> simp [SameG] at h <;> first | exact h ▸ k | (obtain ⟨rfl, rfl⟩ := h; exact k) | (obtain ⟨rfl, rfl, rfl⟩ := h; exact k)
theorem GoesB.weakG {c : Code} {fr fr0 : Fr} {H H0 : T ABk} {Post : Po} (hf : ∀ t v, fr0.get t = some v → ∃ u, fr.get t = some u ∧ AV.ge u v) (hH : ∀ i b, H0.get i = some b → ∃ b', H.get i = some b' ∧ SameG b' b) (h : GoesB P c n B K K' fr0 H0 Post) : GoesB P c n B K K' fr H Post := by
  intro μ w a hg hfr Q hQ
  refine h μ w a ⟨fun i b hb => let ⟨b', h1, _⟩ := hH i b hb; hg.lt i b' h1, fun i b hb => let ⟨b', h1, h2⟩ := hH i b hb; h2.ok (hg.ok i b' h1), fun i b j b' hi hj ho hr hr' he => ?_⟩
    ⟨hfr.size, fun t v ht => let ⟨u, h1, h2⟩ := hf t v ht; h2 _ _ _ (hfr.val t u h1)⟩ Q fun e fr' H' a' w' hp ha => hQ e fr' H' a' w' hp ⟨?_⟩
  · obtain ⟨b1, h1, h2⟩ := hH i b hi
    obtain ⟨b2, k1, k2⟩ := hH j b' hj
    exact hg.sep i b1 j b2 h1 k1 (by rw [h2.owned]; exact ho) ((h2.real μ i).2 hr) ((k2.real μ j).2 hr') he
  · obtain ⟨μ', k1, k2, k3, k4⟩ := ha.of
    have may : ∀ b, May μ H0 b → May μ H b := fun b ⟨i, x, m1, m2, m3, m4⟩ => by
      obtain ⟨b', h1, h2⟩ := hH i x m1
      exact ⟨i, b', h1, by rw [h2.owned]; exact m2, (h2.real μ i).2 m3, m4⟩
    exact ⟨μ', k1, ⟨k2.names, k2.os, k2.tape, k2.output, k2.size, fun b hb hn => k2.block b hb fun hm => hn (may b hm), fun b hb hm => may b (k2.may b hb hm)⟩, k3, k4⟩
def GeG (H : T ABk) : List (Nat × ABk) → Prop
  | [] => True
  | p :: l => (∃ b, H.get p.1 = some b ∧ SameG b p.2) ∧ GeG H l
theorem GeG.get {H : T ABk} : ∀ {l : List (Nat × ABk)}, GeG H l → ∀ p ∈ l, ∃ b, H.get p.1 = some b ∧ SameG b p.2
  | q :: l, h, p, hp => by
    rcases List.mem_cons.1 hp with rfl | hp
    · exact h.1
    · exact GeG.get h.2 p hp
theorem GoesB.weakGL {c : Code} {fr : Fr} {H : T ABk} {fl : List (Nat × AV)} {bl : List (Nat × ABk)} {Post : Po} (hf : Ge fr fl) (hH : GeG H bl) (h : GoesB P c n B K K' (frL fl) (hpL bl) Post) : GoesB P c n B K K' fr H Post :=
  h.weakG (fun t v ht => hf.get _ (frL_get ht)) fun i b hb => hH.get _ (hpL_get hb)
end

/-! ### what a summary reads, what it gives -/
/-- the rows of a slice, something being told of them -/
def rd (esz : Nat) (x : AV) (p : Nat → (Nat → List AV) → Prop) : M (Nat × (Nat → List AV)) :=
  (srcOf esz x).andThen fun y => (req (p y.2.1 y.2.2 ∧ ∀ j, j < y.2.1 → ∀ u, u ∈ y.2.2 j → u.low 0 = true)).andThen fun _ => ret (y.2.1, y.2.2)
theorem rd_done {esz : Nat} {x : AV} {p : Nat → (Nat → List AV) → Prop} {y : Nat × (Nat → List AV)} {g g' : G} (h : rd esz x p g = .done y g') (he : 0 < esz) :
    ∃ q, Keep g g' q ∧ (q → Vw.Ok ⟨x, esz, y.1, y.2⟩ g ∧ p y.1 y.2) := by
  unfold rd at h
  obtain ⟨z, g1, a1, h1⟩ := done_of h
  obtain ⟨_, g2, a2, h2⟩ := done_of h1
  obtain ⟨rfl, rfl⟩ := ret_done h2
  obtain ⟨q1, k1, f1⟩ := Vw.Ok.of a1 he
  have k2 := req_done a2
  exact ⟨_, k1.trans k2, fun ⟨e1, e2, e3⟩ => ⟨f1 e1 e3, e2⟩⟩
theorem Tch.rd (esz : Nat) (x : AV) (p : Nat → (Nat → List AV) → Prop) : Tch (Sx.rd esz x p) := (Tch.srcOf _ _).andThen fun _ => (Tch.req _).andThen fun _ => Tch.ret _
theorem Vw.Ok.same {v : Vw} {g g' : G} {q : Prop} (h : v.Ok g') (k : Keep g g' q) : v.Ok g :=
  ⟨h.pos, h.bare, fun N μ w hg => h.view N μ w (by rw [k.1]; exact hg), h.val⟩
/-- a new slice -/
def newS (esz len : Nat) (rows : Nat → List AV) : M AV := (newB (.cells true esz len (.fn rows))).andThen fun nm => ret (.slc true true ⟨false, nm, 0, 0⟩ len)
theorem Tch.newS (esz len : Nat) (rows : Nat → List AV) : Tch (Sx.newS esz len rows) := (Tch.newB _).andThen fun _ => Tch.ret _
theorem newS_done {esz len : Nat} {rows : Nat → List AV} {v : AV} {g g' : G} (h : newS esz len rows g = .done v g') : v = .slc true true ⟨false, g.nx, 0, 0⟩ len ∧ g'.H = putNew g.H g.nx [.cells true esz len (.fn rows)] ∧ g'.nx = g.nx + 1 ∧ g'.cs = g.cs := by
  unfold newS at h
  obtain ⟨nm, g1, a1, h1⟩ := done_of h
  obtain ⟨rfl, rfl⟩ := ret_done h1
  cases a1
  exact ⟨rfl, rfl, rfl, rfl⟩
theorem res1 {P : Program} {rs : List ResultVar} {t K : Nat} {fr : Fr} {H : T ABk} {v : AV} (e : rs = [.tmp t]) (h : fr.get t = some v) : resultsA P fr rs ⟨H, K, [], [], True⟩ = .done [v] ⟨H, K, [], [], True⟩ := by
  subst e
  simp only [resultsA, resultA, h, Option.getD_some]; rfl
theorem res2 {P : Program} {rs : List ResultVar} {t t' K : Nat} {fr : Fr} {H : T ABk} {v v' : AV} (e : rs = [.tmp t, .tmp t']) (h : fr.get t = some v) (h' : fr.get t' = some v') : resultsA P fr rs ⟨H, K, [], [], True⟩ = .done [v, v'] ⟨H, K, [], [], True⟩ := by
  subst e
  simp only [resultsA, resultA, h, h', Option.getD_some]; rfl
theorem ge_new (own : Bool) (m N len : Nat) : AV.ge (.slc true own ⟨false, m, 0, 0⟩ len) ((AV.slc true own ⟨false, N, 0, 0⟩ len).ren fun i => ([m] : List Nat).getD (i - N) 0) := by
  simp only [AV.ren, AA.ren, Nat.sub_self]
  exact AV.ge.refl _
theorem news1 {H' : T ABk} {m : Nat} {b0 b : ABk} (h : H'.get m = some b0) (hs : SameC b0 b) (ho : b.owned = true) (hb : b.bare) : News H' [m] [b] :=
  ⟨rfl, fun i x hx => by
    cases i with
    | zero => simp at hx; subst hx; exact ⟨m, b0, rfl, h, hs, ho, hb⟩
    | succ i => simp at hx, by simp⟩
theorem news0 {H' : T ABk} : News H' [] [] := ⟨rfl, fun i x hx => by simp at hx, List.nodup_nil⟩
theorem hpL_one (n : Nat) (b : ABk) : (hpL [(n, b)]).get n = some b := by
  simp [hpL, T.get_upd]
theorem AV.ge.tup2 {u v u' v' : AV} (h : AV.ge u u') (h' : AV.ge v v') : AV.ge (.tup [u, v]) (.tup [u', v']) := fun N μ cv hr => by
  simp only [Rep, Reps] at hr ⊢
  obtain ⟨cs, e, c, r, e1, h1, c', r', e2, h2, e3⟩ := hr
  exact ⟨cs, e, c, r, e1, h _ _ _ h1, c', r', e2, h' _ _ _ h2, e3⟩
end Go.Sx
/- ROWS OF NUMBERS: pairs of words, complex numbers; what is asked of them. -/
set_option linter.unusedSimpArgs false
set_option linter.unusedVariables false
namespace Go.Sx
open M

def zre : List AV → Int
  | [.int _ .u64 a, .int _ .u64 _] => a
  | _ => 0
def zim : List AV → Int
  | [.int _ .u64 _, .int _ .u64 b] => b
  | _ => 0
def zrow (r : List AV) : List AV := [.int true .u64 (zre r), .int true .u64 (zim r)]
/-- two words -/
def ZRow (r : List AV) : Prop := (∃ s s', r = [.int s .u64 (zre r), .int s' .u64 (zim r)]) ∧ 0 ≤ zre r ∧ zre r < 18446744073709551616 ∧ 0 ≤ zim r ∧ zim r < 18446744073709551616
theorem ZRow.ge {r : List AV} (h : ZRow r) : RowGe r (zrow r) := by
  obtain ⟨⟨s, s', e⟩, _⟩ := h
  rw [e]
  exact ⟨AV.ge.int _ _ _ _, rfl, AV.ge.int _ _ _ _, rfl, trivial⟩
/-- the number that has these words -/
def cz (r : List AV) : List AV := [.cpx true (cn (zre r).toNat) (cn (zim r).toNat)]
def cre : List AV → Nat
  | [.cpx _ a _] => a
  | _ => 0
def cim : List AV → Nat
  | [.cpx _ _ b] => b
  | _ => 0
def crow (r : List AV) : List AV := [.cpx true (cre r) (cim r)]
/-- a float's canonical word -/
def Fw (x : Nat) : Prop := x < 18446744073709551616 ∧ cn x = x
/-- a complex number -/
def CRow (r : List AV) : Prop := (∃ s, r = [.cpx s (cre r) (cim r)]) ∧ Fw (cre r) ∧ Fw (cim r)
theorem CRow.ge {r : List AV} (h : CRow r) : RowGe r (crow r) := by
  obtain ⟨⟨s, e⟩, _⟩ := h
  rw [e]
  exact ⟨AV.ge.cpx' _ _ rfl rfl, rfl, trivial⟩
theorem Fw.cn {x : Nat} (h : x < 18446744073709551616) : Fw (cn x) := ⟨cn_lt h, cn_cn x⟩
theorem ZRow.cz {r : List AV} (h : ZRow r) : CRow (cz r) := ⟨⟨true, rfl⟩, Fw.cn (by have := h.2; omega), Fw.cn (by have := h.2; omega)⟩
theorem bare_int2 (sh : Nat → Int) (sh' : Nat → Int) (n : Nat) : (ABk.cells false 2 n (.fn fun j => [.int true .u64 (sh j), .int true .u64 (sh' j)])).bare := fun _ _ v hv => by
  simp [Cont.row] at hv; rcases hv with rfl | rfl <;> rfl
theorem bare_cpx (own : Bool) (sh : Nat → Nat) (sh' : Nat → Nat) (n : Nat) : (ABk.cells own 1 n (.fn fun j => [.cpx true (sh j) (sh' j)])).bare := fun _ _ v hv => by
  simp [Cont.row] at hv; subst hv; rfl
theorem cre_cpx (s : Bool) (a b : Nat) : cre [.cpx s a b] = a := rfl
theorem cim_cpx (s : Bool) (a b : Nat) : cim [.cpx s a b] = b := rfl
theorem zre_int (s s' : Bool) (a b : Int) : zre [.int s .u64 a, .int s' .u64 b] = a := rfl
theorem zim_int (s s' : Bool) (a b : Int) : zim [.int s .u64 a, .int s' .u64 b] = b := rfl
/-- is it so? -/
def cd (p : Prop) : Bool := @decide p (Classical.propDecidable p)
theorem cd_true {p : Prop} (h : p) : cd p = true := by unfold cd; exact @decide_eq_true p (Classical.propDecidable p) h
theorem cd_false {p : Prop} (h : ¬ p) : cd p = false := by unfold cd; exact @decide_eq_false p (Classical.propDecidable p) h
theorem cd_iff {p : Prop} : cd p = true ↔ p := by unfold cd; exact @decide_eq_true_iff p (Classical.propDecidable p)
/-- rows of two lists of numbers, the same? -/
def CSame (la lb : Nat) (ra rb : Nat → List AV) : Prop := la = lb ∧ ∀ j, j < la → cre (ra j) = cre (rb j) ∧ cim (ra j) = cim (rb j)
theorem CRow.bare {r : List AV} (h : CRow r) : ∀ u, u ∈ r → u.low 0 = true := by
  obtain ⟨⟨s, e⟩, _⟩ := h
  rw [e]
  intro u hu
  simp at hu
  subst hu; rfl
def CRows (len : Nat) (rows : Nat → List AV) : Prop := ∀ j, j < len → CRow (rows j)
end Go.Sx
/- THE FIRST GREATEST; weights of finite numbers. -/
set_option linter.unusedSimpArgs false
set_option linter.unusedVariables false
namespace Go.Sx

/-- the place that a loop keeps: of n places from f on the first that none is greater than -/
def bst (gt : Nat → Nat → Bool) (f : Nat) : Nat → Nat
  | 0 => f
  | n + 1 => bif gt (f + n) (bst gt f n) then f + n else bst gt f n
theorem bst_le (gt : Nat → Nat → Bool) (f : Nat) : ∀ n, f ≤ bst gt f n ∧ bst gt f n ≤ f + n ∧ (0 < n → bst gt f n < f + n)
  | 0 => ⟨Nat.le_refl _, Nat.le_refl _, fun h => absurd h (by omega)⟩
  | n + 1 => by
    obtain ⟨h1, h2, h3⟩ := bst_le gt f n
    simp only [bst]
    cases gt (f + n) (bst gt f n)
    · simp only [cond_false]; omega
    · simp only [cond_true]; omega
theorem bst_congr {gt gt' : Nat → Nat → Bool} {f : Nat} : ∀ {n : Nat}, (∀ k i, f ≤ k → k < f + n → f ≤ i → i < f + n → gt k i = gt' k i) → bst gt f n = bst gt' f n
  | 0, _ => rfl
  | n + 1, h => by
    have ih := bst_congr (n := n) fun k i a b c d => h k i a (by omega) c (by omega)
    have hm := bst_le gt' f n
    simp only [bst, ih]
    rw [h (f + n) (bst gt' f n) (by omega) (by omega) hm.1 (by omega)]
/-- the order that the choice goes by -/
def Ordered (gt : Nat → Nat → Bool) (w : Nat → Int) (f n : Nat) : Prop := ∀ k i, f ≤ k → k < f + n → f ≤ i → i < f + n → gt k i = decide (w i < w k)
theorem bst_greatest {gt : Nat → Nat → Bool} {w : Nat → Int} {f : Nat} : ∀ {n : Nat}, 0 < n → Ordered gt w f n → (∀ k, f ≤ k → k < f + n → w k ≤ w (bst gt f n)) ∧ ∀ k, f ≤ k → k < bst gt f n → w k < w (bst gt f n)
  | 0, h, _ => absurd h (by omega)
  | 1, _, h => by
    have e : bst gt f 1 = f := by simp [bst]
    rw [e]
    exact ⟨fun k h1 h2 => by rw [show k = f by omega]; exact Int.le_refl _, fun k h1 h2 => by omega⟩
  | n + 2, _, h => by
    obtain ⟨i1, i2⟩ := bst_greatest (gt := gt) (w := w) (f := f) (n := n + 1) (by omega) fun k i a b c d => h k i a (by omega) c (by omega)
    obtain ⟨l1, l2, l3⟩ := bst_le gt f (n + 1)
    have l3 := l3 (by omega)
    have hg := h (f + (n + 1)) (bst gt f (n + 1)) (by omega) (by omega) l1 (by omega)
    rw [bst]
    cases hc : gt (f + (n + 1)) (bst gt f (n + 1)) with
    | true =>
      rw [hc] at hg
      have hlt := of_decide_eq_true hg.symm
      rw [cond_true]
      refine ⟨fun k h1 h2 => ?_, fun k h1 h2 => ?_⟩
      · by_cases e : k < f + (n + 1)
        · exact Int.le_of_lt (Int.lt_of_le_of_lt (i1 k h1 e) hlt)
        · rw [show k = f + (n + 1) by omega]; exact Int.le_refl _
      · exact Int.lt_of_le_of_lt (i1 k h1 h2) hlt
    | false =>
      rw [hc] at hg
      have hge := of_decide_eq_false hg.symm
      rw [cond_false]
      refine ⟨fun k h1 h2 => ?_, i2⟩
      by_cases e : k < f + (n + 1)
      · exact i1 k h1 e
      · rw [show k = f + (n + 1) by omega]; omega
theorem cd_step (p : Nat → Bool) (f n : Nat) : cd (∀ j, f ≤ j → j < f + (n + 1) → p j = true) = (cd (∀ j, f ≤ j → j < f + n → p j = true) && p (f + n)) := by
  by_cases h : ∀ j, f ≤ j → j < f + n → p j = true
  · rw [cd_true h, Bool.true_and]
    cases hp : p (f + n) with
    | true =>
      refine cd_true fun j h1 h2 => ?_
      by_cases e : j < f + n
      · exact h j h1 e
      · rw [show j = f + n by omega]; exact hp
    | false => exact cd_false fun hh => by have := hh (f + n) (by omega) (by omega); rw [hp] at this; cases this
  · rw [cd_false h, Bool.false_and]
    exact cd_false fun hh => h fun j h1 h2 => hh j h1 (by omega)
theorem cd_congr {p q : Prop} (h : p ↔ q) : cd p = cd q := by rw [propext h]

/-! ### weights -/
theorem write_lt (d : Ieee.Datum) : Ieee.double.write d < 18446744073709551616 := by
  have hb := bin_is
  have hi := inf_is
  have hs := sgn_is
  have wd : ∀ s r, r < 9218868437227405312 + 4503599627370496 → Ieee.double.word s r < 18446744073709551616 := fun s r h => by
    unfold Ieee.Format.word
    rw [hs]
    cases s
    · show r < 18446744073709551616; omega
    · show 9223372036854775808 + r < 18446744073709551616; omega
  cases d with
  | number s m p =>
    unfold Ieee.Format.write Ieee.Format.nearest
    dsimp only
    split
    · exact wd _ _ (by omega)
    · exact wd _ _ (Nat.lt_of_le_of_lt (Nat.min_le_right ..) (by omega))
  | infinity s => exact wd _ _ (by omega)
  | nan s r => exact wd _ _ (by rw [hi, hb]; have := Nat.mod_lt r (show 0 < 4503599627370496 by omega); omega)
theorem fadd_lt (x y : Nat) : fadd x y < 18446744073709551616 := by
  unfold fadd Ieee.Format.add
  cases (Ieee.double.read x).sum (Ieee.double.read y) with
  | none => show qn < _; decide
  | some d => exact write_lt d
theorem isnan_fabs (x : Nat) : isnan (fabs x) = isnan x := by
  unfold fabs
  rw [isnan_cn]
  unfold isnan
  rw [Nat.mod_mod]
theorem fabs_pos (x : Nat) : fabs x < 9223372036854775808 := cn_pos (Nat.mod_lt _ (by omega))
theorem fadd_nn {x y : Nat} (hx : x < 9223372036854775808) (hy : y < 9223372036854775808) (nx : isnan x = false) (ny : isnan y = false) : isnan (fadd x y) = false := by
  have rx := read_nan x
  have ry := read_nan y
  rw [nx] at rx
  rw [ny] at ry
  have : ∃ r, Ieee.double.add x y = some r := by
    unfold Ieee.Format.add
    rcases read_pos hx with e | e | ⟨m, i, e⟩
    · rw [e] at rx; cases rx
    all_goals
      rcases read_pos hy with f | f | ⟨n, j, f⟩
      · rw [f] at ry; cases ry
      all_goals
        rw [e, f]
        exact ⟨_, rfl⟩
  obtain ⟨r, h⟩ := this
  unfold fadd
  rw [h]
  exact add_notNaN h
theorem fin_nn {a : Nat} (h : feq (fsub a a) 0 = true) : isnan a = false := by
  cases hn : isnan a with
  | false => rfl
  | true =>
    obtain ⟨s, t, e⟩ := read_of_nan hn
    have : fsub a a = qn := by unfold fsub Ieee.Format.sub; rw [e]; rfl
    rw [this] at h
    exact absurd h (by decide)
def size1 (a b : Nat) : Nat := fadd (fabs a) (fabs b)
theorem size1_lt (a b : Nat) : size1 a b < 18446744073709551616 := fadd_lt _ _
theorem size1_nn {a b : Nat} (ha : isnan a = false) (hb : isnan b = false) : isnan (size1 a b) = false :=
  fadd_nn (fabs_pos a) (fabs_pos b) (by rw [isnan_fabs]; exact ha) (by rw [isnan_fabs]; exact hb)
theorem size1_gt {a b c d : Nat} (ha : isnan a = false) (hb : isnan b = false) (hc : isnan c = false) (hd : isnan d = false) : fgt (size1 a b) (size1 c d) = decide (rk (size1 c d) < rk (size1 a b)) := by
  rw [fgt_rk (size1_lt _ _) (size1_lt _ _), size1_nn ha hb, size1_nn hc hd]
  simp
end Go.Sx
/- A STRUCT OF TWO NUMBERS AND A SLICE, handed in by its value. -/
set_option linter.unusedSimpArgs false
set_option linter.unusedVariables false
namespace Go.Sx
open Go.WideShapes
section
variable {H : Type} {enc : TypeId × Value → H} {P : Program} {W : World} {held : Bool}
theorem open_mat {t i s e : TypeId} {fs : Array Field} {n : Nat} {shs : List Sh} {b0 : Nat} {v : Value} {d : DataW H} {ps : List MemPlace} {sp : Nat → Bool} {r0 : Reach} (ht : P.underlying t = some (.struct fs)) (hf : fs.toList.map (fun f => (f.offset, f.type)) = [(0, i), (1, i), (2, s)])
    (hi : P.underlying i = some (.int .i64)) (ci : P.cellsOf i = 1) (cs' : P.cellsOf s = 1) (ct : P.cellsOf t = 3) (hs : P.underlying s = some (.slice e)) (hflat : flatT P n e = some shs) (hlen : shs.length = P.cellsOf e) (hpos : 0 < shs.length)
    (hval : Value.okWide P W r0 b0 t v) (hd : DataW.Trod enc P W 0 sp held t v d ps) (hw : ∀ x ∈ d.weights P t, x ≤ reachBytes) :
    ∃ (r dd : Int) (len blk bs : Nat) (c : Nat → Nat → Value),
      (∀ (μ : MM) (i N : Nat), i < N → μ.blk i = blk → μ.base i = bs → μ.sz i = shs.length → Rep N μ (.agg [.int true .i64 r, .int true .i64 dd, slcV i len]) v) ∧
      (∀ (μ : MM) (i N : Nat), μ.blk i = blk → μ.base i = bs → μ.sz i = shs.length → BkOk N μ W.heap i (.cells false shs.length len (.fn fun j => rowAv shs 0 (c j)))) ∧
      (∀ j, j < len → ∀ (i : Nat) (sh : Sh), shs[i]? = some sh → sh.ok (c j i)) ∧ len * P.bytesOf e ≤ reachBytes := by
  obtain ⟨cs, rfl, hsz⟩ := okWide_struct ht hval
  obtain ⟨fuel, hx⟩ := hd
  obtain ⟨xs, m, _, hx2, hl, hxl, hfield⟩ := DataW.trod_struct ht hx
  have e3 : fs.size = 3 := by have := congrArg List.length hf; simpa using this
  have fat : ∀ (k : Nat) (o : Nat) (ty : TypeId), [(0, i), (1, i), (2, s)][k]? = some (o, ty) → ∃ f, fs[k]? = some f ∧ f.offset = o ∧ f.type = ty := fun k o ty h => by
    rw [← hf, List.getElem?_map] at h
    cases hq : fs.toList[k]? with
    | none => rw [hq] at h; cases h
    | some f =>
      rw [hq] at h
      simp at h
      exact ⟨f, by simpa using hq, h.1, h.2⟩
  obtain ⟨f0, g0, o0, t0⟩ := fat 0 0 i rfl
  obtain ⟨f1, g1, o1, t1⟩ := fat 1 1 i rfl
  obtain ⟨f2, g2, o2, t2⟩ := fat 2 2 s rfl
  have q0 := hfield 0 f0 g0
  have q1 := hfield 1 f1 g1
  have q2 := hfield 2 f2 g2
  rw [o0, t0, ci] at q0
  rw [o1, t1, ci] at q1
  rw [o2, t2, cs'] at q2
  have hcs : cs.toList.length = 3 := by have := hl; rw [ct] at this; simpa [Value.cells] using this
  obtain ⟨a, b, c, hl3⟩ : ∃ a b c, cs.toList = [a, b, c] := by
    match cs.toList, hcs with
    | [a, b, c], _ => exact ⟨a, b, c, rfl⟩
  have hcl : (Value.agg cs).cells.toList = [a, b, c] := hl3
  rw [hcl] at q0 q1 q2
  obtain ⟨x0, x1, x2, hxs⟩ : ∃ x0 x1 x2, xs = [x0, x1, x2] := by
    rw [e3] at hxl
    match xs, hxl with
    | [a, b, c], _ => exact ⟨a, b, c, rfl⟩
  subst hxs
  obtain ⟨r, hr, _⟩ := DataW.trod_int hi q0
  obtain ⟨dd, hdd, _⟩ := DataW.trod_int hi q1
  simp at hr hdd
  subst hr hdd
  obtain ⟨len, blk, bs, cc, k1, k2, k3, k4⟩ := open_slc (v := c) hs hflat hlen hpos q2
  refine ⟨r, dd, len, blk, bs, cc, fun μ i N a1 a2 a3 a4 => ?_, k2, k3, ?_⟩
  · simp only [Rep, Reps]
    exact ⟨cs, rfl, _, _, hl3, rfl, _, _, rfl, rfl, _, _, rfl, k1 μ i N a1 a2 a3 a4, rfl⟩
  · rcases k4 with ⟨rfl, _⟩ | ⟨es, sps, e1, e2⟩
    · simp
    · have hd : d = .agg [x0.1, x1.1, x2.1] := by
        have := congrArg Prod.fst hx2
        simpa using this
      have hty : fs.toList.map (·.type) = [i, i, s] := by
        have := congrArg (List.map Prod.snd) hf
        simpa [List.map_map, Function.comp_def] using this
      have hmem : (es.length + sps.length) * P.bytesOf e ∈ d.weights P t := by
        rw [hd]
        simp only [DataW.weights, ht, hty, DataW.weightsEach, e1, hs]
        simp
      have := hw _ hmem
      rw [← e2]
      exact Nat.le_trans (Nat.mul_le_mul_right _ (Nat.le_add_right _ _)) this
end
/-! ### a number over itself -/
theorem fdiv_self {h : Nat} (hf : h % 9223372036854775808 < 9218868437227405312) (hz : h % 9223372036854775808 ≠ 0) : fdiv h h = 4607182418800017408 := by
  obtain ⟨m, i, e, _, hU⟩ := read_fin hf
  have hm : m ≠ 0 := fun h0 => by
    subst h0
    rw [Nat.zero_mul] at hU
    exact hz (U_eq_iff.1 (hU.symm.trans U_zero.symm))
  unfold fdiv Ieee.Format.div
  rw [e]
  simp only [Ieee.Datum.quotient, if_neg hm, Option.map_some, Option.getD_some, Bool.xor_self]
  have e1 : Ieee.double.fractionBits + 2 + m.log2 - m.log2 = 54 := by
    have : Ieee.double.fractionBits = 52 := rfl
    omega
  rw [e1, Nat.shiftLeft_eq, Nat.mul_div_cancel_left _ (by omega), Nat.mul_mod_right, show (i - i - ((54 : Nat) : Int) - 1) = -55 by omega]
  decide +kernel
theorem fdiv_nan {h : Nat} (hn : isnan h = true) : fdiv h h = qn := by
  obtain ⟨s, t, e⟩ := read_of_nan hn
  unfold fdiv Ieee.Format.div; rw [e]; rfl
theorem fdiv_inf {h : Nat} (hi : h % 9223372036854775808 = 9218868437227405312) : fdiv h h = qn := by
  unfold fdiv Ieee.Format.div; rw [read_inf hi]; rfl
theorem fsub_nan {h : Nat} (hn : isnan h = true) : fsub h h = qn := by
  obtain ⟨s, t, e⟩ := read_of_nan hn
  unfold fsub Ieee.Format.sub; rw [e]; rfl
/-- finite, by its difference from itself -/
theorem fin_iff {h : Nat} : feq (fsub h h) 0 = true ↔ h % 9223372036854775808 < 9218868437227405312 := by
  cases hn : isnan h with
  | true =>
    rw [fsub_nan hn]
    constructor
    · intro h; exact absurd h (by decide)
    · intro h1; unfold isnan at hn; have := of_decide_eq_true hn; omega
  | false =>
    have e := fsub_self hn
    rw [cn_of_not hn] at e
    rw [e]
    by_cases hf : h % 9223372036854775808 < 9218868437227405312
    · rw [if_pos hf]; exact ⟨fun _ => hf, fun _ => by decide⟩
    · rw [if_neg hf]; exact ⟨fun h => absurd h (by decide), fun h => absurd h hf⟩
theorem div_self_fin {h : Nat} (hl : h < 18446744073709551616) (h0 : feq h 0 = false) (hf : feq (fsub h h) 0 = true) : fdiv h h = 4607182418800017408 := by
  have hF := fin_iff.1 hf
  refine fdiv_self hF fun hz => ?_
  have hn : isnan h = false := by unfold isnan; exact decide_eq_false (by omega)
  have : feq h 0 = true := by
    rw [feq_rk hl (by omega), hn]
    have : rk h = rk 0 := by
      unfold rk
      split <;> simp <;> omega
    rw [this]; decide
  rw [this] at h0; cases h0
theorem div_self_inf {h : Nat} (hf : feq (fsub h h) 0 = false) : fdiv h h = qn := by
  have hF : ¬ h % 9223372036854775808 < 9218868437227405312 := fun hh => by rw [fin_iff.2 hh] at hf; cases hf
  by_cases hn : isnan h = true
  · exact fdiv_nan hn
  · refine fdiv_inf ?_
    have : isnan h = false := by cases hq : isnan h <;> simp_all
    unfold isnan at this
    have := of_decide_eq_false this
    omega
theorem fmax_lt {x y : Nat} (hx : x < 18446744073709551616) (hy : y < 18446744073709551616) : fmax x y < 18446744073709551616 := by
  unfold fmax
  split
  · decide
  · exact hy
  · exact hx
  · cases decide (9223372036854775808 ≤ x)
    · exact hx
    · exact hy
end Go.Sx
/- A STRUCT OF A WORD AND TWO SLICES, handed in by its value. -/
set_option linter.unusedSimpArgs false
set_option linter.unusedVariables false
namespace Go.Sx
open Go.WideShapes
section
variable {H : Type} {enc : TypeId × Value → H} {P : Program} {W : World} {held : Bool}
theorem open_sol {t i s e : TypeId} {fs : Array Field} {n : Nat} {shs : List Sh} {b0 : Nat} {v : Value} {d : DataW H} {ps : List MemPlace} {sp : Nat → Bool} {r0 : Reach} (ht : P.underlying t = some (.struct fs)) (hf : fs.toList.map (fun f => (f.offset, f.type)) = [(0, i), (1, s), (2, s)])
    (hi : P.underlying i = some (.int .u64)) (ci : P.cellsOf i = 1) (cs' : P.cellsOf s = 1) (ct : P.cellsOf t = 3) (hs : P.underlying s = some (.slice e)) (hflat : flatT P n e = some shs) (hlen : shs.length = P.cellsOf e) (hpos : 0 < shs.length)
    (hval : Value.okWide P W r0 b0 t v) (hd : DataW.Trod enc P W 0 sp held t v d ps) (hw : ∀ x ∈ d.weights P t, x ≤ reachBytes) :
    ∃ (r : Int) (len1 blk1 bs1 len2 blk2 bs2 : Nat) (c1 c2 : Nat → Nat → Value), (Lit.int .u64 r).wf = true ∧
      (∀ (μ : MM) (i k N : Nat), i < N → k < N → μ.blk i = blk1 → μ.base i = bs1 → μ.sz i = shs.length → μ.blk k = blk2 → μ.base k = bs2 → μ.sz k = shs.length → Rep N μ (.agg [.int true .u64 r, slcV i len1, slcV k len2]) v) ∧
      (∀ (μ : MM) (i N : Nat), μ.blk i = blk1 → μ.base i = bs1 → μ.sz i = shs.length → BkOk N μ W.heap i (.cells false shs.length len1 (.fn fun j => rowAv shs 0 (c1 j)))) ∧
      (∀ (μ : MM) (i N : Nat), μ.blk i = blk2 → μ.base i = bs2 → μ.sz i = shs.length → BkOk N μ W.heap i (.cells false shs.length len2 (.fn fun j => rowAv shs 0 (c2 j)))) ∧
      (∀ j, j < len1 → ∀ (i : Nat) (sh : Sh), shs[i]? = some sh → sh.ok (c1 j i)) ∧ (∀ j, j < len2 → ∀ (i : Nat) (sh : Sh), shs[i]? = some sh → sh.ok (c2 j i)) ∧ len1 * P.bytesOf e ≤ reachBytes ∧ len2 * P.bytesOf e ≤ reachBytes := by
  obtain ⟨cs, rfl, hsz⟩ := okWide_struct ht hval
  obtain ⟨fuel, hx⟩ := hd
  obtain ⟨xs, m, _, hx2, hl, hxl, hfield⟩ := DataW.trod_struct ht hx
  have e3 : fs.size = 3 := by have := congrArg List.length hf; simpa using this
  have fat : ∀ (k : Nat) (o : Nat) (ty : TypeId), [(0, i), (1, s), (2, s)][k]? = some (o, ty) → ∃ f, fs[k]? = some f ∧ f.offset = o ∧ f.type = ty := fun k o ty h => by
    rw [← hf, List.getElem?_map] at h
    cases hq : fs.toList[k]? with
    | none => rw [hq] at h; cases h
    | some f =>
      rw [hq] at h
      simp at h
      exact ⟨f, by simpa using hq, h.1, h.2⟩
  obtain ⟨f0, g0, o0, t0⟩ := fat 0 0 i rfl
  obtain ⟨f1, g1, o1, t1⟩ := fat 1 1 s rfl
  obtain ⟨f2, g2, o2, t2⟩ := fat 2 2 s rfl
  have q0 := hfield 0 f0 g0
  have q1 := hfield 1 f1 g1
  have q2 := hfield 2 f2 g2
  rw [o0, t0, ci] at q0
  rw [o1, t1, cs'] at q1
  rw [o2, t2, cs'] at q2
  have hcs : cs.toList.length = 3 := by have := hl; rw [ct] at this; simpa [Value.cells] using this
  obtain ⟨a, b, c, hl3⟩ : ∃ a b c, cs.toList = [a, b, c] := by
    match cs.toList, hcs with
    | [a, b, c], _ => exact ⟨a, b, c, rfl⟩
  have hcl : (Value.agg cs).cells.toList = [a, b, c] := hl3
  rw [hcl] at q0 q1 q2
  obtain ⟨x0, x1, x2, hxs⟩ : ∃ x0 x1 x2, xs = [x0, x1, x2] := by
    rw [e3] at hxl
    match xs, hxl with
    | [a, b, c], _ => exact ⟨a, b, c, rfl⟩
  subst hxs
  obtain ⟨r, hr, _, hwf⟩ := DataW.trod_int hi q0
  simp at hr
  subst hr
  obtain ⟨len1, blk1, bs1, cc1, k1, k2, k3, k4⟩ := open_slc (v := b) hs hflat hlen hpos q1
  obtain ⟨len2, blk2, bs2, cc2, m1, m2, m3, m4⟩ := open_slc (v := c) hs hflat hlen hpos q2
  have hd : d = .agg [x0.1, x1.1, x2.1] := by
    have := congrArg Prod.fst hx2
    simpa using this
  have hty : fs.toList.map (·.type) = [i, s, s] := by
    have := congrArg (List.map Prod.snd) hf
    simpa [List.map_map, Function.comp_def] using this
  refine ⟨r, len1, blk1, bs1, len2, blk2, bs2, cc1, cc2, hwf, fun μ i k N a1 a2 b1 b2 b3 c1 c2 c3 => ?_, k2, m2, k3, m3, ?_, ?_⟩
  · simp only [Rep, Reps]
    exact ⟨cs, rfl, _, _, hl3, rfl, _, _, rfl, k1 μ i N a1 b1 b2 b3, _, _, rfl, m1 μ k N a2 c1 c2 c3, rfl⟩
  · rcases k4 with ⟨rfl, _⟩ | ⟨es, sps, e1, e2⟩
    · simp
    · have hmem : (es.length + sps.length) * P.bytesOf e ∈ d.weights P t := by
        rw [hd]
        simp only [DataW.weights, ht, hty, DataW.weightsEach, e1, hs]
        simp
      have := hw _ hmem
      rw [← e2]
      exact Nat.le_trans (Nat.mul_le_mul_right _ (Nat.le_add_right _ _)) this
  · rcases m4 with ⟨rfl, _⟩ | ⟨es, sps, e1, e2⟩
    · simp
    · have hmem : (es.length + sps.length) * P.bytesOf e ∈ d.weights P t := by
        rw [hd]
        simp only [DataW.weights, ht, hty, DataW.weightsEach, e1, hs]
        simp
      have := hw _ hmem
      rw [← e2]
      exact Nat.le_trans (Nat.mul_le_mul_right _ (Nat.le_add_right _ _)) this
end
end Go.Sx
/- TWICE A NUMBER: rounding and places. -/
set_option linter.unusedSimpArgs false
set_option linter.unusedVariables false
namespace Go.Sx

theorem log2_mul_pow {n : Nat} (hn : n ≠ 0) : ∀ k, (n * 2 ^ k).log2 = n.log2 + k
  | 0 => by simp
  | k + 1 => by
    have h : n * 2 ^ k ≠ 0 := Nat.mul_ne_zero hn (Nat.ne_of_gt (Nat.two_pow_pos k))
    rw [Nat.pow_succ, ← Nat.mul_assoc, Nat.mul_comm (n * 2 ^ k) 2, Nat.log2_two_mul h, log2_mul_pow hn k]
    omega
theorem cut_scale (s : Bool) {n : Nat} (hn : n ≠ 0) (d k : Nat) : Ieee.Toward.even.cut s (n * 2 ^ k) (d + k) = Ieee.Toward.even.cut s n d := by
  have hp : 0 < 2 ^ k := Nat.two_pow_pos k
  unfold Ieee.Toward.cut
  rw [log2_mul_pow hn k, show min (d + k) (n.log2 + k + 2) = min d (n.log2 + 2) + k by omega]
  generalize min d (n.log2 + 2) = a
  have e1 : 1 <<< (a + k) = (1 <<< a) * 2 ^ k := by rw [Nat.shiftLeft_eq, Nat.shiftLeft_eq, Nat.pow_add, Nat.mul_assoc]
  simp only [e1]
  generalize 1 <<< a = g
  have e2 : n * 2 ^ k / (g * 2 ^ k) = n / g := Nat.mul_div_mul_right _ _ hp
  have e3 : n * 2 ^ k % (g * 2 ^ k) = n % g * 2 ^ k := Nat.mul_mod_mul_right _ _ _
  rw [e2, e3]
  generalize n % g = r
  have e4 : decide (g * 2 ^ k < 2 * (r * 2 ^ k)) = decide (g < 2 * r) := decide_eq_decide.2 (by rw [← Nat.mul_assoc]; exact Nat.mul_lt_mul_right hp)
  have e5 : (g * 2 ^ k == 2 * (r * 2 ^ k)) = (g == 2 * r) := by
    rw [← Nat.mul_assoc]
    rw [Bool.eq_iff_iff]
    simp only [beq_iff_eq]
    exact ⟨fun hh => Nat.eq_of_mul_eq_mul_right hp hh, fun hh => by rw [hh]⟩
  rw [e4, e5]
theorem frac_is : (Ieee.double.fractionBits : Int) = 52 := rfl
/-- the rung of a number, before it is cut at the greatest -/
def rung (s : Bool) (m : Nat) (p : Int) : Nat :=
  (max (p + m.log2 - 52) (-1074) - -1074).toNat * 4503599627370496 + Ieee.Toward.even.cut s (m <<< (p - max (p + m.log2 - 52) (-1074)).toNat) (max (p + m.log2 - 52) (-1074) - p).toNat
theorem nearest_is (s : Bool) {m : Nat} (hm : m ≠ 0) (p : Int) : Ieee.double.nearest s m p = Ieee.double.word s (min (rung s m p) 9218868437227405312) := by
  unfold Ieee.Format.nearest
  rw [if_neg hm]
  simp only [frac_is, lp_is, bin_is, inf_is]
  rfl
theorem rung_scale (s : Bool) {m : Nat} (hm : m ≠ 0) (k : Nat) (p : Int) : rung s (m * 2 ^ k) (p - k) = rung s m p := by
  unfold rung
  rw [log2_mul_pow hm k, show p - (k : Int) + ((m.log2 + k : Nat) : Int) - 52 = p + m.log2 - 52 by omega]
  generalize max (p + m.log2 - 52) (-1074) = L
  congr 1
  by_cases h1 : L ≤ p
  · by_cases h2 : L ≤ p - k
    · rw [show (L - (p - k)).toNat = 0 by omega, show (L - p).toNat = 0 by omega]
      congr 1
      rw [Nat.shiftLeft_eq, Nat.shiftLeft_eq, Nat.mul_assoc, ← Nat.pow_add, show k + (p - k - L).toNat = (p - L).toNat by omega]
    · rw [show (p - k - L).toNat = 0 by omega, show (L - p).toNat = 0 by omega]
      have e : k = (p - L).toNat + (L - (p - k)).toNat := by omega
      have hm' : m * 2 ^ (p - L).toNat ≠ 0 := Nat.mul_ne_zero hm (Nat.ne_of_gt (Nat.two_pow_pos _))
      have := cut_scale s hm' 0 (L - (p - k)).toNat
      rw [Nat.zero_add, Nat.mul_assoc, ← Nat.pow_add, ← e] at this
      rw [Nat.shiftLeft_zero, Nat.shiftLeft_eq]
      exact this
  · rw [show (p - k - L).toNat = 0 by omega, show (p - L).toNat = 0 by omega, Nat.shiftLeft_zero, Nat.shiftLeft_zero, show (L - (p - k)).toNat = (L - p).toNat + k by omega]
    exact cut_scale s hm _ _
/-- a place more is a binade more -/
theorem rung_up (s : Bool) (m : Nat) {p : Int} (h : -1074 ≤ p + m.log2 - 52) : rung s m (p + 1) = rung s m p + 4503599627370496 := by
  unfold rung
  rw [show max (p + 1 + (m.log2 : Int) - 52) (-1074) = p + m.log2 - 52 + 1 by omega, show max (p + (m.log2 : Int) - 52) (-1074) = p + m.log2 - 52 by omega]
  rw [show (p + 1 - (p + (m.log2 : Int) - 52 + 1)).toNat = (p - (p + m.log2 - 52)).toNat by omega, show (p + (m.log2 : Int) - 52 + 1 - (p + 1)).toNat = (p + m.log2 - 52 - p).toNat by omega, show (p + (m.log2 : Int) - 52 + 1 - -1074).toNat = (p + m.log2 - 52 - -1074).toNat + 1 by omega, Nat.succ_mul]
  omega
theorem cut_zero (s : Bool) (n : Nat) : Ieee.Toward.even.cut s n 0 = n := by
  unfold Ieee.Toward.cut
  simp [Nat.mod_one]
theorem rung_small (s : Bool) {S : Nat} (h : S < 9007199254740992) (h0 : S ≠ 0) : rung s S (-1074) = S := by
  have hl : S.log2 < 53 := (Nat.log2_lt h0).2 h
  unfold rung
  rw [show max (-1074 + (S.log2 : Int) - 52) (-1074) = -1074 by omega]
  simp [cut_zero]
theorem rung_big {S : Nat} (h : 4503599627370496 ≤ S) : 4503599627370496 ≤ rung false S (-1074) := by
  have h0 : S ≠ 0 := by omega
  have hl : 52 ≤ S.log2 := (Nat.le_log2 h0).2 h
  have hself : 2 ^ S.log2 ≤ S := Nat.log2_self_le h0
  unfold rung
  rw [show max (-1074 + (S.log2 : Int) - 52) (-1074) = -1074 + S.log2 - 52 by omega, show (-1074 - (-1074 + (S.log2 : Int) - 52)).toNat = 0 by omega, Nat.shiftLeft_zero, show (-1074 + (S.log2 : Int) - 52 - -1074).toNat = S.log2 - 52 by omega]
  have hc : 4503599627370496 ≤ Ieee.Toward.even.cut false S (S.log2 - 52) := by
    unfold Ieee.Toward.cut
    rw [show min (S.log2 - 52) (S.log2 + 2) = S.log2 - 52 by omega, Nat.shiftLeft_eq, Nat.one_mul]
    have : 4503599627370496 ≤ S / 2 ^ (S.log2 - 52) := by
      rw [Nat.le_div_iff_mul_le (Nat.two_pow_pos _)]
      have e : 4503599627370496 * 2 ^ (S.log2 - 52) = 2 ^ S.log2 := by
        rw [show (4503599627370496 : Nat) = 2 ^ 52 by decide, ← Nat.pow_add]; congr 1; omega
      rw [e]; exact hself
    dsimp only
    exact Nat.le_trans this (Nat.le_add_right _ _)
  omega
/-- the float nearest to so many of the least parts -/
def nearU (S : Nat) : Nat := Ieee.double.nearest false S (-1074)
theorem nearU_zero : nearU 0 = 0 := rfl
theorem nearU_is {S : Nat} (h : S ≠ 0) : nearU S = min (rung false S (-1074)) 9218868437227405312 := by
  unfold nearU; rw [nearest_is _ h, word_false]
theorem nearU_small {S : Nat} (h : S < 9007199254740992) : nearU S = S := by
  by_cases h0 : S = 0
  · subst h0; rfl
  · rw [nearU_is h0, rung_small _ h h0]; omega
theorem nearU_twice {S : Nat} (h : nearU (2 * S) < 9218868437227405312) : (S < 4503599627370496 ∧ nearU S = S ∧ nearU (2 * S) = 2 * S) ∨ (4503599627370496 ≤ S ∧ 4503599627370496 ≤ nearU S ∧ nearU (2 * S) = nearU S + 4503599627370496) := by
  by_cases hS : S < 4503599627370496
  · exact .inl ⟨hS, nearU_small (by omega), nearU_small (by omega)⟩
  · refine .inr ⟨by omega, ?_⟩
    have h0 : S ≠ 0 := by omega
    have h1 : 2 * S ≠ 0 := by omega
    have hb := rung_big (show 4503599627370496 ≤ S by omega)
    have hl : 52 ≤ S.log2 := (Nat.le_log2 h0).2 (by omega)
    have e : rung false (2 * S) (-1074) = rung false S (-1074) + 4503599627370496 := by
      rw [← rung_up false S (p := -1074) (by omega)]
      have := rung_scale false h0 1 (-1074 + 1)
      rw [Nat.pow_one, Nat.mul_comm] at this
      exact this
    rw [nearU_is h1, e] at h
    rw [nearU_is h1, nearU_is h0, e]
    omega
/-- doubled, the order is the same -/
theorem nearU_order {S T : Nat} (hS : nearU (2 * S) < 9218868437227405312) (hT : nearU (2 * T) < 9218868437227405312) : nearU S < nearU T ↔ nearU (2 * S) < nearU (2 * T) := by
  rcases nearU_twice hS with ⟨a, b, c⟩ | ⟨a, b, c⟩ <;> rcases nearU_twice hT with ⟨d, e, f⟩ | ⟨d, e, f⟩ <;> omega
theorem nearU_U {r : Nat} (h : r < 9218868437227405312) : nearU (U r) = r := by
  by_cases hr : r < 4503599627370496
  · have : U r = r := by unfold U; rw [if_pos hr]
    rw [this]; exact nearU_small (by omega)
  · have hU : U r = (4503599627370496 + r % 4503599627370496) * 2 ^ (r / 4503599627370496 - 1) := by unfold U; rw [if_neg hr]
    have hf : (4503599627370496 + r % 4503599627370496).log2 = 52 := by
      have h1 : 52 ≤ (4503599627370496 + r % 4503599627370496).log2 := (Nat.le_log2 (by omega)).2 (by omega)
      have h2 : (4503599627370496 + r % 4503599627370496).log2 < 53 := (Nat.log2_lt (by omega)).2 (by omega)
      omega
    have hm : 4503599627370496 + r % 4503599627370496 ≠ 0 := by omega
    have h0 : U r ≠ 0 := by rw [hU]; exact Nat.mul_ne_zero hm (Nat.ne_of_gt (Nat.two_pow_pos _))
    rw [nearU_is h0, hU]
    have e := rung_scale false hm (r / 4503599627370496 - 1) (-1074 + ((r / 4503599627370496 - 1 : Nat) : Int))
    rw [show -1074 + ((r / 4503599627370496 - 1 : Nat) : Int) - ((r / 4503599627370496 - 1 : Nat) : Int) = -1074 by omega] at e
    rw [e]
    have e2 : rung false (4503599627370496 + r % 4503599627370496) (-1074 + ((r / 4503599627370496 - 1 : Nat) : Int)) = r := by
      unfold rung
      rw [hf, show max (-1074 + ((r / 4503599627370496 - 1 : Nat) : Int) + ((52 : Nat) : Int) - 52) (-1074) = -1074 + ((r / 4503599627370496 - 1 : Nat) : Int) by omega]
      rw [show (-1074 + ((r / 4503599627370496 - 1 : Nat) : Int) - (-1074 + ((r / 4503599627370496 - 1 : Nat) : Int))).toNat = 0 by omega, Nat.shiftLeft_zero, cut_zero, show (-1074 + ((r / 4503599627370496 - 1 : Nat) : Int) - -1074).toNat = r / 4503599627370496 - 1 by omega]
      omega
    rw [e2]; omega
theorem U_twice {r : Nat} (h : nearU (2 * U r) < 9218868437227405312) (hr : r < 9218868437227405312) : U (nearU (2 * U r)) = 2 * U r := by
  have e := nearU_U hr
  rcases nearU_twice h with ⟨a, b, c⟩ | ⟨a, b, c⟩
  · rw [c]
    have hrr : r < 4503599627370496 := by rw [e] at b; omega
    have hU : U r = r := by unfold U; rw [if_pos hrr]
    rw [hU]
    unfold U
    by_cases h2 : 2 * r < 4503599627370496
    · rw [if_pos h2]
    · rw [if_neg h2, show 2 * r / 4503599627370496 = 1 by omega, show 2 * r % 4503599627370496 = 2 * r - 4503599627370496 by omega]
      simp; omega
  · rw [c, e]
    rw [e] at b
    unfold U
    rw [if_neg (by omega), if_neg (by omega), show (r + 4503599627370496) % 4503599627370496 = r % 4503599627370496 by omega, show (r + 4503599627370496) / 4503599627370496 - 1 = (r / 4503599627370496 - 1) + 1 by omega, Nat.pow_succ]
    generalize 2 ^ (r / 4503599627370496 - 1) = q
    rw [← Nat.mul_assoc, Nat.mul_comm 2]
end Go.Sx
/- OPPOSITES AND HALVES: sizes, order, noughts. -/
set_option linter.unusedSimpArgs false
set_option linter.unusedVariables false
namespace Go.Sx

theorem fneg_lt {x : Nat} (h : x < 18446744073709551616) : fneg x < 18446744073709551616 := by
  unfold fneg
  exact cn_lt (top_xor h (by omega)).1
theorem fneg_fw {x : Nat} (h : x < 18446744073709551616) : Fw (fneg x) := ⟨fneg_lt h, by unfold fneg; exact cn_cn _⟩
theorem fneg_cases (x : Nat) : (isnan x = true ∧ fneg x = qn) ∨ (isnan x = false ∧ fneg x % 9223372036854775808 = x % 9223372036854775808 ∧ isnan (fneg x) = false) := by
  cases h : isnan x with
  | true => exact .inl ⟨rfl, by unfold fneg; exact cn_of_nan (by rw [isnan_xor63]; exact h)⟩
  | false =>
    have e : fneg x = x ^^^ 9223372036854775808 := by unfold fneg; exact cn_of_not (by rw [isnan_xor63]; exact h)
    exact .inr ⟨rfl, by rw [e]; exact xor63_mod x, by rw [e, isnan_xor63]; exact h⟩
theorem fabs_fneg (x : Nat) : fabs (fneg x) = fabs x := by
  rcases fneg_cases x with ⟨h, e⟩ | ⟨h, e, _⟩
  · rw [e]
    have e2 : fabs x = qn := by unfold fabs; exact cn_of_nan (by unfold isnan at h ⊢; rw [Nat.mod_mod]; exact h)
    rw [e2]; decide
  · unfold fabs; rw [e]
theorem fin_fneg (x : Nat) : feq (fsub (fneg x) (fneg x)) 0 = feq (fsub x x) 0 := by
  rw [Bool.eq_iff_iff, fin_iff, fin_iff]
  rcases fneg_cases x with ⟨h, e⟩ | ⟨h, e, _⟩
  · rw [e]
    unfold isnan at h
    have := of_decide_eq_true h
    constructor
    · intro hh; exact absurd hh (by decide)
    · intro hh; omega
  · rw [e]
theorem zero_iff {x : Nat} (h : x < 18446744073709551616) : feq x 0 = true ↔ x % 9223372036854775808 = 0 := by
  rw [feq_rk h (by omega)]
  have r0 : rk 0 = 0 := by decide
  have n0 : isnan 0 = false := by decide
  rw [r0, n0]
  have key : rk x = 0 ↔ x % 9223372036854775808 = 0 := by
    unfold rk; split <;> omega
  cases hn : isnan x with
  | true =>
    unfold isnan at hn
    have := of_decide_eq_true hn
    simp; omega
  | false => simp [key]
theorem zero_fneg {x : Nat} (h : x < 18446744073709551616) : feq (fneg x) 0 = feq x 0 := by
  rw [Bool.eq_iff_iff, zero_iff (fneg_lt h), zero_iff h]
  rcases fneg_cases x with ⟨hn, e⟩ | ⟨hn, e, _⟩
  · rw [e]
    unfold isnan at hn
    have := of_decide_eq_true hn
    constructor
    · intro hh; exact absurd hh (by decide)
    · intro hh; omega
  · rw [e]

/-! ### halves -/
theorem fmul_lt (x y : Nat) : fmul x y < 18446744073709551616 := by
  unfold fmul Ieee.Format.mul
  cases (Ieee.double.read x).product (Ieee.double.read y) with
  | none => show qn < _; decide
  | some d => exact write_lt d
theorem nearU_le (S : Nat) : nearU S ≤ 9218868437227405312 := by
  by_cases h : S = 0
  · subst h; rw [nearU_zero]; omega
  · rw [nearU_is h]; exact Nat.min_le_right _ _
theorem near_at (s : Bool) {T : Nat} {p : Int} (hp : -1074 ≤ p) : Ieee.double.nearest s T p = Ieee.double.word s (nearU (T * 2 ^ (p - -1074).toNat)) := by
  by_cases h : T = 0
  · subst h
    rw [Nat.zero_mul, nearU_zero]; rfl
  · have h2 : T * 2 ^ (p - -1074).toNat ≠ 0 := Nat.mul_ne_zero h (Nat.ne_of_gt (Nat.two_pow_pos _))
    rw [nearest_is s h, nearU_is h2]
    have e := rung_scale false h (p - -1074).toNat p
    rw [show p - ((p - -1074).toNat : Int) = -1074 by omega] at e
    rw [e]
    rfl
/-- the sum of two sizes -/
theorem fadd_U {x y : Nat} (hx : x < 9218868437227405312) (hy : y < 9218868437227405312) : fadd x y = nearU (U x + U y) := by
  have ex : x % 9223372036854775808 = x := by omega
  have ey : y % 9223372036854775808 = y := by omega
  obtain ⟨m, i, e1, i1, u1⟩ := read_fin (x := x) (by omega)
  obtain ⟨n, j, e2, j1, u2⟩ := read_fin (x := y) (by omega)
  rw [ex] at u1
  rw [ey] at u2
  have sx : (x / 9223372036854775808 % 2 == 1) = false := by rw [show x / 9223372036854775808 = 0 by omega]; rfl
  have sy : (y / 9223372036854775808 % 2 == 1) = false := by rw [show y / 9223372036854775808 = 0 by omega]; rfl
  rw [sx] at e1
  rw [sy] at e2
  unfold fadd Ieee.Format.add
  rw [e1, e2]
  have tot : Ieee.signed false m (i - min i j).toNat + Ieee.signed false n (j - min i j).toNat = ((m * 2 ^ (i - min i j).toNat + n * 2 ^ (j - min i j).toNat : Nat) : Int) := by
    unfold Ieee.signed
    simp [Nat.shiftLeft_eq]
  simp only [Ieee.Datum.sum, tot, Option.map_some, Option.getD_some, Int.natAbs_natCast]
  have hs : (if ((m * 2 ^ (i - min i j).toNat + n * 2 ^ (j - min i j).toNat : Nat) : Int) = 0 then (false && false) else decide (((m * 2 ^ (i - min i j).toNat + n * 2 ^ (j - min i j).toNat : Nat) : Int) < 0)) = false := by
    split
    · rfl
    · exact decide_eq_false (by omega)
  rw [hs]
  show Ieee.double.nearest false _ _ = _
  rw [near_at false (by omega), word_false, Nat.add_mul, Nat.mul_assoc, Nat.mul_assoc, ← Nat.pow_add, ← Nat.pow_add, show (i - min i j).toNat + (min i j - -1074).toNat = (i - -1074).toNat by omega, show (j - min i j).toNat + (min i j - -1074).toNat = (j - -1074).toNat by omega, u1, u2]
/-- a number and itself -/
theorem fadd_self {h : Nat} (hf : h % 9223372036854775808 < 9218868437227405312) : fadd h h = Ieee.double.word (h / 9223372036854775808 % 2 == 1) (nearU (2 * U (h % 9223372036854775808))) := by
  obtain ⟨m, i, e1, i1, u1⟩ := read_fin hf
  generalize (h / 9223372036854775808 % 2 == 1) = s at e1 ⊢
  unfold fadd Ieee.Format.add
  rw [e1]
  have hmin : min i i = i := by omega
  simp only [Ieee.Datum.sum, hmin, Option.map_some, Option.getD_some]
  have e0 : (i - i).toNat = 0 := by omega
  rw [e0]
  have tot : (Ieee.signed s m 0 + Ieee.signed s m 0).natAbs = 2 * m := by
    unfold Ieee.signed
    cases s <;> simp <;> omega
  have hs : (if Ieee.signed s m 0 + Ieee.signed s m 0 = 0 then (s && s) else decide (Ieee.signed s m 0 + Ieee.signed s m 0 < 0)) = s := by
    unfold Ieee.signed
    cases s
    · simp; omega
    · simp; omega
  rw [tot, hs]
  show Ieee.double.nearest s (2 * m) i = _
  rw [near_at s i1, Nat.mul_assoc, u1]
theorem word_mod (s : Bool) {r : Nat} (h : r < 9223372036854775808) : Ieee.double.word s r % 9223372036854775808 = r := by
  unfold Ieee.Format.word
  rw [sgn_is]
  cases s
  · show r % _ = r; omega
  · show (9223372036854775808 + r) % _ = r; omega
theorem word_lt (s : Bool) {r : Nat} (h : r < 9223372036854775808) : Ieee.double.word s r < 18446744073709551616 := by
  unfold Ieee.Format.word
  rw [sgn_is]
  cases s
  · show r < _; omega
  · show 9223372036854775808 + r < _; omega
/-- of what is as great as a finite number twice over -/
theorem half_of {h x : Nat} (hl : h < 18446744073709551616) (xl : x < 18446744073709551616) (hx : x % 9223372036854775808 < 9218868437227405312) (e : feq (fadd h h) x = true) :
    h % 9223372036854775808 < 9218868437227405312 ∧ nearU (2 * U (h % 9223372036854775808)) = x % 9223372036854775808 ∧ U (x % 9223372036854775808) = 2 * U (h % 9223372036854775808) := by
  have hf : h % 9223372036854775808 < 9218868437227405312 := by
    refine Nat.lt_of_not_le fun hge => ?_
    by_cases hn : isnan h = true
    · obtain ⟨s, t, er⟩ := read_of_nan hn
      have : fadd h h = qn := by unfold fadd Ieee.Format.add; rw [er]; rfl
      rw [this, feq_rk (by decide) xl] at e
      have hq : isnan qn = true := by decide
      rw [hq] at e; simp at e
    · have hi : h % 9223372036854775808 = 9218868437227405312 := by
        have : isnan h = false := by cases hq : isnan h <;> simp_all
        unfold isnan at this
        have := of_decide_eq_false this
        omega
      have : fadd h h = Ieee.double.word (h / 9223372036854775808 % 2 == 1) 9218868437227405312 := by
        unfold fadd Ieee.Format.add
        rw [read_inf hi]
        simp only [Ieee.Datum.sum, if_true, Option.map_some, Option.getD_some]
        rfl
      rw [this, feq_rk (word_lt _ (by omega)) xl] at e
      simp only [Bool.and_eq_true, decide_eq_true_eq] at e
      have hr := e.2
      have hm := word_mod (h / 9223372036854775808 % 2 == 1) (r := 9218868437227405312) (by omega)
      have hl2 := word_lt (h / 9223372036854775808 % 2 == 1) (r := 9218868437227405312) (by omega)
      generalize Ieee.double.word (h / 9223372036854775808 % 2 == 1) 9218868437227405312 = W at hr hm hl2
      unfold rk at hr
      split at hr <;> split at hr <;> omega
  have hN := nearU_le (2 * U (h % 9223372036854775808))
  rw [fadd_self hf, feq_rk (word_lt _ (by omega)) xl] at e
  simp only [Bool.and_eq_true, decide_eq_true_eq] at e
  have hr := e.2
  have hm := word_mod (h / 9223372036854775808 % 2 == 1) (r := nearU (2 * U (h % 9223372036854775808))) (by omega)
  have hl2 := word_lt (h / 9223372036854775808 % 2 == 1) (r := nearU (2 * U (h % 9223372036854775808))) (by omega)
  have hw : nearU (2 * U (h % 9223372036854775808)) = x % 9223372036854775808 := by
    rw [← hm]
    generalize Ieee.double.word (h / 9223372036854775808 % 2 == 1) (nearU (2 * U (h % 9223372036854775808))) = W at hr hm hl2
    unfold rk at hr
    split at hr <;> split at hr <;> omega
  refine ⟨hf, hw, ?_⟩
  rw [← hw]
  exact U_twice (by rw [hw]; exact hx) hf
theorem fabs_fin {x : Nat} (h : x % 9223372036854775808 < 9218868437227405312) : fabs x = x % 9223372036854775808 := by
  unfold fabs
  exact cn_of_not (by unfold isnan; exact decide_eq_false (by rw [Nat.mod_mod]; omega))
theorem size1_U {a b : Nat} (ha : a % 9223372036854775808 < 9218868437227405312) (hb : b % 9223372036854775808 < 9218868437227405312) : size1 a b = nearU (U (a % 9223372036854775808) + U (b % 9223372036854775808)) := by
  unfold size1
  rw [fabs_fin ha, fabs_fin hb]
  exact fadd_U ha hb
theorem fgt_pos {x y : Nat} (hx : x ≤ 9218868437227405312) (hy : y ≤ 9218868437227405312) : fgt x y = decide (y < x) := by
  rw [fgt_rk (by omega) (by omega)]
  have n1 : isnan x = false := by unfold isnan; exact decide_eq_false (by omega)
  have n2 : isnan y = false := by unfold isnan; exact decide_eq_false (by omega)
  rw [n1, n2]
  have : (rk y < rk x) ↔ y < x := by unfold rk; rw [if_neg (by omega), if_neg (by omega)]; omega
  simp [this]
/-- a law whose code was walked in pieces -/
theorem goes_true {P : Program} {f : FuncId} {fn : Func} {c : Code} (hf : P.funcs[f]? = some fn) (hb : fn.body = some c) (hname : (fn.name == "runtime.NumGoroutine") = false) {args : List AV} {bl : List (Nat × ABk)} {K K' t : Nat} (hres : fn.results.toList = [.tmp t])
    (h : GoesB P c fn.ntmps K K K' (frameOf args 0 .e) (hpL bl) fun e fr' H' => (e = .ret ∨ e = .normal) ∧ ∃ u, fr'.get t = some u ∧ AV.ge u (.bool true)) {μ : MM} {w : World} (hg : GOk K μ w.heap (hpL bl)) (hno : ∀ B, ¬ May μ (hpL bl) B) {cargs : Array Value} (ha : Reps K μ args cargs.toList) :
    Calls P f cargs w fun e w' => e = .returned (.bool true) ∧ RowKit.Below w.heap.size w w' := by
  have hc := GoesB.call hf hb hname (V := fun u H' => AV.ge u (.bool true)) (h.mono fun e fr' H' ⟨k1, u, k2, k3⟩ => ⟨k1, [u], _, res1 hres k2, trivial, k3⟩) μ w hg ha
  have main : ∀ c w', (∃ v μ' H', AV.ge v (.bool true) ∧ Rep K' μ' v c ∧ GOk K' μ' w'.heap H' ∧ ExtB K (hpL bl) μ w H' μ' w') → c = .bool true ∧ RowKit.Below w.heap.size w w' := by
    rintro c w' ⟨v, μ', H', h1, h2, _, hE⟩
    have := h1 _ _ _ h2
    simp only [Rep] at this
    exact ⟨this, hE.os, hE.tape, hE.output, hE.size, fun k hk => hE.block k hk (hno k)⟩
  rcases hc with ⟨cv, w', e, _⟩ | ⟨f', args', w', e, hc⟩
  · rw [run_enter hf hname hb] at e; cases e
  · rw [run_enter hf hname hb] at e
    cases e
    refine hc.mono ?_
    rintro e1 w1 ⟨cv, rfl, h1⟩
    obtain ⟨h2, h3⟩ := main cv w1 h1
    exact ⟨by rw [h2], h3⟩
end Go.Sx
/- LOOPS THAT COUNT; rows written one by one. -/
set_option linter.unusedSimpArgs false
set_option linter.unusedVariables false
namespace Go.Sx
open M
variable {P : Program} {n B K K' : Nat}
theorem GoesB.count {c : Code} {id : Nat} (len : Nat) (F : Nat → List (Nat × AV)) (Hh : Nat → List (Nat × ABk)) (Z : List (Nat × AV)) (ZH : List (Nat × ABk)) (g : Nat → Prop) (R : Fr → T ABk → Prop) (g0 : g 0)
    (h : ∀ i, i ≤ len → g i → GoesB P c n B K K (frL (F i)) (hpL (Hh i)) fun e fr H => (e = .normal ∧ i < len ∧ g (i + 1) ∧ fr = frL (F (i + 1)) ∧ H = hpL (Hh (i + 1))) ∨ (e = .exit id ∧ g len ∧ fr = frL Z ∧ H = hpL ZH) ∨ (e = .ret ∧ R fr H)) :
    GoesB P (.block id (.loop c)) n B K K (frL (F 0)) (hpL (Hh 0)) fun e fr H => (e = .normal ∧ g len ∧ fr = frL Z ∧ H = hpL ZH) ∨ (e = .ret ∧ R fr H) := by
  refine GoesB.block ((GoesB.loop (fun k fr H => ∃ i, k = len - i ∧ i ≤ len ∧ g i ∧ fr = frL (F i) ∧ H = hpL (Hh i)) (Post := fun e fr H => (e = .exit id ∧ g len ∧ fr = frL Z ∧ H = hpL ZH) ∨ (e = .ret ∧ R fr H)) ?_ _ _ _ ⟨0, rfl, by omega, g0, rfl, rfl⟩).mono fun e fr H hp => ?_)
  · rintro k fr H ⟨i, rfl, hi, hg, rfl, rfl⟩
    refine (h i hi hg).mono fun e fr H hp => ?_
    rcases hp with ⟨rfl, h1, h2, h3, h4⟩ | ⟨rfl, h1, h2, h3⟩ | ⟨rfl, h1⟩
    · exact ⟨len - (i + 1), by omega, i + 1, rfl, by omega, h2, h3, h4⟩
    · exact .inl ⟨rfl, h1, h2, h3⟩
    · exact .inr ⟨rfl, h1⟩
  · rcases hp with ⟨rfl, h1, h2, h3⟩ | ⟨rfl, h1⟩
    · simp only [if_true]; exact .inl ⟨trivial, h1, h2, h3⟩
    · exact .inr ⟨rfl, h1⟩
theorem beq_dec (a b : Nat) : Nat.beq a b = decide (a = b) := by
  cases h : Nat.beq a b
  · simp [Nat.ne_of_beq_eq_false h]
  · simp [Nat.eq_of_beq_eq_true h]
/-- a row more is written -/
theorem row_put (r : Nat → List AV) (z v : List AV) (i j : Nat) (e : r i = v := by rfl) : (bif Nat.beq j i then v else bif decide (j < i) then r j else z) = bif decide (j < i + 1) then r j else z := by
  subst e
  rw [beq_dec]
  by_cases h : j = i
  · subst h; simp
  · by_cases h2 : j < i
    · simp [h, h2, show j < i + 1 by omega]
    · simp [h, h2, show ¬ j < i + 1 by omega]
/-- a row more is appended -/
theorem row_app (r : Nat → List AV) (v : List AV) (i j : Nat) (hj : j < i + 1) (e : r i = v := by rfl) : (bif decide (j < i) then r j else v) = r j := by
  subst e
  by_cases h : j < i
  · simp [h]
  · rw [show j = i by omega]; simp
theorem row_none (r : Nat → List AV) (z : List AV) (j : Nat) : (bif decide (j < 0) then r j else z) = z := by simp
theorem row_all (r : Nat → List AV) (z : List AV) (n j : Nat) (h : j < n) : (bif decide (j < n) then r j else z) = r j := by simp [h]
/-! ### functions of lists of numbers -/
theorem reps_low {N N' : Nat} {μ μ' : MM} : ∀ {l : List AV} {cs : List Value}, (∀ v ∈ l, v.low 0 = true) → Reps N μ l cs → Reps N' μ' l cs
  | [], cs, _, h => by simpa only [Reps] using h
  | v :: l, cs, hl, h => by
    simp only [Reps] at h ⊢
    obtain ⟨c, r, rfl, h1, h2⟩ := h
    refine ⟨c, r, rfl, ?_, reps_low (fun u hu => hl u (List.mem_cons_of_mem _ hu)) h2⟩
    have h3 : Rep 0 μ' v c := Rep.ofLow ⟨fun g hg => by omega, fun g hg => by omega, fun g hg => by omega, fun g hg => by omega⟩ (hl v List.mem_cons_self) h1
    exact h3.later (.refl _ _) (Nat.zero_le _)
theorem reps_app {N : Nat} {μ : MM} : ∀ {l l' : List AV} {cs : List Value}, Reps N μ (l ++ l') cs ↔ ∃ c1 c2, cs = c1 ++ c2 ∧ Reps N μ l c1 ∧ Reps N μ l' c2
  | [], l', cs => by
    simp only [List.nil_append, Reps]
    exact ⟨fun h => ⟨[], cs, rfl, rfl, h⟩, fun ⟨c1, c2, e, h1, h2⟩ => by rw [e, h1]; exact h2⟩
  | v :: l, l', cs => by
    simp only [List.cons_append, Reps]
    constructor
    · rintro ⟨c, r, rfl, h1, h2⟩
      obtain ⟨c1, c2, rfl, h3, h4⟩ := reps_app.1 h2
      exact ⟨c :: c1, c2, rfl, ⟨c, c1, rfl, h1, h3⟩, h4⟩
    · rintro ⟨c1, c2, rfl, ⟨c, r, rfl, h1, h2⟩, h3⟩
      exact ⟨c, r ++ c2, rfl, h1, reps_app.2 ⟨r, c2, rfl, h2, h3⟩⟩
def lenOk (n : Nat) : Prop := n * 16 ≤ 140737488355328
def cL (n : Nat) (rows : Nat → List AV) : Prop := lenOk n ∧ CRows n rows
/-- the rows of a list of numbers -/
noncomputable def c1 (x : AV) (k : Nat → (Nat → Nat) → (Nat → Nat) → M AV) : M AV := (rd 1 x cL).andThen fun a => k a.1 (fun j => cre (a.2 j)) (fun j => cim (a.2 j))
noncomputable def c2 (x y : AV) (k : Nat → (Nat → Nat) → (Nat → Nat) → Nat → (Nat → Nat) → (Nat → Nat) → M AV) : M AV := c1 x fun n a b => c1 y fun m c d => k n a b m c d
theorem Tch.c1 (x : AV) {k : Nat → (Nat → Nat) → (Nat → Nat) → M AV} (h : ∀ n a b, Tch (k n a b)) : Tch (Sx.c1 x k) := (Tch.rd _ _ _).andThen fun _ => h _ _ _
theorem Tch.c2 (x y : AV) {k : Nat → (Nat → Nat) → (Nat → Nat) → Nat → (Nat → Nat) → (Nat → Nat) → M AV} (h : ∀ n a b m c d, Tch (k n a b m c d)) : Tch (Sx.c2 x y k) := Tch.c1 _ fun _ _ _ => Tch.c1 _ fun _ _ _ => h _ _ _ _ _ _
/-- words of numbers -/
def CW (n : Nat) (a b : Nat → Nat) : Prop := ∀ j, j < n → Fw (a j) ∧ Fw (b j)
def cB (g n : Nat) (a b : Nat → Nat) : Nat × ABk := (g, .cells false 1 n (.fn fun j => [.cpx true (a j) (b j)]))
/-- what is answered: plain, or a new list, or that and an error -/
def Ans (P : Program) (fn : Func) (K' : Nat) (v : Nat → AV) (bs : List (Nat × ABk)) (e : Ex) (fr : Fr) (H : T ABk) : Prop :=
  (e = .ret ∨ e = .normal) ∧ ∃ vs gr, resultsA P fr fn.results.toList ⟨H, K', [], [], True⟩ = .done vs gr ∧ gr.cs ∧ AV.ge (packA vs) (v (match bs with | [] => 0 | p :: _ => p.1)) ∧ News H (bs.map (·.1)) (bs.map (·.2))
/-- values whose names may be told later -/
structure Named (v : Nat → AV) : Prop where
  ren : ∀ N σ, (v N).ren σ = v (σ N)
  low : ∀ N, (v N).low (N + 1) = true
  ins : ∀ N, (v N).inS fun i => N ≤ i
theorem Named.slc (len : Nat) : Named fun N => .slc true true ⟨false, N, 0, 0⟩ len := ⟨fun N σ => rfl, fun N => by simp [AV.low], fun N => Nat.le_refl N⟩
theorem Named.tup (len : Nat) (e : Int) : Named fun N => .tup [.slc true true ⟨false, N, 0, 0⟩ len, .int true .i64 e] := ⟨fun N σ => rfl, fun N => by simp [AV.low, lows], fun N => by simp [AV.inS, insS]⟩
theorem vok1 {x : AV} {n : Nat} {r : Nat → List AV} {g : G} (h : Vw.Ok ⟨x, 1, n, r⟩ g) : ∀ v ∈ [(⟨x, 1, n, r⟩ : Vw)], v.Ok g := fun v hv => by simp at hv; subst hv; exact h
section
variable {P : Program} {f : FuncId} {fn : Func} {c : Code} (hf : P.funcs[f]? = some fn) (hb : fn.body = some c) (hname : (fn.name == "runtime.NumGoroutine") = false)
include hf hb hname
/-- the common part: reads of one list, p told of it; plain -/
theorem c1_plain {pl pr : List AV} (hl : ∀ v ∈ pl ++ pr, v.low 0 = true) {K' : Nat} {res : Nat → (Nat → Nat) → (Nat → Nat) → AV} (hres : ∀ n a b, (∀ N, (res n a b).low N = true) ∧ (∀ S : Nat → Prop, (res n a b).inS S) ∧ ∀ σ, (res n a b).ren σ = res n a b)
    (h : ∀ n a b, lenOk n → CW n a b → GoesB P c fn.ntmps 1 1 K' (frameOf (pl ++ slcV 0 n :: pr) 0 .e) (hpL [cB 0 n a b]) (Ans P fn K' (fun _ => res n a b) [])) :
    ∀ x v g g', c1 x (fun n a b => ret (res n a b)) g = .done v g' → CallIs P f (pl ++ x :: pr) v g g' := by
  intro x v g g' hd
  unfold c1 at hd
  obtain ⟨⟨n, r⟩, g1, a1, h1⟩ := done_of hd
  obtain ⟨rfl, rfl⟩ := ret_done h1
  obtain ⟨q1, k1, f1⟩ := rd_done a1 (by omega)
  refine reads (c := c) hf hb hname k1 [⟨x, 1, n, r⟩] (fun hp => vok1 (f1 hp).1) (argsC := pl ++ slcV 0 n :: pr) (fun hp N μ cs hcs => ?_) (nms := []) (bs := []) (K' := K') (fun hp => ?_) ?_ ((hres _ _ _).2.1 _) (by rw [k1.1]; rfl) (by rw [k1.2.1]; rfl) id
  · obtain ⟨ca, cb, rfl, h2, h3⟩ := reps_app.1 hcs
    simp only [Reps] at h3
    obtain ⟨cv, r', rfl, h4, h5⟩ := h3
    refine reps_app.2 ⟨ca, _, rfl, reps_low (fun u hu => hl u (List.mem_append_left _ hu)) h2, ?_⟩
    simp only [Reps]
    exact ⟨cv, _, rfl, vw_val (l := [⟨x, 1, n, r⟩]) (i := 0) (f1 hp).1 rfl h4, reps_low (fun u hu => hl u (List.mem_append_right _ hu)) h5⟩
  · obtain ⟨_, hm, hz⟩ := f1 hp
    dsimp only at hm hz
    refine GoesB.weakG (fr0 := frameOf (pl ++ slcV 0 n :: pr) 0 .e) (H0 := hpL [cB 0 n (fun j => cre (r j)) (fun j => cim (r j))]) (fun t u hu => ⟨u, hu, AV.ge.refl _⟩) (fun i b hb => ?_) ((h n _ _ hm fun j hj => (hz j hj).2).mono fun e fr' H' ⟨e1, vs, gr, e2, e3, e4, e5⟩ => ⟨e1, vs, gr, e2, e3, by rw [(hres _ _ _).2.2]; exact e4, e5⟩)
    have hb' := hpL_get hb
    simp only [cB, List.mem_cons, List.not_mem_nil, or_false] at hb'
    cases hb'
    exact ⟨_, rfl, rfl, rfl, rfl, fun j hj => (hz j hj).ge⟩
  · exact (hres n (fun j => cre (r j)) (fun j => cim (r j))).1 _
/-- a new list -/
theorem c1_new {pl pr : List AV} (hl : ∀ v ∈ pl ++ pr, v.low 0 = true) {K' nm : Nat} {len : Nat → Nat} {rows : Nat → (Nat → Nat) → (Nat → Nat) → Nat → List AV} {val : Nat → Nat → AV} (hv : ∀ n, Named (val n)) (hrow : ∀ n a b, (ABk.cells true 1 (len n) (.fn (rows n a b))).bare)
    (h : ∀ n a b, lenOk n → CW n a b → GoesB P c fn.ntmps 1 1 K' (frameOf (pl ++ slcV 0 n :: pr) 0 .e) (hpL [cB 0 n a b]) (Ans P fn K' (val n) [(nm, .cells true 1 (len n) (.fn (rows n a b)))])) :
    ∀ x v g g', c1 x (fun n a b => (newB (.cells true 1 (len n) (.fn (rows n a b)))).andThen fun N => ret (val n N)) g = .done v g' → CallIs P f (pl ++ x :: pr) v g g' := by
  intro x v g g' hd
  unfold c1 at hd
  obtain ⟨⟨n, r⟩, g1, a1, h1⟩ := done_of hd
  obtain ⟨q1, k1, f1⟩ := rd_done a1 (by omega)
  obtain ⟨N, g2, a2, h2⟩ := done_of h1
  obtain ⟨rfl, rfl⟩ := ret_done h2
  cases a2
  rw [k1.2.1]
  refine reads (c := c) hf hb hname k1 [⟨x, 1, n, r⟩] (fun hp => vok1 (f1 hp).1) (argsC := pl ++ slcV 0 n :: pr) (fun hp N μ cs hcs => ?_) (nms := [nm]) (bs := [.cells true 1 (len n) (.fn (rows n (fun j => cre (r j)) (fun j => cim (r j))))]) (K' := K') (fun hp => ?_) ((hv n).low _) ((hv n).ins _) (by rw [k1.1]; rfl) rfl id
  · obtain ⟨ca, cb, rfl, h2, h3⟩ := reps_app.1 hcs
    simp only [Reps] at h3
    obtain ⟨cv, r', rfl, h4, h5⟩ := h3
    refine reps_app.2 ⟨ca, _, rfl, reps_low (fun u hu => hl u (List.mem_append_left _ hu)) h2, ?_⟩
    simp only [Reps]
    exact ⟨cv, _, rfl, vw_val (l := [⟨x, 1, n, r⟩]) (i := 0) (f1 hp).1 rfl h4, reps_low (fun u hu => hl u (List.mem_append_right _ hu)) h5⟩
  · obtain ⟨_, hm, hz⟩ := f1 hp
    dsimp only at hm hz
    refine GoesB.weakG (fr0 := frameOf (pl ++ slcV 0 n :: pr) 0 .e) (H0 := hpL [cB 0 n (fun j => cre (r j)) (fun j => cim (r j))]) (fun t u hu => ⟨u, hu, AV.ge.refl _⟩) (fun i b hb => ?_) ((h n _ _ hm fun j hj => (hz j hj).2).mono fun e fr' H' ⟨e1, vs, gr, e2, e3, e4, e5⟩ => ⟨e1, vs, gr, e2, e3, by rw [(hv n).ren]; simpa using e4, e5⟩)
    have hb' := hpL_get hb
    simp only [cB, List.mem_cons, List.not_mem_nil, or_false] at hb'
    cases hb'
    exact ⟨_, rfl, rfl, rfl, rfl, fun j hj => (hz j hj).ge⟩
theorem c2_plain {pl pr : List AV} (hl : ∀ v ∈ pl ++ pr, v.low 0 = true) {K' : Nat} {res : Nat → (Nat → Nat) → (Nat → Nat) → Nat → (Nat → Nat) → (Nat → Nat) → AV} (hres : ∀ n a b m a' b', (∀ N, (res n a b m a' b').low N = true) ∧ (∀ S : Nat → Prop, (res n a b m a' b').inS S) ∧ ∀ σ, (res n a b m a' b').ren σ = res n a b m a' b')
    (h : ∀ n a b m a' b', lenOk n → lenOk m → CW n a b → CW m a' b' → GoesB P c fn.ntmps 2 2 K' (frameOf (pl ++ slcV 0 n :: slcV 1 m :: pr) 0 .e) (hpL [cB 0 n a b, cB 1 m a' b']) (Ans P fn K' (fun _ => res n a b m a' b') [])) :
    ∀ x y v g g', c2 x y (fun n a b m a' b' => ret (res n a b m a' b')) g = .done v g' → CallIs P f (pl ++ x :: y :: pr) v g g' := by
  intro x y v g g' hd
  unfold c2 c1 at hd
  obtain ⟨⟨n, r⟩, g1, a1, hd⟩ := done_of hd
  obtain ⟨q1, k1, f1⟩ := rd_done a1 (by omega)
  obtain ⟨⟨m, s⟩, g2, a2, hd⟩ := done_of hd
  obtain ⟨q2, k2, f2⟩ := rd_done a2 (by omega)
  have k12 := k1.trans k2
  have ok2 : q1 ∧ q2 → Vw.Ok ⟨y, 1, m, s⟩ g := fun hp => (f2 hp.2).1.same k1
  have hvw : q1 ∧ q2 → ∀ v ∈ [(⟨x, 1, n, r⟩ : Vw), ⟨y, 1, m, s⟩], v.Ok g := fun hp v hv => by
    rcases List.mem_cons.1 hv with rfl | hv
    · exact (f1 hp.1).1
    · rcases List.mem_cons.1 hv with rfl | hv
      · exact ok2 hp
      · cases hv
  have hrep : q1 ∧ q2 → ∀ N μ (cs : List Value), Reps N μ (pl ++ x :: y :: pr) cs → Reps 2 (vwMM μ [(⟨x, 1, n, r⟩ : Vw), ⟨y, 1, m, s⟩]) (pl ++ slcV 0 n :: slcV 1 m :: pr) cs := fun hp N μ cs hcs => by
    obtain ⟨ca, cb, rfl, h2, h3⟩ := reps_app.1 hcs
    simp only [Reps] at h3
    obtain ⟨cv, r', rfl, h4, cv2, r2, rfl, h5, h6⟩ := h3
    refine reps_app.2 ⟨ca, _, rfl, reps_low (fun u hu => hl u (List.mem_append_left _ hu)) h2, ?_⟩
    simp only [Reps]
    exact ⟨cv, _, rfl, vw_val (l := [⟨x, 1, n, r⟩, ⟨y, 1, m, s⟩]) (i := 0) (f1 hp.1).1 rfl h4, cv2, _, rfl, vw_val (l := [⟨x, 1, n, r⟩, ⟨y, 1, m, s⟩]) (i := 1) (ok2 hp) rfl h5, reps_low (fun u hu => hl u (List.mem_append_right _ hu)) h6⟩
  obtain ⟨rfl, rfl⟩ := ret_done hd
  refine reads (c := c) hf hb hname k12 [⟨x, 1, n, r⟩, ⟨y, 1, m, s⟩] hvw (argsC := pl ++ slcV 0 n :: slcV 1 m :: pr) hrep (nms := []) (bs := []) (K' := K') (fun hp => ?_) ((hres _ _ _ _ _ _).1 _) ((hres _ _ _ _ _ _).2.1 _) (by rw [k12.1]; rfl) (by rw [k12.2.1]; rfl) id
  obtain ⟨_, hm, hz⟩ := f1 hp.1
  obtain ⟨_, hm', hz'⟩ := f2 hp.2
  dsimp only at hm hz hm' hz'
  refine GoesB.weakG (fr0 := frameOf (pl ++ slcV 0 n :: slcV 1 m :: pr) 0 .e) (H0 := hpL [cB 0 n (fun j => cre (r j)) (fun j => cim (r j)), cB 1 m (fun j => cre (s j)) (fun j => cim (s j))]) (fun t u hu => ⟨u, hu, AV.ge.refl _⟩) (fun i b hb => ?_) ((h n _ _ m _ _ hm hm' (fun j hj => (hz j hj).2) fun j hj => (hz' j hj).2).mono fun e fr' H' ⟨e1, vs, gr, e2, e3, e4, e5⟩ => ⟨e1, vs, gr, e2, e3, by rw [(hres _ _ _ _ _ _).2.2]; exact e4, e5⟩)
  have hb' := hpL_get hb
  simp only [cB, List.mem_cons, List.not_mem_nil, or_false] at hb'
  rcases hb' with hb' | hb'
  · cases hb'; exact ⟨_, rfl, rfl, rfl, rfl, fun j hj => (hz j hj).ge⟩
  · cases hb'; exact ⟨_, rfl, rfl, rfl, rfl, fun j hj => (hz' j hj).ge⟩
theorem c2_new {pl pr : List AV} (hl : ∀ v ∈ pl ++ pr, v.low 0 = true) {K' : Nat} {nm : Nat} {len : Nat → Nat → Nat} {rows : Nat → (Nat → Nat) → (Nat → Nat) → Nat → (Nat → Nat) → (Nat → Nat) → Nat → List AV} {val : Nat → Nat → Nat → AV} (hv : ∀ n m, Named (val n m)) (hrow : ∀ n a b m a' b', (ABk.cells true 1 (len n m) (.fn (rows n a b m a' b'))).bare)
    (h : ∀ n a b m a' b', lenOk n → lenOk m → CW n a b → CW m a' b' → GoesB P c fn.ntmps 2 2 K' (frameOf (pl ++ slcV 0 n :: slcV 1 m :: pr) 0 .e) (hpL [cB 0 n a b, cB 1 m a' b']) (Ans P fn K' (val n m) [(nm, .cells true 1 (len n m) (.fn (rows n a b m a' b')))])) :
    ∀ x y v g g', c2 x y (fun n a b m a' b' => (newB (.cells true 1 (len n m) (.fn (rows n a b m a' b')))).andThen fun N => ret (val n m N)) g = .done v g' → CallIs P f (pl ++ x :: y :: pr) v g g' := by
  intro x y v g g' hd
  unfold c2 c1 at hd
  obtain ⟨⟨n, r⟩, g1, a1, hd⟩ := done_of hd
  obtain ⟨q1, k1, f1⟩ := rd_done a1 (by omega)
  obtain ⟨⟨m, s⟩, g2, a2, hd⟩ := done_of hd
  obtain ⟨q2, k2, f2⟩ := rd_done a2 (by omega)
  have k12 := k1.trans k2
  have ok2 : q1 ∧ q2 → Vw.Ok ⟨y, 1, m, s⟩ g := fun hp => (f2 hp.2).1.same k1
  have hvw : q1 ∧ q2 → ∀ v ∈ [(⟨x, 1, n, r⟩ : Vw), ⟨y, 1, m, s⟩], v.Ok g := fun hp v hv => by
    rcases List.mem_cons.1 hv with rfl | hv
    · exact (f1 hp.1).1
    · rcases List.mem_cons.1 hv with rfl | hv
      · exact ok2 hp
      · cases hv
  have hrep : q1 ∧ q2 → ∀ N μ (cs : List Value), Reps N μ (pl ++ x :: y :: pr) cs → Reps 2 (vwMM μ [(⟨x, 1, n, r⟩ : Vw), ⟨y, 1, m, s⟩]) (pl ++ slcV 0 n :: slcV 1 m :: pr) cs := fun hp N μ cs hcs => by
    obtain ⟨ca, cb, rfl, h2, h3⟩ := reps_app.1 hcs
    simp only [Reps] at h3
    obtain ⟨cv, r', rfl, h4, cv2, r2, rfl, h5, h6⟩ := h3
    refine reps_app.2 ⟨ca, _, rfl, reps_low (fun u hu => hl u (List.mem_append_left _ hu)) h2, ?_⟩
    simp only [Reps]
    exact ⟨cv, _, rfl, vw_val (l := [⟨x, 1, n, r⟩, ⟨y, 1, m, s⟩]) (i := 0) (f1 hp.1).1 rfl h4, cv2, _, rfl, vw_val (l := [⟨x, 1, n, r⟩, ⟨y, 1, m, s⟩]) (i := 1) (ok2 hp) rfl h5, reps_low (fun u hu => hl u (List.mem_append_right _ hu)) h6⟩
  obtain ⟨N, g3, a3, h3⟩ := done_of hd
  obtain ⟨rfl, rfl⟩ := ret_done h3
  cases a3
  rw [k12.2.1]
  refine reads (c := c) hf hb hname k12 [⟨x, 1, n, r⟩, ⟨y, 1, m, s⟩] hvw (argsC := pl ++ slcV 0 n :: slcV 1 m :: pr) hrep (nms := [nm]) (bs := [.cells true 1 (len n m) (.fn (rows n (fun j => cre (r j)) (fun j => cim (r j)) m (fun j => cre (s j)) (fun j => cim (s j))))]) (K' := K') (fun hp => ?_) ((hv n m).low _) ((hv n m).ins _) (by rw [k12.1]; rfl) rfl id
  obtain ⟨_, hm, hz⟩ := f1 hp.1
  obtain ⟨_, hm', hz'⟩ := f2 hp.2
  dsimp only at hm hz hm' hz'
  refine GoesB.weakG (fr0 := frameOf (pl ++ slcV 0 n :: slcV 1 m :: pr) 0 .e) (H0 := hpL [cB 0 n (fun j => cre (r j)) (fun j => cim (r j)), cB 1 m (fun j => cre (s j)) (fun j => cim (s j))]) (fun t u hu => ⟨u, hu, AV.ge.refl _⟩) (fun i b hb => ?_) ((h n _ _ m _ _ hm hm' (fun j hj => (hz j hj).2) fun j hj => (hz' j hj).2).mono fun e fr' H' ⟨e1, vs, gr, e2, e3, e4, e5⟩ => ⟨e1, vs, gr, e2, e3, by rw [(hv n m).ren]; simpa using e4, e5⟩)
  have hb' := hpL_get hb
  simp only [cB, List.mem_cons, List.not_mem_nil, or_false] at hb'
  rcases hb' with hb' | hb'
  · cases hb'; exact ⟨_, rfl, rfl, rfl, rfl, fun j hj => (hz j hj).ge⟩
  · cases hb'; exact ⟨_, rfl, rfl, rfl, rfl, fun j hj => (hz' j hj).ge⟩
theorem c2_err {pl pr : List AV} (hl : ∀ v ∈ pl ++ pr, v.low 0 = true) {K' : Nat} {nm : Nat} {len : Nat → Nat → Nat} {rows : Nat → (Nat → Nat) → (Nat → Nat) → Nat → (Nat → Nat) → (Nat → Nat) → Nat → List AV} {val : Nat → Nat → Nat → AV} (hv : ∀ n m, Named (val n m)) (hrow : ∀ n a b m a' b', (ABk.cells true 1 (len n m) (.fn (rows n a b m a' b'))).bare)
    {E : Nat → Nat → Int} {res : Nat → (Nat → Nat) → (Nat → Nat) → Nat → (Nat → Nat) → (Nat → Nat) → AV} (hres : ∀ n a b m a' b', (∀ N, (res n a b m a' b').low N = true) ∧ (∀ S : Nat → Prop, (res n a b m a' b').inS S) ∧ ∀ σ, (res n a b m a' b').ren σ = res n a b m a' b')
    (hq : ∀ n a b m a' b', E n m ≠ 0 → lenOk n → lenOk m → CW n a b → CW m a' b' → GoesB P c fn.ntmps 2 2 K' (frameOf (pl ++ slcV 0 n :: slcV 1 m :: pr) 0 .e) (hpL [cB 0 n a b, cB 1 m a' b']) (Ans P fn K' (fun _ => res n a b m a' b') []))
    (h : ∀ n a b m a' b', E n m = 0 → lenOk n → lenOk m → CW n a b → CW m a' b' → GoesB P c fn.ntmps 2 2 K' (frameOf (pl ++ slcV 0 n :: slcV 1 m :: pr) 0 .e) (hpL [cB 0 n a b, cB 1 m a' b']) (Ans P fn K' (val n m) [(nm, .cells true 1 (len n m) (.fn (rows n a b m a' b')))])) :
    ∀ x y v g g', c2 x y (fun n a b m a' b' => (dec (decide (E n m = 0))).andThen fun d => bif d then (newB (.cells true 1 (len n m) (.fn (rows n a b m a' b')))).andThen fun N => ret (val n m N) else ret (res n a b m a' b')) g = .done v g' → CallIs P f (pl ++ x :: y :: pr) v g g' := by
  intro x y v g g' hd
  unfold c2 c1 at hd
  obtain ⟨⟨n, r⟩, g1, a1, hd⟩ := done_of hd
  obtain ⟨q1, k1, f1⟩ := rd_done a1 (by omega)
  obtain ⟨⟨m, s⟩, g2, a2, hd⟩ := done_of hd
  obtain ⟨q2, k2, f2⟩ := rd_done a2 (by omega)
  have k12 := k1.trans k2
  have ok2 : q1 ∧ q2 → Vw.Ok ⟨y, 1, m, s⟩ g := fun hp => (f2 hp.2).1.same k1
  have hvw : q1 ∧ q2 → ∀ v ∈ [(⟨x, 1, n, r⟩ : Vw), ⟨y, 1, m, s⟩], v.Ok g := fun hp v hv => by
    rcases List.mem_cons.1 hv with rfl | hv
    · exact (f1 hp.1).1
    · rcases List.mem_cons.1 hv with rfl | hv
      · exact ok2 hp
      · cases hv
  have hrep : q1 ∧ q2 → ∀ N μ (cs : List Value), Reps N μ (pl ++ x :: y :: pr) cs → Reps 2 (vwMM μ [(⟨x, 1, n, r⟩ : Vw), ⟨y, 1, m, s⟩]) (pl ++ slcV 0 n :: slcV 1 m :: pr) cs := fun hp N μ cs hcs => by
    obtain ⟨ca, cb, rfl, h2, h3⟩ := reps_app.1 hcs
    simp only [Reps] at h3
    obtain ⟨cv, r', rfl, h4, cv2, r2, rfl, h5, h6⟩ := h3
    refine reps_app.2 ⟨ca, _, rfl, reps_low (fun u hu => hl u (List.mem_append_left _ hu)) h2, ?_⟩
    simp only [Reps]
    exact ⟨cv, _, rfl, vw_val (l := [⟨x, 1, n, r⟩, ⟨y, 1, m, s⟩]) (i := 0) (f1 hp.1).1 rfl h4, cv2, _, rfl, vw_val (l := [⟨x, 1, n, r⟩, ⟨y, 1, m, s⟩]) (i := 1) (ok2 hp) rfl h5, reps_low (fun u hu => hl u (List.mem_append_right _ hu)) h6⟩
  obtain ⟨d, g3, a3, h3⟩ := done_of hd
  have k3 := k12.trans (dec_done a3)
  cases d with
  | true =>
    rw [cond_true] at h3
    obtain ⟨N, g4, a4, h4⟩ := done_of h3
    obtain ⟨rfl, rfl⟩ := ret_done h4
    cases a4
    rw [k3.2.1]
    refine reads (c := c) hf hb hname k3 [⟨x, 1, n, r⟩, ⟨y, 1, m, s⟩] (fun hp => hvw hp.1) (argsC := pl ++ slcV 0 n :: slcV 1 m :: pr) (fun hp => hrep hp.1) (nms := [nm]) (bs := [.cells true 1 (len n m) (.fn (rows n (fun j => cre (r j)) (fun j => cim (r j)) m (fun j => cre (s j)) (fun j => cim (s j))))]) (K' := K') (fun hp => ?_) ((hv n m).low _) ((hv n m).ins _) (by rw [k3.1]; rfl) rfl id
    obtain ⟨_, hm, hz⟩ := f1 hp.1.1
    obtain ⟨_, hm', hz'⟩ := f2 hp.1.2
    dsimp only at hm hz hm' hz'
    refine GoesB.weakG (fr0 := frameOf (pl ++ slcV 0 n :: slcV 1 m :: pr) 0 .e) (H0 := hpL [cB 0 n (fun j => cre (r j)) (fun j => cim (r j)), cB 1 m (fun j => cre (s j)) (fun j => cim (s j))]) (fun t u hu => ⟨u, hu, AV.ge.refl _⟩) (fun i b hb => ?_) ((h n _ _ m _ _ (of_decide_eq_true hp.2) hm hm' (fun j hj => (hz j hj).2) fun j hj => (hz' j hj).2).mono fun e fr' H' ⟨e1, vs, gr, e2, e3, e4, e5⟩ => ⟨e1, vs, gr, e2, e3, by rw [(hv n m).ren]; simpa using e4, e5⟩)
    have hb' := hpL_get hb
    simp only [cB, List.mem_cons, List.not_mem_nil, or_false] at hb'
    rcases hb' with hb' | hb'
    · cases hb'; exact ⟨_, rfl, rfl, rfl, rfl, fun j hj => (hz j hj).ge⟩
    · cases hb'; exact ⟨_, rfl, rfl, rfl, rfl, fun j hj => (hz' j hj).ge⟩
  | false =>
    rw [cond_false] at h3
    obtain ⟨rfl, rfl⟩ := ret_done h3
    refine reads (c := c) hf hb hname k3 [⟨x, 1, n, r⟩, ⟨y, 1, m, s⟩] (fun hp => hvw hp.1) (argsC := pl ++ slcV 0 n :: slcV 1 m :: pr) (fun hp => hrep hp.1) (nms := []) (bs := []) (K' := K') (fun hp => ?_) ((hres _ _ _ _ _ _).1 _) ((hres _ _ _ _ _ _).2.1 _) (by rw [k3.1]; rfl) (by rw [k3.2.1]; rfl) id
    obtain ⟨_, hm, hz⟩ := f1 hp.1.1
    obtain ⟨_, hm', hz'⟩ := f2 hp.1.2
    dsimp only at hm hz hm' hz'
    refine GoesB.weakG (fr0 := frameOf (pl ++ slcV 0 n :: slcV 1 m :: pr) 0 .e) (H0 := hpL [cB 0 n (fun j => cre (r j)) (fun j => cim (r j)), cB 1 m (fun j => cre (s j)) (fun j => cim (s j))]) (fun t u hu => ⟨u, hu, AV.ge.refl _⟩) (fun i b hb => ?_) ((hq n _ _ m _ _ (of_decide_eq_false hp.2) hm hm' (fun j hj => (hz j hj).2) fun j hj => (hz' j hj).2).mono fun e fr' H' ⟨e1, vs, gr, e2, e3, e4, e5⟩ => ⟨e1, vs, gr, e2, e3, by rw [(hres _ _ _ _ _ _).2.2]; exact e4, e5⟩)
    have hb' := hpL_get hb
    simp only [cB, List.mem_cons, List.not_mem_nil, or_false] at hb'
    rcases hb' with hb' | hb'
    · cases hb'; exact ⟨_, rfl, rfl, rfl, rfl, fun j hj => (hz j hj).ge⟩
    · cases hb'; exact ⟨_, rfl, rfl, rfl, rfl, fun j hj => (hz' j hj).ge⟩
end
end Go.Sx
/- SUMS AND PRODUCTS THE OTHER WAY ROUND, OF OPPOSITES, WITH NOUGHT AND WITH 1. -/
set_option linter.unusedSimpArgs false
set_option linter.unusedVariables false
namespace Go.Sx
open Ieee (Datum)

theorem sum_comm (a b : Datum) : a.sum b = b.sum a := by
  cases a <;> cases b <;> simp only [Ieee.Datum.sum]
  · rename_i s m i t n j
    rw [Int.min_comm, Int.add_comm, Bool.and_comm]
  · rename_i s t
    cases s <;> cases t <;> rfl
theorem fadd_comm (x y : Nat) : fadd x y = fadd y x := by
  unfold fadd Ieee.Format.add
  rw [sum_comm]
theorem product_comm (a b : Datum) : a.product b = b.product a := by
  cases a <;> cases b <;> simp only [Ieee.Datum.product]
  · rename_i s m i t n j
    rw [Bool.xor_comm, Nat.mul_comm, Int.add_comm]
  · rw [Bool.xor_comm]
theorem fmul_comm (x y : Nat) : fmul x y = fmul y x := by
  unfold fmul Ieee.Format.mul
  rw [product_comm]
theorem fsub_lt (x y : Nat) : fsub x y < 18446744073709551616 := by
  unfold fsub Ieee.Format.sub
  cases (Ieee.double.read x).sum (Ieee.double.read y).opposite with
  | none => show qn < _; decide
  | some d => exact write_lt d
/-! ### what is written is canonical -/
theorem cut_sign (s : Bool) (n d : Nat) : Ieee.Toward.even.cut s n d = Ieee.Toward.even.cut false n d := by unfold Ieee.Toward.cut; rfl
theorem rung_sign (s : Bool) (m : Nat) (p : Int) : rung s m p = rung false m p := by unfold rung; rw [cut_sign s]
theorem nearest_zero (s : Bool) (p : Int) : Ieee.double.nearest s 0 p = Ieee.double.word s 0 := by
  unfold Ieee.Format.nearest
  rw [if_pos rfl]
theorem nearest_sign (s : Bool) (m : Nat) (p : Int) : Ieee.double.nearest s m p = Ieee.double.word s (Ieee.double.nearest false m p) := by
  by_cases h : m = 0
  · subst h
    rw [nearest_zero, nearest_zero, word_false]
  · rw [nearest_is s h, nearest_is false h, rung_sign s, word_false]
theorem nearest_le (m : Nat) (p : Int) : Ieee.double.nearest false m p ≤ 9218868437227405312 := by
  by_cases h : m = 0
  · subst h
    rw [nearest_zero, word_false]; omega
  · rw [nearest_is false h, word_false]
    exact Nat.min_le_right _ _
theorem xor63 {x : Nat} (h : x < 18446744073709551616) : x ^^^ 9223372036854775808 = if x < 9223372036854775808 then 9223372036854775808 + x else x - 9223372036854775808 := by
  by_cases c : x < 9223372036854775808
  · rw [if_pos c, neg_word c]
  · rw [if_neg c]
    have e := neg_word (n := x - 9223372036854775808) (by omega)
    rw [show 9223372036854775808 + (x - 9223372036854775808) = x by omega] at e
    calc x ^^^ 9223372036854775808 = ((x - 9223372036854775808) ^^^ 9223372036854775808) ^^^ 9223372036854775808 := by rw [e]
      _ = x - 9223372036854775808 := by rw [Nat.xor_assoc, Nat.xor_self, Nat.xor_zero]
theorem nn_le {r : Nat} (s : Bool) (h : r ≤ 9218868437227405312) : isnan (Ieee.double.word s r) = false := by
  unfold isnan
  rw [word_mod s (by omega)]
  exact decide_eq_false (by omega)
theorem word_val (s : Bool) (r : Nat) : Ieee.double.word s r = (bif s then 9223372036854775808 else 0) + r := by
  unfold Ieee.Format.word
  rw [sgn_is]
  cases s <;> simp
theorem fneg_word (s : Bool) {r : Nat} (h : r ≤ 9218868437227405312) : fneg (Ieee.double.word s r) = Ieee.double.word (!s) r := by
  unfold fneg
  rw [xor63 (word_lt s (by omega))]
  have e : (if Ieee.double.word s r < 9223372036854775808 then 9223372036854775808 + Ieee.double.word s r else Ieee.double.word s r - 9223372036854775808) = Ieee.double.word (!s) r := by
    rw [word_val, word_val]
    cases s
    · rw [cond_false, if_pos (by omega), Bool.not_false, cond_true]; omega
    · rw [cond_true, if_neg (by omega), Bool.not_true, cond_false]; omega
  rw [e]
  exact cn_of_not (nn_le _ h)
theorem write_opp : ∀ d : Datum, d.isNaN = false → Ieee.double.write d.opposite = fneg (Ieee.double.write d)
  | .number s m p, _ => by
    show Ieee.double.nearest (!s) m p = fneg (Ieee.double.nearest s m p)
    rw [nearest_sign, nearest_sign s, fneg_word s (nearest_le m p)]
  | .infinity s, _ => by
    show Ieee.double.word (!s) Ieee.double.infRung = fneg (Ieee.double.word s Ieee.double.infRung)
    rw [inf_is, fneg_word s (Nat.le_refl _)]
  | .nan _ _, h => by cases h
theorem read_fneg {x : Nat} (hx : x < 18446744073709551616) (h : isnan x = false) : Ieee.double.read (fneg x) = (Ieee.double.read x).opposite := by
  have e : fneg x = if x < 9223372036854775808 then 9223372036854775808 + x else x - 9223372036854775808 := by
    unfold fneg
    rw [xor63 hx]
    refine cn_of_not ?_
    unfold isnan at h ⊢
    have := of_decide_eq_false h
    exact decide_eq_false (by split <;> omega)
  have em : fneg x % 9223372036854775808 = x % 9223372036854775808 := by rw [e]; split <;> omega
  have es : (fneg x / 9223372036854775808 % 2 == 1) = !(x / 9223372036854775808 % 2 == 1) := by
    rw [e]
    split
    · rw [show (9223372036854775808 + x) / 9223372036854775808 = 1 by omega, show x / 9223372036854775808 = 0 by omega]; rfl
    · rw [show (x - 9223372036854775808) / 9223372036854775808 = 0 by omega, show x / 9223372036854775808 = 1 by omega]; rfl
  unfold Ieee.Format.read
  simp only [sgn_is, em, es]
  split
  · rfl
  · split
    · rfl
    · split <;> rfl
/-! ### the same, or both nought -/
def E0 (x y : Nat) : Prop := x = y ∨ (x % 9223372036854775808 = 0 ∧ y % 9223372036854775808 = 0)
theorem E0.refl (x : Nat) : E0 x x := .inl rfl
theorem E0.of {x y : Nat} (h : x = y) : E0 x y := .inl h
theorem E0.symm {x y : Nat} (h : E0 x y) : E0 y x := by
  rcases h with rfl | ⟨h1, h2⟩
  · exact .inl rfl
  · exact .inr ⟨h2, h1⟩
theorem E0.trans {x y z : Nat} (h : E0 x y) (k : E0 y z) : E0 x z := by
  rcases h with rfl | ⟨h1, h2⟩
  · exact k
  · rcases k with rfl | ⟨k1, k2⟩
    · exact .inr ⟨h1, h2⟩
    · exact .inr ⟨h1, k2⟩
theorem fneg_qn : fneg qn = qn := by decide
theorem fadd_nan {x y : Nat} (h : isnan x = true ∨ isnan y = true) : fadd x y = qn := by
  unfold fadd Ieee.Format.add
  have r := fun z => read_nan z
  rcases h with h | h
  · have := r x
    rw [h] at this
    cases e : Ieee.double.read x <;> rw [e] at this <;> first | rfl | cases this
  · have := r y
    rw [h] at this
    cases e : Ieee.double.read y <;> rw [e] at this <;> first | (cases Ieee.double.read x <;> rfl) | cases this
theorem fmul_nan {x y : Nat} (h : isnan x = true ∨ isnan y = true) : fmul x y = qn := by
  unfold fmul Ieee.Format.mul
  have r := fun z => read_nan z
  rcases h with h | h
  · have := r x
    rw [h] at this
    cases e : Ieee.double.read x <;> rw [e] at this <;> first | rfl | cases this
  · have := r y
    rw [h] at this
    cases e : Ieee.double.read y <;> rw [e] at this <;> first | (cases Ieee.double.read x <;> rfl) | cases this
theorem fneg_nan {x : Nat} (h : isnan x = true) : fneg x = qn := by
  rcases fneg_cases x with ⟨_, e⟩ | ⟨e, _⟩
  · exact e
  · rw [h] at e; cases e
theorem write_zero (s : Bool) (p : Int) : Ieee.double.write (.number s 0 p) % 9223372036854775808 = 0 := by
  show Ieee.double.nearest s 0 p % _ = 0
  unfold Ieee.Format.nearest
  rw [if_pos rfl, word_mod s (by omega)]
theorem fadd_neg {x y : Nat} (hx : x < 18446744073709551616) (hy : y < 18446744073709551616) : E0 (fneg (fadd x y)) (fadd (fneg x) (fneg y)) := by
  cases nx : isnan x with
  | true => rw [fadd_nan (.inl nx), fneg_nan nx, fneg_qn, fadd_nan (.inl isnan_qn)]; exact .refl _
  | false =>
    cases ny : isnan y with
    | true => rw [fadd_nan (.inr ny), fneg_nan ny, fneg_qn, fadd_nan (.inr isnan_qn)]; exact .refl _
    | false =>
      unfold fadd Ieee.Format.add
      rw [read_fneg hx nx, read_fneg hy ny]
      have rx := read_nan x
      have ry := read_nan y
      rw [nx] at rx
      rw [ny] at ry
      cases ea : Ieee.double.read x with
      | nan _ _ => rw [ea] at rx; cases rx
      | infinity s =>
        cases eb : Ieee.double.read y with
        | nan _ _ => rw [eb] at ry; cases ry
        | infinity t => cases s <;> cases t <;> exact .of (by decide)
        | number t n j =>
          refine .of ?_
          show fneg (Ieee.double.write (.infinity s)) = Ieee.double.write (.infinity (!s))
          exact (write_opp (.infinity s) rfl).symm
      | number s m i =>
        cases eb : Ieee.double.read y with
        | nan _ _ => rw [eb] at ry; cases ry
        | infinity t =>
          refine .of ?_
          show fneg (Ieee.double.write (.infinity t)) = Ieee.double.write (.infinity (!t))
          exact (write_opp (.infinity t) rfl).symm
        | number t n j =>
          have tot : Ieee.signed (!s) m (i - min i j).toNat + Ieee.signed (!t) n (j - min i j).toNat = -(Ieee.signed s m (i - min i j).toNat + Ieee.signed t n (j - min i j).toNat) := by
            unfold Ieee.signed
            cases s <;> cases t <;> simp <;> omega
          simp only [Ieee.Datum.opposite, Ieee.Datum.sum, Option.map_some, Option.getD_some, tot, Int.natAbs_neg]
          generalize Ieee.signed s m (i - min i j).toNat + Ieee.signed t n (j - min i j).toNat = T
          by_cases h0 : T = 0
          · subst h0
            refine .inr ⟨?_, write_zero _ _⟩
            rw [show (0 : Int).natAbs = 0 from rfl, ← write_opp _ rfl]
            exact write_zero _ _
          · rw [← write_opp _ rfl]
            refine .of ?_
            rw [if_neg h0, if_neg (by omega)]
            show Ieee.double.nearest (!(decide (T < 0))) _ _ = Ieee.double.nearest (decide (-T < 0)) _ _
            rw [show (!(decide (T < 0))) = decide (-T < 0) by by_cases c : T < 0 <;> simp [c] <;> omega]
theorem fmul_neg {x : Nat} (y : Nat) (hx : x < 18446744073709551616) : fmul (fneg x) y = fneg (fmul x y) := by
  cases nx : isnan x with
  | true => rw [fmul_nan (.inl nx), fneg_nan nx, fneg_qn, fmul_nan (.inl isnan_qn)]
  | false =>
    cases ny : isnan y with
    | true => rw [fmul_nan (.inr ny), fmul_nan (.inr ny), fneg_qn]
    | false =>
      unfold fmul Ieee.Format.mul
      rw [read_fneg hx nx]
      have rx := read_nan x
      have ry := read_nan y
      rw [nx] at rx
      rw [ny] at ry
      cases ea : Ieee.double.read x with
      | nan _ _ => rw [ea] at rx; cases rx
      | infinity s =>
        cases eb : Ieee.double.read y with
        | nan _ _ => rw [eb] at ry; cases ry
        | infinity t => cases s <;> cases t <;> decide
        | number t n j =>
          simp only [Ieee.Datum.opposite, Ieee.Datum.product]
          by_cases h : n = 0
          · rw [if_pos h, if_pos h]; exact fneg_qn.symm
          · rw [if_neg h, if_neg h]
            show Ieee.double.write (.infinity (!s ^^ t)) = fneg (Ieee.double.write (.infinity (s ^^ t)))
            rw [← write_opp _ rfl]
            cases s <;> cases t <;> rfl
      | number s m i =>
        cases eb : Ieee.double.read y with
        | nan _ _ => rw [eb] at ry; cases ry
        | infinity t =>
          simp only [Ieee.Datum.opposite, Ieee.Datum.product]
          by_cases h : m = 0
          · rw [if_pos h, if_pos h]; exact fneg_qn.symm
          · rw [if_neg h, if_neg h]
            show Ieee.double.write (.infinity (t ^^ !s)) = fneg (Ieee.double.write (.infinity (t ^^ s)))
            rw [← write_opp _ rfl]
            cases s <;> cases t <;> rfl
        | number t n j =>
          show Ieee.double.write (.number (!s ^^ t) (m * n) (i + j)) = fneg (Ieee.double.write (.number (s ^^ t) (m * n) (i + j)))
          rw [← write_opp _ rfl]
          cases s <;> cases t <;> rfl
/-! ### with nought -/
theorem word_of {x : Nat} (h : x < 18446744073709551616) : Ieee.double.word (x / 9223372036854775808 % 2 == 1) (x % 9223372036854775808) = x := by
  rw [word_val, sg_lt h]
  by_cases c : 9223372036854775808 ≤ x
  · rw [decide_eq_true c]; simp; omega
  · rw [decide_eq_false c]; simp; omega
theorem read_zero {z : Nat} (h : z % 9223372036854775808 = 0) : Ieee.double.read z = .number (z / 9223372036854775808 % 2 == 1) 0 (-1074) := by
  unfold Ieee.Format.read
  simp only [sgn_is, h]
  rfl
theorem fadd_zero {x z : Nat} (hx : Fw x) (hz : z % 9223372036854775808 = 0) : E0 (fadd x z) x := by
  have hl := hx.1
  cases nx : isnan x with
  | true =>
    have : x = qn := by rw [← hx.2]; exact cn_of_nan nx
    rw [fadd_nan (.inl nx), this]; exact .refl _
  | false =>
    have hm := notnan nx
    by_cases hi : x % 9223372036854775808 = 9218868437227405312
    · unfold fadd Ieee.Format.add
      rw [read_inf hi, read_zero hz]
      refine .of ?_
      show Ieee.double.word _ Ieee.double.infRung = x
      rw [inf_is, ← hi]
      exact word_of hl
    · obtain ⟨m, i, e1, i1, u1⟩ := read_fin (x := x) (by omega)
      unfold fadd Ieee.Format.add
      rw [e1, read_zero hz]
      have hmin : min i (-1074) = -1074 := by omega
      have tot : Ieee.signed (x / 9223372036854775808 % 2 == 1) m (i - -1074).toNat + Ieee.signed (z / 9223372036854775808 % 2 == 1) 0 (-1074 - -1074 : Int).toNat = (if (x / 9223372036854775808 % 2 == 1) then -(U (x % 9223372036854775808) : Int) else (U (x % 9223372036854775808) : Int)) := by
        unfold Ieee.signed
        rw [Nat.shiftLeft_eq, u1]
        cases (x / 9223372036854775808 % 2 == 1) <;> cases (z / 9223372036854775808 % 2 == 1) <;> simp
      simp only [Ieee.Datum.sum, hmin, Option.map_some, Option.getD_some, tot]
      by_cases h0 : x % 9223372036854775808 = 0
      · refine .inr ⟨?_, h0⟩
        rw [h0]
        cases (x / 9223372036854775808 % 2 == 1) <;> exact write_zero _ _
      · have hU : U (x % 9223372036854775808) ≠ 0 := fun c => h0 (U_eq_iff.1 (c.trans U_zero.symm))
        refine .of ?_
        have hw : ∀ s : Bool, (x / 9223372036854775808 % 2 == 1) = s → Ieee.double.write (.number (if (if s then -(U (x % 9223372036854775808) : Int) else (U (x % 9223372036854775808) : Int)) = 0 then s && (z / 9223372036854775808 % 2 == 1) else decide ((if s then -(U (x % 9223372036854775808) : Int) else (U (x % 9223372036854775808) : Int)) < 0)) (if s then -(U (x % 9223372036854775808) : Int) else (U (x % 9223372036854775808) : Int)).natAbs (-1074)) = x := fun s hs => by
          have e2 : Ieee.double.write (.number s (U (x % 9223372036854775808)) (-1074)) = x := by
            show Ieee.double.nearest s _ _ = x
            rw [near_at s (by omega)]
            have : (-1074 - -1074 : Int).toNat = 0 := by omega
            rw [this, Nat.pow_zero, Nat.mul_one, nearU_U (by omega), ← hs]
            exact word_of hl
          cases s with
          | false =>
            simp only [Bool.false_eq_true, if_false]
            rw [if_neg (by omega), decide_eq_false (by omega), Int.natAbs_natCast]
            exact e2
          | true =>
            simp only [if_true]
            rw [if_neg (by omega), decide_eq_true (by omega), Int.natAbs_neg, Int.natAbs_natCast]
            exact e2
        exact hw _ rfl
theorem E0.add {u u' v v' : Nat} (hu : Fw u) (hu' : Fw u') (hv : Fw v) (hv' : Fw v') (h : E0 u u') (k : E0 v v') : E0 (fadd u v) (fadd u' v') := by
  have left : ∀ {a z z' : Nat}, Fw a → z % 9223372036854775808 = 0 → z' % 9223372036854775808 = 0 → E0 (fadd a z) (fadd a z') := fun ha h1 h2 => (fadd_zero ha h1).trans (fadd_zero ha h2).symm
  rcases k with rfl | ⟨k1, k2⟩
  · rcases h with rfl | ⟨h1, h2⟩
    · exact .refl _
    · rw [fadd_comm u v, fadd_comm u' v]; exact left hv h1 h2
  · refine (left hu k1 k2).trans ?_
    rcases h with rfl | ⟨h1, h2⟩
    · exact .refl _
    · rw [fadd_comm u v', fadd_comm u' v']; exact left hv' h1 h2
theorem cn_write {d : Datum} (h : d.isNaN = false) : isnan (Ieee.double.write d) = false := by
  cases d with
  | number s m p => show isnan (Ieee.double.nearest s m p) = false; rw [nearest_sign]; exact nn_le s (nearest_le m p)
  | infinity s => show isnan (Ieee.double.word s _) = false; rw [inf_is]; exact nn_le s (Nat.le_refl _)
  | nan => cases h
/-! ### a greater one is not rounded to a lesser -/
theorem cut_is {n d : Nat} (hd : d ≤ n.log2) : Ieee.Toward.even.cut false n d = n / 2 ^ d + (decide (2 ^ d < 2 * (n % 2 ^ d)) || (2 ^ d == 2 * (n % 2 ^ d) && n / 2 ^ d % 2 == 1)).toNat := by
  unfold Ieee.Toward.cut
  rw [show min d (n.log2 + 2) = d by omega, Nat.shiftLeft_eq, Nat.one_mul]
theorem cut_mono {n n' d : Nat} (h : n ≤ n') (hd : d ≤ n.log2) (hd' : d ≤ n'.log2) : Ieee.Toward.even.cut false n d ≤ Ieee.Toward.even.cut false n' d := by
  rw [cut_is hd, cut_is hd']
  have hp : 0 < 2 ^ d := Nat.two_pow_pos d
  have e1 := Nat.div_add_mod n (2 ^ d)
  have e2 := Nat.div_add_mod n' (2 ^ d)
  have hdiv : n / 2 ^ d ≤ n' / 2 ^ d := Nat.div_le_div_right h
  have b1 : ∀ b : Bool, b.toNat ≤ 1 := fun b => by cases b <;> decide
  by_cases hlt : n / 2 ^ d < n' / 2 ^ d
  · have := b1 (decide (2 ^ d < 2 * (n % 2 ^ d)) || (2 ^ d == 2 * (n % 2 ^ d) && n / 2 ^ d % 2 == 1))
    omega
  · have heq : n / 2 ^ d = n' / 2 ^ d := by omega
    have hr : n % 2 ^ d ≤ n' % 2 ^ d := by rw [heq] at e1; omega
    rw [heq]
    refine Nat.add_le_add_left ?_ _
    generalize n % 2 ^ d = r at hr
    generalize n' % 2 ^ d = r' at hr
    generalize 2 ^ d = g at *
    generalize (n' / g % 2 == 1) = o
    by_cases c1 : g < 2 * r'
    · rw [decide_eq_true c1, Bool.true_or]; exact b1 _
    · by_cases c2 : g < 2 * r
      · omega
      · rw [decide_eq_false c1, decide_eq_false c2, Bool.false_or, Bool.false_or]
        by_cases c3 : g = 2 * r
        · rw [show g = 2 * r' by omega, ← show 2 * r' = 2 * r by omega]
          exact Nat.le_refl _
        · rw [show (g == 2 * r) = false from beq_eq_false_iff_ne.2 c3]
          simp
theorem rung_at {S : Nat} (h : 9007199254740992 ≤ S) : rung false S (-1074) = (S.log2 - 52) * 4503599627370496 + Ieee.Toward.even.cut false S (S.log2 - 52) ∧ 53 ≤ S.log2 ∧ 4503599627370496 ≤ Ieee.Toward.even.cut false S (S.log2 - 52) ∧ Ieee.Toward.even.cut false S (S.log2 - 52) ≤ 9007199254740992 := by
  have h0 : S ≠ 0 := by omega
  have hl : 53 ≤ S.log2 := (Nat.le_log2 h0).2 h
  have hself : 2 ^ S.log2 ≤ S := Nat.log2_self_le h0
  have hlt : S < 2 ^ (S.log2 + 1) := (Nat.log2_lt h0).1 (Nat.lt_succ_self _)
  refine ⟨?_, hl, ?_, ?_⟩
  · unfold rung
    rw [show max (-1074 + (S.log2 : Int) - 52) (-1074) = -1074 + S.log2 - 52 by omega, show (-1074 - (-1074 + (S.log2 : Int) - 52)).toNat = 0 by omega, Nat.shiftLeft_zero, show (-1074 + (S.log2 : Int) - 52 - -1074).toNat = S.log2 - 52 by omega]
  · rw [cut_is (by omega)]
    have : 4503599627370496 ≤ S / 2 ^ (S.log2 - 52) := by
      rw [Nat.le_div_iff_mul_le (Nat.two_pow_pos _)]
      have e : 4503599627370496 * 2 ^ (S.log2 - 52) = 2 ^ S.log2 := by
        rw [show (4503599627370496 : Nat) = 2 ^ 52 by decide, ← Nat.pow_add]; congr 1; omega
      rw [e]; exact hself
    omega
  · rw [cut_is (by omega)]
    have : S / 2 ^ (S.log2 - 52) < 9007199254740992 := by
      rw [Nat.div_lt_iff_lt_mul (Nat.two_pow_pos _)]
      have e : 9007199254740992 * 2 ^ (S.log2 - 52) = 2 ^ (S.log2 + 1) := by
        rw [show (9007199254740992 : Nat) = 2 ^ 53 by decide, ← Nat.pow_add]; congr 1; omega
      rw [e]; exact hlt
    have b1 : ∀ b : Bool, b.toNat ≤ 1 := fun b => by cases b <;> decide
    have := b1 (decide (2 ^ (S.log2 - 52) < 2 * (S % 2 ^ (S.log2 - 52))) || (2 ^ (S.log2 - 52) == 2 * (S % 2 ^ (S.log2 - 52)) && S / 2 ^ (S.log2 - 52) % 2 == 1))
    omega
theorem nearU_mono {S T : Nat} (h : S ≤ T) : nearU S ≤ nearU T := by
  by_cases c1 : T < 9007199254740992
  · rw [nearU_small c1, nearU_small (by omega)]; exact h
  · obtain ⟨eT, lT, aT, bT⟩ := rung_at (S := T) (by omega)
    rw [nearU_is (S := T) (by omega)]
    by_cases c2 : S < 9007199254740992
    · rw [nearU_small c2]
      have : 9007199254740992 ≤ rung false T (-1074) := by
        rw [eT]
        have : 1 * 4503599627370496 ≤ (T.log2 - 52) * 4503599627370496 := Nat.mul_le_mul_right _ (by omega)
        omega
      exact Nat.le_min.2 ⟨by omega, by omega⟩
    · obtain ⟨eS, lS, aS, bS⟩ := rung_at (S := S) (by omega)
      rw [nearU_is (S := S) (by omega)]
      have hl : S.log2 ≤ T.log2 := by
        refine (Nat.le_log2 (by omega)).2 (Nat.le_trans (Nat.log2_self_le (by omega)) h)
      have hr : rung false S (-1074) ≤ rung false T (-1074) := by
        rw [eS, eT]
        by_cases c3 : S.log2 = T.log2
        · rw [c3]
          exact Nat.add_le_add_left (cut_mono h (by omega) (by omega)) _
        · have : (S.log2 - 52 + 1) * 4503599627370496 ≤ (T.log2 - 52) * 4503599627370496 := Nat.mul_le_mul_right _ (by omega)
          rw [Nat.succ_mul] at this
          omega
      exact Nat.le_min.2 ⟨Nat.le_trans (Nat.min_le_left _ _) hr, Nat.min_le_right _ _⟩
theorem read_pinf : Ieee.double.read 9218868437227405312 = .infinity false := by decide
theorem write_pinf : Ieee.double.write (.infinity false) = 9218868437227405312 := by decide
theorem fadd_inf {y : Nat} (hy : y ≤ 9218868437227405312) : fadd 9218868437227405312 y = 9218868437227405312 := by
  have key : ∀ d : Datum, (Datum.infinity false).sum d = some (.infinity false) → ((Option.map Ieee.double.write ((Datum.infinity false).sum d)).getD qn) = 9218868437227405312 := fun d h => by
    rw [h, Option.map_some, Option.getD_some, write_pinf]
  unfold fadd Ieee.Format.add
  rw [read_pinf]
  by_cases c2 : y = 9218868437227405312
  · rw [c2, read_pinf]; exact key _ rfl
  · obtain ⟨m, i, e1, _⟩ := read_fin (x := y) (by omega)
    rw [e1]; exact key _ rfl
/-- a sum of sizes is not less than either -/
theorem fadd_ge {x y : Nat} (hx : x ≤ 9218868437227405312) (hy : y ≤ 9218868437227405312) : x ≤ fadd x y ∧ fadd x y ≤ 9218868437227405312 := by
  by_cases c1 : x = 9218868437227405312
  · rw [c1, fadd_inf hy]; exact ⟨Nat.le_refl _, Nat.le_refl _⟩
  · by_cases c2 : y = 9218868437227405312
    · rw [c2, fadd_comm, fadd_inf hx]; exact ⟨hx, Nat.le_refl _⟩
    · rw [fadd_U (by omega) (by omega)]
      refine ⟨?_, nearU_le _⟩
      have e := nearU_U (r := x) (by omega)
      have k := nearU_mono (S := U x) (T := U x + U y) (Nat.le_add_right _ _)
      rw [e] at k
      exact k
/-! ### with 1, with nought -/
theorem Fw.fadd (x y : Nat) : Fw (Sx.fadd x y) := ⟨fadd_lt _ _, cn_fadd _ _⟩
theorem Fw.fsub (x y : Nat) : Fw (Sx.fsub x y) := ⟨fsub_lt _ _, cn_fsub _ _⟩
theorem Fw.fmul (x y : Nat) : Fw (Sx.fmul x y) := ⟨fmul_lt _ _, cn_fmul _ _⟩
theorem fsub_is {x y : Nat} (hy : y < 18446744073709551616) (ny : isnan y = false) : Sx.fsub x y = Sx.fadd x (fneg y) := by
  unfold Sx.fsub Sx.fadd Ieee.Format.sub Ieee.Format.add
  rw [read_fneg hy ny]
theorem fmul_one {x : Nat} (hx : Fw x) : Sx.fmul 4607182418800017408 x = x := by
  cases nx : isnan x with
  | true =>
    have : x = qn := by rw [← hx.2]; exact cn_of_nan nx
    rw [fmul_nan (.inr nx), this]
  | false =>
    have hm := notnan nx
    have r1 : Ieee.double.read 4607182418800017408 = .number false 4503599627370496 (-52) := by decide
    unfold Sx.fmul Ieee.Format.mul
    rw [r1]
    by_cases hi : x % 9223372036854775808 = 9218868437227405312
    · rw [read_inf hi]
      show Ieee.double.word ((x / 9223372036854775808 % 2 == 1) ^^ false) Ieee.double.infRung = x
      rw [inf_is, Bool.xor_false, ← hi]
      exact word_of hx.1
    · obtain ⟨m, i, e1, i1, u1⟩ := read_fin (x := x) (by omega)
      rw [e1]
      show Ieee.double.nearest (false ^^ (x / 9223372036854775808 % 2 == 1)) (4503599627370496 * m) (-52 + i) = x
      rw [Bool.false_xor, Nat.mul_comm, show (4503599627370496 : Nat) = 2 ^ 52 by decide]
      by_cases h0 : m = 0
      · subst h0
        rw [Nat.zero_mul, nearest_zero]
        rw [Nat.zero_mul] at u1
        have h0 : x % 9223372036854775808 = 0 := U_eq_iff.1 (u1.symm.trans U_zero.symm)
        have := word_of hx.1
        rw [h0] at this
        exact this
      · have hm2 : m * 2 ^ 52 ≠ 0 := Nat.mul_ne_zero h0 (Nat.ne_of_gt (Nat.two_pow_pos 52))
        rw [nearest_is _ hm2, show (-52 + i : Int) = i - (52 : Nat) by omega, rung_scale _ h0, ← nearest_is _ h0, near_at _ i1, u1, nearU_U (by omega)]
        exact word_of hx.1
theorem fmul_zero {x : Nat} (hf : x % 9223372036854775808 < 9218868437227405312) : Sx.fmul 0 x % 9223372036854775808 = 0 := by
  obtain ⟨m, i, e1, i1, u1⟩ := read_fin hf
  unfold Sx.fmul Ieee.Format.mul
  rw [e1, read_zero (z := 0) (by decide)]
  show Ieee.double.write (.number _ (0 * m) _) % _ = 0
  rw [Nat.zero_mul]
  exact write_zero _ _
theorem fneg_zero {z : Nat} (h : z % 9223372036854775808 = 0) : fneg z % 9223372036854775808 = 0 := by
  rcases fneg_cases z with ⟨e, _⟩ | ⟨_, e, _⟩
  · unfold isnan at e
    have := of_decide_eq_true e
    omega
  · rw [e, h]
theorem feq_E0 {x y : Nat} (hx : x < 18446744073709551616) (hy : y < 18446744073709551616) (nx : isnan x = false) (h : E0 x y) : feq x y = true := by
  have ny : isnan y = false := by
    rcases h with rfl | ⟨_, h2⟩
    · exact nx
    · unfold isnan; exact decide_eq_false (by omega)
  rw [feq_rk hx hy, nx, ny]
  have : rk x = rk y := by
    rcases h with rfl | ⟨h1, h2⟩
    · rfl
    · unfold rk; split <;> split <;> omega
  simp [this]
end Go.Sx
/- WHOLE NUMBERS AS FLOATS ARE EXACT. -/
set_option linter.unusedSimpArgs false
set_option linter.unusedVariables false
namespace Go.Sx
open Ieee (Datum)

/-- what a finite float is, in the least parts -/
def V (x : Nat) : Int := if x / 9223372036854775808 % 2 == 1 then -(U (x % 9223372036854775808) : Int) else (U (x % 9223372036854775808) : Int)
theorem U_at {d k : Nat} (h1 : 4503599627370496 ≤ k) (h2 : k < 9007199254740992) (hd : 1 ≤ d) : U (d * 4503599627370496 + k) = k * 2 ^ d := by
  have e1 : (d * 4503599627370496 + k) / 4503599627370496 = d + 1 := by omega
  have e2 : (d * 4503599627370496 + k) % 4503599627370496 = k - 4503599627370496 := by omega
  have e3 : ¬ (d * 4503599627370496 + k < 4503599627370496) := by omega
  generalize d * 4503599627370496 + k = r at e1 e2 e3
  unfold U
  rw [if_neg e3, e1, e2, Nat.add_sub_cancel, Nat.add_sub_cancel' h1]
/-- a number of at most 53 digits is hit -/
theorem U_near {q e : Nat} (hq : q < 9007199254740992) (hb : nearU (q * 2 ^ e) < 9218868437227405312) : U (nearU (q * 2 ^ e)) = q * 2 ^ e := by
  by_cases hs : q * 2 ^ e < 9007199254740992
  · rw [nearU_small hs]
    by_cases h1 : q * 2 ^ e < 4503599627370496
    · unfold U; rw [if_pos h1]
    · unfold U
      rw [if_neg h1, show q * 2 ^ e / 4503599627370496 = 1 by omega]
      simp; omega
  · obtain ⟨er, l53, c1, c2⟩ := rung_at (S := q * 2 ^ e) (by omega)
    have hq0 : q ≠ 0 := fun h => by subst h; simp at hs
    have hl : (q * 2 ^ e).log2 = q.log2 + e := log2_mul_pow hq0 e
    have ql : q.log2 < 53 := (Nat.log2_lt hq0).2 hq
    have q2 : 2 ^ q.log2 ≤ q := Nat.log2_self_le hq0
    have q3 : q < 2 ^ (q.log2 + 1) := (Nat.log2_lt hq0).1 (Nat.lt_succ_self _)
    generalize hd : (q * 2 ^ e).log2 - 52 = d at er c1 c2
    -- the digits kept
    have hsplit : q * 2 ^ e = (q * 2 ^ (52 - q.log2)) * 2 ^ d := by
      rw [Nat.mul_assoc, ← Nat.pow_add]
      congr 2
      omega
    have hk1 : 4503599627370496 ≤ q * 2 ^ (52 - q.log2) := by
      calc 4503599627370496 = 2 ^ q.log2 * 2 ^ (52 - q.log2) := by rw [← Nat.pow_add, show q.log2 + (52 - q.log2) = 52 by omega]
        _ ≤ _ := Nat.mul_le_mul_right _ q2
    have hk2 : q * 2 ^ (52 - q.log2) < 9007199254740992 := by
      calc q * 2 ^ (52 - q.log2) < 2 ^ (q.log2 + 1) * 2 ^ (52 - q.log2) := Nat.mul_lt_mul_of_pos_right q3 (Nat.two_pow_pos _)
        _ = 9007199254740992 := by rw [← Nat.pow_add, show q.log2 + 1 + (52 - q.log2) = 53 by omega]
    generalize hk : q * 2 ^ (52 - q.log2) = k at hsplit hk1 hk2
    have hcut : Ieee.Toward.even.cut false (q * 2 ^ e) d = k := by
      rw [cut_is (by omega), hsplit, Nat.mul_div_cancel _ (Nat.two_pow_pos d), Nat.mul_mod_left]
      have hp : 0 < 2 ^ d := Nat.two_pow_pos d
      rw [decide_eq_false (by omega), show (2 ^ d == 2 * 0) = false from beq_eq_false_iff_ne.2 (by omega)]
      simp
    have hn : nearU (q * 2 ^ e) = d * 4503599627370496 + k := by
      rw [nearU_is (by omega), er, hcut] at hb ⊢
      by_cases c : d * 4503599627370496 + k ≤ 9218868437227405312
      · rw [Nat.min_eq_left c]
      · rw [Nat.min_eq_right (Nat.le_of_not_le c)] at hb
        exact absurd hb (Nat.lt_irrefl _)
    rw [hn]
    have hd1 : 1 ≤ d := by omega
    rw [U_at hk1 hk2 hd1]
    exact hsplit.symm
/-- a sum, exactly, rounded once -/
theorem fadd_V {x y : Nat} (hx : x % 9223372036854775808 < 9218868437227405312) (hy : y % 9223372036854775808 < 9218868437227405312) :
    fadd x y = Ieee.double.word (if V x + V y = 0 then (x / 9223372036854775808 % 2 == 1) && (y / 9223372036854775808 % 2 == 1) else decide (V x + V y < 0)) (nearU (V x + V y).natAbs) := by
  obtain ⟨m, i, e1, i1, u1⟩ := read_fin hx
  obtain ⟨n, j, e2, j1, u2⟩ := read_fin hy
  unfold fadd Ieee.Format.add
  rw [e1, e2]
  have key : (Ieee.signed (x / 9223372036854775808 % 2 == 1) m (i - min i j).toNat + Ieee.signed (y / 9223372036854775808 % 2 == 1) n (j - min i j).toNat) * 2 ^ (min i j - -1074).toNat = V x + V y := by
    unfold V Ieee.signed
    rw [← u1, ← u2]
    have a1 : m <<< (i - min i j).toNat * 2 ^ (min i j - -1074).toNat = m * 2 ^ (i - -1074).toNat := by
      rw [Nat.shiftLeft_eq, Nat.mul_assoc, ← Nat.pow_add]; congr 2; omega
    have a2 : n <<< (j - min i j).toNat * 2 ^ (min i j - -1074).toNat = n * 2 ^ (j - -1074).toNat := by
      rw [Nat.shiftLeft_eq, Nat.mul_assoc, ← Nat.pow_add]; congr 2; omega
    rw [← a1, ← a2]
    generalize m <<< (i - min i j).toNat = A
    generalize n <<< (j - min i j).toNat = B
    generalize (min i j - -1074).toNat = p
    have e : ∀ C : Nat, ((C * 2 ^ p : Nat) : Int) = (C : Int) * 2 ^ p := fun C => by rw [Int.natCast_mul, Int.natCast_pow]; rfl
    rw [e, e]
    generalize (2 : Int) ^ p = Q
    generalize (x / 9223372036854775808 % 2 == 1) = s
    generalize (y / 9223372036854775808 % 2 == 1) = t
    clear u1 u2 a1 a2 e1 e2 hx hy e
    cases s <;> cases t
    · show ((A : Int) + (B : Int)) * Q = (A : Int) * Q + (B : Int) * Q
      exact Int.add_mul _ _ _
    · show ((A : Int) + -(B : Int)) * Q = (A : Int) * Q + -((B : Int) * Q)
      rw [Int.add_mul, Int.neg_mul]
    · show (-(A : Int) + (B : Int)) * Q = -((A : Int) * Q) + (B : Int) * Q
      rw [Int.add_mul, Int.neg_mul]
    · show (-(A : Int) + -(B : Int)) * Q = -((A : Int) * Q) + -((B : Int) * Q)
      rw [Int.add_mul, Int.neg_mul, Int.neg_mul]
  simp only [Ieee.Datum.sum, Option.map_some, Option.getD_some]
  generalize Ieee.signed (x / 9223372036854775808 % 2 == 1) m (i - min i j).toNat + Ieee.signed (y / 9223372036854775808 % 2 == 1) n (j - min i j).toNat = T at key
  have hp : (0 : Int) < 2 ^ (min i j - -1074).toNat := Int.pow_pos (by decide)
  rw [← key]
  have z : (T * 2 ^ (min i j - -1074).toNat = 0) ↔ T = 0 := ⟨fun h => by rcases Int.mul_eq_zero.1 h with h | h <;> omega, fun h => by rw [h, Int.zero_mul]⟩
  have s : (T * 2 ^ (min i j - -1074).toNat < 0) ↔ T < 0 := by
    constructor
    · intro h
      refine Int.not_le.1 fun c => ?_
      have := Int.mul_nonneg c (Int.le_of_lt hp)
      omega
    · intro h
      exact Int.mul_neg_of_neg_of_pos h hp
  simp only [z, s]
  show Ieee.double.nearest _ T.natAbs (min i j) = _
  rw [near_at _ (by omega)]
  congr 2
  rw [Int.natAbs_mul, Int.natAbs_pow]; rfl
/-! ### a whole number's float -/
def W (n : Int) : Nat := Ieee.double.nearest (decide (n < 0)) n.natAbs 0
theorem ofInt_W (n : Int) : ofInt n = W n := rfl
def Sm (n : Int) : Prop := n.natAbs < 9007199254740992
/-- 1, in the least parts -/
def ex1 : Nat := 1074
theorem ex1_is : ex1 = 1074 := rfl
def one1 : Nat := 2 ^ ex1
theorem one1_eq : one1 = 2 ^ ex1 := rfl
theorem one1_pos : 0 < one1 := Nat.two_pow_pos _
theorem W_is (n : Int) : W n = Ieee.double.word (decide (n < 0)) (nearU (n.natAbs * one1)) := by
  unfold W
  rw [near_at _ (by omega), show ((0 : Int) - -1074).toNat = ex1 by rw [ex1_is]; omega, ← one1_eq]
theorem U_pow (d : Nat) : U ((d + 1) * 4503599627370496 + 4503599627370496) = 9007199254740992 * 2 ^ d := by
  rw [U_at (by omega) (by omega) (by omega), Nat.pow_succ]
  generalize 2 ^ d = Q
  omega
theorem U_53 : U 4845873199050653696 = 9007199254740992 * one1 := by
  rw [one1_eq]
  have h := U_pow ex1
  have e : (ex1 + 1) * 4503599627370496 + 4503599627370496 = 4845873199050653696 := by rw [ex1_is]
  rw [e] at h
  exact h
theorem near_fin {q : Nat} (h : q < 9007199254740992) : nearU (q * one1) ≤ 4845873199050653696 := by
  have := nearU_mono (S := q * one1) (T := 9007199254740992 * one1) (Nat.mul_le_mul_right _ (Nat.le_of_lt h))
  rw [← U_53, nearU_U (by omega)] at this
  exact this
theorem W_mod {n : Int} (h : Sm n) : W n % 9223372036854775808 = nearU (n.natAbs * one1) := by
  have := near_fin h
  rw [W_is, word_mod _ (by omega)]
theorem W_fin {n : Int} (h : Sm n) : W n % 9223372036854775808 < 9218868437227405312 := by
  have := near_fin h
  rw [W_mod h]; omega
theorem word_sign (s : Bool) {r : Nat} (h : r < 9223372036854775808) : (Ieee.double.word s r / 9223372036854775808 % 2 == 1) = s := by
  rw [word_val]
  cases s
  · rw [cond_false, show (0 + r) / 9223372036854775808 = 0 by omega]; rfl
  · rw [cond_true, show (9223372036854775808 + r) / 9223372036854775808 = 1 by omega]; rfl
theorem W_sign {n : Int} (h : Sm n) : (W n / 9223372036854775808 % 2 == 1) = decide (n < 0) := by
  have := near_fin h
  rw [W_is, word_sign _ (by omega)]
theorem W_U {n : Int} (h : Sm n) : U (W n % 9223372036854775808) = n.natAbs * one1 := by
  have := near_fin h
  rw [W_mod h]
  exact U_near (e := ex1) h (Nat.lt_of_le_of_lt this (by omega))
theorem V_W {n : Int} (h : Sm n) : V (W n) = n * (one1 : Int) := by
  unfold V
  rw [W_sign h, W_U h, Int.natCast_mul]
  generalize (one1 : Int) = Q
  by_cases c : n < 0
  · rw [decide_eq_true c, if_pos rfl, ← Int.neg_mul]
    congr 1; omega
  · rw [decide_eq_false c, if_neg Bool.false_ne_true]
    congr 1; omega
theorem W_fw (n : Int) : Fw (W n) := by
  unfold W
  refine ⟨write_lt (.number _ _ _), ?_⟩
  exact cn_of_not (cn_write (d := .number _ _ _) rfl)
theorem W_nn (n : Int) : isnan (W n) = false := cn_write (d := .number _ _ _) rfl
theorem fadd_W {a b : Int} (ha : Sm a) (hb : Sm b) : fadd (W a) (W b) = W (a + b) := by
  rw [fadd_V (W_fin ha) (W_fin hb), V_W ha, V_W hb, W_sign ha, W_sign hb, ← Int.add_mul, W_is]
  have hp : (0 : Int) < (one1 : Int) := Int.ofNat_lt.2 one1_pos
  have hn : ((a + b) * (one1 : Int)).natAbs = (a + b).natAbs * one1 := by rw [Int.natAbs_mul, Int.natAbs_natCast]
  rw [hn]
  generalize (one1 : Int) = Q at hp
  have hs : (if (a + b) * Q = 0 then (decide (a < 0) && decide (b < 0)) else decide ((a + b) * Q < 0)) = decide (a + b < 0) := by
    by_cases c : a + b = 0
    · rw [c, Int.zero_mul, if_pos rfl]
      by_cases c1 : a < 0
      · rw [decide_eq_false (show ¬ b < 0 by omega), Bool.and_false]; rfl
      · rw [decide_eq_false c1, Bool.false_and]; rfl
    · have z : (a + b) * Q ≠ 0 := fun h => by rcases Int.mul_eq_zero.1 h with h | h <;> omega
      rw [if_neg z]
      refine decide_eq_decide.2 ⟨fun h => Int.not_le.1 fun k => ?_, fun h => Int.mul_neg_of_neg_of_pos h hp⟩
      have := Int.mul_nonneg k (Int.le_of_lt hp)
      omega
  rw [hs]
theorem nearest_at (s : Bool) {m q : Nat} {p : Int} {k : Nat} (hp : (0 : Int) ≤ p + k) (h : m * 2 ^ (p + k).toNat = q * 2 ^ k) : Ieee.double.nearest s m p = Ieee.double.nearest s q 0 := by
  by_cases h0 : m = 0
  · subst h0
    rw [Nat.zero_mul] at h
    have hk : 0 < 2 ^ k := Nat.two_pow_pos k
    have : q = 0 := by rcases Nat.mul_eq_zero.1 h.symm with h | h <;> omega
    rw [this, nearest_zero, nearest_zero]
  · have hq : q ≠ 0 := fun c => by
      subst c
      rw [Nat.zero_mul] at h
      have : 0 < 2 ^ (p + k).toNat := Nat.two_pow_pos _
      rcases Nat.mul_eq_zero.1 h with h | h <;> omega
    have e1 := rung_scale s h0 (p + k).toNat p
    have e2 := rung_scale s hq k 0
    have m0 : m * 2 ^ (p + k).toNat ≠ 0 := Nat.mul_ne_zero h0 (Nat.ne_of_gt (Nat.two_pow_pos _))
    rw [nearest_is s h0, nearest_is s hq, ← e1, ← e2, h, show p - ((p + k).toNat : Int) = 0 - (k : Int) by omega]
theorem fmul_W {a b : Int} (ha : Sm a) (hb : Sm b) : E0 (fmul (W a) (W b)) (W (a * b)) := by
  obtain ⟨m, i, e1, i1, u1⟩ := read_fin (W_fin ha)
  obtain ⟨n, j, e2, j1, u2⟩ := read_fin (W_fin hb)
  rw [W_sign ha] at e1
  rw [W_sign hb] at e2
  rw [W_U ha] at u1
  rw [W_U hb] at u2
  have e : fmul (W a) (W b) = Ieee.double.nearest (decide (a < 0) ^^ decide (b < 0)) (a.natAbs * b.natAbs) 0 := by
    unfold fmul Ieee.Format.mul
    rw [e1, e2]
    show Ieee.double.nearest _ (m * n) (i + j) = _
    refine nearest_at _ (k := ex1 + ex1) (by have := ex1_is; omega) ?_
    rw [show (i + j + ((ex1 + ex1 : Nat) : Int)).toNat = (i - -1074).toNat + (j - -1074).toNat by have := ex1_is; omega, Nat.pow_add, Nat.pow_add 2 ex1 ex1]
    have e : (2 : Nat) ^ ex1 = one1 := rfl
    rw [e]
    generalize one1 = Q at u1 u2
    generalize 2 ^ (i - -1074).toNat = X at u1
    generalize 2 ^ (j - -1074).toNat = Y at u2
    rw [Nat.mul_mul_mul_comm, u1, u2, Nat.mul_mul_mul_comm]
  rw [e]
  unfold W
  rw [Int.natAbs_mul]
  by_cases z : a.natAbs * b.natAbs = 0
  · rw [z, nearest_zero, nearest_zero]
    exact .inr ⟨word_mod _ (by omega), word_mod _ (by omega)⟩
  · have h1 : a ≠ 0 := fun c => by subst c; simp at z
    have h2 : b ≠ 0 := fun c => by subst c; simp at z
    refine .of ?_
    congr 1
    by_cases c1 : a < 0 <;> by_cases c2 : b < 0
    · have := Int.mul_pos_of_neg_of_neg c1 c2
      rw [decide_eq_true c1, decide_eq_true c2, decide_eq_false (by omega)]; rfl
    · have := Int.mul_neg_of_neg_of_pos c1 (show 0 < b by omega)
      rw [decide_eq_true c1, decide_eq_false c2, decide_eq_true this]; rfl
    · have := Int.mul_neg_of_pos_of_neg (show 0 < a by omega) c2
      rw [decide_eq_false c1, decide_eq_true c2, decide_eq_true this]; rfl
    · have := Int.mul_pos (show 0 < a by omega) (show 0 < b by omega)
      rw [decide_eq_false c1, decide_eq_false c2, decide_eq_false (by omega)]; rfl
theorem fneg_W (b : Int) : E0 (fneg (W b)) (W (-b)) := by
  have h := write_opp (.number (decide (b < 0)) b.natAbs 0) rfl
  have e : fneg (W b) = Ieee.double.nearest (!decide (b < 0)) b.natAbs 0 := h.symm
  rw [e]
  unfold W
  by_cases z : b = 0
  · subst z
    rw [show (-(0 : Int)).natAbs = 0 from rfl, show (0 : Int).natAbs = 0 from rfl, nearest_zero, nearest_zero]
    exact .inr ⟨word_mod _ (by omega), word_mod _ (by omega)⟩
  · refine .of ?_
    rw [Int.natAbs_neg, show (!decide (b < 0)) = decide (-b < 0) by by_cases c : b < 0 <;> simp [c] <;> omega]
theorem zcut (s : Bool) (n d : Nat) : Ieee.Toward.zero.cut s n d = n / 2 ^ min d (n.log2 + 2) := by
  unfold Ieee.Toward.cut
  dsimp only
  rw [Nat.shiftLeft_eq, Nat.one_mul]; rfl
/-- back again -/
theorem toInt_W {n : Int} (h : Sm n) : toIntV (W n) .i64 = some n := by
  obtain ⟨m, i, e1, i1, u1⟩ := read_fin (W_fin h)
  rw [W_sign h] at e1
  rw [W_U h] at u1
  have key : (Ieee.double.read (W n)).toInt .zero = some n := by
    rw [e1]
    unfold Ieee.Datum.toInt Ieee.Datum.integral
    have hc : Ieee.Toward.zero.cut (decide (n < 0)) (m <<< i.toNat) (-i).toNat = n.natAbs := by
      rw [zcut]
      by_cases ci : 0 ≤ i
      · rw [show (-i).toNat = 0 by omega, Nat.zero_min, Nat.shiftLeft_eq, Nat.pow_zero, Nat.div_one]
        have : m * 2 ^ i.toNat * one1 = n.natAbs * one1 := by
          rw [← u1, Nat.mul_assoc, show (i - -1074).toNat = i.toNat + ex1 by have := ex1_is; omega, Nat.pow_add]; rfl
        exact Nat.eq_of_mul_eq_mul_right one1_pos this
      · rw [show i.toNat = 0 by omega, Nat.shiftLeft_zero]
        have hm : m = n.natAbs * 2 ^ (-i).toNat := by
          have : m * 2 ^ (i - -1074).toNat = (n.natAbs * 2 ^ (-i).toNat) * 2 ^ (i - -1074).toNat := by
            rw [u1, Nat.mul_assoc, ← Nat.pow_add, show (-i).toNat + (i - -1074).toNat = ex1 by have := ex1_is; omega]; rfl
          exact Nat.eq_of_mul_eq_mul_right (Nat.two_pow_pos _) this
        by_cases n0 : n.natAbs = 0
        · rw [n0, Nat.zero_mul] at hm
          subst hm
          rw [n0, Nat.zero_div]
        · have hl : m.log2 = n.natAbs.log2 + (-i).toNat := by rw [hm, log2_mul_pow n0]
          rw [show min (-i).toNat (m.log2 + 2) = (-i).toNat by omega, hm, Nat.mul_div_cancel _ (Nat.two_pow_pos _)]
    show some (Ieee.signed (decide (n < 0)) (Ieee.Toward.zero.cut (decide (n < 0)) (m <<< i.toNat) (-i).toNat) 0) = some n
    rw [hc]
    unfold Ieee.signed
    rw [Nat.shiftLeft_zero]
    by_cases c : n < 0
    · rw [decide_eq_true c, if_pos rfl]; congr 1; omega
    · rw [decide_eq_false c, if_neg (by simp)]; congr 1; omega
  unfold toIntV floatToIntVal
  show (match (Ieee.double.read (W n)).toInt .zero with
    | some n => if IntKind.i64.min ≤ n ∧ n ≤ IntKind.i64.max then some n else none
    | none => none) = some n
  rw [key]
  have b1 : IntKind.i64.min = -9223372036854775808 := by decide
  have b2 : IntKind.i64.max = 9223372036854775807 := by decide
  unfold Sm at h
  simp only
  rw [if_pos (by rw [b1, b2]; omega)]
end Go.Sx
