/- DRAWN REGIONS: the pass gives a plan: the plan. -/
import Derived.Test.YtehhljcjdiokjaaSxZ
set_option linter.unusedSimpArgs false
set_option linter.unusedVariables false
noncomputable section
namespace Go.Sx
open M

theorem limOf_is (nx0 m : Nat) : ∀ (chs : List (Nat × Nat)), limOf nx0 m chs = nx0 ∨ ∃ c ∈ chs, Nat.testBit m c.1 = true ∧ limOf nx0 m chs = c.2
  | [] => .inl rfl
  | c :: l => by
    simp only [limOf]
    cases hb : Nat.testBit m c.1 with
    | false =>
      simp only [cond_false]
      rcases limOf_is nx0 m l with h | ⟨c', h1, h2, h3⟩
      · exact .inl h
      · exact .inr ⟨c', List.mem_cons_of_mem _ h1, h2, h3⟩
    | true =>
      simp only [cond_true]
      rcases Nat.le_total c.2 (limOf nx0 m l) with h | h
      · rw [Nat.max_eq_right h]
        rcases limOf_is nx0 m l with h | ⟨c', h1, h2, h3⟩
        · exact .inl h
        · exact .inr ⟨c', List.mem_cons_of_mem _ h1, h2, h3⟩
      · rw [Nat.max_eq_left h]
        exact .inr ⟨c, List.mem_cons_self, hb, rfl⟩

section
variable {P : Program} {call : Calls'} {ops : Array Oper} {nT : Nat} {ms : List Nat} {Ts : List (List Nat)} {NX : Nat} {g g' : G} {fr : Fr} {rcs : List Rc}
def befP (ops : Array Oper) (ms : List Nat) (k j : Nat) : Bool := Nat.blt j ops.size && befM ms k j
theorem befP_lt (hst : staticOk ms nT 0 0 ops.toList = true) : ∀ (j k : Nat), befP ops ms k j = true → k < j := by
  intro j
  induction j using Nat.strongRecOn with
  | _ j ih =>
    intro k h
    simp only [befP, Bool.and_eq_true] at h
    have hj : j < ops.size := blt_lt h.1
    obtain ⟨s1, s2, _⟩ := staticOk_at hst j ops[j] (by simp [hj])
    have hb := h.2
    unfold befM at hb
    rw [Nat.zero_add] at s1 s2
    rw [s2, maskOf_bit] at hb
    obtain ⟨e, he, hbi, hk⟩ := hb
    have hlt := s1 e he hbi
    rcases hk with rfl | hk
    · exact hlt
    · exact Nat.lt_trans (ih e.on hlt k (by simp only [befP, Bool.and_eq_true]; exact ⟨Nat.ble_eq_true_of_le (by omega), hk⟩)) hlt
def planOf (hcall : CallOk P call) (hct : CallT call) (hst : staticOk ms nT 0 0 ops.toList = true)
    (hp : passA P call ⟨nT, ops.toList, ms, Ts, NX, g.nx⟩ 0 ops.toList fr [] g = .done rcs g') (hseen : seenOk ⟨nT, ops.toList, ms, Ts, NX, g.nx⟩ 0 rcs = true) (hNX : g'.nx ≤ NX) : Plan P ops nT g g' fr (lastFr fr rcs) :=
  have hat := passA_at hp
  have len : rcs.length = ops.size := by rw [hat.1]; simp
  have at_j : ∀ j (hj : j < ops.size), ∃ rc chs', rcs[j]? = some rc ∧ RcOk P call ⟨nT, ops.toList, ms, Ts, NX, g.nx⟩ j ops[j] (frAt fr rcs j) chs' (gAt g rcs j) rc (gAt g rcs (j + 1)) ∧
      (∀ c ∈ chs', ∃ m r, m < j ∧ rcs[m]? = some r ∧ r.ch = true ∧ c = (m, r.g1.nx)) ∧ (∀ m r, m < j → rcs[m]? = some r → r.ch = true → (m, r.g1.nx) ∈ chs') := fun j hj => by
    obtain ⟨rc, chs', h1, h2, h3, _, h5⟩ := hat.2.2.2 j ops[j] (by simp [hj])
    rw [Nat.zero_add] at h2
    refine ⟨rc, chs', h1, h2, fun c hc => ?_, fun m r hm hr hch => by simpa using h5 m r hm hr hch⟩
    rcases h3 c hc with h | ⟨m, r, k1, k2, k3, k4⟩
    · cases h
    · exact ⟨m, r, k1, k2, k3, by simpa using k4⟩
  have dstC : ∀ k, (Cfg.mk nT ops.toList ms Ts NX g.nx).dst k = dstOf ops k := fun k => by simp [Cfg.dst, dstOf]
  have mem_inc : ∀ k j, k < ops.size → j < ops.size → k ≠ j → befP ops ms k j = false → befP ops ms j k = false → k ∈ (Cfg.mk nT ops.toList ms Ts NX g.nx).inc j := fun k j hk hj hne h1 h2 => by
    unfold Cfg.inc
    rw [mem_incs]
    simp only [befP, show Nat.blt j ops.size = true from Nat.ble_eq_true_of_le hj, show Nat.blt k ops.size = true from Nat.ble_eq_true_of_le hk, Bool.true_and] at h1 h2
    exact ⟨by simpa using hk, hne, h1, h2⟩
  have trj : ∀ j (hj : j < ops.size) rc, rcs[j]? = some rc → ∃ l, rc.gout.tch = l ++ [] ∧ rc.gin.nx ≤ rc.gout.nx ∧ ∀ nm, nm < rc.gin.nx → nm ∉ l → rc.gout.H.get nm = rc.gin.H.get nm := fun j hj rc hrc => by
    obtain ⟨rc', chs', h1, h2, _⟩ := at_j j hj
    rw [hrc] at h1
    cases h1
    have := (Tch.oneA P hct _ _ _ _).of _ _ _ h2.run
    rw [← h2.tin]
    exact this
  { V := fun j => ((rcs[j]?).map (·.v)).getD .top
    fr := frAt fr rcs
    H := fun j => (gAt g rcs j).H
    nx := fun j => (gAt g rcs j).nx
    ch := fun j => ((rcs[j]?).map (·.ch)).getD false
    T := fun j => ((rcs[j]?).map (·.T)).getD []
    bef := befP ops ms
    fin := fun j => ((rcs[j]?).map (·.fin)).getD .e
    gin := fun j => ((rcs[j]?).map (·.gin)).getD g
    gout := fun j => ((rcs[j]?).map (·.gout)).getD g
    lim := fun j => ((rcs[j]?).map (·.lim)).getD g.nx
    NX := NX
    fr_0 := rfl
    fr_n := by rw [← hat.2.2.1]; simp
    H_0 := rfl
    nx_0 := rfl
    H_n := by rw [← hat.2.1]; simp
    nx_n := by rw [← hat.2.1]; simp
    fin_ok := fun j hj t v h => by
      obtain ⟨rc, chs', h1, h2, _⟩ := at_j j hj
      simp only [h1, Option.map_some, Option.getD_some, h2.fin, Cfg.fin, get_eraseAll] at h
      split at h
      · cases h
      · rename_i hn
        refine ⟨h, fun k hk hne b1 b2 e => hn ?_⟩
        rw [List.mem_filterMap]
        exact ⟨k, mem_inc k j hk hj hne b1 b2, by rw [dstC, e]⟩
    fr_s := fun j hj t => by
      obtain ⟨rc, chs', h1, h2, _⟩ := at_j j hj
      have e : frAt fr rcs (j + 1) = rc.fr1 := by simp [frAt, h1]
      have hd : dstOf ops j = (ops[j]).dst := by simp [dstOf, hj]
      rw [e, h2.fr1, hd]
      simp only [h1, Option.map_some, Option.getD_some, nextFr]
      cases hdd : (ops[j]).dst with
      | none => simp
      | some d =>
        simp only [T.get_upd, Option.some.injEq]
        by_cases ht : t = d
        · rw [if_pos ht, if_pos ht.symm]
        · rw [if_neg ht, if_neg (Ne.symm ht)]
    dst_lt := fun j hj d hd => by
      have := (staticOk_at hst j ops[j] (by simp [hj])).2.2 d (by simpa [dstOf, hj] using hd)
      exact this.1
    dst_inj := fun i j d hi hj h1 h2 => by
      have e1 : (ops[i]).dst = some d := by simpa [dstOf, hi] using h1
      have e2 : (ops[j]).dst = some d := by simpa [dstOf, hj] using h2
      rcases Nat.lt_trichotomy i j with h | h | h
      · exact absurd e2 (((staticOk_at hst i ops[i] (by simp [hi])).2.2 d e1).2.2 j ops[j] h (by simp [hj]))
      · exact h
      · exact absurd e1 (((staticOk_at hst j ops[j] (by simp [hj])).2.2 d e2).2.2 i ops[i] h (by simp [hi]))
    bef_lt := fun k j h => befP_lt hst j k h
    bef_edge := fun j o ho e he hb => by
      have hj := (Array.getElem?_eq_some_iff.1 ho).1
      have s2 := (staticOk_at hst j o (by simpa using ho)).2.1
      rw [Nat.zero_add] at s2
      simp only [befP, Bool.and_eq_true]
      refine ⟨Nat.ble_eq_true_of_le hj, ?_⟩
      unfold befM
      rw [s2, maskOf_bit]
      exact ⟨e, he, hb, .inl rfl⟩
    bef_inv := fun k j hj h => by
      have s := staticOk_at hst j ops[j] (by simp [hj])
      simp only [befP, Bool.and_eq_true] at h
      have hb := h.2
      unfold befM at hb
      have s2 := s.2.1
      rw [Nat.zero_add] at s2
      rw [s2, maskOf_bit] at hb
      obtain ⟨e, he, hbi, hk⟩ := hb
      refine ⟨ops[j], e, by simp [hj], he, hbi, hk.imp id fun hk => ?_⟩
      have := s.1 e he hbi
      simp only [befP, Bool.and_eq_true]
      exact ⟨Nat.ble_eq_true_of_le (by omega), hk⟩
    op_ok := fun j o ho hcs μ w a hg hf => by
      have hj := (Array.getElem?_eq_some_iff.1 ho).1
      obtain ⟨rc, chs', h1, h2, _⟩ := at_j j hj
      have eo : o = ops[j] := by rw [Array.getElem?_eq_getElem hj] at ho; cases ho; rfl
      simp only [h1, Option.map_some, Option.getD_some] at hcs hg hf ⊢
      rw [eo]
      exact (oneA_sound hcall h2.run).2 hcs μ w a nT hg hf
    tr_nx := fun j hj => by
      obtain ⟨rc, chs', h1, h2, _⟩ := at_j j hj
      simp only [h1, Option.map_some, Option.getD_some]
      exact h2.nxs
    tr := fun j hj nm hn hT => by
      obtain ⟨rc, chs', h1, h2, _⟩ := at_j j hj
      obtain ⟨l, t1, _, t3⟩ := trj j hj rc h1
      simp only [h1, Option.map_some, Option.getD_some] at hn hT ⊢
      refine t3 nm hn ?_
      rw [List.append_nil] at t1
      rw [← t1]
      cases hc : rc.ch with
      | true => rw [← (h2.chain hc).2.2.1]; exact hT
      | false =>
        obtain ⟨_, e, hx, _⟩ := h2.read hc
        intro hm
        have : NX ≤ nm := hx nm hm
        rw [e] at hn
        simp only [readIn] at hn
        omega
    reader := fun j hj hc => by
      obtain ⟨rc, chs', h1, h2, _⟩ := at_j j hj
      simp only [h1, Option.map_some, Option.getD_some] at hc ⊢
      obtain ⟨r1, r2, r3, r4, r5, r6, _⟩ := h2.read hc
      refine ⟨r5, r6, r1, r4, by rw [r2]; rfl, fun nm b hb => ?_⟩
      rw [r2] at hb
      simp only [readIn] at hb
      cases hl : light (ops[j]).op with
      | true => rw [hl] at hb; simp [T.get] at hb
      | false =>
        rw [hl] at hb
        simp only [cond_false, get_eraseAll, get_cutT, Nat.one_mul, Nat.add_zero] at hb
        split at hb
        · cases hb
        · rename_i hn
          split at hb
          · rename_i hlt
            refine ⟨hb, hlt, fun k hk hne hck b1 b2 hT => ?_⟩
            obtain ⟨rk, chk, k1, k2, _⟩ := at_j k hk
            simp only [k1, Option.map_some, Option.getD_some] at hT
            rcases seenOk_at hseen k rk k1 with hs | hs
            · refine hn ?_
              rw [List.mem_flatMap]
              exact ⟨k, mem_inc k j hk hj hne b1 b2, by simpa using hs nm hT⟩
            · have := hs j (by rw [Nat.zero_add]; exact mem_inc j k hj hk (Ne.symm hne) b2 b1) ops[j] (by simp [hj])
              rw [hl] at this
              cases this
          · cases hb
    chain := fun j hj hc => by
      obtain ⟨rc, chs', h1, h2, _⟩ := at_j j hj
      simp only [h1, Option.map_some, Option.getD_some] at hc ⊢
      obtain ⟨r1, r2, r3, r4, r5, _⟩ := h2.chain hc
      exact ⟨r1, r2, r4, r5⟩
    ch_total := fun i j hij hj hi hc => by
      obtain ⟨rc, chs', h1, h2, h3, h4⟩ := at_j j hj
      obtain ⟨ri, chi, i1, i2, _⟩ := at_j i (by omega)
      simp only [h1, i1, Option.map_some, Option.getD_some] at hc hi
      have := (h2.chain hc).2.2.2.2.2.2 _ (h4 i ri hij i1 hi)
      simp only [befP, Bool.and_eq_true]
      exact ⟨Nat.ble_eq_true_of_le hj, this⟩
    lim_is := fun j hj => by
      obtain ⟨rc, chs', h1, h2, h3, h4⟩ := at_j j hj
      simp only [h1, Option.map_some, Option.getD_some, h2.lim]
      rcases limOf_is g.nx (ms.getD j 0) chs' with h | ⟨c, c1, c2, c3⟩
      · exact .inl h
      · obtain ⟨m, r, m1, m2, m3, rfl⟩ := h3 c c1
        refine .inr ⟨m, by omega, ?_, ?_, ?_⟩
        · simp [m2, m3]
        · simp only [befP, Bool.and_eq_true]
          exact ⟨Nat.ble_eq_true_of_le hj, c2⟩
        · rw [c3]; simp [gAt, m2]
    NX_ok := by rw [show ops.size = ops.toList.length by simp, hat.2.1]; exact hNX
    cs_ok := fun hcs => by
      have key : ∀ d j, j + d = ops.size → (gAt g rcs j).cs := by
        intro d
        induction d with
        | zero => intro j hj; rw [show j = ops.toList.length by simp; omega, hat.2.1]; exact hcs
        | succ d ih =>
          intro j hj
          obtain ⟨rc, chs', h1, h2, _⟩ := at_j j (by omega)
          have := ih (j + 1) (by omega)
          rw [h2.csout] at this
          rw [← h2.csin]
          exact (oneA_sound hcall h2.run).1 this
      intro j hj
      obtain ⟨rc, chs', h1, h2, _⟩ := at_j j hj
      simp only [h1, Option.map_some, Option.getD_some]
      rw [← h2.csout]
      exact key (ops.size - (j + 1)) (j + 1) (by omega)
    cs_0 := fun hcs => by
      have key : ∀ d j, j + d = ops.size → (gAt g rcs j).cs := by
        intro d
        induction d with
        | zero => intro j hj; rw [show j = ops.toList.length by simp; omega, hat.2.1]; exact hcs
        | succ d ih =>
          intro j hj
          obtain ⟨rc, chs', h1, h2, _⟩ := at_j j (by omega)
          have := ih (j + 1) (by omega)
          rw [h2.csout] at this
          rw [← h2.csin]
          exact (oneA_sound hcall h2.run).1 this
      exact key ops.size 0 (by omega) }
end
end Go.Sx
