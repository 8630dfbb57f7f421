/- DRAWN REGIONS: every order, by a plan. -/
import Derived.Test.YtehhljcjdiokjaaSxT
set_option linter.unusedSimpArgs false
set_option linter.unusedVariables false
noncomputable section
namespace Go.Sx
open M

mutual
theorem Rep.isLow {N : Nat} {μ : MM} : ∀ {v : AV} {c : Value}, Rep N μ v c → v.low N = true
  | .top, _, _ => rfl
  | .bool _, _, _ => rfl
  | .sbool _, _, _ => rfl
  | .int .., _, _ => rfl
  | .flt .., _, _ => rfl
  | .raw .., _, _ => rfl
  | .bits .., _, _ => rfl
  | .cpx .., _, _ => rfl
  | .str .., _, _ => rfl
  | .ptr a, _, r => by simp only [Rep] at r; exact Nat.ble_eq_true_of_le r.1
  | .nilp, _, _ => rfl
  | .slc _ own a len, _, r => by simp only [Rep] at r; exact Nat.ble_eq_true_of_le r.1
  | .nils, _, _ => rfl
  | .mp g, _, r => by simp only [Rep] at r; exact Nat.ble_eq_true_of_le r.1
  | .nilm, _, _ => rfl
  | .fn f l cap, _, r => by
    simp only [Rep] at r
    obtain ⟨fs, cs, rfl, h1, h2⟩ := r
    simp only [AV.low, Reps.isLow h1, Reps.isLow h2, Bool.and_self]
  | .nilf, _, _ => rfl
  | .nili, _, _ => rfl
  | .agg l, _, r => by
    simp only [Rep] at r
    obtain ⟨cs, rfl, h1⟩ := r
    simp only [AV.low, Reps.isLow h1]
  | .tup l, _, r => by
    simp only [Rep] at r
    obtain ⟨cs, rfl, h1⟩ := r
    simp only [AV.low, Reps.isLow h1]
theorem Reps.isLow {N : Nat} {μ : MM} : ∀ {l : List AV} {cs : List Value}, Reps N μ l cs → lows N l = true
  | [], _, _ => rfl
  | v :: l, _, r => by
    simp only [Reps] at r
    obtain ⟨c, t, rfl, h1, h2⟩ := r
    simp only [lows, Rep.isLow h1, Reps.isLow h2, Bool.and_self]
end
/-- a block of old contents, told of by the old names -/
theorem BkOk.back {N N' : Nat} {μ μ' : MM} (h : MM.upto N μ μ') {hp hp' : Array Obj} {g : Nat} (hg : g < N) {b : ABk} (r : BkOk N μ hp g b) (r' : BkOk N' μ' hp' g b) : BkOk N μ hp' g b := by
  cases b with
  | cells own sz n c =>
    simp only [BkOk, h.blk g hg, h.cap g hg, h.sz g hg, h.base g hg] at r r' ⊢
    refine ⟨r.1, r.2.1, fun hr => ?_⟩
    obtain ⟨cur, ty, fz, h1, h2, h3, h4⟩ := r'.2.2 hr
    obtain ⟨_, _, _, _, _, _, k4⟩ := r.2.2 hr
    refine ⟨cur, ty, fz, h1, h2, h3, fun i hi => ⟨(h4 i hi).1, fun o v hv => ?_⟩⟩
    obtain ⟨e1, cv, e2, e3⟩ := (h4 i hi).2 o v hv
    obtain ⟨_, cv', _, e4⟩ := (k4 i hi).2 o v hv
    exact ⟨e1, cv, e2, Rep.ofLow h e4.isLow e3⟩
  | mSI s l => simp only [BkOk, h.blk g hg] at r r' ⊢; exact r'
  | mII s l => simp only [BkOk, h.blk g hg] at r r' ⊢; exact r'
  | sit s l pos => simp only [BkOk, h.blk g hg, h.base g hg] at r r' ⊢; exact r'
theorem GOk.up {N N' : Nat} {μ : MM} {hp : Array Obj} {H H' : T ABk} (h : GOk N μ hp H) (hN : N ≤ N') (hs : ∀ g b, H'.get g = some b → H.get g = some b) : GOk N' μ hp H' where
  lt := fun g b hg => Nat.lt_of_lt_of_le (h.lt g b (hs g b hg)) hN
  ok := fun g b hg => (h.ok g b (hs g b hg)).later (MM.upto.refl _ _) hN (h.lt g b (hs g b hg)) fun _ => rfl
  sep := fun g b g' b' hg hg' => h.sep g b g' b' (hs _ _ hg) (hs _ _ hg')
theorem MM.upto.mono {N N' : Nat} {μ μ' : MM} (h : MM.upto N' μ μ') (hN : N ≤ N') : MM.upto N μ μ' :=
  ⟨fun g hg => h.blk g (by omega), fun g hg => h.cap g (by omega), fun g hg => h.sz g (by omega), fun g hg => h.base g (by omega)⟩
theorem Ext.swap {g h g' h' : G} {μ μ' : MM} {w w' : World} (e : Ext g μ w g' μ' w') (h1 : h.H = g.H) (h2 : h.nx = g.nx) (h3 : h'.H = g'.H) (h4 : h'.nx = g'.nx) : Ext h μ w h' μ' w' where
  nx := by rw [h2, h4]; exact e.nx
  names := by rw [h2]; exact e.names
  os := e.os
  tape := e.tape
  output := e.output
  size := e.size
  block := fun B hB hn => e.block B hB (by rw [← h1]; exact hn)
  may := fun B hB hm => by rw [h1]; exact e.may B hB (by rw [← h3]; exact hm)

theorem getD_put_ne {a : Act} {dst : Option Tmp} {c : Value} {t : Nat} (h : dst ≠ some t) : (a.put dst c).tmps.getD t undef = a.tmps.getD t undef := by
  cases dst with
  | none => rfl
  | some d =>
    have : d ≠ t := fun e => h (by rw [e])
    simp only [Act.put, Array.getD_eq_getD_getElem?]
    rw [Array.getElem?_setIfInBounds_ne this]
theorem getD_put_eq {a : Act} {c : Value} {d : Nat} (h : d < a.tmps.size) : (a.put (some d) c).tmps.getD d undef = c := by
  have : d < (a.tmps.setIfInBounds d c).size := by simpa using h
  simp only [Act.put, Array.getD_eq_getD_getElem?, Array.getElem?_eq_getElem this]
  simp
theorem size_put {a : Act} {dst : Option Tmp} {c : Value} : (a.put dst c).tmps.size = a.tmps.size := by cases dst <;> simp [Act.put]

namespace Plan
variable {P : Program} {ops : Array Oper} {nT : Nat} {g0 gf : G} {fr0 frf : Fr} {L : Plan P ops nT g0 gf fr0 frf}
theorem lim_le {j p : Nat} (hj : j < ops.size) (hp : p ≤ ops.size) (h : ∀ k, L.ch k = true → L.bef k j = true → k < p) : L.lim j ≤ L.nx p := by
  rcases L.lim_is j hj with e | ⟨k, hk, hc, hb, e⟩
  · rw [e]; exact L.nx_mono 0 p (by omega) hp
  · rw [e]; exact L.nx_mono (k + 1) p (h k hc hb) hp
theorem Inv.reads {μ0 : MM} {w0 : World} {a0 : Act} {D : Nat → Prop} {a : Act} {w : World} {p : Nat} {μ : MM} (I : L.Inv μ0 w0 a0 D a w p μ) {j : Nat} (hj : j < ops.size) (hD : ¬ D j)
    (hP : ∀ k, L.bef k j = true → D k) (hc : L.ch j = false) {nm : Nat} {b : ABk} (h : (L.gin j).H.get nm = some b) : (L.H p).get nm = some b := by
  obtain ⟨_, _, _, _, _, h6⟩ := L.reader j hj hc
  obtain ⟨h7, h8, h9⟩ := h6 nm b h
  by_cases hpj : p ≤ j
  · have l1 : L.lim j ≤ L.nx p := lim_le hj I.p_le fun k hk hb => (I.p_ok k (by have := L.bef_lt _ _ hb; omega) hk).1 (hP k hb)
    rw [← L.agree p j nm hpj (by omega) (by omega) fun k k1 k2 k3 => ?_]
    · exact h7
    · have hnD : ¬ D k := fun hd => by have := (I.p_ok k (by omega) k3).1 hd; omega
      refine h9 k (by omega) (by omega) k3 ?_ ?_
      · cases hb : L.bef k j with
        | false => rfl
        | true => exact absurd (hP k hb) hnD
      · cases hb : L.bef j k with
        | false => rfl
        | true => have := L.bef_lt _ _ hb; omega
  · have l2 : L.lim j ≤ L.nx j := lim_le hj (by omega) fun k hk hb => L.bef_lt _ _ hb
    rw [L.agree j p nm (by omega) I.p_le (by omega) fun k k1 k2 k3 => ?_]
    · exact h7
    · have hk : k < ops.size := by have := I.p_le; omega
      have hd : D k := (I.p_ok k hk k3).2 k2
      refine h9 k hk (fun e => hD (e ▸ hd)) k3 ?_ ?_
      · cases hb : L.bef k j with
        | false => rfl
        | true => have := L.bef_lt _ _ hb; omega
      · cases hb : L.bef j k with
        | false => rfl
        | true => exact absurd (I.down k hk hd j hb) hD
theorem Inv.chains {μ0 : MM} {w0 : World} {a0 : Act} {D : Nat → Prop} {a : Act} {w : World} {p : Nat} {μ : MM} (I : L.Inv μ0 w0 a0 D a w p μ) {j : Nat} (hj : j < ops.size) (hD : ¬ D j)
    (hP : ∀ k, L.bef k j = true → D k) (hc : L.ch j = true) : L.H j = L.H p ∧ L.nx j = L.nx p := by
  have hpj : p ≤ j := by
    rcases Nat.lt_or_ge j p with h | h
    · exact absurd ((I.p_ok j hj hc).2 h) hD
    · exact h
  refine L.same p j hpj (by omega) fun k k1 k2 => ?_
  cases hk : L.ch k with
  | false => rfl
  | true =>
    have := (I.p_ok k (by omega) hk).1 (hP k (L.ch_total k j k2 hj hk hc))
    omega
theorem Inv.after {μ0 : MM} {w0 : World} {a0 : Act} {D : Nat → Prop} {a : Act} {w : World} {p : Nat} {μ : MM} (I : L.Inv μ0 w0 a0 D a w p μ) {j : Nat} (hj : j < ops.size) (hD : ¬ D j)
    (hP : ∀ k, L.bef k j = true → D k) {c : Value} {w' : World} (hA : After (L.gin j) μ w (L.gout j) (L.V j) c w') : ∃ p' μ', L.Inv μ0 w0 a0 (fun k => D k ∨ k = j) (a.put (dstOf ops j) c) w' p' μ' := by
  obtain ⟨μ', hv, hg', hE⟩ := hA
  have hne : ∀ k, k < ops.size → D k → ∀ d, dstOf ops k = some d → dstOf ops j ≠ some d := fun k hk hDk d hd e => hD (by rw [L.dst_inj j k d hj hk e hd]; exact hDk)
  have rest : ∀ t, (∀ k, k < ops.size → (D k ∨ k = j) → dstOf ops k ≠ some t) → (a.put (dstOf ops j) c).tmps.getD t undef = a0.tmps.getD t undef := fun t ht => by
    rw [getD_put_ne (ht j hj (.inr rfl))]
    exact I.rest t fun k hk hDk => ht k hk (.inl hDk)
  have down : ∀ i, i < ops.size → (D i ∨ i = j) → ∀ k, L.bef k i = true → D k ∨ k = j := fun i hi hDi k hb => by
    rcases hDi with h | rfl
    · exact .inl (I.down i hi h k hb)
    · exact .inl (hP k hb)
  have size : nT ≤ (a.put (dstOf ops j) c).tmps.size := by rw [size_put]; exact I.size
  have own : ∀ d, dstOf ops j = some d → (a.put (dstOf ops j) c).tmps.getD d undef = c := fun d hd => by
    rw [hd]; exact getD_put_eq (Nat.lt_of_lt_of_le (L.dst_lt j hj d hd) I.size)
  cases hc : L.ch j with
  | false =>
    obtain ⟨h1, h2, h3, h4, h5, h6⟩ := L.reader j hj hc
    have sub : ∀ nm b, (L.gin j).H.get nm = some b → (L.H p).get nm = some b := fun nm b h => I.reads hj hD hP hc h
    have hpn : L.nx p ≤ L.NX := Nat.le_trans (L.nx_mono p _ I.p_le (Nat.le_refl _)) L.NX_ok
    have hlim : L.lim j ≤ L.nx p := lim_le hj I.p_le fun k hk hb => (I.p_ok k (by have := L.bef_lt _ _ hb; omega) hk).1 (hP k hb)
    have names : MM.upto L.NX μ μ' := by rw [← h5]; exact hE.names
    have mayS : ∀ B, May μ (L.gin j).H B → May μ (L.H p) B := fun B ⟨g, b, e1, e2, e3, e4⟩ => ⟨g, b, sub g b e1, e2, e3, e4⟩
    refine ⟨p, μ, ?_⟩
    exact {
      p_le := I.p_le
      p_ok := fun k hk hck => by
        have hkj : k ≠ j := fun e => by rw [e, hc] at hck; cases hck
        rw [← I.p_ok k hk hck]
        exact ⟨fun h => h.resolve_right hkj, .inl⟩
      gok := {
        lt := I.gok.lt
        sep := I.gok.sep
        ok := fun nm b hb => by
          have hlt := I.gok.lt nm b hb
          have old := I.gok.ok nm b hb
          cases hin : (L.gin j).H.get nm with
          | some b' =>
            have e := sub nm b' hin
            rw [hb] at e
            cases e
            have hout : (L.gout j).H.get nm = some b := by rw [L.tr j hj nm (by rw [h5]; omega) (by rw [h3]; simp)]; exact hin
            exact old.back (names.mono hpn) hlt (hg'.ok nm b hout)
          | none =>
            refine old.later (MM.upto.refl _ _) (Nat.le_refl _) hlt fun hr => hE.block _ (old.lt_size hr) ?_
            rintro ⟨g, b', e1, e2, e3, e4⟩
            have := I.gok.sep g b' nm b (sub g b' e1) hb e2 e3 hr e4
            rw [this, hin] at e1
            cases e1 }
      ext := fun g e1 e2 => (I.ext g e1 e2).trans {
        nx := Nat.le_refl _
        names := MM.upto.refl _ _
        os := hE.os
        tape := hE.tape
        output := hE.output
        size := hE.size
        block := fun B hB hn => hE.block B hB fun hm => hn (by rw [e1]; exact mayS B hm)
        may := fun B hB hm => hm }
      defers := by rw [Act.put_defers]; exact I.defers
      size := size
      done := fun k hk hDk d hd => by
        rcases hDk with h | rfl
        · rw [getD_put_ne (hne k hk h d hd)]; exact I.done k hk h d hd
        · rw [own d hd]
          exact (Rep.ofLow (names.mono (Nat.le_trans hlim hpn)) h4 hv).later (MM.upto.refl _ _) hlim
      rest := rest
      down := down }
  | true =>
    obtain ⟨h1, h2, h3, h4⟩ := L.chain j hj hc
    obtain ⟨e1, e2⟩ := I.chains hj hD hP hc
    refine ⟨j + 1, μ', ?_⟩
    exact {
      p_le := hj
      p_ok := fun k hk hck => by
        constructor
        · rintro (h | rfl)
          · rcases Nat.lt_trichotomy k j with h' | h' | h'
            · omega
            · omega
            · exact absurd (I.down k hk h j (L.ch_total j k h' hk hc hck)) hD
          · omega
        · intro h
          by_cases hkj : k = j
          · exact .inr hkj
          · exact .inl (hP k (L.ch_total k j (by omega) hj hck hc))
      gok := by rw [h3, h4]; exact hg'
      ext := fun g f1 f2 => ((I.ext (L.gin j) (by rw [h1, e1]) (by rw [h2, e2])).trans hE).swap rfl rfl (by rw [f1, h3]) (by rw [f2, h4])
      defers := by rw [Act.put_defers]; exact I.defers
      size := size
      done := fun k hk hDk d hd => by
        rcases hDk with h | rfl
        · rw [getD_put_ne (hne k hk h d hd), h4]
          exact (I.done k hk h d hd).later (by rw [← e2, ← h2]; exact hE.names) (by rw [← e2, ← h2]; exact hE.nx)
        · rw [own d hd, h4]
          exact hv
      rest := rest
      down := down }
end Plan
end Go.Sx
