/- THE ENGINE IS SOUND, fifth part: append, whole. -/
import Derived.Test.YtehhljcjdiokjaaSxG
set_option linter.unusedSimpArgs false
set_option linter.unusedVariables false
noncomputable section
namespace Go.Sx
open M

theorem run_append_fits {P : Program} {w : World} {t ty e : TypeId} {i : TypeInfo} (ht : P.underlying t = some (.slice e)) (hi : P.info? e = some i)
    {g sLen sCap : Nat} {cur : Array Value} {ty' : TypeId} (hg : w.heap[g]? = some (.cells cur ty' (0, 0)))
    {a : Addr} {m c : Nat} {news : List Value} (hl : news.length = m * i.size) (hnews : ∀ (j : Nat) u, news[j]? = some u → w.cell? (a.add j) = some u) (h1 : ∀ u ∈ news, u.oneCell' = true)
    (hroom : sLen + m ≤ sCap) (hfit : sLen * i.size + news.length ≤ cur.size) :
    (Builtin.append_ #[t, t] ty #[.slice (some ⟨g, 0, none⟩) sLen sCap, .slice (some a) m c]).run P w =
      .ok (.slice (some ⟨g, 0, none⟩) (sLen + m) sCap) (w.setRow g (cur.toList.take (sLen * i.size) ++ news ++ cur.toList.drop (sLen * i.size + news.length)).toArray) := by
  have hf := run_firstCells_some (P := P) w i.size m a m c news hl hnews
  have hst := run_storeCells_at P g (sLen * i.size) ty' news 0 cur w hg (by simpa using hfit) h1
  simp only [Nat.add_zero] at hst
  simp [Builtin.append_, run_underlying ht, sizeOf, typeInfo, hi, Builtin.lenOf, hroom, hf, Addr.add_lit, hst]
/-- the elements that a slice of the call's own has, as cells of the world -/
theorem olds_ok {N : Nat} {μ : MM} {w : World} {nm : Nat} {own : Bool} {sz n len : Nat} {c : Cont} (hb : BkOk N μ w.heap nm (.cells own sz n c)) (hown : own = true) (hlen : len ≤ n) :
    ∃ olds : List Value, olds.length = len * sz ∧ (∀ (j : Nat) v, olds[j]? = some v → w.cell? ((⟨μ.blk nm, 0, none⟩ : Addr).add j) = some v) ∧ ∀ j, j < len → RowOk N μ (c.row j) sz olds.toArray (j * sz) := by
  obtain ⟨_, _, hcur⟩ := hb
  rcases Nat.eq_zero_or_pos len with rfl | hpos
  · exact ⟨[], by simp, fun j v h => by simp at h, fun j hj => absurd hj (by omega)⟩
  · obtain ⟨cur, ty, fz, hB, hfit, hfz, hrows⟩ := hcur (.inl (by omega))
    obtain ⟨_, _, hb0⟩ := hfz hown
    simp only [hb0, Nat.zero_add] at hfit hrows
    have hls : len * sz ≤ n * sz := Nat.mul_le_mul_right _ hlen
    refine ⟨cur.toList.take (len * sz), by simp; omega, fun j v hv => ?_, fun j hj => ?_⟩
    · rw [Addr.add_lit, cell_of hB]
      rw [List.getElem?_take] at hv
      split at hv
      · simpa using hv
      · cases hv
    · obtain ⟨rl, rc⟩ := hrows j (by omega)
      refine ⟨rl, fun o v hv => ?_⟩
      obtain ⟨h0, c', h1, h2⟩ := rc o v hv
      have ho : o < sz := by have := (List.getElem?_eq_some_iff.1 hv).1; omega
      have := row_fits hj (Nat.le_refl (len * sz))
      refine ⟨h0, c', ?_, h2⟩
      rw [List.getElem?_toArray, List.getElem?_take, if_pos (by omega)]
      simpa using h1
theorem more_row {src : Nat → List AV} {s : Bool} {len m : Nat} {c : Cont} (j : Nat) (hj : j < len + m) :
    (bif s then Cont.fn (fun j => bif decide (j < len) then c.row j else (bif Nat.beq m 1 then src 0 else src (j - len))) else Cont.more src len m c).row j = if j < len then c.row j else src (j - len) := by
  cases s with
  | true =>
    simp only [cond_true, Cont.row]
    by_cases h : j < len
    · simp [h]
    · simp only [decide_eq_false h, cond_false, if_neg h]
      cases hm : Nat.beq m 1 with
      | true =>
        have := Nat.eq_of_beq_eq_true hm
        rw [cond_true, show j - len = 0 by omega]
      | false => rfl
  | false =>
    simp only [cond_false, Cont.row_more]
    by_cases h : j < len
    · rw [if_neg (by omega), if_pos h]
    · rw [if_pos (by omega), if_neg h]
theorem appendA_sound {P : Program} {t u ty : TypeId} {x y v : AV} {g g' : G} (h : appendA P t u x y g = .done v g') :
    (g'.cs → g.cs) ∧ (g'.cs → ∀ μ w cx cy, GOk g.nx μ w.heap g.H → Rep g.nx μ x cx → Rep g.nx μ y cy → Gives g μ w g' v ((Builtin.append_ #[t, u] ty #[cx, cy]).run P w)) := by
  unfold appendA at h
  obtain ⟨e, g1, a1, h1⟩ := done_of h
  obtain ⟨ht, rfl⟩ := ofOpt_done a1
  obtain ⟨_, g2, a2, h2⟩ := done_of h1
  obtain ⟨htu, rfl⟩ := okIf_done a2
  obtain rfl := Nat.eq_of_beq_eq_true htu
  obtain ⟨z, g3, a3, h3⟩ := done_of h2
  obtain ⟨hz, rfl⟩ := ofOpt_done a3
  obtain ⟨i, zv, hi, hzv, hby, hsz, hpos, hzl, hone, hzr⟩ := zeroRow_some hz
  have ht' := sliceE_some ht
  obtain ⟨⟨ss, m, r⟩, g4, a4, h4⟩ := done_of h3
  obtain ⟨p, k4, hsrc⟩ := srcOf_sound a4 hpos
  simp only at h4 hsrc
  split at h4
  · -- onto nil
    cases hz0 : (!ss && Nat.beq m 0) with
    | true =>
      rw [hz0, cond_true] at h4
      obtain ⟨rfl, rfl⟩ := ret_done h4
      simp only [Bool.and_eq_true, Bool.not_eq_true', Bool.not_eq_true] at hz0
      obtain rfl : m = 0 := Nat.eq_of_beq_eq_true hz0.2
      refine ⟨fun hc => (k4.2.2 hc).1, fun hc μ w cx cy hg hx hy => ?_⟩
      obtain ⟨B, C, rfl, _⟩ := hsrc (k4.2.2 hc).2 g.nx μ w cy hg hy
      simp only [Rep] at hx
      subst hx
      rw [run_append_none ht' hi ty w none B 0 0 C (Nat.le_refl _)]
      exact Gives.keep0 k4 hg (by simp [Rep])
    | false =>
    rw [hz0, cond_false] at h4
    obtain ⟨_, g5, a5, h5⟩ := done_of h4
    have k5 := k4.trans (ck_done a5)
    obtain ⟨nm, g6, a6, h6⟩ := done_of h5
    obtain ⟨rfl, rfl⟩ := ret_done h6
    obtain ⟨hnm, hH, hnx, hcs⟩ := newB_done a6
    have hk := Keep.of_newB k5 hcs
    refine ⟨fun hc => (hk hc).1, fun hc μ w cx cy hg hx hy => ?_⟩
    obtain ⟨hp, hb48, hb63⟩ := (hk hc).2
    obtain ⟨B, C, rfl, hnews⟩ := hsrc hp g.nx μ w cy hg hy
    simp only [Rep] at hx
    subst hx
    have hg5 : GOk g5.nx μ w.heap g5.H := by rw [k5.1, k5.2.1]; exact hg
    rcases Nat.eq_zero_or_pos m with rfl | hm
    · obtain ⟨hg', he⟩ := newB_empty a6 hg5 hpos 0
      refine ⟨_, w, _, run_append_none ht' hi ty w none B 0 0 C (Nat.le_refl _), ?_, hg', Ext.of_keep k5 he⟩
      simp only [Rep]
      exact ⟨by omega, none, 0, rfl, Nat.le_refl _, fun h0 => absurd h0 (by omega), (fun hs => by rw [hs] at hz0; simp at hz0), fun _ => ⟨rfl, rfl, .inl ⟨rfl, rfl, rfl⟩⟩⟩
    · obtain ⟨ad, news, rfl, hnl, hcell, h1c, hrow⟩ := hnews hm
      have hrun := run_append_nil (P := P) w t ty e i zv ht' hi hzv ad m C news (by rw [hsz]; exact hnl) hcell hm (by omega) (by rw [hby]; omega)
      have hge := grownCap_ge w m 0 e
      obtain ⟨hg', he⟩ := newB_ok a6 hg5 hpos (w' := w.drew.alloc (.cells (news.toArray ++ Builtin.zeroCells zv.cells (grownCap w m 0 e - m)) e)) (.drew _ _) (grownCap w m 0 e) (by
        simp only [Array.size_append, List.size_toArray, size_zeroCells, hnl, hzl, ← Nat.add_mul]; congr 1; omega) hge (by
        intro j hj
        have := newCells_rows (N := g.nx) (μ := μ) (esz := z.1.length) (len := 0) (m := m) (olds := []) (news := news) (ro := fun _ => []) (rn := r)
          (c' := (bif ss then Cont.fn r else Cont.more r 0 m (.lit [] .e)).row) (tail := Builtin.zeroCells zv.cells (grownCap w m 0 e - m)) (by simp) (fun j hj => absurd hj (by omega)) hrow
          (fun j hj => by
            rw [if_neg (by omega), Nat.sub_zero]
            cases ss with
            | true => rfl
            | false => simp only [cond_false, Cont.row_more]; rw [if_pos (by omega), Nat.sub_zero]) j (by omega)
        rw [k5.2.1]
        simpa using this)
      refine ⟨_, _, _, hrun, ?_, hg', Ext.of_keep k5 he⟩
      simp only [Rep]
      refine ⟨by omega, _, _, rfl, hge, fun _ => ?_, fun _ => rfl, fun _ => ⟨rfl, rfl, .inr ⟨?_, ?_⟩⟩⟩
      · rw [hnm]; simp [MM.addr, MM.set_base, MM.set_blk]
      · rw [hnm, MM.set_blk]
      · rw [hnm, MM.set_cap]
  · -- onto a slice of the call's own
    rename_i s own a len
    obtain ⟨⟨bo, sz, n, c⟩, g5, a5, h5⟩ := done_of h4
    obtain ⟨hb, rfl⟩ := getC_done a5
    simp only at h5 hb
    obtain ⟨_, g6, a6, h6⟩ := done_of h5
    obtain ⟨hq, rfl⟩ := okIf_done a6
    simp only [Bool.and_eq_true] at hq
    obtain ⟨⟨rfl, rfl⟩, hszq⟩ := hq
    obtain rfl := Nat.eq_of_beq_eq_true hszq
    obtain ⟨_, g7, a7, h7⟩ := done_of h6
    have k7 := k4.trans (ck_done a7)
    obtain ⟨_, g8, a8, h8⟩ := done_of h7
    obtain ⟨nm, g9, a9, h9⟩ := done_of h8
    obtain ⟨rfl, rfl⟩ := ret_done h9
    obtain ⟨hnm, hH, hnx, hcs⟩ := newB_done a9
    obtain ⟨hH8, hnx8, hcs8⟩ := delB_done a8
    have hk := Keep.of_newB k7 (hcs.trans hcs8)
    refine ⟨fun hc => (hk hc).1, fun hc μ w cx cy hg hx hy => ?_⟩
    obtain ⟨hp, hlen, hb48, hb63⟩ := (hk hc).2
    obtain ⟨B, D, rfl, hnews⟩ := hsrc hp g.nx μ w cy hg hy
    have hg7 : GOk g7.nx μ w.heap g7.H := by rw [k7.1, k7.2.1]; exact hg
    have hb7 : g7.H.get a.g = some (.cells true z.1.length n c) := by rw [k7.1, ← k4.1]; exact hb
    obtain ⟨hg8, he8⟩ := delB_ok a8 hg7
    simp only [Rep] at hx
    obtain ⟨hag, A, C, rfl, hlC, hA, hnn, hown⟩ := hx
    obtain ⟨hai, hao, hAC⟩ := hown rfl
    obtain ⟨olds, hol, hoc, horow⟩ := olds_ok (hg7.ok _ _ hb7) rfl hlen
    have hnm8 : g8.nx = g.nx := hnx8.trans k7.2.1
    have hrows : ∀ (news : List Value) (tail : Array Value), (∀ j, j < m → RowOk g.nx μ (r j) z.1.length news.toArray (j * z.1.length)) → ∀ j, j < len + m →
        RowOk g.nx μ ((bif s || ss then Cont.fn (fun j => bif decide (j < len) then c.row j else (bif Nat.beq m 1 then r 0 else r (j - len))) else Cont.more r len m c).row j) z.1.length (olds.toArray ++ news.toArray ++ tail) (j * z.1.length) :=
      fun news tail hr j hj => newCells_rows hol (by rw [← k7.2.1]; exact horow) hr (fun j hj => more_row j hj) j hj
    rcases Nat.eq_zero_or_pos m with rfl | hm
    · have hrun := run_append_none (P := P) ht' hi ty w A B len C D hlC
      simp only [Nat.add_zero] at *
      by_cases hreal : 0 < n ∨ 0 < μ.cap a.g
      · -- the block goes on
        obtain ⟨_, _, hcur⟩ := hg7.ok _ _ hb7
        obtain ⟨cur, ty', fz, hB, hfit, hfz, hro⟩ := hcur (hreal.imp id fun h => ⟨rfl, h⟩)
        obtain ⟨rfl, hcap, hb0⟩ := hfz rfl
        simp only [hb0, Nat.zero_add] at hfit hro
        have hls : len * z.1.length ≤ n * z.1.length := Nat.mul_le_mul_right _ hlen
        obtain ⟨hg', he⟩ := reuse_ok a8 a9 hg7 hb7 hreal (w' := w) rfl rfl rfl rfl (fun _ _ => rfl) hB hcap (by omega) (by
          intro j hj
          have e := more_row (src := r) (s := s || ss) (len := len) (m := 0) (c := c) j (by omega)
          rw [if_pos hj] at e
          rw [e]; exact hro j (by omega))
        refine ⟨_, _, _, hrun, ?_, hg', Ext.of_keep k7 he⟩
        simp only [Rep]
        refine ⟨by omega, A, C, rfl, hlC, fun h0 => ?_, fun hs => hnn (by simpa using (Bool.or_eq_false_iff.1 hs).1), fun _ => ⟨rfl, rfl, ?_⟩⟩
        · rw [hA h0, hnm, hnx8]; simp [MM.addr, MM.set_base, MM.set_blk, hai, hao]
        · rw [hnm, hnx8, MM.set_blk, MM.set_cap]; exact hAC
      · -- there was none
        obtain rfl : n = 0 := by omega
        obtain rfl : len = 0 := by omega
        obtain ⟨hg', he⟩ := newB_empty a9 hg8 hpos (μ.blk a.g)
        refine ⟨_, _, _, hrun, ?_, hg', Ext.of_keep k7 (he8.trans he)⟩
        simp only [Rep]
        refine ⟨by omega, A, C, rfl, hlC, fun h0 => absurd h0 (by omega), fun hs => hnn (Bool.or_eq_false_iff.1 hs).1, fun _ => ⟨rfl, rfl, ?_⟩⟩
        rw [hnm, MM.set_blk, MM.set_cap]
        rcases hAC with hq | ⟨hq, hq2⟩
        · exact .inl hq
        · exact .inr ⟨hq, by omega⟩
    · obtain ⟨ad, news, rfl, hnl, hcell, h1c, hrow⟩ := hnews hm
      rcases hAC with ⟨rfl, rfl, rfl⟩ | ⟨rfl, rfl⟩
      · -- nil
        have hrun := run_append_nil (P := P) w t ty e i zv ht' hi hzv ad m D news (by rw [hsz]; exact hnl) hcell hm (by omega) (by rw [hby]; simp only [Nat.zero_add] at hb48; omega)
        have hge := grownCap_ge w m 0 e
        obtain rfl : olds = [] := List.eq_nil_of_length_eq_zero (by simpa using hol)
        obtain ⟨hg', he⟩ := newB_ok a9 hg8 hpos (w' := w.drew.alloc (.cells (news.toArray ++ Builtin.zeroCells zv.cells (grownCap w m 0 e - m)) e)) (.drew _ _) (grownCap w m 0 e) (by
          simp only [Array.size_append, List.size_toArray, size_zeroCells, hnl, hzl, ← Nat.add_mul]; congr 1; omega) (by omega) (by
          intro j hj
          rw [hnm8]
          have := hrows news (Builtin.zeroCells zv.cells (grownCap w m 0 e - m)) hrow j hj
          simpa using this)
        refine ⟨_, _, _, hrun, ?_, hg', Ext.of_keep k7 (he8.trans he)⟩
        simp only [Rep]
        refine ⟨by omega, _, _, by rw [Nat.zero_add], by omega, fun _ => ?_, fun _ => rfl, fun _ => ⟨rfl, rfl, .inr ⟨?_, ?_⟩⟩⟩
        · rw [hnm]; simp [MM.addr, MM.set_base, MM.set_blk]
        · rw [hnm, MM.set_blk]
        · rw [hnm, MM.set_cap]
      · by_cases hroom : len + m ≤ μ.cap a.g
        · -- there is room
          have hreal : 0 < n ∨ 0 < μ.cap a.g := .inr (by omega)
          obtain ⟨_, _, hcur⟩ := hg7.ok _ _ hb7
          obtain ⟨cur, ty', fz, hB, hfit, hfz, hro⟩ := hcur (hreal.imp id fun h => ⟨rfl, h⟩)
          obtain ⟨rfl, hcap, hb0⟩ := hfz rfl
          simp only [hb0, Nat.zero_add] at hfit hro
          have hlm : (len + m) * z.1.length ≤ μ.cap a.g * z.1.length := Nat.mul_le_mul_right _ hroom
          rw [Nat.add_mul] at hlm
          have hfit2 : len * z.1.length + news.length ≤ cur.toList.length := by rw [hnl, Array.length_toList, hcap]; exact hlm
          have hrun := run_append_fits (P := P) (ty := ty) (c := D) ht' hi hB (by rw [hsz]; exact hnl) hcell h1c hroom (by rw [hsz]; simpa using hfit2)
          rw [hsz] at hrun
          have hget := fun p => splice_get cur.toList (len * z.1.length) news hfit2 p
          obtain ⟨hg', he⟩ := reuse_ok a8 a9 hg7 hb7 hreal (w' := w.setRow (μ.blk a.g) (cur.toList.take (len * z.1.length) ++ news ++ cur.toList.drop (len * z.1.length + news.length)).toArray) rfl rfl rfl (by simp)
            (fun B hne => setRow_other w _ _ _ hne) (setRow_heap w _ cur _ ty' _ hB) (by rw [← hcap]; simp at hfit2 ⊢; omega) (by rw [Nat.add_mul]; simp at hfit2 ⊢; omega) (by
            intro j hj
            rw [more_row j hj]
            split
            · rename_i hjl
              obtain ⟨rl, rc⟩ := hro j (by omega)
              refine ⟨rl, fun o v hv => ?_⟩
              obtain ⟨h0, c', h1, h2⟩ := rc o v hv
              have ho : o < z.1.length := by have := (List.getElem?_eq_some_iff.1 hv).1; omega
              have := row_fits hjl (Nat.le_refl (len * z.1.length))
              refine ⟨h0, c', ?_, h2⟩
              rw [List.getElem?_toArray, hget, if_pos (by omega)]
              simpa using h1
            · rename_i hjl
              obtain ⟨rl, rc⟩ := hrow (j - len) (by omega)
              refine ⟨rl, fun o v hv => ?_⟩
              obtain ⟨h0, c', h1, h2⟩ := rc o v hv
              have hlt : (j - len) * z.1.length + o < news.length := by have := (Array.getElem?_eq_some_iff.1 h1).1; simpa using this
              have e3 : j * z.1.length + o = len * z.1.length + ((j - len) * z.1.length + o) := by
                rw [← Nat.add_assoc, ← Nat.add_mul]; congr 2; omega
              refine ⟨h0, c', ?_, by rw [k7.2.1]; exact h2⟩
              rw [List.getElem?_toArray, e3, hget, if_neg (by omega), if_pos (by omega), Nat.add_sub_cancel_left]
              simpa using h1)
          refine ⟨_, _, _, hrun, ?_, hg', Ext.of_keep k7 he⟩
          simp only [Rep]
          refine ⟨by omega, _, _, rfl, hroom, fun _ => ?_, fun _ => rfl, fun _ => ⟨rfl, rfl, .inr ⟨?_, ?_⟩⟩⟩
          · rw [hnm, hnx8]; simp [MM.addr, MM.set_base, MM.set_blk]
          · rw [hnm, hnx8, MM.set_blk]
          · rw [hnm, hnx8, MM.set_cap]
        · -- it grows
          have hrun := run_append_grow (P := P) w t ty e i zv ht' hi hzv ⟨μ.blk a.g, 0, none⟩ len (μ.cap a.g) olds (by rw [hsz]; exact hol) hoc ad m D news (by rw [hsz]; exact hnl) hcell (by omega) (by omega)
            (growslice_fits (by omega) (by rw [hby]; exact hb48))
          have hge := grownCap_ge w (len + m) (μ.cap a.g) e
          obtain ⟨hg', he⟩ := newB_ok a9 hg8 hpos (w' := w.drew.alloc (.cells (olds.toArray ++ news.toArray ++ Builtin.zeroCells zv.cells (grownCap w (len + m) (μ.cap a.g) e - (len + m))) e)) (.drew _ _) (grownCap w (len + m) (μ.cap a.g) e) (by
            simp only [Array.size_append, List.size_toArray, size_zeroCells, hnl, hol, hzl, ← Nat.add_mul]; congr 1; omega) hge (by
            intro j hj
            rw [hnm8]
            exact hrows news _ hrow j hj)
          refine ⟨_, _, _, hrun, ?_, hg', Ext.of_keep k7 (he8.trans he)⟩
          simp only [Rep]
          refine ⟨by omega, _, _, rfl, hge, fun _ => ?_, fun _ => rfl, fun _ => ⟨rfl, rfl, .inr ⟨?_, ?_⟩⟩⟩
          · rw [hnm]; simp [MM.addr, MM.set_base, MM.set_blk]
          · rw [hnm, MM.set_blk]
          · rw [hnm, MM.set_cap]
  · cases h4
end Go.Sx
