/- THE ENGINE IS SOUND: maps, the runes of a text, texts of bytes. -/
import Derived.Test.YtehhljcjdiokjaaSxO
set_option linter.unusedSimpArgs false
set_option linter.unusedVariables false
noncomputable section
namespace Go.Sx
open M

/-! ### new blocks and changed ones that are no cells -/
theorem newO_ok {b : ABk} {o : Obj} {g g' : G} {nm : Nat} (h : newB b g = .done nm g') {μ : MM} {w w' : World} (hg : GOk g.nx μ w.heap g.H) (hw : Pushed w w' o)
    (hb : ∀ N μ' hp k, hp[μ'.blk k]? = some o → μ'.base k = 0 → BkOk N μ' hp k b) :
    GOk g'.nx (μ.set g.nx w.heap.size 0 0) w'.heap g'.H ∧ Ext g μ w g' (μ.set g.nx w.heap.size 0 0) w' := by
  obtain ⟨_, hH, hnx, _⟩ := newB_done h
  have hu : MM.upto g.nx μ (μ.set g.nx w.heap.size 0 0) := MM.upto_set μ (Nat.le_refl _)
  constructor
  · rw [hH, hnx]
    refine hg.upd hu (by omega) (by omega) ?_ ?_ ?_
    · rintro _ ⟨⟩
      exact hb _ _ _ _ (by rw [MM.set_blk]; exact hw.new) (MM.set_base ..)
    · intro g1 b1 hg1 _ hr1
      exact hw.old ((hg.ok _ _ hg1).lt_size hr1)
    · rintro _ ⟨⟩ _ g1 b1 hg1 _ hr1 _ e
      have := (hg.ok _ _ hg1).lt_size hr1
      rw [MM.set_blk] at e; omega
  · refine ⟨by omega, hu, hw.os, hw.tape, hw.output, by rw [hw.heap]; simp, fun B hB _ => hw.old hB, fun B hB hm => ?_⟩
    obtain ⟨g1, b1, hg1, ho1, hr1, e⟩ := hm
    rw [hH, T.get_upd] at hg1
    split at hg1
    · rename_i e1
      rw [e1, MM.set_blk] at e; omega
    · have hlt := hg.lt _ _ hg1
      rw [ABk.real_later hu hlt] at hr1
      rw [hu.blk _ hlt] at e
      exact ⟨g1, b1, hg1, ho1, hr1, e⟩
theorem setO_ok {b0 b : ABk} {o o0 : Obj} {g g' : G} {nm : Nat} {u : Unit} (h : setB nm b g = .done u g') {μ : MM} {w : World} (hg : GOk g.nx μ w.heap g.H) (h0 : g.H.get nm = some b0) (ho0 : b0.owned = true) (hr0 : b0.real μ nm)
    (hb : ∀ hp : Array Obj, hp[μ.blk nm]? = some o → BkOk g.nx μ hp nm b) (hB : w.heap[μ.blk nm]? = some o0) :
    GOk g'.nx μ (w.heap.setIfInBounds (μ.blk nm) o) g'.H ∧ Ext g μ w g' μ { w with heap := w.heap.setIfInBounds (μ.blk nm) o } := by
  obtain ⟨hH, hnx, hcs⟩ := setB_done h
  constructor
  · rw [hH, hnx]
    refine hg.upd (.refl _ _) (Nat.le_refl _) (hg.lt _ _ h0) ?_ ?_ ?_
    · rintro _ ⟨⟩; exact hb _ (MapKept.heap_set hB).1
    · intro g1 b1 hg1 hne hr1
      refine (MapKept.heap_set hB).2 _ fun e => hne ?_
      exact (hg.sep _ _ _ _ h0 hg1 ho0 hr0 hr1 e.symm).symm
    · rintro _ ⟨⟩ hr1 g1 b1 hg1 hne hr2 _ e
      exact hne (hg.sep _ _ _ _ h0 hg1 ho0 hr0 hr2 e).symm
  · refine ⟨by omega, .refl _ _, rfl, rfl, rfl, by simp, fun B _ hnm => (MapKept.heap_set hB).2 B fun e => hnm ?_, fun B hB hm => ?_⟩
    · rw [e]; exact May.of h0 ho0 hr0
    · obtain ⟨g1, b1, hg1, ho1, hr1, rfl⟩ := hm
      rw [hH, T.get_upd] at hg1
      split at hg1
      · rename_i e; rw [e]; exact May.of h0 ho0 hr0
      · exact May.of hg1 ho1 hr1

/-! ### maps -/
def entG {α : Type} (enc : α → Value) (l : List (α × Int)) (es : List MapEntry) : Prop := es.map (fun e => (e.key, e.val)) = l.map fun p => (enc p.1, Value.int .i64 p.2)
section
variable {α : Type} {enc : α → Value} {eq : α → α → Bool} {d : TypeDesc} (hsame : ∀ a b, Instr.sameNow d (enc a) (enc b) = some (eq a b)) (heq : ∀ a b, eq a b = true → a = b)
include hsame
theorem find_none (x : α) (v : Int) (c : Nat) : ∀ (l : List (α × Int)) (es : List MapEntry) (i : Nat), entG enc l es → lfind eq x l = none →
    Instr.findNow d (enc x) es i = some none ∧ entG enc (lput eq x v l) (es ++ [{ key := enc x, val := .int .i64 v, born := c }])
  | [], es, i, h, _ => by
    have : es = [] := by simpa [entG] using h
    subst this
    exact ⟨rfl, by simp [entG, lput]⟩
  | p :: l, [], i, h, _ => by simp [entG] at h
  | p :: l, e :: es, i, h, hn => by
    have h0 : (e.key, e.val) = (enc p.1, Value.int .i64 p.2) ∧ entG enc l es := by simpa [entG] using h
    obtain ⟨he, hr⟩ := h0
    cases he' : eq x p.1 with
    | true => simp [lfind, he'] at hn
    | false =>
      simp only [lfind, he', cond_false] at hn
      obtain ⟨h1, h2⟩ := find_none x v c l es (i + 1) hr hn
      simp only [Prod.mk.injEq] at he
      refine ⟨by simp only [Instr.findNow, he.1, hsame, he', h1], ?_⟩
      simp only [lput, he', cond_false]
      simp only [entG, List.cons_append, List.map_cons] at h2 ⊢
      rw [he.1, he.2, h2]
include heq
theorem find_some (x : α) (v y : Int) : ∀ (l : List (α × Int)) (es : List MapEntry) (i : Nat), entG enc l es → lfind eq x l = some y →
    ∃ j e, Instr.findNow d (enc x) es i = some (some (i + j, .int .i64 y)) ∧ es[j]? = some e ∧ e.key = enc x ∧ entG enc (lput eq x v l) (es.modify j fun e => { e with key := enc x, val := .int .i64 v })
  | [], es, i, h, hs => by simp [lfind] at hs
  | p :: l, [], i, h, _ => by simp [entG] at h
  | p :: l, e :: es, i, h, hs => by
    have h0 : (e.key, e.val) = (enc p.1, Value.int .i64 p.2) ∧ entG enc l es := by simpa [entG] using h
    obtain ⟨he, hr⟩ := h0
    simp only [Prod.mk.injEq] at he
    cases he' : eq x p.1 with
    | true =>
      have e1 := heq _ _ he'
      simp only [lfind, he', cond_true, Option.some.injEq] at hs
      refine ⟨0, e, by simp only [Instr.findNow, he.1, hsame, he', he.2, hs]; rfl, rfl, by rw [he.1, e1], ?_⟩
      simp only [lput, he', cond_true]
      simp only [entG, List.modify_zero_cons, List.map_cons] at hr ⊢
      rw [hr]
    | false =>
      simp only [lfind, he', cond_false] at hs
      obtain ⟨j, e2, h1, h2, h3, h4⟩ := find_some x v y l es (i + 1) hr hs
      refine ⟨j + 1, e2, by simp only [Instr.findNow, he.1, hsame, he', h1]; congr 3; omega, by simpa using h2, h3, ?_⟩
      simp only [lput, he', cond_false]
      simp only [entG, List.modify_succ_cons, List.map_cons] at h4 ⊢
      rw [he.1, he.2, h4]
end
def encS (l : List UInt8) : Value := .string ⟨l.toArray⟩
def encI (n : Int) : Value := .int .i64 n
theorem sameS (a b : List UInt8) : Instr.sameNow .string (encS a) (encS b) = some (seq a b) := by
  unfold encS Instr.sameNow seq
  simp only [Option.some.injEq]
  have h1 := MapKept.bytes_beq (⟨a.toArray⟩ : ByteArray) ⟨b.toArray⟩
  have h2 : (⟨a.toArray⟩ : ByteArray) = ⟨b.toArray⟩ ↔ a = b := by
    constructor
    · intro h; cases h; rfl
    · intro h; rw [h]
  rw [h2] at h1
  cases hx : ((⟨a.toArray⟩ : ByteArray) == ⟨b.toArray⟩) with
  | true => rw [hx] at h1; rw [h1.1 rfl]; simp
  | false =>
    rw [hx] at h1
    symm
    rw [beq_eq_false_iff_ne]
    intro e
    exact absurd (h1.2 e) (by simp)
theorem sameI (a b : Int) : Instr.sameNow (.int .i64) (encI a) (encI b) = some (ieq a b) := by simp [encI, Instr.sameNow, ieq]
theorem isZ_of {o : Option AV} (h : isZ o = true) : o = some (.int false .i64 0) := by
  unfold isZ at h
  split at h
  · rfl
  · cases h
theorem zero_run {P : Program} {e : TypeId} (h : isZ (zeroOf P e) = true) (w : World) : (zeroValue e).run P w = .ok (.int .i64 0) w := by
  obtain ⟨i, v, hi, hz, hv⟩ := zeroOf_some (isZ_of h)
  have hr := Rep.ofVal 0 ⟨fun _ => 0, fun _ => 0, fun _ => 0, fun _ => 0⟩ v
  rw [← hv] at hr
  simp only [Rep] at hr
  subst hr
  simp [zeroValue, typeInfo, hi, hz]
def MK.desc : MK → TypeDesc
  | .si => .string
  | .ii => .int .i64
theorem mapK_some {P : Program} {t : TypeId} {mk : MK} (h : mapK P t = some mk) : ∃ k e, P.underlying t = some (.map k e) ∧ P.underlying k = some mk.desc ∧ ∀ w, (zeroValue e).run P w = .ok (.int .i64 0) w := by
  unfold mapK at h
  split at h
  · rename_i k e ht
    cases hz : isZ (zeroOf P e) with
    | false => rw [hz] at h; cases h
    | true =>
      rw [hz, cond_true] at h
      split at h
      · rename_i hk; cases h; exact ⟨k, e, ht, hk, zero_run hz⟩
      · rename_i hk; cases h; exact ⟨k, e, ht, hk, zero_run hz⟩
      · cases h
  · cases h
theorem asSI_some {b : ABk} {y : Bool × List (List UInt8 × Int)} (h : asSI b = some y) : b = .mSI y.1 y.2 := by
  unfold asSI at h; split at h <;> cases h; rfl
theorem asII_some {b : ABk} {y : Bool × List (Int × Int)} (h : asII b = some y) : b = .mII y.1 y.2 := by
  unfold asII at h; split at h <;> cases h; rfl
theorem asSit_some {b : ABk} {y : Bool × List UInt8 × Nat} (h : asSit b = some y) : b = .sit y.1 y.2.1 y.2.2 := by
  unfold asSit at h; split at h <;> cases h; rfl
theorem Rep.foundV (N : Nat) (μ : MM) (ok s : Bool) (r : Option Int) : Rep N μ (foundV ok s r) (if ok then .tuple #[.int .i64 (r.getD 0), .bool r.isSome] else .int .i64 (r.getD 0)) := by
  cases ok with
  | true => simp only [Sx.foundV, cond_true, if_true, Rep, Reps]; exact ⟨_, rfl, _, _, rfl, rfl, _, _, rfl, .cmpB .., rfl⟩
  | false => simp [Sx.foundV, Rep]
theorem look_run {α : Type} {enc : α → Value} {eq : α → α → Bool} {P : Program} {t : TypeId} {mk : MK} (hm : mapK P t = some mk) (hsame : ∀ a b, Instr.sameNow mk.desc (enc a) (enc b) = some (eq a b)) (heq : ∀ a b, eq a b = true → a = b)
    (hkey : ∀ a, MapKept.IsKey mk.desc (enc a)) (x : α) (l : List (α × Int)) {es : Array MapEntry} {clock : Nat} {w : World} {r : Nat} (hb : w.heap[r]? = some (.map es clock)) (he : entG enc l es.toList) (ok : Bool) :
    (Instr.lookup t (.map (some r)) (enc x) ok).run P w = .ok (if ok then .tuple #[.int .i64 ((lfind eq x l).getD 0), .bool (lfind eq x l).isSome] else .int .i64 ((lfind eq x l).getD 0)) w := by
  obtain ⟨k, e, ht, hk, hz⟩ := mapK_some hm
  cases hf : lfind eq x l with
  | none =>
    obtain ⟨h1, _⟩ := find_none hsame x 0 0 l es.toList 0 he hf
    simp [Instr.lookup, run_underlying ht, MapKept.run_getObj_map hb, MapKept.run_checkKey hk (hkey x), MapKept.run_findKey hk h1, hz, Result.andThen]
  | some y =>
    obtain ⟨j, e, h1, _⟩ := find_some hsame heq x 0 y l es.toList 0 he hf
    simp [Instr.lookup, run_underlying ht, MapKept.run_getObj_map hb, MapKept.run_checkKey hk (hkey x), MapKept.run_findKey hk h1, Result.andThen]
theorem look_nil {P : Program} {t : TypeId} {mk : MK} (hm : mapK P t = some mk) {key : Value} (hkey : MapKept.IsKey mk.desc key) (w : World) (ok : Bool) :
    (Instr.lookup t (.map none) key ok).run P w = .ok (if ok then .tuple #[.int .i64 0, .bool false] else .int .i64 0) w := by
  obtain ⟨k, e, ht, hk, hz⟩ := mapK_some hm
  have h1 : Instr.findNow mk.desc key [] 0 = some none := rfl
  simp [Instr.lookup, run_underlying ht, MapKept.run_checkKey hk hkey, MapKept.run_findKey hk h1, hz, Result.andThen]
theorem lookA_sound {P : Program} {t : TypeId} {x ix v : AV} {ok : Bool} {g g' : G} (h : lookA P t x ix ok g = .done v g') :
    g = g' ∧ ∀ μ w cx ci, GOk g.nx μ w.heap g.H → Rep g.nx μ x cx → Rep g.nx μ ix ci → ∃ c, (Instr.lookup t cx ci ok).run P w = .ok c w ∧ Rep g.nx μ v c := by
  unfold lookA at h
  obtain ⟨mk, g1, a1, h1⟩ := done_of h
  obtain ⟨hm, rfl⟩ := ofOpt_done a1
  split at h1
  · obtain ⟨rfl, rfl⟩ := ret_done h1
    refine ⟨rfl, fun μ w cx ci hg hx hi => ?_⟩
    simp only [Rep] at hx hi
    subst hx hi
    exact ⟨_, look_nil hm (by simp [MK.desc, MapKept.IsKey]) w ok, Rep.foundV ..⟩
  · obtain ⟨rfl, rfl⟩ := ret_done h1
    refine ⟨rfl, fun μ w cx ci hg hx hi => ?_⟩
    simp only [Rep] at hx hi
    subst hx hi
    exact ⟨_, look_nil hm (by simp [MK.desc, MapKept.IsKey]) w ok, Rep.foundV ..⟩
  · obtain ⟨b, g2, a2, h2⟩ := done_of h1
    obtain ⟨hb, rfl⟩ := getB_done a2
    obtain ⟨y, g3, a3, h3⟩ := done_of h2
    obtain ⟨hy, rfl⟩ := ofOpt_done a3
    obtain ⟨rfl, rfl⟩ := ret_done h3
    refine ⟨rfl, fun μ w cx ci hg hx hi => ?_⟩
    simp only [Rep] at hx hi
    obtain ⟨_, rfl⟩ := hx
    subst hi
    have hbk := hg.ok _ _ hb
    rw [asSI_some hy] at hbk
    obtain ⟨es, cl, hB, hen⟩ := hbk
    exact ⟨_, look_run (enc := encS) (eq := seq) hm sameS (fun a b e => by simpa [seq] using e) (fun a => by simp [MK.desc, MapKept.IsKey, encS]) _ y.2 hB hen ok, Rep.foundV ..⟩
  · obtain ⟨b, g2, a2, h2⟩ := done_of h1
    obtain ⟨hb, rfl⟩ := getB_done a2
    obtain ⟨y, g3, a3, h3⟩ := done_of h2
    obtain ⟨hy, rfl⟩ := ofOpt_done a3
    obtain ⟨rfl, rfl⟩ := ret_done h3
    refine ⟨rfl, fun μ w cx ci hg hx hi => ?_⟩
    simp only [Rep] at hx hi
    obtain ⟨_, rfl⟩ := hx
    subst hi
    have hbk := hg.ok _ _ hb
    rw [asII_some hy] at hbk
    obtain ⟨es, cl, hB, hen⟩ := hbk
    exact ⟨_, look_run (enc := encI) (eq := ieq) hm sameI (fun a b e => by simpa [ieq] using e) (fun a => by simp [MK.desc, MapKept.IsKey, encI]) _ y.2 hB hen ok, Rep.foundV ..⟩
  · exact (no_done h1).elim
theorem put_run {α : Type} {enc : α → Value} {eq : α → α → Bool} {P : Program} {t : TypeId} {mk : MK} (hm : mapK P t = some mk) (hsame : ∀ a b, Instr.sameNow mk.desc (enc a) (enc b) = some (eq a b)) (heq : ∀ a b, eq a b = true → a = b)
    (hkey : ∀ a, MapKept.IsKey mk.desc (enc a)) (x : α) (v : Int) (l : List (α × Int)) {es : Array MapEntry} {clock : Nat} {w : World} {r : Nat} (hb : w.heap[r]? = some (.map es clock)) (he : entG enc l es.toList) :
    ∃ es' clock', (Instr.mapUpdate t (.map (some r)) (enc x) (.int .i64 v)).run P w = .ok () { w with heap := w.heap.setIfInBounds r (.map es' clock') } ∧ entG enc (lput eq x v l) es'.toList := by
  obtain ⟨k, e, ht, hk, hz⟩ := mapK_some hm
  cases hf : lfind eq x l with
  | none =>
    obtain ⟨h1, h2⟩ := find_none hsame x v clock l es.toList 0 he hf
    exact ⟨es.push { key := enc x, val := .int .i64 v, born := clock }, clock + 1, by
      simp [Instr.mapUpdate, run_underlying ht, MapKept.run_getObj_map hb, MapKept.run_checkKey hk (hkey x), MapKept.run_findKey hk h1, MapKept.run_setObj_map _ hb, Result.andThen], by simpa using h2⟩
  | some y =>
    obtain ⟨j, e, h1, h2, h3, h4⟩ := find_some hsame heq x v y l es.toList 0 he hf
    have hj : es[j]? = some e := by simpa using h2
    exact ⟨es.modify j fun e => { e with key := enc x, val := .int .i64 v }, clock, by
      simp [Instr.mapUpdate, run_underlying ht, MapKept.run_getObj_map hb, MapKept.run_checkKey hk (hkey x), MapKept.run_findKey hk h1, hj, h3, MapKept.run_keyThatStays (hkey x), MapKept.run_setObj_map _ hb, Result.andThen],
      by rw [Array.toList_modify]; exact h4⟩
theorem mapSetA_sound {P : Program} {t : TypeId} {m k v : AV} {u : Unit} {g g' : G} (h : mapSetA P t m k v g = .done u g') :
    (g'.cs → g.cs) ∧ ∀ μ w cm ck cv, GOk g.nx μ w.heap g.H → Rep g.nx μ m cm → Rep g.nx μ k ck → Rep g.nx μ v cv →
      ∃ w', (Instr.mapUpdate t cm ck cv).run P w = .ok () w' ∧ GOk g'.nx μ w'.heap g'.H ∧ Ext g μ w g' μ w' := by
  unfold mapSetA at h
  obtain ⟨mk, g1, a1, h1⟩ := done_of h
  obtain ⟨hm, rfl⟩ := ofOpt_done a1
  split at h1
  · obtain ⟨b, g2, a2, h2⟩ := done_of h1
    obtain ⟨hb, rfl⟩ := getB_done a2
    obtain ⟨y, g3, a3, h3⟩ := done_of h2
    obtain ⟨hy, rfl⟩ := ofOpt_done a3
    refine ⟨fun hc => (setB_done h3).2.2 ▸ hc, fun μ w cm ck cv hg hx hi hv => ?_⟩
    simp only [Rep] at hx hi hv
    obtain ⟨_, rfl⟩ := hx
    subst hi hv
    have hbk := hg.ok _ _ hb
    rw [asSI_some hy] at hbk hb
    obtain ⟨es, cl, hB, hen⟩ := hbk
    obtain ⟨es', cl', hr, hen'⟩ := put_run (enc := encS) (eq := seq) hm sameS (fun a b e => by simpa [seq] using e) (fun a => by simp [MK.desc, MapKept.IsKey, encS]) _ _ y.2 hB hen
    obtain ⟨h5, h6⟩ := setO_ok h3 hg hb rfl trivial (o := .map es' cl') (fun hp hh => ⟨es', cl', hh, hen'⟩) hB
    exact ⟨_, hr, h5, h6⟩
  · obtain ⟨b, g2, a2, h2⟩ := done_of h1
    obtain ⟨hb, rfl⟩ := getB_done a2
    obtain ⟨y, g3, a3, h3⟩ := done_of h2
    obtain ⟨hy, rfl⟩ := ofOpt_done a3
    refine ⟨fun hc => (setB_done h3).2.2 ▸ hc, fun μ w cm ck cv hg hx hi hv => ?_⟩
    simp only [Rep] at hx hi hv
    obtain ⟨_, rfl⟩ := hx
    subst hi hv
    have hbk := hg.ok _ _ hb
    rw [asII_some hy] at hbk hb
    obtain ⟨es, cl, hB, hen⟩ := hbk
    obtain ⟨es', cl', hr, hen'⟩ := put_run (enc := encI) (eq := ieq) hm sameI (fun a b e => by simpa [ieq] using e) (fun a => by simp [MK.desc, MapKept.IsKey, encI]) _ _ y.2 hB hen
    obtain ⟨h5, h6⟩ := setO_ok h3 hg hb rfl trivial (o := .map es' cl') (fun hp hh => ⟨es', cl', hh, hen'⟩) hB
    exact ⟨_, hr, h5, h6⟩
  · exact (no_done h1).elim
theorem makeMapA_sound {P : Program} {t : TypeId} {r : Option AV} {v : AV} {g g' : G} (h : makeMapA P t r g = .done v g') :
    (g'.cs → g.cs) ∧ ∀ μ w cr, GOk g.nx μ w.heap g.H → RepO g.nx μ r cr → ∃ c w', (Instr.makeMap t cr).run P w = .ok c w' ∧ After g μ w g' v c w' := by
  unfold makeMapA at h
  obtain ⟨mk, g1, a1, h1⟩ := done_of h
  obtain ⟨hm, rfl⟩ := ofOpt_done a1
  obtain ⟨_, g2, a2, h2⟩ := done_of h1
  obtain ⟨hq, rfl⟩ := okIf_done a2
  obtain ⟨nm, g3, a3, h3⟩ := done_of h2
  obtain ⟨rfl, rfl⟩ := ret_done h3
  obtain ⟨hnm, hH, hnx, hcs⟩ := newB_done a3
  refine ⟨fun hc => hcs ▸ hc, fun μ w cr hg hr => ?_⟩
  obtain ⟨k, e, ht, hk, hz⟩ := mapK_some hm
  have hrun : (Instr.makeMap t cr).run P w = .ok (.map (some w.heap.size)) (w.alloc (.map #[] 0)) := by
    cases cr with
    | none => simp [Instr.makeMap, Result.andThen]
    | some c =>
      cases r with
      | none => simp [RepO] at hr
      | some a =>
        simp only [hintOk] at hq
        obtain ⟨y, hy⟩ := Option.isSome_iff_exists.1 hq
        obtain ⟨kk, rfl⟩ := asInt_some hy
        simp only [RepO, Rep] at hr
        subst hr
        simp [Instr.makeMap, run_underlying ht, Go.asInt, asIntOf, Result.andThen]
  obtain ⟨h5, h6⟩ := newO_ok a3 hg (.alloc w (.map #[] 0)) (by
    intro N μ' hp k' hh _
    cases mk
    · exact ⟨#[], 0, hh, by simp [entSI]⟩
    · exact ⟨#[], 0, hh, by simp [entII]⟩)
  refine ⟨_, _, hrun, _, ?_, h5, h6⟩
  simp only [Rep]
  refine ⟨by omega, ?_⟩
  rw [hnm, MM.set_blk]

/-! ### the runes of a text -/
theorem asStr_some {x : AV} {y : Bool × List UInt8} (h : asStr x = some y) : x = .str y.1 y.2 := by
  unfold asStr at h; split at h <;> cases h; rfl
theorem isStrD_some' {P : Program} {t : TypeId} (h : isStrD P t = true) : P.underlying t = some .string := by
  unfold isStrD at h; split at h
  · assumption
  · cases h
theorem rangeA_sound {P : Program} {t : TypeId} {x v : AV} {g g' : G} (h : rangeA P t x g = .done v g') :
    (g'.cs → g.cs) ∧ ∀ μ w cx, GOk g.nx μ w.heap g.H → Rep g.nx μ x cx → ∃ c w', (Instr.range t cx).run P w = .ok c w' ∧ After g μ w g' v c w' := by
  unfold rangeA at h
  obtain ⟨y, g1, a1, h1⟩ := done_of h
  obtain ⟨hy, rfl⟩ := ofOpt_done a1
  obtain ⟨_, g2, a2, h2⟩ := done_of h1
  obtain ⟨hq, rfl⟩ := okIf_done a2
  obtain ⟨nm, g3, a3, h3⟩ := done_of h2
  obtain ⟨rfl, rfl⟩ := ret_done h3
  obtain ⟨hnm, hH, hnx, hcs⟩ := newB_done a3
  refine ⟨fun hc => hcs ▸ hc, fun μ w cx hg hx => ?_⟩
  rw [asStr_some hy] at hx
  simp only [Rep] at hx
  subst hx
  obtain ⟨h5, h6⟩ := newO_ok a3 hg (.alloc w (.stringIter ⟨y.2.toArray⟩ 0)) (by intro N μ' hp k' hh hh2; exact ⟨hh, hh2⟩)
  refine ⟨_, _, run_range_string w t _ (isStrD_some' hq), _, ?_, h5, h6⟩
  simp only [Rep]
  refine ⟨by omega, ?_⟩
  rw [hnm]; simp [MM.addr, MM.set_base, MM.set_blk]
theorem decS_done {s b d : Bool} {g g' : G} (h : decS s b g = .done d g') : Keep g g' (b = d) := by
  unfold decS at h
  cases s with
  | true => exact dec_done h
  | false => obtain ⟨rfl, rfl⟩ := ret_done h; exact (Keep.refl _).mono fun _ => rfl
theorem nextA_sound {P : Program} {it v : AV} {isString : Bool} {g g' : G} (h : nextA it isString g = .done v g') (ty : TypeId) :
    (g'.cs → g.cs) ∧ (g'.cs → ∀ μ w ci, GOk g.nx μ w.heap g.H → Rep g.nx μ it ci → ∃ c w', (Instr.next ci isString ty).run P w = .ok c w' ∧ After g μ w g' v c w') := by
  unfold nextA at h
  obtain ⟨_, g1, a1, h1⟩ := done_of h
  obtain ⟨hs, rfl⟩ := okIf_done a1
  subst hs
  obtain ⟨a, g2, a2, h2⟩ := done_of h1
  obtain ⟨ha, rfl⟩ := ofOpt_done a2
  obtain ⟨_, g3, a3, h3⟩ := done_of h2
  obtain ⟨hq, rfl⟩ := okIf_done a3
  obtain ⟨b, g4, a4, h4⟩ := done_of h3
  obtain ⟨hb, rfl⟩ := getB_done a4
  obtain ⟨y, g5, a5, h5⟩ := done_of h4
  obtain ⟨hy, rfl⟩ := ofOpt_done a5
  obtain ⟨d, g6, a6, h6⟩ := done_of h5
  have k := decS_done a6
  rw [asSit_some hy] at hb
  rw [Bool.and_eq_true] at hq
  have hi0 := Nat.eq_of_beq_eq_true hq.1
  have ho0 := Nat.eq_of_beq_eq_true hq.2
  have haddr : ∀ μ : MM, μ.addr a = ⟨μ.blk a.g, μ.base a.g, none⟩ := fun μ => by simp [MM.addr, hi0, ho0]
  cases d with
  | true =>
    rw [cond_true] at h6
    obtain ⟨u, g7, a7, h7⟩ := done_of h6
    obtain ⟨rfl, rfl⟩ := ret_done h7
    obtain ⟨hH, hnx, hcs⟩ := setB_done a7
    refine ⟨fun hc => (k.2.2 (hcs ▸ hc)).1, fun hc μ w ci hg hit => ?_⟩
    have hlt := of_decide_eq_true (k.2.2 (hcs ▸ hc)).2
    rw [asPtr_some ha] at hit
    simp only [Rep] at hit
    obtain ⟨_, rfl⟩ := hit
    have hB : w.heap[μ.blk a.g]? = some (.stringIter ⟨y.2.1.toArray⟩ y.2.2) := (hg.ok _ _ hb).1
    have hB0 : μ.base a.g = 0 := (hg.ok _ _ hb).2
    rw [← k.1, ← k.2.1] at hg
    rw [← k.1] at hb
    obtain ⟨h8, h9⟩ := setO_ok a7 hg hb rfl trivial (o := .stringIter ⟨y.2.1.toArray⟩ (y.2.2 + (Utf8.decode ⟨y.2.1.toArray⟩ y.2.2).2)) (fun hp hh => ⟨hh, hB0⟩) hB
    refine ⟨.tuple #[.bool true, goInt y.2.2, .int .i32 (Utf8.decode ⟨y.2.1.toArray⟩ y.2.2).1], _, ?_, μ, ?_, h8, Ext.of_keep k h9⟩
    · rw [haddr, hB0]
      have hlt' : y.2.2 < (⟨y.2.1.toArray⟩ : ByteArray).size := by rw [ba_size]; exact hlt
      simp [Instr.next, getObj, setObj, Sem.run, hB, Result.andThen, hlt']
    · simp only [Rep, Reps, goInt]
      exact ⟨_, rfl, _, _, rfl, rfl, _, _, rfl, rfl, _, _, rfl, rfl, rfl⟩
  | false =>
    rw [cond_false] at h6
    obtain ⟨rfl, rfl⟩ := ret_done h6
    refine ⟨fun hc => (k.2.2 hc).1, fun hc μ w ci hg hit => ?_⟩
    have hlt := of_decide_eq_false (k.2.2 hc).2
    rw [asPtr_some ha] at hit
    simp only [Rep] at hit
    obtain ⟨_, rfl⟩ := hit
    have hB : w.heap[μ.blk a.g]? = some (.stringIter ⟨y.2.1.toArray⟩ y.2.2) := (hg.ok _ _ hb).1
    have hB0 : μ.base a.g = 0 := (hg.ok _ _ hb).2
    refine ⟨.tuple #[.bool false], w, ?_, .keep0 k hg ?_⟩
    · rw [haddr, hB0]
      have hlt' : ¬ y.2.2 < (⟨y.2.1.toArray⟩ : ByteArray).size := by rw [ba_size]; exact hlt
      simp [Instr.next, getObj, setObj, Sem.run, hB, Result.andThen, hlt']
    · simp only [Rep, Reps]
      exact ⟨_, rfl, _, _, rfl, rfl, rfl⟩

/-! ### texts of bytes -/
theorem byteOf_some {r : List AV} {n : Int} (h : byteOf r = some n) : ∃ s, r = [.int s .u8 n] := by
  unfold byteOf at h; split at h
  · cases h; exact ⟨_, rfl⟩
  · cases h
theorem bytesOf_get {rows : Nat → List AV} : ∀ {m i : Nat} {l : List Int}, bytesOf rows i m = some l → l.length = m ∧ ∀ j n, l[j]? = some n → ∃ s, rows (i + j) = [.int s .u8 n]
  | 0, i, l, h => by simp [bytesOf] at h; subst h; exact ⟨rfl, fun j n h => by simp at h⟩
  | m + 1, i, l, h => by
    unfold bytesOf at h
    split at h
    · rename_i x l' hx hl
      cases h
      obtain ⟨h1, h2⟩ := bytesOf_get hl
      refine ⟨by simp [h1], fun j n hn => ?_⟩
      cases j with
      | zero => simp at hn; subst hn; exact byteOf_some hx
      | succ j =>
        obtain ⟨s, hs⟩ := h2 j n (by simpa using hn)
        exact ⟨s, by rw [← hs]; congr 1; omega⟩
    · cases h
theorem foldl_push (l : List Int) : ∀ s : ByteArray, l.foldl (fun r n => r.push (UInt8.ofNat n.toNat)) s = s ++ ⟨(l.map fun n => UInt8.ofNat n.toNat).toArray⟩ := by
  induction l with
  | nil => intro s; apply ByteArray.ext; simp
  | cons n l ih =>
    intro s
    rw [List.foldl_cons, ih]
    apply ByteArray.ext
    simp [ByteArray.data_append, ByteArray.push]
theorem isBytes_some {P : Program} {t : TypeId} (h : isBytes P t = true) : ∃ e, P.underlying t = some (.slice e) ∧ P.underlying e = some (.int .u8) := by
  unfold isBytes at h
  split at h
  · rename_i e he
    split at h
    · exact ⟨e, sliceE_some he, by assumption⟩
    · cases h
  · cases h
theorem textA_sound {P : Program} {src dst : TypeId} {x v : AV} {g g' : G} (h : textA P src dst x g = .done v g') :
    ∃ p, Keep g g' p ∧ (p → ∀ μ w cx, GOk g.nx μ w.heap g.H → Rep g.nx μ x cx → ∃ c, (convert src dst cx).run P w = .ok c w ∧ Rep g.nx μ v c) := by
  unfold textA at h
  obtain ⟨_, g1, a1, h1⟩ := done_of h
  obtain ⟨hq, rfl⟩ := okIf_done a1
  rw [Bool.and_eq_true] at hq
  obtain ⟨y, g2, a2, h2⟩ := done_of h1
  obtain ⟨p, k, hs⟩ := srcOf_sound a2 (by omega)
  obtain ⟨_, g3, a3, h3⟩ := done_of h2
  obtain ⟨hy1, rfl⟩ := okIf_done a3
  obtain ⟨l, g4, a4, h4⟩ := done_of h3
  obtain ⟨hl, rfl⟩ := ofOpt_done a4
  obtain ⟨rfl, rfl⟩ := ret_done h4
  refine ⟨p, k, fun hp μ w cx hg hx => ?_⟩
  obtain ⟨B, C, rfl, hsrc⟩ := hs hp g.nx μ w cx hg hx
  obtain ⟨e, hse, heb⟩ := isBytes_some hq.1
  have hd := isStrD_some' hq.2
  rw [run_convert_bytes_string w src dst e _ _ _ hse heb hd]
  obtain ⟨hll, hget⟩ := bytesOf_get hl
  cases B with
  | none =>
    have h0 : y.2.1 = 0 := by
      rcases Nat.eq_zero_or_pos y.2.1 with h0 | h0
      · exact h0
      · obtain ⟨ad, news, hB, _⟩ := hsrc h0
        cases hB
    have hl0 : l = [] := List.eq_nil_of_length_eq_zero (by omega)
    subst hl0
    exact ⟨.string .empty, by simp [Conv.bytesToString], by simp only [Rep]; rfl⟩
  | some a =>
    have hload : (loadCells a y.2.1).run P w = .ok (l.map (Value.int .u8)).toArray w := by
      rcases Nat.eq_zero_or_pos y.2.1 with h0 | h0
      · have hl0 : l = [] := List.eq_nil_of_length_eq_zero (by omega)
        subst hl0
        rw [h0]; simp [loadCells, loadCellsFrom]
      · obtain ⟨ad, news, hB, hlen, hcell, _, hrow⟩ := hsrc h0
        cases hB
        have hnews : news = l.map (Value.int .u8) := by
          apply List.ext_getElem?
          intro j
          by_cases hj : j < y.2.1
          · obtain ⟨rl, rc⟩ := hrow j hj
            have hj' : j < l.length := by omega
            obtain ⟨s, hr⟩ := hget j l[j] (List.getElem?_eq_getElem hj')
            rw [Nat.zero_add] at hr
            obtain ⟨_, c, h1, h2⟩ := rc 0 (.int s .u8 l[j]) (by rw [hr]; rfl)
            simp only [Rep] at h2
            subst h2
            have h1' : news[j]? = some (.int .u8 l[j]) := by simpa using h1
            rw [h1', List.getElem?_map, List.getElem?_eq_getElem hj']; rfl
          · rw [List.getElem?_eq_none (by omega), List.getElem?_eq_none (by simp; omega)]
        have := run_loadCells_list (P := P) w a news hcell
        rw [hlen, Nat.mul_one] at this
        rw [this, hnews]
    refine ⟨_, run_bytesToString w a _ C l hload, ?_⟩
    rw [foldl_push]
    simp only [Rep]
    congr 1
theorem convAll_sound {P : Program} {s d : TypeId} {x v : AV} {g g' : G} (h : convAll P s d x g = .done v g') :
    ∃ p, Keep g g' p ∧ (p → ∀ μ w cx, GOk g.nx μ w.heap g.H → Rep g.nx μ x cx → ∃ c, (convert s d cx).run P w = .ok c w ∧ Rep g.nx μ v c) := by
  unfold convAll at h
  split at h
  · exact textA_sound h
  · exact textA_sound h
  · obtain ⟨p, k, hs⟩ := convA_sound h
    exact ⟨p, k, fun hp μ w cx hg hx => hs hp g.nx μ w cx hx⟩
end Go.Sx
