/- THE ENGINE, part 1: an interpreter of the program's code over abstract values, and its proof. -/
import Derived.Test.YtdagokpedjfepaaSm0
import Derived.LoopN
import Derived.Orders
import Derived.Still
noncomputable section
set_option linter.unusedSimpArgs false
set_option linter.unusedVariables false
namespace Go.Sx
open M
def After (g : G) (μ : MM) (w : World) (g' : G) (v : AV) (c : Value) (w' : World) : Prop :=
 ∃ μ', Rep g'.nx μ' v c ∧ eX g'.nx μ' w'.heap g'.H ∧ Ext g μ w g' μ' w'
theorem After.keep {g g' : G} {μ : MM} {w : World} {v : AV} {c : Value} {p : Prop} (n : Nat) (k : Keep g g' p) (hg : eX g.nx μ w.heap g.H) (hv : Rep g.nx μ v c) : After g μ w g' v c { w with drawn := n } :=
 ⟨μ, by rw [k.2.1]; exact hv, by rw [k.1, k.2.1]; exact hg, Ext.drawn μ w n k.1 k.2.1⟩
theorem After.iG {g g' : G} {μ : MM} {w : World} {v : AV} {c : Value} {p : Prop} (k : Keep g g' p) (hg : eX g.nx μ w.heap g.H) (hv : Rep g.nx μ v c) : After g μ w g' v c w :=
 After.keep w.drawn k hg hv
theorem Gives.after {g g' : G} {μ : MM} {w : World} {v : AV} {r : Result Value} (h : Gives g μ w g' v r) : ∃ c w', r = .ok c w' ∧ After g μ w g' v c w' := by
 obtain ⟨c, w', μ', e, h1, h2, h3⟩ := h
 exact ⟨c, w', e, μ', h1, h2, h3⟩
theorem eF {P : Program} {w w' : World} {s : Sem Value} {c : Value} (h : s.run P w = .ok c w') : (do pure (Next.value (← s)) : Sem Next).run P w = .ok (.value c) w' := by
 simp [h]
theorem DI {P : Program} {w w' : World} {s : Sem Unit} (h : s.run P w = .ok () w') : (do s; pure Next.skip : Sem Next).run P w = .ok .skip w' := by
 simp [h]
theorem aI.one {N : Nat} {μ : MM} {x : AV} {args : Array Value} (h : aI N μ [x] args.toList) : ∃ c, args = #[c] ∧ Rep N μ x c := by
 simp only [aI] at h
 obtain ⟨c, r, e, h1, rfl⟩ := h
 exact ⟨c, by rw [← Array.toArray_toList (xs := args), e], h1⟩
theorem aI.two {N : Nat} {μ : MM} {x y : AV} {args : Array Value} (h : aI N μ [x, y] args.toList) : ∃ c d, args = #[c, d] ∧ Rep N μ x c ∧ Rep N μ y d := by
 simp only [aI] at h
 obtain ⟨c, r, e, h1, d, r', rfl, h2, rfl⟩ := h
 exact ⟨c, d, by rw [← Array.toArray_toList (xs := args), e], h1, h2⟩
theorem DJ {P : Program} {b : Builtin} {ts : Array TypeId} {l : List AV} {v : AV} {g g' : G} (h : pF P b ts.toList l g = .done v g') (ty : TypeId) (cst : Array Bool) :
  (g'.cs → g.cs) ∧ (g'.cs → ∀ μ w (args : Array Value), eX g.nx μ w.heap g.H → aI g.nx μ l args.toList → ∃ c w', (builtin b ts ty cst args).run P w = .ok (.value c) w' ∧ After g μ w g' v c w') := by
 generalize hts : ts.toList = tl at h
 unfold pF at h
 split at h
 ·rename_i t x
  have ets : ts = #[t] := by rw [← Array.toArray_toList (xs := ts), hts]
  obtain ⟨rfl, hs⟩ := Oa (ty := ty) h
  refine ⟨id, fun _ μ w args hg hr => ?_⟩
  obtain ⟨c, rfl, hx⟩ := hr.one
  obtain ⟨c', e, hv⟩ := hs g.nx μ w c hx
  exact ⟨c', w, eF (by rw [ets]; exact e), .iG (Keep.refl g) hg hv⟩
 ·rename_i s x y
  obtain ⟨rfl, rfl⟩ := aA h
  refine ⟨id, fun _ μ w args hg hr => ?_⟩
  obtain ⟨c, rfl, hx⟩ := hr.one
  simp only [Rep] at hx
  obtain ⟨a, b, rfl, ha, hb⟩ := hx
  exact ⟨_, w, eF (s := Builtin.real_ ts ty _) (by rfl), .iG (Keep.refl g) hg (by simp only [Rep]; exact ⟨a, rfl, ha⟩)⟩
 ·rename_i s x y
  obtain ⟨rfl, rfl⟩ := aA h
  refine ⟨id, fun _ μ w args hg hr => ?_⟩
  obtain ⟨c, rfl, hx⟩ := hr.one
  simp only [Rep] at hx
  obtain ⟨a, b, rfl, ha, hb⟩ := hx
  exact ⟨_, w, eF (s := Builtin.imag_ ts ty _) (by rfl), .iG (Keep.refl g) hg (by simp only [Rep]; exact ⟨b, rfl, hb⟩)⟩
 ·rename_i s x s' y
  obtain ⟨rfl, rfl⟩ := aA h
  refine ⟨id, fun _ μ w args hg hr => ?_⟩
  obtain ⟨c, d, rfl, hx, hy⟩ := hr.two
  simp only [Rep] at hx hy
  obtain ⟨a, rfl, ha⟩ := hx
  obtain ⟨b, rfl, hb⟩ := hy
  exact ⟨_, w, eF (s := Builtin.complex_ ts ty _) (by rfl), .iG (Keep.refl g) hg (by simp only [Rep]; exact ⟨a, b, rfl, ha, hb⟩)⟩
 ·rename_i t u x y
  have ets : ts = #[t, u] := by rw [← Array.toArray_toList (xs := ts), hts]
  obtain ⟨h1, h2⟩ := wW (ty := ty) h
  refine ⟨h1, fun hc μ w args hg hr => ?_⟩
  obtain ⟨c, d, rfl, hx, hy⟩ := hr.two
  obtain ⟨c', w', e, ha⟩ := (h2 hc μ w c d hg hx hy).after
  exact ⟨c', w', eF (by rw [ets]; exact e), ha⟩
 ·rename_i x l
  obtain ⟨rfl, hs⟩ := DF (P := P) (isMax := true) (fun h => Ob h) h
  refine ⟨id, fun _ μ w args hg hr => ?_⟩
  simp only [aI] at hr
  obtain ⟨c, r, e, hx, hl⟩ := hr
  obtain ⟨c', n, e', hv⟩ := hs g.nx μ w c r hx hl
  exact ⟨c', _, eF (s := Builtin.max_ ts ty _) (by simp only [Builtin.max_, e]; exact e'), .keep n (Keep.refl g) hg hv⟩
 ·rename_i x l
  obtain ⟨rfl, hs⟩ := DF (P := P) (isMax := false) (fun h => Oc h) h
  refine ⟨id, fun _ μ w args hg hr => ?_⟩
  simp only [aI] at hr
  obtain ⟨c, r, e, hx, hl⟩ := hr
  obtain ⟨c', n, e', hv⟩ := hs g.nx μ w c r hx hl
  exact ⟨c', _, eF (s := Builtin.min_ ts ty _) (by simp only [Builtin.min_, e]; exact e'), .keep n (Keep.refl g) hg hv⟩
 ·exact (aY h).elim
structure dM (N : Nat) (μ : MM) (fr : Fr) (tmps : Array Value) (n : Nat) : Prop where
 size : n ≤ tmps.size
 val : ∀ t v, fr.get t = some v → Rep N μ v (tmps.getD t undef)
theorem dM.eval {N : Nat} {μ : MM} {fr : Fr} {a : Act} {n : Nat} (h : dM N μ fr a.tmps n) (x : Operand) : Rep N μ (bZ fr x) (a.eval x) := by
 cases x with
 | tmp t =>
  simp only [bZ, Act.eval]
  cases ht : fr.get t with
  | none => simp [Rep]
  | some v => exact h.val t v ht
 | const v => exact Rep.gZ N μ v
 | global g => simp [bZ, Rep]
 | func f => simp [bZ, Act.eval, Rep, aI]
theorem dM.KO {N : Nat} {μ : MM} {fr : Fr} {a : Act} {n : Nat} (h : dM N μ fr a.tmps n) (l : Array Operand) : aI N μ (l.toList.map (bZ fr)) (l.map a.eval).toList := by
 rw [Array.toList_map]; exact aI.map _ _ _ fun x _ => h.eval x
theorem dM.acK {N : Nat} {μ : MM} {fr : Fr} {a : Act} {n : Nat} (h : dM N μ fr a.tmps n) (l : Array Operand) : aI N μ (l.toList.map fun x => (bZ fr x).fl) (l.map a.eval).toList := by
 rw [Array.toList_map]; exact aI.map _ _ _ fun x _ => (h.eval x).fl
theorem dM.Qj {N : Nat} {μ : MM} {fr : Fr} {a : Act} {n : Nat} (h : dM N μ fr a.tmps n) (o : Option Operand) : zV N μ (o.map (bZ fr)) (o.map a.eval) := by
 cases o with
 | none => trivial
 | some x => exact h.eval x
theorem dM.later {N N' : Nat} {μ μ' : MM} {fr : Fr} {tmps : Array Value} {n : Nat} (h : dM N μ fr tmps n) (hu : MM.upto N μ μ') (hN : N ≤ N') : dM N' μ' fr tmps n :=
 ⟨h.size, fun t v ht => (h.val t v ht).later hu hN⟩
theorem dM.upd {N : Nat} {μ : MM} {fr : Fr} {tmps : Array Value} {n : Nat} (h : dM N μ fr tmps n) {d : Nat} (hd : d < n) {v : AV} {c : Value} (hv : Rep N μ v c) : dM N μ (fr.upd d (some v)) (tmps.setIfInBounds d c) n where
 size := by simpa using h.size
 val := fun t u ht => by
  have hs := h.size
  rw [T.bP] at ht
  split at ht
  ·rename_i e
   cases ht
   rw [e]
   have : d < (tmps.setIfInBounds d c).size := by simp; omega
   simp only [Array.getD_eq_getD_getElem?, Array.getElem?_eq_getElem this]
   simpa using hv
  ·rename_i e
   have := h.val t u ht
   simp only [Array.getD_eq_getD_getElem?] at this ⊢
   rw [Array.getElem?_setIfInBounds_ne (Ne.symm e)]
   exact this
theorem dM.know {N : Nat} {μ : MM} {fr : Fr} {tmps : Array Value} {n : Nat} (h : dM N μ fr tmps n) {d : Nat} {v u : AV} (hd : fr.get d = some u) (hu : ∀ c, Rep N μ u c → Rep N μ v c) : dM N μ (fr.upd d (some v)) tmps n where
 size := h.size
 val := fun t u' ht => by
  rw [T.bP] at ht
  split at ht
  ·rename_i e
   cases ht
   rw [e]
   exact hu _ (h.val d u hd)
  ·exact h.val t u' ht
theorem xO {n : Nat} {fr fr' : Fr} {dst : Option Tmp} {v : AV} {g g' : G} (h : uM n fr dst v g = .done fr' g') :
  g = g' ∧ ∀ N μ (a : Act) c, dM N μ fr a.tmps n → Rep N μ v c → dM N μ fr' (a.put dst c).tmps n := by
 unfold uM at h
 cases dst with
 | none =>
  obtain ⟨rfl, rfl⟩ := aA h
  exact ⟨rfl, fun N μ a c hf _ => hf⟩
 | some d =>
  cases hd : Nat.blt d n with
  | false => simp only [hd, cond_false] at h; exact (aY h).elim
  | true =>
   simp only [hd, cond_true] at h
   obtain ⟨rfl, rfl⟩ := aA h
   refine ⟨rfl, fun N μ a c hf hv => hf.upd (Nat.le_of_ble_eq_true hd) hv⟩
def CF (P : Program) (f : FuncId) (args : Array Value) (w : World) (R : Value → World → Prop) : Prop :=
 (∃ c w', (callFunc f args).run P w = .ok (.value c) w' ∧ R c w') ∨
 (∃ f' args' w', (callFunc f args).run P w = .ok (.enter f' args') w' ∧ Calls P f' args' w' fun e w'' => ∃ c, e = .returned c ∧ R c w'')
def bf (P : Program) (f : FuncId) (args : List AV) (v : AV) (g g' : G) : Prop :=
 (g'.cs → g.cs) ∧ (g'.cs → ∀ μ w (bT : Array Value), eX g.nx μ w.heap g.H → aI g.nx μ args bT.toList → CF P f bT w fun c w' => After g μ w g' v c w')
def cO (P : Program) (call : Calls') : Prop := ∀ f args v g g', call f args g = .done v g' → bf P f args v g g'
def Oe (P : Program) (o : Oper) (g : G) (μ : MM) (w : World) (g' : G) (v : AV) (a : Act) : Prop :=
 ∀ (next : Act → World → Prop) (Q : Exit → Act → World → Prop), (∀ c w', After g μ w g' v c w' → next (a.put o.dst c) w') → o.wp P a w next Q
theorem Oe.value {P : Program} {o : Oper} {g : G} {μ : MM} {w w' : World} {g' : G} {v : AV} {a : Act} {c : Value} (h : (execOp a.eval o).run P w = .ok (.value c) w') (ha : After g μ w g' v c w') : Oe P o g μ w g' v a := by
 intro next Q hn
 unfold Oper.wp
 rw [h]
 exact hn c w' ha
theorem Oe.skip {P : Program} {o : Oper} {g : G} {μ : MM} {w w' : World} {g' : G} {v : AV} {a : Act} (h : (execOp a.eval o).run P w = .ok .skip w') (ha : After g μ w g' v undef w') : Oe P o g μ w g' v a := by
 intro next Q hn
 unfold Oper.wp
 rw [h]
 exact hn undef w' ha
theorem Oe.call {P : Program} {o : Oper} {g : G} {μ : MM} {w : World} {g' : G} {v : AV} {a : Act} {f : FuncId} {args : Array Value} (h : (execOp a.eval o).run P w = (callFunc f args).run P w)
  (hc : CF P f args w fun c w' => After g μ w g' v c w') : Oe P o g μ w g' v a := by
 intro next Q hn
 unfold Oper.wp
 rw [h]
 rcases hc with ⟨c, w', e, ha⟩ | ⟨f', args', w', e, DK⟩
 ·rw [e]; exact hn c w' ha
 ·rw [e, Oper.upon_enter]
  refine DK.mono ?_
  rintro e1 w1 ⟨c, rfl, ha⟩
  exact hn c w1 ha
end Go.Sx
namespace Go.Sx
open M
theorem Qk {b : aF} {o : Obj} {g g' : G} {nm : Nat} (h : iR b g = .done nm g') {μ : MM} {w w' : World} (hg : eX g.nx μ w.heap g.H) (hw : Pushed w w' o)
  (hb : ∀ N μ' hp k, hp[μ'.blk k]? = some o → μ'.base k = 0 → dw N μ' hp k b) :
  eX g'.nx (μ.set g.nx w.heap.size 0 0) w'.heap g'.H ∧ Ext g μ w g' (μ.set g.nx w.heap.size 0 0) w' := by
 obtain ⟨_, hH, hnx, _⟩ := iE h
 have hu : MM.upto g.nx μ (μ.set g.nx w.heap.size 0 0) := MM.yI μ (Nat.le_refl _)
 constructor
 ·rw [hH, hnx]
  refine hg.upd hu (by omega) (by omega) ?_ ?_ ?_
  ·rintro _ ⟨⟩
   exact hb _ _ _ _ (by rw [MM.dZ]; exact hw.new) (MM.iF ..)
  ·intro g1 b1 hg1 _ hr1
   exact hw.old ((hg.ok _ _ hg1).lt_size hr1)
  ·rintro _ ⟨⟩ _ g1 b1 hg1 _ hr1 _ e
   have := (hg.ok _ _ hg1).lt_size hr1
   rw [MM.dZ] at e; omega
 ·refine ⟨by omega, hu, hw.os, hw.tape, hw.output, by rw [hw.heap]; simp, fun B hB _ => hw.old hB, fun B hB hm => ?_⟩
  obtain ⟨g1, b1, hg1, ho1, hr1, e⟩ := hm
  rw [hH, T.bP] at hg1
  split at hg1
  ·rename_i e1
   rw [e1, MM.dZ] at e; omega
  ·have hlt := hg.lt _ _ hg1
   rw [aF.bH hu hlt] at hr1
   rw [hu.blk _ hlt] at e
   exact ⟨g1, b1, hg1, ho1, hr1, e⟩
theorem IL {b0 b : aF} {o o0 : Obj} {g g' : G} {nm : Nat} {u : Unit} (h : setB nm b g = .done u g') {μ : MM} {w : World} (hg : eX g.nx μ w.heap g.H) (h0 : g.H.get nm = some b0) (ho0 : b0.owned = true) (hr0 : b0.real μ nm)
  (hb : ∀ hp : Array Obj, hp[μ.blk nm]? = some o → dw g.nx μ hp nm b) (hB : w.heap[μ.blk nm]? = some o0) :
  eX g'.nx μ (w.heap.setIfInBounds (μ.blk nm) o) g'.H ∧ Ext g μ w g' μ { w with heap := w.heap.setIfInBounds (μ.blk nm) o } := by
 obtain ⟨hH, hnx, hcs⟩ := lI h
 constructor
 ·rw [hH, hnx]
  refine hg.upd (.refl _ _) (Nat.le_refl _) (hg.lt _ _ h0) ?_ ?_ ?_
  ·rintro _ ⟨⟩; exact hb _ (MapKept.heap_set hB).1
  ·intro g1 b1 hg1 hne hr1
   refine (MapKept.heap_set hB).2 _ fun e => hne ?_
   exact (hg.sep _ _ _ _ h0 hg1 ho0 hr0 hr1 e.symm).symm
  ·rintro _ ⟨⟩ hr1 g1 b1 hg1 hne hr2 _ e
   exact hne (hg.sep _ _ _ _ h0 hg1 ho0 hr0 hr2 e).symm
 ·refine ⟨by omega, .refl _ _, rfl, rfl, rfl, by simp, fun B _ hnm => (MapKept.heap_set hB).2 B fun e => hnm ?_, fun B hB hm => ?_⟩
  ·rw [e]; exact May.of h0 ho0 hr0
  ·obtain ⟨g1, b1, hg1, ho1, hr1, rfl⟩ := hm
   rw [hH, T.bP] at hg1
   split at hg1
   ·rename_i e; rw [e]; exact May.of h0 ho0 hr0
   ·exact May.of hg1 ho1 hr1
def uD {α : Type} (enc : α → Value) (l : List (α × Int)) (es : List MapEntry) : Prop := es.map (fun e => (e.key, e.val)) = l.map fun p => (enc p.1, Value.int .i64 p.2)
section
variable {α : Type} {enc : α → Value} {eq : α → α → Bool} {d : TypeDesc} (hsame : ∀ a b, Instr.sameNow d (enc a) (enc b) = some (eq a b)) (heq : ∀ a b, eq a b = true → a = b)
include hsame
theorem zY (x : α) (v : Int) (c : Nat) : ∀ (l : List (α × Int)) (es : List MapEntry) (i : Nat), uD enc l es → dG eq x l = none →
  Instr.findNow d (enc x) es i = some none ∧ uD enc (rH eq x v l) (es ++ [{ key := enc x, val := .int .i64 v, born := c }])
 | [], es, i, h, _ => by
  have : es = [] := by simpa [uD] using h
  subst this
  exact ⟨rfl, by simp [uD, rH]⟩
 | p :: l, [], i, h, _ => by simp [uD] at h
 | p :: l, e :: es, i, h, hn => by
  have h0 : (e.key, e.val) = (enc p.1, Value.int .i64 p.2) ∧ uD enc l es := by simpa [uD] using h
  obtain ⟨he, hr⟩ := h0
  cases he' : eq x p.1 with
  | true => simp [dG, he'] at hn
  | false =>
   simp only [dG, he', cond_false] at hn
   obtain ⟨h1, h2⟩ := zY x v c l es (i + 1) hr hn
   simp only [Prod.mk.injEq] at he
   refine ⟨by simp only [Instr.findNow, he.1, hsame, he', h1], ?_⟩
   simp only [rH, he', cond_false]
   simp only [uD, List.cons_append, List.map_cons] at h2 ⊢
   rw [he.1, he.2, h2]
include heq
theorem zZ (x : α) (v y : Int) : ∀ (l : List (α × Int)) (es : List MapEntry) (i : Nat), uD enc l es → dG eq x l = some y →
  ∃ j e, Instr.findNow d (enc x) es i = some (some (i + j, .int .i64 y)) ∧ es[j]? = some e ∧ e.key = enc x ∧ uD enc (rH eq x v l) (es.modify j fun e => { e with key := enc x, val := .int .i64 v })
 | [], es, i, h, hs => by simp [dG] at hs
 | p :: l, [], i, h, _ => by simp [uD] at h
 | p :: l, e :: es, i, h, hs => by
  have h0 : (e.key, e.val) = (enc p.1, Value.int .i64 p.2) ∧ uD enc l es := by simpa [uD] using h
  obtain ⟨he, hr⟩ := h0
  simp only [Prod.mk.injEq] at he
  cases he' : eq x p.1 with
  | true =>
   have e1 := heq _ _ he'
   simp only [dG, he', cond_true, Option.some.injEq] at hs
   refine ⟨0, e, by simp only [Instr.findNow, he.1, hsame, he', he.2, hs]; rfl, rfl, by rw [he.1, e1], ?_⟩
   simp only [rH, he', cond_true]
   simp only [uD, List.modify_zero_cons, List.map_cons] at hr ⊢
   rw [hr]
  | false =>
   simp only [dG, he', cond_false] at hs
   obtain ⟨j, e2, h1, h2, h3, h4⟩ := zZ x v y l es (i + 1) hr hs
   refine ⟨j + 1, e2, by simp only [Instr.findNow, he.1, hsame, he', h1]; congr 3; omega, by simpa using h2, h3, ?_⟩
   simp only [rH, he', cond_false]
   simp only [uD, List.modify_succ_cons, List.map_cons] at h4 ⊢
   rw [he.1, he.2, h4]
end
def encS (l : List UInt8) : Value := .string ⟨l.toArray⟩
def encI (n : Int) : Value := .int .i64 n
theorem abE (a b : List UInt8) : Instr.sameNow .string (encS a) (encS b) = some (seq a b) := by
 unfold encS Instr.sameNow seq
 simp only [Option.some.injEq]
 have h1 := MapKept.bytes_beq (⟨a.toArray⟩ : ByteArray) ⟨b.toArray⟩
 have h2 : (⟨a.toArray⟩ : ByteArray) = ⟨b.toArray⟩ ↔ a = b := by
  constructor
  ·intro h; cases h; rfl
  ·intro h; rw [h]
 rw [h2] at h1
 cases hx : ((⟨a.toArray⟩ : ByteArray) == ⟨b.toArray⟩) with
 | true => rw [hx] at h1; rw [h1.1 rfl]; simp
 | false =>
  rw [hx] at h1
  symm
  rw [beq_eq_false_iff_ne]
  intro e
  exact absurd (h1.2 e) (by simp)
theorem abG (a b : Int) : Instr.sameNow (.int .i64) (encI a) (encI b) = some (ieq a b) := by simp [encI, Instr.sameNow, ieq]
theorem acL {o : Option AV} (h : isZ o = true) : o = some (.int false .i64 0) := by
 unfold isZ at h
 split at h
 ·rfl
 ·cases h
theorem KP {P : Program} {e : TypeId} (h : isZ (zeroOf P e) = true) (w : World) : (zeroValue e).run P w = .ok (.int .i64 0) w := by
 obtain ⟨i, v, hi, hz, hv⟩ := qy (acL h)
 have hr := Rep.gZ 0 ⟨fun _ => 0, fun _ => 0, fun _ => 0, fun _ => 0⟩ v
 rw [← hv] at hr
 simp only [Rep] at hr
 subst hr
 simp [zeroValue, typeInfo, hi, hz]
def MK.desc : MK → TypeDesc
 | .si => .string
 | .ii => .int .i64
theorem vZ {P : Program} {t : TypeId} {mk : MK} (h : Ky P t = some mk) : ∃ k e, P.underlying t = some (.map k e) ∧ P.underlying k = some mk.desc ∧ ∀ w, (zeroValue e).run P w = .ok (.int .i64 0) w := by
 unfold Ky at h
 split at h
 ·rename_i k e ht
  cases hz : isZ (zeroOf P e) with
  | false => rw [hz] at h; cases h
  | true =>
   rw [hz, cond_true] at h
   split at h
   ·rename_i hk; cases h; exact ⟨k, e, ht, hk, KP hz⟩
   ·rename_i hk; cases h; exact ⟨k, e, ht, hk, KP hz⟩
   ·cases h
 ·cases h
theorem oW {b : aF} {y : Bool × List (List UInt8 × Int)} (h : Kz b = some y) : b = .aW y.1 y.2 := by
 unfold Kz at h; split at h <;> cases h; rfl
theorem Gw {b : aF} {y : Bool × List (Int × Int)} (h : Yp b = some y) : b = .RZ y.1 y.2 := by
 unfold Yp at h; split at h <;> cases h; rfl
theorem Og {b : aF} {y : Bool × List UInt8 × Nat} (h : UJ b = some y) : b = .sit y.1 y.2.1 y.2.2 := by
 unfold UJ at h; split at h <;> cases h; rfl
theorem Rep.oh (N : Nat) (μ : MM) (ok s : Bool) (r : Option Int) : Rep N μ (oh ok s r) (if ok then .tuple #[.int .i64 (r.getD 0), .bool r.isSome] else .int .i64 (r.getD 0)) := by
 cases ok with
 | true => simp only [Sx.oh, cond_true, if_true, Rep, aI]; exact ⟨_, rfl, _, _, rfl, rfl, _, _, rfl, .dH .., rfl⟩
 | false => simp [Sx.oh, Rep]
theorem KQ {α : Type} {enc : α → Value} {eq : α → α → Bool} {P : Program} {t : TypeId} {mk : MK} (hm : Ky P t = some mk) (hsame : ∀ a b, Instr.sameNow mk.desc (enc a) (enc b) = some (eq a b)) (heq : ∀ a b, eq a b = true → a = b)
  (hkey : ∀ a, MapKept.IsKey mk.desc (enc a)) (x : α) (l : List (α × Int)) {es : Array MapEntry} {clock : Nat} {w : World} {r : Nat} (hb : w.heap[r]? = some (.map es clock)) (he : uD enc l es.toList) (ok : Bool) :
  (Instr.lookup t (.map (some r)) (enc x) ok).run P w = .ok (if ok then .tuple #[.int .i64 ((dG eq x l).getD 0), .bool (dG eq x l).isSome] else .int .i64 ((dG eq x l).getD 0)) w := by
 obtain ⟨k, e, ht, hk, hz⟩ := vZ hm
 cases hf : dG eq x l with
 | none =>
  obtain ⟨h1, _⟩ := zY hsame x 0 0 l es.toList 0 he hf
  simp [Instr.lookup, run_underlying ht, MapKept.run_getObj_map hb, MapKept.run_checkKey hk (hkey x), MapKept.run_findKey hk h1, hz, Result.andThen]
 | some y =>
  obtain ⟨j, e, h1, _⟩ := zZ hsame heq x 0 y l es.toList 0 he hf
  simp [Instr.lookup, run_underlying ht, MapKept.run_getObj_map hb, MapKept.run_checkKey hk (hkey x), MapKept.run_findKey hk h1, Result.andThen]
theorem look_nil {P : Program} {t : TypeId} {mk : MK} (hm : Ky P t = some mk) {key : Value} (hkey : MapKept.IsKey mk.desc key) (w : World) (ok : Bool) :
  (Instr.lookup t (.map none) key ok).run P w = .ok (if ok then .tuple #[.int .i64 0, .bool false] else .int .i64 0) w := by
 obtain ⟨k, e, ht, hk, hz⟩ := vZ hm
 have h1 : Instr.findNow mk.desc key [] 0 = some none := rfl
 simp [Instr.lookup, run_underlying ht, MapKept.run_checkKey hk hkey, MapKept.run_findKey hk h1, hz, Result.andThen]
theorem KR {P : Program} {t : TypeId} {x ix v : AV} {ok : Bool} {g g' : G} (h : lookA P t x ix ok g = .done v g') :
  g = g' ∧ ∀ μ w cx ci, eX g.nx μ w.heap g.H → Rep g.nx μ x cx → Rep g.nx μ ix ci → ∃ c, (Instr.lookup t cx ci ok).run P w = .ok c w ∧ Rep g.nx μ v c := by
 unfold lookA at h
 obtain ⟨mk, g1, a1, h1⟩ := au h
 obtain ⟨hm, rfl⟩ := aJ a1
 split at h1
 ·obtain ⟨rfl, rfl⟩ := aA h1
  refine ⟨rfl, fun μ w cx ci hg hx hi => ?_⟩
  simp only [Rep] at hx hi
  subst hx hi
  exact ⟨_, look_nil hm (by simp [MK.desc, MapKept.IsKey]) w ok, Rep.oh ..⟩
 ·obtain ⟨rfl, rfl⟩ := aA h1
  refine ⟨rfl, fun μ w cx ci hg hx hi => ?_⟩
  simp only [Rep] at hx hi
  subst hx hi
  exact ⟨_, look_nil hm (by simp [MK.desc, MapKept.IsKey]) w ok, Rep.oh ..⟩
 ·obtain ⟨b, g2, a2, h2⟩ := au h1
  obtain ⟨hb, rfl⟩ := jd a2
  obtain ⟨y, g3, a3, h3⟩ := au h2
  obtain ⟨hy, rfl⟩ := aJ a3
  obtain ⟨rfl, rfl⟩ := aA h3
  refine ⟨rfl, fun μ w cx ci hg hx hi => ?_⟩
  simp only [Rep] at hx hi
  obtain ⟨_, rfl⟩ := hx
  subst hi
  have hbk := hg.ok _ _ hb
  rw [oW hy] at hbk
  obtain ⟨es, cl, hB, hen⟩ := hbk
  exact ⟨_, KQ (enc := encS) (eq := seq) hm abE (fun a b e => by simpa [seq] using e) (fun a => by simp [MK.desc, MapKept.IsKey, encS]) _ y.2 hB hen ok, Rep.oh ..⟩
 ·obtain ⟨b, g2, a2, h2⟩ := au h1
  obtain ⟨hb, rfl⟩ := jd a2
  obtain ⟨y, g3, a3, h3⟩ := au h2
  obtain ⟨hy, rfl⟩ := aJ a3
  obtain ⟨rfl, rfl⟩ := aA h3
  refine ⟨rfl, fun μ w cx ci hg hx hi => ?_⟩
  simp only [Rep] at hx hi
  obtain ⟨_, rfl⟩ := hx
  subst hi
  have hbk := hg.ok _ _ hb
  rw [Gw hy] at hbk
  obtain ⟨es, cl, hB, hen⟩ := hbk
  exact ⟨_, KQ (enc := encI) (eq := ieq) hm abG (fun a b e => by simpa [ieq] using e) (fun a => by simp [MK.desc, MapKept.IsKey, encI]) _ y.2 hB hen ok, Rep.oh ..⟩
 ·exact (aY h1).elim
theorem Ql {α : Type} {enc : α → Value} {eq : α → α → Bool} {P : Program} {t : TypeId} {mk : MK} (hm : Ky P t = some mk) (hsame : ∀ a b, Instr.sameNow mk.desc (enc a) (enc b) = some (eq a b)) (heq : ∀ a b, eq a b = true → a = b)
  (hkey : ∀ a, MapKept.IsKey mk.desc (enc a)) (x : α) (v : Int) (l : List (α × Int)) {es : Array MapEntry} {clock : Nat} {w : World} {r : Nat} (hb : w.heap[r]? = some (.map es clock)) (he : uD enc l es.toList) :
  ∃ es' clock', (Instr.mapUpdate t (.map (some r)) (enc x) (.int .i64 v)).run P w = .ok () { w with heap := w.heap.setIfInBounds r (.map es' clock') } ∧ uD enc (rH eq x v l) es'.toList := by
 obtain ⟨k, e, ht, hk, hz⟩ := vZ hm
 cases hf : dG eq x l with
 | none =>
  obtain ⟨h1, h2⟩ := zY hsame x v clock l es.toList 0 he hf
  exact ⟨es.push { key := enc x, val := .int .i64 v, born := clock }, clock + 1, by
   simp [Instr.mapUpdate, run_underlying ht, MapKept.run_getObj_map hb, MapKept.run_checkKey hk (hkey x), MapKept.run_findKey hk h1, MapKept.run_setObj_map _ hb, Result.andThen], by simpa using h2⟩
 | some y =>
  obtain ⟨j, e, h1, h2, h3, h4⟩ := zZ hsame heq x v y l es.toList 0 he hf
  have hj : es[j]? = some e := by simpa using h2
  exact ⟨es.modify j fun e => { e with key := enc x, val := .int .i64 v }, clock, by
   simp [Instr.mapUpdate, run_underlying ht, MapKept.run_getObj_map hb, MapKept.run_checkKey hk (hkey x), MapKept.run_findKey hk h1, hj, h3, MapKept.run_keyThatStays (hkey x), MapKept.run_setObj_map _ hb, Result.andThen],
   by rw [Array.toList_modify]; exact h4⟩
theorem wZ {P : Program} {t : TypeId} {m k v : AV} {u : Unit} {g g' : G} (h : qx P t m k v g = .done u g') :
  (g'.cs → g.cs) ∧ ∀ μ w cm ck cv, eX g.nx μ w.heap g.H → Rep g.nx μ m cm → Rep g.nx μ k ck → Rep g.nx μ v cv →
   ∃ w', (Instr.mapUpdate t cm ck cv).run P w = .ok () w' ∧ eX g'.nx μ w'.heap g'.H ∧ Ext g μ w g' μ w' := by
 unfold qx at h
 obtain ⟨mk, g1, a1, h1⟩ := au h
 obtain ⟨hm, rfl⟩ := aJ a1
 split at h1
 ·obtain ⟨b, g2, a2, h2⟩ := au h1
  obtain ⟨hb, rfl⟩ := jd a2
  obtain ⟨y, g3, a3, h3⟩ := au h2
  obtain ⟨hy, rfl⟩ := aJ a3
  refine ⟨fun hc => (lI h3).2.2 ▸ hc, fun μ w cm ck cv hg hx hi hv => ?_⟩
  simp only [Rep] at hx hi hv
  obtain ⟨_, rfl⟩ := hx
  subst hi hv
  have hbk := hg.ok _ _ hb
  rw [oW hy] at hbk hb
  obtain ⟨es, cl, hB, hen⟩ := hbk
  obtain ⟨es', cl', hr, hen'⟩ := Ql (enc := encS) (eq := seq) hm abE (fun a b e => by simpa [seq] using e) (fun a => by simp [MK.desc, MapKept.IsKey, encS]) _ _ y.2 hB hen
  obtain ⟨h5, h6⟩ := IL h3 hg hb rfl trivial (o := .map es' cl') (fun hp hh => ⟨es', cl', hh, hen'⟩) hB
  exact ⟨_, hr, h5, h6⟩
 ·obtain ⟨b, g2, a2, h2⟩ := au h1
  obtain ⟨hb, rfl⟩ := jd a2
  obtain ⟨y, g3, a3, h3⟩ := au h2
  obtain ⟨hy, rfl⟩ := aJ a3
  refine ⟨fun hc => (lI h3).2.2 ▸ hc, fun μ w cm ck cv hg hx hi hv => ?_⟩
  simp only [Rep] at hx hi hv
  obtain ⟨_, rfl⟩ := hx
  subst hi hv
  have hbk := hg.ok _ _ hb
  rw [Gw hy] at hbk hb
  obtain ⟨es, cl, hB, hen⟩ := hbk
  obtain ⟨es', cl', hr, hen'⟩ := Ql (enc := encI) (eq := ieq) hm abG (fun a b e => by simpa [ieq] using e) (fun a => by simp [MK.desc, MapKept.IsKey, encI]) _ _ y.2 hB hen
  obtain ⟨h5, h6⟩ := IL h3 hg hb rfl trivial (o := .map es' cl') (fun hp hh => ⟨es', cl', hh, hen'⟩) hB
  exact ⟨_, hr, h5, h6⟩
 ·exact (aY h1).elim
theorem DL {P : Program} {t : TypeId} {r : Option AV} {v : AV} {g g' : G} (h : pG P t r g = .done v g') :
  (g'.cs → g.cs) ∧ ∀ μ w cr, eX g.nx μ w.heap g.H → zV g.nx μ r cr → ∃ c w', (Instr.makeMap t cr).run P w = .ok c w' ∧ After g μ w g' v c w' := by
 unfold pG at h
 obtain ⟨mk, g1, a1, h1⟩ := au h
 obtain ⟨hm, rfl⟩ := aJ a1
 obtain ⟨_, g2, a2, h2⟩ := au h1
 obtain ⟨hq, rfl⟩ := aU a2
 obtain ⟨nm, g3, a3, h3⟩ := au h2
 obtain ⟨rfl, rfl⟩ := aA h3
 obtain ⟨hnm, hH, hnx, hcs⟩ := iE a3
 refine ⟨fun hc => hcs ▸ hc, fun μ w cr hg hr => ?_⟩
 obtain ⟨k, e, ht, hk, hz⟩ := vZ hm
 have hrun : (Instr.makeMap t cr).run P w = .ok (.map (some w.heap.size)) (w.alloc (.map #[] 0)) := by
  cases cr with
  | none => simp [Instr.makeMap, Result.andThen]
  | some c =>
   cases r with
   | none => simp [zV] at hr
   | some a =>
    simp only [UK] at hq
    obtain ⟨y, hy⟩ := Option.isSome_iff_exists.1 hq
    obtain ⟨kk, rfl⟩ := mP hy
    simp only [zV, Rep] at hr
    subst hr
    simp [Instr.makeMap, run_underlying ht, Go.asInt, asIntOf, Result.andThen]
 obtain ⟨h5, h6⟩ := Qk a3 hg (.alloc w (.map #[] 0)) (by
  intro N μ' hp k' hh _
  cases mk
  ·exact ⟨#[], 0, hh, by simp [abB]⟩
  ·exact ⟨#[], 0, hh, by simp [abC]⟩)
 refine ⟨_, _, hrun, _, ?_, h5, h6⟩
 simp only [Rep]
 refine ⟨by omega, ?_⟩
 rw [hnm, MM.dZ]
theorem Oh {x : AV} {y : Bool × List UInt8} (h : UL x = some y) : x = .str y.1 y.2 := by
 unfold UL at h; split at h <;> cases h; rfl
theorem yQ {P : Program} {t : TypeId} (h : rG P t = true) : P.underlying t = some .string := by
 unfold rG at h; split at h
 ·assumption
 ·cases h
theorem IQ {P : Program} {t : TypeId} {x v : AV} {g g' : G} (h : xK P t x g = .done v g') :
  (g'.cs → g.cs) ∧ ∀ μ w cx, eX g.nx μ w.heap g.H → Rep g.nx μ x cx → ∃ c w', (Instr.range t cx).run P w = .ok c w' ∧ After g μ w g' v c w' := by
 unfold xK at h
 obtain ⟨y, g1, a1, h1⟩ := au h
 obtain ⟨hy, rfl⟩ := aJ a1
 obtain ⟨_, g2, a2, h2⟩ := au h1
 obtain ⟨hq, rfl⟩ := aU a2
 obtain ⟨nm, g3, a3, h3⟩ := au h2
 obtain ⟨rfl, rfl⟩ := aA h3
 obtain ⟨hnm, hH, hnx, hcs⟩ := iE a3
 refine ⟨fun hc => hcs ▸ hc, fun μ w cx hg hx => ?_⟩
 rw [Oh hy] at hx
 simp only [Rep] at hx
 subst hx
 obtain ⟨h5, h6⟩ := Qk a3 hg (.alloc w (.stringIter ⟨y.2.toArray⟩ 0)) (by intro N μ' hp k' hh hh2; exact ⟨hh, hh2⟩)
 refine ⟨_, _, run_range_string w t _ (yQ hq), _, ?_, h5, h6⟩
 simp only [Rep]
 refine ⟨by omega, ?_⟩
 rw [hnm]; simp [MM.addr, MM.iF, MM.dZ]
theorem SB {s b d : Bool} {g g' : G} (h : NT s b g = .done d g') : Keep g g' (b = d) := by
 unfold NT at h
 cases s with
 | true => exact jc h
 | false => obtain ⟨rfl, rfl⟩ := aA h; exact (Keep.refl _).mono fun _ => rfl
theorem KT {P : Program} {it v : AV} {isString : Bool} {g g' : G} (h : Dj it isString g = .done v g') (ty : TypeId) :
  (g'.cs → g.cs) ∧ (g'.cs → ∀ μ w ci, eX g.nx μ w.heap g.H → Rep g.nx μ it ci → ∃ c w', (Instr.next ci isString ty).run P w = .ok c w' ∧ After g μ w g' v c w') := by
 unfold Dj at h
 obtain ⟨_, g1, a1, h1⟩ := au h
 obtain ⟨hs, rfl⟩ := aU a1
 subst hs
 obtain ⟨a, g2, a2, h2⟩ := au h1
 obtain ⟨ha, rfl⟩ := aJ a2
 obtain ⟨_, g3, a3, h3⟩ := au h2
 obtain ⟨hq, rfl⟩ := aU a3
 obtain ⟨b, g4, a4, h4⟩ := au h3
 obtain ⟨hb, rfl⟩ := jd a4
 obtain ⟨y, g5, a5, h5⟩ := au h4
 obtain ⟨hy, rfl⟩ := aJ a5
 obtain ⟨d, g6, a6, h6⟩ := au h5
 have k := SB a6
 rw [Og hy] at hb
 rw [Bool.and_eq_true] at hq
 have hi0 := Nat.eq_of_beq_eq_true hq.1
 have ho0 := Nat.eq_of_beq_eq_true hq.2
 have abH : ∀ μ : MM, μ.addr a = ⟨μ.blk a.g, μ.base a.g, none⟩ := fun μ => by simp [MM.addr, hi0, ho0]
 cases d with
 | true =>
  rw [cond_true] at h6
  obtain ⟨u, g7, a7, h7⟩ := au h6
  obtain ⟨rfl, rfl⟩ := aA h7
  obtain ⟨hH, hnx, hcs⟩ := lI a7
  refine ⟨fun hc => (k.2.2 (hcs ▸ hc)).1, fun hc μ w ci hg hit => ?_⟩
  have hlt := of_decide_eq_true (k.2.2 (hcs ▸ hc)).2
  rw [pI ha] at hit
  simp only [Rep] at hit
  obtain ⟨_, rfl⟩ := hit
  have hB : w.heap[μ.blk a.g]? = some (.stringIter ⟨y.2.1.toArray⟩ y.2.2) := (hg.ok _ _ hb).1
  have hB0 : μ.base a.g = 0 := (hg.ok _ _ hb).2
  rw [← k.1, ← k.2.1] at hg
  rw [← k.1] at hb
  obtain ⟨h8, h9⟩ := IL a7 hg hb rfl trivial (o := .stringIter ⟨y.2.1.toArray⟩ (y.2.2 + (Utf8.decode ⟨y.2.1.toArray⟩ y.2.2).2)) (fun hp hh => ⟨hh, hB0⟩) hB
  refine ⟨.tuple #[.bool true, goInt y.2.2, .int .i32 (Utf8.decode ⟨y.2.1.toArray⟩ y.2.2).1], _, ?_, μ, ?_, h8, Ext.oJ k h9⟩
  ·rw [abH, hB0]
   have hlt' : y.2.2 < (⟨y.2.1.toArray⟩ : ByteArray).size := by rw [rQ]; exact hlt
   simp [Instr.next, getObj, setObj, Sem.run, hB, Result.andThen, hlt']
  ·simp only [Rep, aI, goInt]
   exact ⟨_, rfl, _, _, rfl, rfl, _, _, rfl, rfl, _, _, rfl, rfl, rfl⟩
 | false =>
  rw [cond_false] at h6
  obtain ⟨rfl, rfl⟩ := aA h6
  refine ⟨fun hc => (k.2.2 hc).1, fun hc μ w ci hg hit => ?_⟩
  have hlt := of_decide_eq_false (k.2.2 hc).2
  rw [pI ha] at hit
  simp only [Rep] at hit
  obtain ⟨_, rfl⟩ := hit
  have hB : w.heap[μ.blk a.g]? = some (.stringIter ⟨y.2.1.toArray⟩ y.2.2) := (hg.ok _ _ hb).1
  have hB0 : μ.base a.g = 0 := (hg.ok _ _ hb).2
  refine ⟨.tuple #[.bool false], w, ?_, .iG k hg ?_⟩
  ·rw [abH, hB0]
   have hlt' : ¬ y.2.2 < (⟨y.2.1.toArray⟩ : ByteArray).size := by rw [rQ]; exact hlt
   simp [Instr.next, getObj, setObj, Sem.run, hB, Result.andThen, hlt']
  ·simp only [Rep, aI]
   exact ⟨_, rfl, _, _, rfl, rfl, rfl⟩
theorem KU {r : List AV} {n : Int} (h : byteOf r = some n) : ∃ s, r = [.int s .u8 n] := by
 unfold byteOf at h; split at h
 ·cases h; exact ⟨_, rfl⟩
 ·cases h
theorem Bo {rows : Nat → List AV} : ∀ {m i : Nat} {l : List Int}, bytesOf rows i m = some l → l.length = m ∧ ∀ j n, l[j]? = some n → ∃ s, rows (i + j) = [.int s .u8 n]
 | 0, i, l, h => by simp [bytesOf] at h; subst h; exact ⟨rfl, fun j n h => by simp at h⟩
 | m + 1, i, l, h => by
  unfold bytesOf at h
  split at h
  ·rename_i x l' hx hl
   cases h
   obtain ⟨h1, h2⟩ := Bo hl
   refine ⟨by simp [h1], fun j n hn => ?_⟩
   cases j with
   | zero => simp at hn; subst hn; exact KU hx
   | succ j =>
    obtain ⟨s, hs⟩ := h2 j n (by simpa using hn)
    exact ⟨s, by rw [← hs]; congr 1; omega⟩
  ·cases h
theorem foldl_push (l : List Int) : ∀ s : ByteArray, l.foldl (fun r n => r.push (UInt8.ofNat n.toNat)) s = s ++ ⟨(l.map fun n => UInt8.ofNat n.toNat).toArray⟩ := by
 induction l with
 | nil => intro s; apply ByteArray.ext; simp
 | cons n l ih =>
  intro s
  rw [List.foldl_cons, ih]
  apply ByteArray.ext
  simp [ByteArray.data_append, ByteArray.push]
theorem IU {P : Program} {t : TypeId} (h : isBytes P t = true) : ∃ e, P.underlying t = some (.slice e) ∧ P.underlying e = some (.int .u8) := by
 unfold isBytes at h
 split at h
 ·rename_i e he
  split at h
  ·exact ⟨e, fJ he, by assumption⟩
  ·cases h
 ·cases h
theorem Bq {P : Program} {src dst : TypeId} {x v : AV} {g g' : G} (h : A8 P src dst x g = .done v g') :
  ∃ p, Keep g g' p ∧ (p → ∀ μ w cx, eX g.nx μ w.heap g.H → Rep g.nx μ x cx → ∃ c, (convert src dst cx).run P w = .ok c w ∧ Rep g.nx μ v c) := by
 unfold A8 at h
 obtain ⟨_, g1, a1, h1⟩ := au h
 obtain ⟨hq, rfl⟩ := aU a1
 rw [Bool.and_eq_true] at hq
 obtain ⟨y, g2, a2, h2⟩ := au h1
 obtain ⟨p, k, hs⟩ := uO a2 (by omega)
 obtain ⟨_, g3, a3, h3⟩ := au h2
 obtain ⟨hy1, rfl⟩ := aU a3
 obtain ⟨l, g4, a4, h4⟩ := au h3
 obtain ⟨hl, rfl⟩ := aJ a4
 obtain ⟨rfl, rfl⟩ := aA h4
 refine ⟨p, k, fun hp μ w cx hg hx => ?_⟩
 obtain ⟨B, C, rfl, hsrc⟩ := hs hp g.nx μ w cx hg hx
 obtain ⟨e, hse, heb⟩ := IU hq.1
 have hd := yQ hq.2
 rw [run_convert_bytes_string w src dst e _ _ _ hse heb hd]
 obtain ⟨hll, hget⟩ := Bo hl
 cases B with
 | none =>
  have h0 : y.2.1 = 0 := by
   rcases Nat.eq_zero_or_pos y.2.1 with h0 | h0
   ·exact h0
   ·obtain ⟨ad, news, hB, _⟩ := hsrc h0
    cases hB
  have hl0 : l = [] := List.eq_nil_of_length_eq_zero (by omega)
  subst hl0
  exact ⟨.string .empty, by simp [Conv.bytesToString], by simp only [Rep]; rfl⟩
 | some a =>
  have hload : (loadCells a y.2.1).run P w = .ok (l.map (Value.int .u8)).toArray w := by
   rcases Nat.eq_zero_or_pos y.2.1 with h0 | h0
   ·have hl0 : l = [] := List.eq_nil_of_length_eq_zero (by omega)
    subst hl0
    rw [h0]; simp [loadCells, loadCellsFrom]
   ·obtain ⟨ad, news, hB, hlen, hcell, _, hrow⟩ := hsrc h0
    cases hB
    have hnews : news = l.map (Value.int .u8) := by
     apply List.ext_getElem?
     intro j
     by_cases hj : j < y.2.1
     ·obtain ⟨rl, rc⟩ := hrow j hj
      have hj' : j < l.length := by omega
      obtain ⟨s, hr⟩ := hget j l[j] (List.getElem?_eq_getElem hj')
      rw [Nat.zero_add] at hr
      obtain ⟨_, c, h1, h2⟩ := rc 0 (.int s .u8 l[j]) (by rw [hr]; rfl)
      simp only [Rep] at h2
      subst h2
      have h1' : news[j]? = some (.int .u8 l[j]) := by simpa using h1
      rw [h1', List.getElem?_map, List.getElem?_eq_getElem hj']; rfl
     ·rw [List.getElem?_eq_none (by omega), List.getElem?_eq_none (by simp; omega)]
    have := run_loadCells_list (P := P) w a news hcell
    rw [hlen, Nat.mul_one] at this
    rw [this, hnews]
  refine ⟨_, run_bytesToString w a _ C l hload, ?_⟩
  rw [foldl_push]
  simp only [Rep]
  congr 1
theorem F7 {P : Program} {s d : TypeId} {x v : AV} {g g' : G} (h : rJ P s d x g = .done v g') :
  ∃ p, Keep g g' p ∧ (p → ∀ μ w cx, eX g.nx μ w.heap g.H → Rep g.nx μ x cx → ∃ c, (convert s d cx).run P w = .ok c w ∧ Rep g.nx μ v c) := by
 unfold rJ at h
 split at h
 ·exact Bq h
 ·exact Bq h
 ·obtain ⟨p, k, hs⟩ := KN h
  exact ⟨p, k, fun hp μ w cx hg hx => hs hp g.nx μ w cx hx⟩
end Go.Sx
namespace Go.Sx
open M
theorem vY.of {N : Nat} {μ : MM} {fr : Fr} {a : Act} {n : Nat} (h : dM N μ fr a.tmps n) (ps : Array (Nat × Operand)) :
  vY N μ (ps.toList.map fun p => (p.1, bZ fr p.2)) (ps.map fun (i, x) => (i, a.eval x)).toList := by
 constructor
 ·simp [List.map_map, Function.comp_def]
 ·intro i p q hp hq
  rw [Array.toList_map] at hq
  rw [List.getElem?_map] at hp hq
  cases hx : ps.toList[i]? with
  | none => rw [hx] at hp; cases hp
  | some y =>
   rw [hx] at hp hq
   cases hp; cases hq
   exact h.eval y.2
theorem qU {P : Program} {call : Calls'} (hcall : cO P call) {fr : Fr} {o : Oper} {v : AV} {g g' : G} (h : NU P call fr o g = .done v g') :
  (g'.cs → g.cs) ∧ (g'.cs → ∀ μ w (a : Act) n, eX g.nx μ w.heap g.H → dM g.nx μ fr a.tmps n → Oe P o g μ w g' v a) := by
 unfold NU at h
 generalize ho : o.op = op0 at h
 split at h
 ·-- move
  rename_i x
  obtain ⟨rfl, rfl⟩ := aA h
  refine ⟨id, fun _ μ w a n hg hf => .value (by simp only [execOp, ho]; rfl) (.iG (Keep.refl g) hg (hf.eval x))⟩
 ·rename_i x
  obtain ⟨rfl, rfl⟩ := aA h
  refine ⟨id, fun _ μ w a n hg hf => .value (by simp only [execOp, ho]; rfl) (.iG (Keep.refl g) hg (hf.eval x))⟩
 ·-- pick
  rename_i c x y
  generalize hc : bZ fr c = vc at h
  split at h
  ·rename_i t
   obtain ⟨rfl, rfl⟩ := aA h
   refine ⟨id, fun _ μ w a n hg hf => ?_⟩
   have hcv := hf.eval c
   rw [hc] at hcv
   simp only [Rep] at hcv
   refine .value (c := if t then a.eval x else a.eval y) (w' := w) (by simp [execOp, ho, hcv, asBool]) (.iG (Keep.refl g) hg ?_)
   cases t
   ·exact hf.eval y
   ·exact hf.eval x
  ·rename_i t
   obtain ⟨d, g1, a1, h1⟩ := au h
   obtain ⟨rfl, rfl⟩ := aA h1
   have k := jc a1
   refine ⟨fun hcs => (k.2.2 hcs).1, fun hcs μ w a n hg hf => ?_⟩
   have hd := (k.2.2 hcs).2
   have hcv := hf.eval c
   rw [hc] at hcv
   simp only [Rep] at hcv
   refine .value (c := if t then a.eval x else a.eval y) (w' := w) (by simp [execOp, ho, hcv, asBool]) (.iG k hg ?_)
   subst hd
   cases t
   ·exact hf.eval y
   ·exact hf.eval x
  ·exact (aY h).elim
 ·-- alloc
  rename_i e
  obtain ⟨z, g1, a1, h1⟩ := au h
  obtain ⟨hz, rfl⟩ := aJ a1
  obtain ⟨i, zv, hi, hzv, rfl⟩ := qy hz
  obtain ⟨hc, hs⟩ := Dq (P := P) (t := e) h1
  refine ⟨hc, fun _ μ w a n hg hf => ?_⟩
  obtain ⟨c, w', e1, ha⟩ := (hs μ w zv hg (Rep.gZ _ _ zv)).after
  refine .value (w' := w') (c := c) ?_ ha
  simp only [execOp, ho]
  refine eF ?_
  have : (zeroValue e).run P w = .ok zv w := by simp [zeroValue, typeInfo, hi, hzv]
  simp only [Instr.alloc, Sem.run_bind, this]
  exact e1
 ·-- box
  rename_i e x
  obtain ⟨hc, hs⟩ := Dq (P := P) (t := e) h
  refine ⟨hc, fun _ μ w a n hg hf => ?_⟩
  obtain ⟨c, w', e1, ha⟩ := (hs μ w _ hg (hf.eval x)).after
  exact .value (w' := w') (c := c) (by simp only [execOp, ho]; exact eF e1) ha
 ·-- build
  rename_i t ps
  obtain ⟨rfl, hs⟩ := Iu h
  refine ⟨id, fun _ μ w a n hg hf => ?_⟩
  obtain ⟨c, e1, hv⟩ := hs g.nx μ w _ (vY.of hf ps)
  exact .value (by simp only [execOp, ho]; exact eF e1) (.iG (Keep.refl g) hg hv)
 ·-- buildSlice
  rename_i t len ps
  obtain ⟨hc, hs⟩ := yL h
  refine ⟨hc, fun _ μ w a n hg hf => ?_⟩
  obtain ⟨c, w', e1, ha⟩ := (hs μ w _ hg (vY.of hf ps)).after
  exact .value (by simp only [execOp, ho]; exact eF e1) ha
 ·-- load
  rename_i t x
  obtain ⟨ad, g1, a1, h1⟩ := au h
  obtain ⟨hx, rfl⟩ := aJ a1
  have hx := pI hx
  obtain ⟨k, hs⟩ := Bc h1
  refine ⟨fun hc => (k.2.2 hc).1, fun hc μ w a n hg hf => ?_⟩
  have hxv := hf.eval x
  rw [hx] at hxv
  simp only [Rep] at hxv
  obtain ⟨c, e1, hv⟩ := hs hc _ μ w hg
  exact .value (by simp only [execOp, ho, hxv.2]; exact eF (s := Instr.loadAt t _) (by simp only [Instr.loadAt, Instr.sureAddr, Sem.run_bind]; exact e1)) (.iG k hg hv)
 ·-- store
  rename_i t x y
  obtain ⟨ad, g1, a1, h1⟩ := au h
  obtain ⟨hx, rfl⟩ := aJ a1
  have hx := pI hx
  obtain ⟨_, g2, a2, h2⟩ := au h1
  obtain ⟨rfl, rfl⟩ := aA h2
  obtain ⟨hc0, hs⟩ := Ip a2
  refine ⟨hc0, fun hc μ w a n hg hf => ?_⟩
  have hxv := hf.eval x
  rw [hx] at hxv
  simp only [Rep] at hxv
  obtain ⟨w', e1, hg', hext⟩ := hs hc μ w _ hg (hf.eval y)
  exact .skip (w' := w') (by simp only [execOp, ho, hxv.2]; exact DI (s := Instr.storeAt t _ _) (by simp only [Instr.storeAt, Instr.sureAddr, Sem.run_bind]; exact e1)) ⟨μ, by simp [Rep], hg', hext⟩
 ·-- nilCheck
  rename_i x
  generalize hx : bZ fr x = vx at h
  split at h
  ·rename_i ad
   obtain ⟨rfl, rfl⟩ := aA h
   refine ⟨id, fun _ μ w a n hg hf => ?_⟩
   have hxv := hf.eval x
   rw [hx] at hxv
   have hx2 := hxv
   simp only [Rep] at hx2
   refine .value (c := a.eval x) (w' := w) (by simp only [execOp, ho, hx2.2]; rfl) (.iG (Keep.refl g) hg hxv)
  ·rename_i f l cap
   obtain ⟨rfl, rfl⟩ := aA h
   refine ⟨id, fun _ μ w a n hg hf => ?_⟩
   have hxv := hf.eval x
   rw [hx] at hxv
   have hx2 := hxv
   simp only [Rep] at hx2
   obtain ⟨fs, cs, e, _, _⟩ := hx2
   refine .value (c := a.eval x) (w' := w) (by simp only [execOp, ho, e]; rfl) (.iG (Keep.refl g) hg hxv)
  ·exact (aY h).elim
 ·-- binOp
  rename_i op t x y pos
  obtain ⟨p, k, hs⟩ := N9 h
  refine ⟨fun hc => (k.2.2 hc).1, fun hc μ w a n hg hf => ?_⟩
  obtain ⟨c, m, e1, hv⟩ := hs (k.2.2 hc).2 g.nx μ w x y _ _ (hf.eval x).fl (hf.eval y).fl
  exact .value (by simp only [execOp, ho]; exact eF e1) (.keep m k hg hv)
 ·-- unOp
  rename_i op t x
  obtain ⟨p, k, hs⟩ := SA (P := P) h
  refine ⟨fun hc => (k.2.2 hc).1, fun hc μ w a n hg hf => ?_⟩
  obtain ⟨c, e1, hv⟩ := hs (k.2.2 hc).2 g.nx μ w _ (hf.eval x).fl
  exact .value (by simp only [execOp, ho]; exact eF e1) (.iG k hg hv)
 ·-- convert
  rename_i s d x
  obtain ⟨p, k, hs⟩ := F7 h
  refine ⟨fun hc => (k.2.2 hc).1, fun hc μ w a n hg hf => ?_⟩
  obtain ⟨c, e1, hv⟩ := hs (k.2.2 hc).2 μ w _ hg (hf.eval x).fl
  exact .value (by simp only [execOp, ho]; exact eF e1) (.iG k hg hv)
 ·-- lookup
  rename_i t x i ok
  obtain ⟨rfl, hs⟩ := KR h
  refine ⟨id, fun hc μ w a n hg hf => ?_⟩
  obtain ⟨c, e1, hv⟩ := hs μ w _ _ hg (hf.eval x) (hf.eval i)
  exact .value (by simp only [execOp, ho]; exact eF e1) (.iG (Keep.refl g) hg hv)
 ·-- mapUpdate
  rename_i t m k x
  obtain ⟨_, g2, a2, h2⟩ := au h
  obtain ⟨rfl, rfl⟩ := aA h2
  obtain ⟨hc0, hs⟩ := wZ a2
  refine ⟨hc0, fun hc μ w a n hg hf => ?_⟩
  obtain ⟨w', e1, hg', hext⟩ := hs μ w _ _ _ hg (hf.eval m) (hf.eval k) (hf.eval x)
  exact .skip (w' := w') (by simp only [execOp, ho]; exact DI e1) ⟨μ, by simp [Rep], hg', hext⟩
 ·-- insert
  rename_i t m k x
  obtain ⟨_, g2, a2, h2⟩ := au h
  obtain ⟨rfl, rfl⟩ := aA h2
  obtain ⟨hc0, hs⟩ := wZ a2
  refine ⟨hc0, fun hc μ w a n hg hf => ?_⟩
  obtain ⟨w', e1, hg', hext⟩ := hs μ w _ _ _ hg (hf.eval m) (hf.eval k) (hf.eval x)
  exact .skip (w' := w') (by simp only [execOp, ho]; exact DI e1) ⟨μ, by simp [Rep], hg', hext⟩
 ·-- makeMap
  rename_i t r
  obtain ⟨hc0, hs⟩ := DL h
  refine ⟨hc0, fun hc μ w a n hg hf => ?_⟩
  obtain ⟨c, w', e1, ha⟩ := hs μ w _ hg (hf.Qj r)
  exact .value (by simp only [execOp, ho]; exact eF e1) ha
 ·-- range
  rename_i t x
  obtain ⟨hc0, hs⟩ := IQ h
  refine ⟨hc0, fun hc μ w a n hg hf => ?_⟩
  obtain ⟨c, w', e1, ha⟩ := hs μ w _ hg (hf.eval x)
  exact .value (by simp only [execOp, ho]; exact eF e1) ha
 ·-- next
  rename_i it s
  obtain ⟨hc0, hs⟩ := KT h o.type
  refine ⟨hc0, fun hc μ w a n hg hf => ?_⟩
  obtain ⟨c, w', e1, ha⟩ := hs hc μ w _ hg (hf.eval it)
  exact .value (by simp only [execOp, ho]; exact eF e1) ha
 ·-- makeFunc
  rename_i f l c
  obtain ⟨rfl, rfl⟩ := aA h
  refine ⟨id, fun _ μ w a n hg hf => ?_⟩
  refine .value (c := .func f (l.map a.eval) (c.map a.eval)) (w' := w) (by simp only [execOp, ho]; rfl) (.iG (Keep.refl g) hg ?_)
  simp only [Rep]
  exact ⟨_, _, rfl, hf.KO l, hf.KO c⟩
 ·-- makeSlice
  rename_i t l c
  obtain ⟨hc0, hs⟩ := zU h
  refine ⟨hc0, fun hc μ w a n hg hf => ?_⟩
  obtain ⟨c', w', e1, ha⟩ := (hs hc μ w _ _ hg (hf.eval l) (hf.eval c)).after
  exact .value (by simp only [execOp, ho]; exact eF e1) ha
 ·-- slice
  rename_i t x lo hi mx
  obtain ⟨p, k, hs⟩ := II h
  refine ⟨fun hc => (k.2.2 hc).1, fun hc μ w a n hg hf => ?_⟩
  obtain ⟨c, e1, hv⟩ := hs (k.2.2 hc).2 μ w _ _ _ _ hg (hf.eval x) (hf.Qj lo) (hf.Qj hi) (hf.Qj mx)
  exact .value (by simp only [execOp, ho]; exact eF e1) (.iG k hg hv)
 ·-- fieldAddr
  rename_i t x f
  obtain ⟨rfl, hs⟩ := zX h
  refine ⟨id, fun hc μ w a n hg hf => ?_⟩
  obtain ⟨c, e1, hv⟩ := hs g.nx μ w _ (hf.eval x)
  exact .value (by simp only [execOp, ho]; exact eF e1) (.iG (Keep.refl g) hg hv)
 ·-- field
  rename_i t x f
  obtain ⟨rfl, hs⟩ := IK h
  refine ⟨id, fun hc μ w a n hg hf => ?_⟩
  obtain ⟨c, e1, hv⟩ := hs g.nx μ w _ (hf.eval x)
  exact .value (by simp only [execOp, ho]; exact eF e1) (.iG (Keep.refl g) hg hv)
 ·-- indexAddr
  rename_i t x i
  obtain ⟨p, k, hs⟩ := zW h
  refine ⟨fun hc => (k.2.2 hc).1, fun hc μ w a n hg hf => ?_⟩
  obtain ⟨c, e1, hv⟩ := hs (k.2.2 hc).2 μ w _ _ hg (hf.eval x) (hf.eval i)
  exact .value (by simp only [execOp, ho]; exact eF e1) (.iG k hg hv)
 ·-- index
  rename_i t x i
  obtain ⟨p, k, hs⟩ := IJ h
  refine ⟨fun hc => (k.2.2 hc).1, fun hc μ w a n hg hf => ?_⟩
  obtain ⟨c, e1, hv⟩ := hs (k.2.2 hc).2 g.nx μ w _ _ (hf.eval x) (hf.eval i)
  exact .value (by simp only [execOp, ho]; exact eF e1) (.iG k hg hv)
 ·-- extract
  rename_i x i
  generalize hx : bZ fr x = vx at h
  split at h
  ·rename_i l
   obtain ⟨hl, rfl⟩ := aJ h
   refine ⟨id, fun hc μ w a n hg hf => ?_⟩
   have hxv := hf.eval x
   rw [hx] at hxv
   simp only [Rep] at hxv
   obtain ⟨cs, e, hr⟩ := hxv
   obtain ⟨c, hc1, hv⟩ := hr.get hl
   refine .value (c := c) (w' := w) (by simp only [execOp, ho, e]; exact eF (s := Instr.extract _ _) (by simp only [Instr.extract]; rw [← Array.getElem?_toList, hc1]; rfl)) (.iG (Keep.refl g) hg hv)
  ·exact (aY h).elim
 ·-- call
  rename_i c
  generalize hf0 : c.callee = cal at h
  split at h
  ·rename_i f
   generalize hfv : bZ fr f = vf at h
   split at h
   ·rename_i k l cap
    obtain ⟨hc0, hs⟩ := hcall _ _ _ _ _ h
    refine ⟨hc0, fun hc μ w a n hg hf => ?_⟩
    have hxv := hf.eval f
    rw [hfv] at hxv
    simp only [Rep] at hxv
    obtain ⟨fs, cs, e, h1, h2⟩ := hxv
    refine .call (f := k) (args := (fs ++ c.args.map a.eval) ++ cs) ?_ (hs hc μ w _ hg ?_)
    ·simp only [execOp, ho, resolve, hf0, e, Deferred.ofValue, Sem.run_bind]
     rfl
    ·simp only [Array.toList_append]
     exact (h1.append (hf.KO _)).append h2
   ·exact (aY h).elim
  ·rename_i b
   obtain ⟨hc0, hs⟩ := DJ h o.type (c.args.map fun | .const _ => true | _ => false)
   refine ⟨hc0, fun hc μ w a n hg hf => ?_⟩
   obtain ⟨c', w', e1, ha⟩ := hs hc μ w _ hg (hf.acK c.args)
   refine .value (c := c') (w' := w') ?_ ha
   simp only [execOp, ho, resolve, hf0, Sem.run_bind, Sem.run_pure]
   exact e1
  ·exact (aY h).elim
 ·exact (aY h).elim
end Go.Sx
namespace Go.Sx
open M
theorem Act.put_defers (a : Act) (d : Option Tmp) (v : Value) : (a.put d v).defers = a.defers := by cases d <;> rfl
def kX (n : Nat) (g : G) (μ : MM) (w : World) (g' : G) (fr' : Fr) (a a' : Act) (w' : World) : Prop :=
 ∃ μ', eX g'.nx μ' w'.heap g'.H ∧ Ext g μ w g' μ' w' ∧ dM g'.nx μ' fr' a'.tmps n ∧ a'.defers = a.defers
theorem Ext.refl (g : G) (μ : MM) (w : World) : Ext g μ w g μ w := Ext.same μ w rfl rfl
theorem kX.trans {n : Nat} {g g' g'' : G} {μ μ' : MM} {w w' w'' : World} {qo : Fr} {a a' a'' : Act} (h1 : Ext g μ w g' μ' w') (h2 : a'.defers = a.defers) (h : kX n g' μ' w' g'' qo a' a'' w'') : kX n g μ w g'' qo a a'' w'' := by
 obtain ⟨μ'', k1, k2, k3, k4⟩ := h
 exact ⟨μ'', k1, h1.trans k2, k3, k4.trans h2⟩
def Runs (n : Nat) (fr : Fr) (g : G) (fr' : Fr) (g' : G) (W : (Act → World → Prop) → Act → World → Prop) : Prop :=
 (g'.cs → g.cs) ∧ (g'.cs → ∀ μ w (a : Act), eX g.nx μ w.heap g.H → dM g.nx μ fr a.tmps n → ∀ K : Act → World → Prop, (∀ a' w', kX n g μ w g' fr' a a' w' → K a' w') → W K a w)
theorem wo {o : Oper} {y : Nat → Option Bool} {j : Nat} {want b : Bool} (hg : o.guard = some (j, want)) (hy : y j = some b) : Region.wanted o y = (b == want) := by
 simp only [Region.wanted, hg, hy]; cases b <;> cases want <;> rfl
theorem rV {ops : Array Oper} {tmps : Array Value} {j d : Nat} {b : Bool} (hj : (ops[j]?).bind (·.dst) = some d) (hd : tmps.getD d undef = .bool b) : yielded ops tmps j = some b := by
 simp only [yielded, hj, Option.bind_some]
 have : tmps[d]? = some (.bool b) := by
  cases h : tmps[d]? with
  | none => rw [Array.getD_eq_getD_getElem?, h] at hd; simp [undef] at hd
  | some v => rw [Array.getD_eq_getD_getElem?, h] at hd; simp at hd; rw [hd]
 rw [this]
theorem Gx {o : Oper} {y : Nat → Option Bool} {j : Nat} {want : Bool} (hg : o.guard = some (j, want)) (hy : y j = none) : Region.wanted o y = false := by
 simp only [Region.wanted, hg, hy]; rfl
theorem Bv {ops : Array Oper} {tmps : Array Value} {j d : Nat} {l : Array Value} (hj : (ops[j]?).bind (·.dst) = some d) (hd : tmps.getD d undef = .tuple l) : yielded ops tmps j = none := by
 simp only [yielded, hj, Option.bind_some]
 cases h : tmps[d]? with
 | none => rfl
 | some v => rw [Array.getD_eq_getD_getElem?, h] at hd; simp at hd; rw [hd]
theorem Rep.undef {N : Nat} {μ : MM} : Rep N μ (.iD []) Go.undef := by
 simp only [Rep, aI, Go.undef]; exact ⟨#[], rfl, rfl⟩
theorem IV {P : Program} {call : Calls'} (hcall : cO P call) {n : Nat} {ops : Array Oper} {rest : List Oper} {o : Oper} {fr fr' : Fr} {g g' : G} {Q : Exit → Act → World → Prop}
  (ih : ∀ fr fr' g g', kF P call n ops.toList rest fr g = .done fr' g' → Runs n fr g fr' g' fun K => wpList P ops (Exit.then K Q) rest)
  (h : ((NU P call fr o).andThen fun v => (uM n fr o.dst v).andThen fun fr' => kF P call n ops.toList rest fr') g = .done fr' g') :
  Runs n fr g fr' g' fun K a w => o.wp P a w (wpList P ops (Exit.then K Q) rest) (Exit.then K Q) := by
 obtain ⟨v, g1, a1, h1⟩ := au h
 obtain ⟨xP, g2, a2, h2⟩ := au h1
 obtain ⟨hc1, hs1⟩ := qU hcall a1
 obtain ⟨rfl, hp⟩ := xO a2
 obtain ⟨hc2, hs2⟩ := ih _ _ _ _ h2
 refine ⟨fun hc => hc1 (hc2 hc), fun hc μ w a hg hf K hK => hs1 (hc2 hc) μ w a n hg hf _ _ fun c w' ha => ?_⟩
 obtain ⟨μ', hv, hg', hext⟩ := ha
 exact hs2 hc μ' w' _ hg' (hp _ _ _ _ (hf.later hext.names hext.nx) hv) K fun a' w'' hk => hK _ _ (hk.trans hext (Act.put_defers _ _ _))
theorem Oi {P : Program} {call : Calls'} {n : Nat} {ops : Array Oper} {rest : List Oper} {o : Oper} {fr fr' : Fr} {g g' : G} {Q : Exit → Act → World → Prop}
  (ih : ∀ fr fr' g g', kF P call n ops.toList rest fr g = .done fr' g' → Runs n fr g fr' g' fun K => wpList P ops (Exit.then K Q) rest)
  (h : ((uM n fr o.dst (.iD [])).andThen fun fr' => kF P call n ops.toList rest fr') g = .done fr' g') :
  Runs n fr g fr' g' fun K a w => wpList P ops (Exit.then K Q) rest (a.put o.dst undef) w := by
 obtain ⟨xP, g2, a2, h2⟩ := au h
 obtain ⟨rfl, hp⟩ := xO a2
 obtain ⟨hc2, hs2⟩ := ih _ _ _ _ h2
 refine ⟨hc2, fun hc μ w a hg hf K hK => ?_⟩
 exact hs2 hc μ w _ hg (hp _ _ a undef hf Rep.undef) K fun a' w'' hk => hK _ _ (hk.trans (Ext.refl _ _ _) (Act.put_defers _ _ _))
theorem Bz {P : Program} {call : Calls'} (hcall : cO P call) {n : Nat} {ops : Array Oper} {Q : Exit → Act → World → Prop} : ∀ (rest : List Oper) (fr fr' : Fr) (g g' : G),
  kF P call n ops.toList rest fr g = .done fr' g' → Runs n fr g fr' g' fun K => wpList P ops (Exit.then K Q) rest
 | [], fr, fr', g, g', h => by
  obtain ⟨rfl, rfl⟩ := aA h
  exact ⟨id, fun _ μ w a hg hf K hK => wpList_nil (hK a w ⟨μ, hg, Ext.refl _ _ _, hf, rfl⟩)⟩
 | o :: rest, fr, fr', g, g', h => by
  have ih := Bz hcall (n := n) (ops := ops) (Q := Q) rest
  unfold kF at h
  generalize hgd : o.guard = gd at h
  split at h
  ·obtain ⟨hc, hs⟩ := IV hcall (Q := Q) ih h
   refine ⟨hc, fun hcs μ w a hg hf K hK => ?_⟩
   show wpList P ops (Exit.then K Q) (o :: rest) a w
   unfold wpList
   rw [if_pos (by simp [Region.wanted, hgd])]
   exact .inl (hs hcs μ w a hg hf K hK)
  ·rename_i j want
   generalize hd : (ops.toList[j]?).bind (·.dst) = dd at h
   rw [Array.getElem?_toList] at hd
   split at h
   ·exact (aY h).elim
   ·rename_i d
    generalize hfd : fr.get d = fd at h
    split at h
    ·rename_i b
     have key : ∀ N μ (a : Act), dM N μ fr a.tmps n → Region.wanted o (yielded ops a.tmps) = (b == want) := fun N μ a hf =>
      wo hgd (rV hd (by have := hf.val d _ hfd; simpa [Rep] using this))
     cases hb : (b == want) with
     | true =>
      rw [hb] at h key
      obtain ⟨hc, hs⟩ := IV hcall (Q := Q) ih h
      refine ⟨hc, fun hcs μ w a hg hf K hK => ?_⟩
      show wpList P ops (Exit.then K Q) (o :: rest) a w
      unfold wpList
      rw [if_pos (key _ _ a hf)]
      exact .inl (hs hcs μ w a hg hf K hK)
     | false =>
      rw [hb] at h key
      obtain ⟨hc, hs⟩ := Oi (Q := Q) ih h
      refine ⟨hc, fun hcs μ w a hg hf K hK => ?_⟩
      show wpList P ops (Exit.then K Q) (o :: rest) a w
      unfold wpList
      rw [if_neg (by rw [key _ _ a hf]; simp)]
      exact hs hcs μ w a hg hf K hK
    ·rename_i b
     obtain ⟨t, g1, a1, h1⟩ := au h
     have k := jc a1
     have know : ∀ N μ (a : Act), b = t → dM N μ fr a.tmps n → dM N μ (fr.upd d (some (.bool t))) a.tmps n := fun N μ a e hf =>
      hf.know hfd fun c hc => by simpa [Rep, e] using hc
     have key : ∀ N μ (a : Act), b = t → dM N μ fr a.tmps n → Region.wanted o (yielded ops a.tmps) = (t == want) := fun N μ a e hf =>
      wo hgd (rV hd (by have := hf.val d _ hfd; rw [← e]; simpa [Rep] using this))
     have ext : ∀ μ w, Ext g μ w g1 μ w := fun μ w => Ext.same μ w k.1 k.2.1
     cases hb : (t == want) with
     | true =>
      simp only [hb, cond_true] at h1
      simp only [hb] at key
      obtain ⟨hc, hs⟩ := IV hcall (Q := Q) ih h1
      refine ⟨fun hcs => (k.2.2 (hc hcs)).1, fun hcs μ w a hg hf K hK => ?_⟩
      have e := (k.2.2 (hc hcs)).2
      show wpList P ops (Exit.then K Q) (o :: rest) a w
      unfold wpList
      rw [if_pos (key _ _ a e hf)]
      exact .inl (hs hcs μ w a (by rw [k.1, k.2.1]; exact hg) (by rw [k.2.1]; exact know _ _ a e hf) K fun a' w' hk => hK _ _ (hk.trans (ext μ w) rfl))
     | false =>
      simp only [hb, cond_false] at h1
      simp only [hb] at key
      obtain ⟨hc, hs⟩ := Oi (Q := Q) ih h1
      refine ⟨fun hcs => (k.2.2 (hc hcs)).1, fun hcs μ w a hg hf K hK => ?_⟩
      have e := (k.2.2 (hc hcs)).2
      show wpList P ops (Exit.then K Q) (o :: rest) a w
      unfold wpList
      rw [if_neg (by rw [key _ _ a e hf]; simp)]
      exact hs hcs μ w a (by rw [k.1, k.2.1]; exact hg) (by rw [k.2.1]; exact know _ _ a e hf) K fun a' w' hk => hK _ _ (hk.trans (ext μ w) rfl)
    ·rename_i l
     have key : ∀ N μ (a : Act), dM N μ fr a.tmps n → Region.wanted o (yielded ops a.tmps) = false := fun N μ a hf => by
      have := hf.val d _ hfd
      simp only [Rep] at this
      obtain ⟨cs, e, _⟩ := this
      exact Gx hgd (Bv hd e)
     obtain ⟨hc, hs⟩ := Oi (Q := Q) ih h
     refine ⟨hc, fun hcs μ w a hg hf K hK => ?_⟩
     show wpList P ops (Exit.then K Q) (o :: rest) a w
     unfold wpList
     rw [if_neg (by rw [key _ _ a hf]; simp)]
     exact hs hcs μ w a hg hf K hK
    ·exact (aY h).elim
theorem DN {P : Program} {call : Calls'} (hcall : cO P call) {n : Nat} {ops : Array Oper} {Q : Exit → Act → World → Prop} (rest : List Oper) (fr fr' : Fr) (g g' : G)
  (h : zT P call n ops.toList rest fr g = .done fr' g') : Runs n fr g fr' g' fun K => wpList P ops (Exit.then K Q) rest :=
 Bz hcall rest fr fr' g g' (by rw [← rM]; exact h)
def Ex.ex : Ex → Exit
 | .normal => .normal
 | .exit id => .exit id
 | .ret => .ret
def yR (P : Program) (c : Code) (n : Nat) (fr : Fr) (g : G) (r : Ex × Fr) (g' : G) : Prop :=
 (g'.cs → g.cs) ∧ (g'.cs → ∀ μ w (a : Act), eX g.nx μ w.heap g.H → dM g.nx μ fr a.tmps n → ∀ Q : Exit → Act → World → Prop, (∀ a' w', kX n g μ w g' r.2 a a' w' → Q r.1.ex a' w') → c.wp P Q a w)
def gq (P : Program) (region : List Oper → Fr → M Fr) (n : Nat) : Prop :=
 ∀ (ops : Array Oper) (id : Nat) fr fr' g g', region ops.toList fr g = .done fr' g' → yR P (.region id ops true) n fr g (.normal, fr') g'
theorem yR.of {P : Program} {c : Code} {n : Nat} {fr : Fr} {g : G} {r : Ex × Fr} {g' : G} (h : yR P c n fr g r g') (hc : g'.cs) {μ : MM} {w : World} {a : Act} (hg : eX g.nx μ w.heap g.H) (hf : dM g.nx μ fr a.tmps n) :
  c.wp P (fun e a' w' => e = r.1.ex ∧ kX n g μ w g' r.2 a a' w') a w := h.2 hc μ w a hg hf _ fun _ _ k => ⟨rfl, k⟩
theorem BA {P : Program} {c : Code} {n : Nat} {body : Fr → M (Ex × Fr)} (hb : ∀ fr r g g', body fr g = .done r g' → yR P c n fr g r g') :
  ∀ (k : Nat) (fr : Fr) (r : Ex × Fr) (g g' : G), loopA body k fr g = .done r g' →
   (g'.cs → g.cs) ∧ (g'.cs → ∀ μ w (a : Act), eX g.nx μ w.heap g.H → dM g.nx μ fr a.tmps n → ∀ Q : Exit → Act → World → Prop, (∀ a' w', kX n g μ w g' r.2 a a' w' → Q r.1.ex a' w') → Code.rounds P c Q k a w)
 | 0, fr, r, g, g', h => (aY h).elim
 | k + 1, fr, r, g, g', h => by
  have ih := BA hb k
  unfold loopA at h
  obtain ⟨⟨e, xP⟩, g1, a1, h1⟩ := au h
  have hb1 := hb _ _ _ _ a1
  cases e with
  | normal =>
   obtain ⟨hc2, hs2⟩ := ih _ _ _ _ h1
   refine ⟨fun hc => hb1.1 (hc2 hc), fun hc μ w a hg hf Q hQ => ?_⟩
   rw [rounds_succ]
   refine wp_mono (hb1.of (hc2 hc) hg hf) ?_
   rintro e a' w' ⟨rfl, μ', hg', hext, hf', hd⟩
   exact hs2 hc μ' w' a' hg' hf' Q fun a'' w'' hk => hQ _ _ (hk.trans hext hd)
  | exit id =>
   obtain ⟨rfl, rfl⟩ := aA h1
   refine ⟨hb1.1, fun hc μ w a hg hf Q hQ => ?_⟩
   rw [rounds_succ]
   refine wp_mono (hb1.of hc hg hf) ?_
   rintro e a' w' ⟨rfl, hk⟩
   exact hQ _ _ hk
  | ret =>
   obtain ⟨rfl, rfl⟩ := aA h1
   refine ⟨hb1.1, fun hc μ w a hg hf Q hQ => ?_⟩
   rw [rounds_succ]
   refine wp_mono (hb1.of hc hg hf) ?_
   rintro e a' w' ⟨rfl, hk⟩
   exact hQ _ _ hk
def rW (id : Nat) (c : Code) : Code → Prop
 | .seq a b => rW id c a ∨ rW id c b
 | .cond _ a b => rW id c a ∨ rW id c b
 | .block id' c' => (id' = id ∧ c' = c) ∨ rW id c c'
 | .loop c' => rW id c c'
 | _ => False
def SOk (P : Program) (n : Nat) (id : Nat) (c : Code) (S : Fr → M (Ex × Fr)) : Prop := ∀ fr r g g', S fr g = .done r g' → yR P (.block id c) n fr g r g'
def iI (P : Program) (loops : Loops) (n : Nat) (c : Code) : Prop := ∀ id S, loops id = some S → ∀ c', rW id c' c → SOk P n id c' S
theorem iI.none (P : Program) (n : Nat) (c : Code) : iI P lQ n c := fun id S h => by cases h
theorem fZ {P : Program} {call : Calls'} (hcall : cO P call) {region : List Oper → Fr → M Fr} {loops : Loops} {n rounds : Nat} (qO : gq P region n) :
  ∀ (c : Code), iI P loops n c → ∀ (fr : Fr) (r : Ex × Fr) (g g' : G), cu P call region loops n rounds c fr g = .done r g' → yR P c n fr g r g'
 | .skip, hl, fr, r, g, g', h => by
  unfold cu at h
  obtain ⟨rfl, rfl⟩ := aA h
  exact ⟨id, fun _ μ w a hg hf Q hQ => wp_skip (hQ a w ⟨μ, hg, Ext.refl _ _ _, hf, rfl⟩)⟩
 | .region id ops false, hl, fr, r, g, g', h => by
  unfold cu at h
  obtain ⟨xP, g1, a1, h1⟩ := au h
  obtain ⟨rfl, rfl⟩ := aA h1
  refine ⟨(DN hcall (Q := fun _ _ _ => False) _ _ _ _ _ a1).1, fun hc μ w a hg hf Q hQ => wp_region_list ?_⟩
  have := (DN hcall (Q := Q) _ _ _ _ _ a1).2 hc μ w a hg hf (Q .normal) hQ
  have e : Exit.then (Q .normal) Q = Q := by funext e; cases e <;> rfl
  simpa only [e] using this
 | .region id ops true, hl, fr, r, g, g', h => by
  unfold cu at h
  obtain ⟨xP, g1, a1, h1⟩ := au h
  obtain ⟨rfl, rfl⟩ := aA h1
  exact qO ops id _ _ _ _ a1
 | .seq x y, hl, fr, r, g, g', h => by
  unfold cu at h
  obtain ⟨⟨e, xP⟩, g1, a1, h1⟩ := au h
  have hx := fZ hcall qO x (fun id S h c' hb => hl id S h c' (.inl hb)) _ _ _ _ a1
  cases e with
  | normal =>
   have hy := fZ hcall qO y (fun id S h c' hb => hl id S h c' (.inr hb)) _ _ _ _ h1
   refine ⟨fun hc => hx.1 (hy.1 hc), fun hc μ w a hg hf Q hQ => wp_seq (wp_mono (hx.of (hy.1 hc) hg hf) ?_)⟩
   rintro e a' w' ⟨rfl, μ', hg', hext, hf', hd⟩
   exact hy.2 hc μ' w' a' hg' hf' Q fun a'' w'' hk => hQ _ _ (hk.trans hext hd)
  | exit id =>
   obtain ⟨rfl, rfl⟩ := aA h1
   refine ⟨hx.1, fun hc μ w a hg hf Q hQ => wp_seq (wp_mono (hx.of hc hg hf) ?_)⟩
   rintro e a' w' ⟨rfl, hk⟩
   exact hQ _ _ hk
  | ret =>
   obtain ⟨rfl, rfl⟩ := aA h1
   refine ⟨hx.1, fun hc μ w a hg hf Q hQ => wp_seq (wp_mono (hx.of hc hg hf) ?_)⟩
   rintro e a' w' ⟨rfl, hk⟩
   exact hQ _ _ hk
 | .cond c x y, hl, fr, r, g, g', h => by
  unfold cu at h
  generalize hcv : bZ fr c = cv at h
  split at h
  ·rename_i t
   have key : ∀ N μ (a : Act), dM N μ fr a.tmps n → a.eval c = .bool t := fun N μ a hf => by
    have := hf.eval c
    rw [hcv] at this
    simpa [Rep] using this
   cases t with
   | true =>
    have hx := fZ hcall qO x (fun id S h c' hb => hl id S h c' (.inl hb)) _ _ _ _ h
    exact ⟨hx.1, fun hc μ w a hg hf Q hQ => wp_cond (key _ _ _ hf) (hx.2 hc μ w a hg hf Q hQ)⟩
   | false =>
    have hx := fZ hcall qO y (fun id S h c' hb => hl id S h c' (.inr hb)) _ _ _ _ h
    exact ⟨hx.1, fun hc μ w a hg hf Q hQ => wp_cond (key _ _ _ hf) (hx.2 hc μ w a hg hf Q hQ)⟩
  ·rename_i t
   obtain ⟨d, g1, a1, h1⟩ := au h
   have k := jc a1
   have key : ∀ N μ (a : Act), dM N μ fr a.tmps n → a.eval c = .bool t := fun N μ a hf => by
    have := hf.eval c
    rw [hcv] at this
    simpa [Rep] using this
   have ext : ∀ μ w, Ext g μ w g1 μ w := fun μ w => Ext.same μ w k.1 k.2.1
   cases d with
   | true =>
    have hx := fZ hcall qO x (fun id S h c' hb => hl id S h c' (.inl hb)) _ _ _ _ h1
    refine ⟨fun hc => (k.2.2 (hx.1 hc)).1, fun hc μ w a hg hf Q hQ => wp_cond (key _ _ _ hf) ?_⟩
    rw [(k.2.2 (hx.1 hc)).2]
    exact hx.2 hc μ w a (by rw [k.1, k.2.1]; exact hg) (by rw [k.2.1]; exact hf) Q fun a' w' hk => hQ _ _ (hk.trans (ext μ w) rfl)
   | false =>
    have hx := fZ hcall qO y (fun id S h c' hb => hl id S h c' (.inr hb)) _ _ _ _ h1
    refine ⟨fun hc => (k.2.2 (hx.1 hc)).1, fun hc μ w a hg hf Q hQ => wp_cond (key _ _ _ hf) ?_⟩
    rw [(k.2.2 (hx.1 hc)).2]
    exact hx.2 hc μ w a (by rw [k.1, k.2.1]; exact hg) (by rw [k.2.1]; exact hf) Q fun a' w' hk => hQ _ _ (hk.trans (ext μ w) rfl)
  ·exact (aY h).elim
 | .block id c, hl, fr, r, g, g', h => by
  unfold cu at h
  generalize hS : loops id = S at h
  split at h
  ·rename_i S'
   exact hl id S' hS c (.inl ⟨rfl, rfl⟩) fr r g g' h
  ·obtain ⟨⟨e, xP⟩, g1, a1, h1⟩ := au h
   have hx := fZ hcall qO c (fun id S h c' hb => hl id S h c' (.inr hb)) _ _ _ _ a1
   cases e with
   | normal =>
    obtain ⟨rfl, rfl⟩ := aA h1
    refine ⟨hx.1, fun hc μ w a hg hf Q hQ => wp_block (wp_mono (hx.of hc hg hf) ?_)⟩
    rintro e a' w' ⟨rfl, hk⟩
    exact hQ _ _ hk
   | ret =>
    obtain ⟨rfl, rfl⟩ := aA h1
    refine ⟨hx.1, fun hc μ w a hg hf Q hQ => wp_block (wp_mono (hx.of hc hg hf) ?_)⟩
    rintro e a' w' ⟨rfl, hk⟩
    exact hQ _ _ hk
   | exit id' =>
    cases hid : Nat.beq id' id with
    | true =>
     simp only [hid, cond_true] at h1
     obtain ⟨rfl, rfl⟩ := aA h1
     refine ⟨hx.1, fun hc μ w a hg hf Q hQ => wp_block (wp_mono (hx.of hc hg hf) ?_)⟩
     rintro e a' w' ⟨rfl, hk⟩
     simp only [Ex.ex, Exit.inBlock, if_pos (Nat.eq_of_beq_eq_true hid)]
     exact hQ _ _ hk
    | false =>
     simp only [hid, cond_false] at h1
     obtain ⟨rfl, rfl⟩ := aA h1
     refine ⟨hx.1, fun hc μ w a hg hf Q hQ => wp_block (wp_mono (hx.of hc hg hf) ?_)⟩
     rintro e a' w' ⟨rfl, hk⟩
     simp only [Ex.ex, Exit.inBlock, if_neg (Nat.ne_of_beq_eq_false hid)]
     exact hQ _ _ hk
 | .loop c, hl, fr, r, g, g', h => by
  unfold cu at h
  obtain ⟨hc0, hs⟩ := BA (fun fr r g g' h => fZ hcall qO c (fun id S h c' hb => hl id S h c' hb) fr r g g' h) _ _ _ _ _ h
  exact ⟨hc0, fun hc μ w a hg hf Q hQ => wp_loop_rounds rounds (hs hc μ w a hg hf Q hQ)⟩
 | .exit id, hl, fr, r, g, g', h => by
  unfold cu at h
  obtain ⟨rfl, rfl⟩ := aA h
  exact ⟨fun h => h, fun _ μ w a hg hf Q hQ => wp_exit (hQ a w ⟨μ, hg, Ext.refl _ _ _, hf, rfl⟩)⟩
 | .ret, hl, fr, r, g, g', h => by
  unfold cu at h
  obtain ⟨rfl, rfl⟩ := aA h
  exact ⟨fun h => h, fun _ μ w a hg hf Q hQ => wp_ret (hQ a w ⟨μ, hg, Ext.refl _ _ _, hf, rfl⟩)⟩
 | .goto _, hl, fr, r, g, g', h => (aY h).elim
 | .label _, hl, fr, r, g, g', h => (aY h).elim
end Go.Sx
namespace Go.Sx
open M
def nI (tmps : Array Value) : ResultVar → Sem Value
 | .tmp t => pure (tmps.getD t undef)
 | .cell a t => do loadVar t (← asAddr (tmps.getD a undef))
theorem F8 {P : Program} {fr : Fr} {r : ResultVar} {v : AV} {g g' : G} (h : lS P fr r g = .done v g') :
  Keep g g' True ∧ (g'.cs → ∀ μ w (tmps : Array Value) n, eX g.nx μ w.heap g.H → dM g.nx μ fr tmps n → ∃ c, (nI tmps r).run P w = .ok c w ∧ Rep g.nx μ v c) := by
 have ev : ∀ N μ (tmps : Array Value) n t, dM N μ fr tmps n → Rep N μ ((fr.get t).getD .top) (tmps.getD t undef) := fun N μ tmps n t hf => hf.eval (a := ⟨tmps, []⟩) (.tmp t)
 cases r with
 | tmp t =>
  unfold lS at h
  obtain ⟨rfl, rfl⟩ := aA h
  exact ⟨Keep.refl g, fun _ μ w tmps n _ hf => ⟨_, rfl, ev _ _ _ _ t hf⟩⟩
 | cell t ty =>
  replace h : (match (fr.get t).getD .top with
   | .ptr ad => wS P ty ad
   | _ => no : M AV) g = .done v g' := h
  generalize hx : (fr.get t).getD .top = x at h
  split at h
  ·rename_i ad
   obtain ⟨k, hs⟩ := Bc h
   refine ⟨k, fun hc μ w tmps n hg hf => ?_⟩
   obtain ⟨c, e, hv⟩ := hs hc g.nx μ w hg
   have h2 := ev _ _ _ _ t hf
   rw [hx] at h2
   simp only [Rep] at h2
   exact ⟨c, by simp only [nI, h2.2, asAddr, Sem.run_bind]; exact e, hv⟩
  ·exact (aY h).elim
theorem pJ {P : Program} {fr : Fr} : ∀ {l : List ResultVar} {vs : List AV} {g g' : G}, dA P fr l g = .done vs g' →
  Keep g g' True ∧ (g'.cs → ∀ μ w (tmps : Array Value) n, eX g.nx μ w.heap g.H → dM g.nx μ fr tmps n → ∃ cs, (l.mapM (nI tmps)).run P w = .ok cs w ∧ aI g.nx μ vs cs)
 | [], vs, g, g', h => by
  unfold dA at h
  obtain ⟨rfl, rfl⟩ := aA h
  exact ⟨Keep.refl g, fun _ μ w tmps n _ _ => ⟨[], rfl, by simp [aI]⟩⟩
 | r :: l, vs, g, g', h => by
  unfold dA at h
  obtain ⟨v, g1, a1, h1⟩ := au h
  obtain ⟨us, g2, a2, h2⟩ := au h1
  obtain ⟨rfl, rfl⟩ := aA h2
  obtain ⟨k1, hs1⟩ := F8 a1
  obtain ⟨k2, hs2⟩ := pJ a2
  refine ⟨(k1.trans k2).mono fun _ => trivial, fun hc μ w tmps n hg hf => ?_⟩
  obtain ⟨c, e1, hv⟩ := hs1 (k2.2.2 hc).1 μ w tmps n hg hf
  obtain ⟨cs, e2, hvs⟩ := hs2 hc μ w tmps n (by rw [k1.1, k1.2.1]; exact hg) (by rw [k1.2.1]; exact hf)
  refine ⟨c :: cs, by simp [List.mapM_cons, e1, e2], ?_⟩
  simp only [aI]
  rw [k1.2.1] at hvs
  exact ⟨c, cs, rfl, hv, hvs⟩
def mG : List AV → AV
 | [v] => v
 | vs => .iD vs
theorem uT {P : Program} {fn : Func} {tmps : Array Value} {w : World} {cs : List Value} (h : (fn.results.toList.mapM (nI tmps)).run P w = .ok cs w) {N : Nat} {μ : MM} {vs : List AV} (hr : aI N μ vs cs) :
  ∃ c, (results fn tmps).run P w = .ok c w ∧ Rep N μ (mG vs) c := by
 have e : (fn.results.mapM (nI tmps)).run P w = .ok cs.toArray w := by
  rw [Array.mapM_eq_mapM_toList, map_eq_pure_bind, Sem.run_bind, h]
  rfl
 have e2 : results fn tmps = (do
   let vs ← fn.results.mapM (nI tmps)
   pure (if h : vs.size = 1 then vs[0] else .tuple vs)) := by
  unfold results
  congr 1
 rw [e2, Sem.run_bind, e]
 refine ⟨_, rfl, ?_⟩
 match vs, cs, hr with
 | [], cs, hr => simp only [aI] at hr; subst hr; simp [mG, Rep, aI]
 | [v], cs, hr =>
  simp only [aI] at hr
  obtain ⟨c, r, rfl, hv, rfl⟩ := hr
  simpa [mG] using hv
 | v :: u :: l, cs, hr =>
  have hr0 := hr
  simp only [aI] at hr
  obtain ⟨c, r, rfl, _, d, r', rfl, _, _⟩ := hr
  simp only [mG, Rep]
  exact ⟨_, by simp, hr0⟩
theorem BD : ∀ (l : List AV) (i : Nat) (fr : Fr) (t : Nat), (bJ l i fr).get t = if i ≤ t ∧ t < i + l.length then l[t - i]? else fr.get t
 | [], i, fr, t => by simp [bJ]; omega
 | v :: l, i, fr, t => by
  simp only [bJ, BD l (i + 1), T.bP, List.length_cons]
  by_cases h1 : t = i
  ·subst h1; simp; omega
  ·by_cases h2 : i + 1 ≤ t ∧ t < i + 1 + l.length
   ·rw [if_pos h2, if_pos (by omega)]
    have : t - i = (t - (i + 1)) + 1 := by omega
    rw [this, List.getElem?_cons_succ]
   ·rw [if_neg h2, if_neg h1, if_neg (by omega)]
theorem dM.start {N : Nat} {μ : MM} {l : List AV} {args : Array Value} (h : aI N μ l args.toList) (n : Nat) : dM N μ (bJ l 0 .e) (args ++ Array.replicate (n - args.size) undef) n where
 size := by simp; omega
 val := fun t v ht => by
  rw [BD] at ht
  split at ht
  ·obtain ⟨c, hc, hv⟩ := h.get ht
   have hc' : args[t]? = some c := by simpa using hc
   have hlt : t < args.size := (Array.getElem?_eq_some_iff.1 hc').1
   rw [Array.getD_eq_getD_getElem?, Array.getElem?_append_left hlt, hc']
   exact hv
  ·simp [T.get] at ht
def eY (P : Program) (Γ : Known) : Prop := ∀ f s, Γ f = some s → ∀ args v g g', s args g = .done v g' → bf P f args v g g'
def Oj (P : Program) : Prop := ∀ (f : FuncId) (fn : Func), P.funcs[f]? = some fn → fn.body.isSome = true → (fn.name == "runtime.NumGoroutine") = false
def DR (P : Program) : Bool := P.funcs.toList.all fun fn => fn.body.isNone || !(fn.name == "runtime.NumGoroutine")
theorem Oj.of {P : Program} (h : DR P = true) : Oj P := fun f fn hf hb => by
 unfold DR at h
 rw [List.all_eq_true] at h
 have := h fn (List.mem_of_getElem? (i := f) (by simpa using hf))
 cases hbd : fn.body with
 | none => rw [hbd] at hb; cases hb
 | some c => rw [hbd] at this; simpa using this
theorem qV {P : Program} {f : FuncId} {fn : Func} {c : Code} (hf : P.funcs[f]? = some fn) (hname : (fn.name == "runtime.NumGoroutine") = false) (hb : fn.body = some c) (args : Array Value) (w : World) :
  (callFunc f args).run P w = .ok (.enter f args) w := by
 have h1 : fn.name ≠ "runtime.NumGoroutine" := by simpa using hname
 simp [callFunc, hf, h1, hb]
theorem Yu {P : Program} {f : FuncId} {fn : Func} {c : Code} (hf : P.funcs[f]? = some fn) (hb : fn.body = some c) {args : List AV} {g g1 : G} {e : Ex} {fr : Fr} {g' : G} {vs : List AV}
  (hl : yR P c fn.ntmps (bJ args 0 .e) g (e, fr) g1) (he : ∀ id, e ≠ .exit id) (hr : dA P fr fn.results.toList g1 = .done vs g') :
  (g'.cs → g.cs) ∧ (g'.cs → ∀ μ w (bT : Array Value), eX g.nx μ w.heap g.H → aI g.nx μ args bT.toList → Calls P f bT w fun e w' => ∃ c, e = .returned c ∧ After g μ w g' (mG vs) c w') := by
 obtain ⟨k, hs⟩ := pJ hr
 refine ⟨fun hc => hl.1 (k.2.2 hc).1, fun hc μ w bT hg ha => ?_⟩
 refine calls_of_wp hf hb (hl.2 (k.2.2 hc).1 μ w _ hg (dM.start ha fn.ntmps) _ fun a' w' hk => ?_)
 obtain ⟨μ', hg', hext, hf', hd⟩ := hk
 obtain ⟨cs, e1, hvs⟩ := hs hc μ' w' a'.tmps _ hg' hf'
 obtain ⟨cv, e2, hcv⟩ := uT e1 hvs
 have post : a'.defers = [] ∧ ∃ v, (results fn a'.tmps).run P w' = .ok v w' ∧ ∃ c, Ending.returned v = .returned c ∧ After g μ w g' (mG vs) c w' :=
  ⟨hd, cv, e2, cv, rfl, μ', by rw [k.2.1]; exact hcv, by rw [k.1, k.2.1]; exact hg', hext.trans (Ext.same μ' w' k.1 k.2.1)⟩
 cases e with
 | normal => exact post
 | ret => exact post
 | exit id => exact absurd rfl (he id)
def Qm (P : Program) (Λ : FuncId → Loops) : Prop := ∀ f fn c, P.funcs[f]? = some fn → fn.body = some c → iI P (Λ f) fn.ntmps c
theorem DT {P : Program} {Γ : Known} {Λ : FuncId → Loops} {region : Calls' → Nat → List Oper → Fr → M Fr} {rounds : Nat} (hΓ : eY P Γ) (hΛ : Qm P Λ) (qO : ∀ fuel, cO P (FZ P Γ Λ region rounds fuel) → ∀ n, gq P (region (FZ P Γ Λ region rounds fuel) n) n) (hn : Oj P) :
  ∀ fuel, cO P (FZ P Γ Λ region rounds fuel)
 | 0 => fun f args v g g' h => (aY h).elim
 | fuel + 1 => fun f args v g g' h => by
  have ih := DT (rounds := rounds) hΓ hΛ qO hn fuel
  unfold FZ at h
  generalize hs : Γ f = s0 at h
  split at h
  ·rename_i s
   exact hΓ f s hs args v g g' h
  ·generalize hf : P.funcs[f]? = fn0 at h
   split at h
   ·exact (aY h).elim
   ·rename_i fn
    generalize hb : fn.body = c0 at h
    split at h
    ·exact (aY h).elim
    ·rename_i c
     obtain ⟨⟨e, fr⟩, g1, a1, h1⟩ := au h
     have hl := fZ ih (qO fuel ih fn.ntmps) _ (hΛ f fn c hf hb) _ _ _ _ a1
     have fin : ∀ {vs g2 v}, (match vs with
      | [v] => ret v
      | _ => ret (.iD vs) : M AV) g2 = .done v g' → v = mG vs ∧ g2 = g' := by
      intro vs g2 v h
      match vs, h with
      | [], h => exact aA h
      | [u], h => exact aA h
      | u :: t :: l, h => exact aA h
     have main : ∀ (he : ∀ id, e ≠ .exit id) vs, dA P fr fn.results.toList g1 = .done vs g' → v = mG vs → bf P f args v g g' := fun he vs hr hv => by
      obtain ⟨hc0, hs⟩ := Yu hf hb hl he hr
      refine ⟨hc0, fun hc μ w bT hg ha => .inr ⟨f, bT, w, qV hf (hn f fn hf (by rw [hb]; rfl)) hb bT w, ?_⟩⟩
      rw [hv]
      exact hs hc μ w bT hg ha
     cases e with
     | exit id => exact (aY h1).elim
     | normal =>
      obtain ⟨vs, g2, a2, h2⟩ := au h1
      obtain ⟨rfl, rfl⟩ := fin h2
      exact main (by simp) vs a2 rfl
     | ret =>
      obtain ⟨vs, g2, a2, h2⟩ := au h1
      obtain ⟨rfl, rfl⟩ := fin h2
      exact main (by simp) vs a2 rfl
end Go.Sx
namespace Go.Sx
open M
def TR (g g' : G) : Prop := ∃ l, g'.uG = l ++ g.uG ∧ g.nx ≤ g'.nx ∧ ∀ nm, nm < g.nx → nm ∉ l → g'.H.get nm = g.H.get nm
theorem TR.refl (g : G) : TR g g := ⟨[], rfl, Nat.le_refl _, fun _ _ _ => rfl⟩
theorem TR.trans {a b c : G} (h : TR a b) (k : TR b c) : TR a c := by
 obtain ⟨l, h1, h2, h3⟩ := h
 obtain ⟨m, k1, k2, k3⟩ := k
 refine ⟨m ++ l, by rw [k1, h1, List.append_assoc], by omega, fun nm hn hm => ?_⟩
 rw [List.mem_append, not_or] at hm
 rw [k3 nm (by omega) hm.1, h3 nm hn hm.2]
structure aC {α : Type} (x : M α) : Prop where
 of : ∀ g a g', x g = .done a g' → TR g g'
variable {α β : Type}
theorem aC.ret (a : α) : aC (ret a) := ⟨fun g b g' h => by obtain ⟨_, rfl⟩ := aA h; exact TR.refl g⟩
theorem aC.no : aC (no : M α) := ⟨fun _ _ _ h => (aY h).elim⟩
theorem aC.andThen {x : M α} {f : α → M β} (hx : aC x) (hf : ∀ a, aC (f a)) : aC (x.andThen f) := ⟨fun g b g' h => by
 obtain ⟨a, g1, h1, h2⟩ := au h
 exact (hx.of _ _ _ h1).trans ((hf _).of _ _ _ h2)⟩
theorem aC.bF (o : Option α) : aC (bF o) := ⟨fun g b g' h => by obtain ⟨_, rfl⟩ := aJ h; exact TR.refl g⟩
theorem aC.req (p : Prop) : aC (req p) := ⟨fun g b g' h => by cases h; exact ⟨[], rfl, Nat.le_refl _, fun _ _ _ => rfl⟩⟩
theorem aC.ck (s : Bool) (p : Prop) [Decidable p] : aC (ck s p) := by
 unfold M.ck
 cases s
 ·by_cases hp : p
  ·simp only [cond_false, hp, decide_true, cond_true]; exact aC.ret ()
  ·simp only [cond_false, hp, decide_false]; exact aC.no
 ·exact aC.req p
theorem aC.dec (b : Bool) : aC (dec b) := ⟨fun g d g' h => by
 unfold M.dec at h
 split at h
 ·cases h
 ·cases h; exact ⟨[], rfl, Nat.le_refl _, fun _ _ _ => rfl⟩⟩
theorem aC.qm (nm : Nat) : aC (qm nm) := ⟨fun g d g' h => by obtain ⟨_, rfl⟩ := jd h; exact TR.refl g⟩
theorem aC.setB (nm : Nat) (b : aF) : aC (setB nm b) := ⟨fun g d g' h => by
 cases h
 exact ⟨[nm], rfl, Nat.le_refl _, fun n _ hn => by simp only [T.bP]; rw [if_neg (by simpa using hn)]⟩⟩
theorem aC.yC (nm : Nat) : aC (yC nm) := ⟨fun g d g' h => by
 cases h
 exact ⟨[nm], rfl, Nat.le_refl _, fun n _ hn => by simp only [T.bP]; rw [if_neg (by simpa using hn)]⟩⟩
theorem aC.iR (b : aF) : aC (iR b) := ⟨fun g d g' h => by
 cases h
 exact ⟨[], rfl, Nat.le_succ _, fun n hn _ => by simp only [T.bP]; rw [if_neg (by omega)]⟩⟩
theorem aC.dn (b : Bool) : aC (dn b) := by
 unfold M.dn; cases b
 ·exact aC.no
 ·exact aC.ret ()
theorem aC.cond {b : Bool} {x y : M α} (hx : aC x) (hy : aC y) : aC (bif b then x else y) := by cases b <;> assumption
theorem aC.ite {p : Prop} [Decidable p] {x y : M α} (hx : aC x) (hy : aC y) : aC (if p then x else y) := by split <;> assumption
theorem aC.jU (nm : Nat) : aC (jU nm) := (aC.qm nm).andThen fun _ => aC.bF _
theorem aC.Yf (s : Bool) (p : Prop) : aC (Sx.Yf s p) := by
 unfold Sx.Yf; cases s
 ·exact aC.ret ()
 ·exact aC.req p
theorem aC.wS (P : Program) (t : TypeId) (a : AA) : aC (Sx.wS P t a) := by
 unfold Sx.wS
 repeat (first | with_reducible exact aC.ret _ | with_reducible exact aC.bF _ | with_reducible exact aC.ck _ _ | with_reducible exact aC.jU _ | with_reducible apply aC.cond | with_reducible apply aC.andThen | with_reducible apply aC.ite | intro _ | split)
theorem aC.xA (P : Program) (t : TypeId) (a : AA) (v : AV) : aC (Sx.xA P t a v) := by
 unfold Sx.xA
 repeat (first | with_reducible exact aC.bF _ | with_reducible exact aC.ck _ _ | with_reducible exact aC.jU _ | with_reducible exact aC.setB _ _ | with_reducible exact aC.dn _ | with_reducible apply aC.cond | with_reducible apply aC.andThen | with_reducible apply aC.ite | intro _ | split)
theorem aC.Kt (v : AV) : aC (Sx.Kt v) := by
 unfold Sx.Kt
 repeat (first | with_reducible exact aC.ret _ | with_reducible exact aC.iR _ | with_reducible exact aC.dn _ | with_reducible apply aC.cond | with_reducible apply aC.andThen | with_reducible apply aC.ite | intro _ | split)
theorem aC.lM (s : Bool) (k : IntKind) (r : Int) : aC (Sx.lM s k r) := by
 unfold Sx.lM
 repeat (first | with_reducible exact aC.ret _ | with_reducible exact aC.req _ | with_reducible apply aC.cond | with_reducible apply aC.andThen | with_reducible apply aC.ite | intro _ | split)
theorem aC.jK (s : Bool) (k : IntKind) (op : BinOp) (a b : Int) : aC (Sx.jK s k op a b) := by
 unfold Sx.jK
 repeat (first | with_reducible exact aC.ret _ | with_reducible exact aC.no | with_reducible exact aC.ck _ _ | with_reducible exact aC.lM _ _ _ | with_reducible apply aC.cond | with_reducible apply aC.andThen | with_reducible apply aC.ite | intro _ | split)
theorem aC.o8 (s : Bool) (k : IntKind) (op : BinOp) (a b : Int) : aC (Sx.o8 s k op a b) := by
 unfold Sx.o8
 repeat (first | with_reducible exact aC.ret _ | with_reducible exact aC.no | with_reducible exact aC.ck _ _ | with_reducible exact aC.lM _ _ _ | with_reducible apply aC.cond | with_reducible apply aC.andThen | with_reducible apply aC.ite | intro _ | split)
theorem aC.rE (s : Bool) (op : BinOp) (x y : Nat) : aC (Sx.rE s op x y) := by
 unfold Sx.rE
 repeat (first | with_reducible exact aC.ret _ | with_reducible exact aC.no | with_reducible apply aC.cond | with_reducible apply aC.andThen | with_reducible apply aC.ite | intro _ | split)
theorem aC.xB (s : Bool) (op : BinOp) (a b c d : Nat) : aC (Sx.xB s op a b c d) := by
 unfold Sx.xB
 repeat (first | with_reducible exact aC.ret _ | with_reducible exact aC.no | with_reducible apply aC.cond | with_reducible apply aC.andThen | with_reducible apply aC.ite | intro _ | split)
theorem aC.xC (s : Bool) (op : BinOp) (a b : List UInt8) : aC (Sx.xC s op a b) := by
 unfold Sx.xC
 repeat (first | with_reducible exact aC.ret _ | with_reducible exact aC.no | with_reducible exact aC.ck _ _ | with_reducible apply aC.cond | with_reducible apply aC.andThen | with_reducible apply aC.ite | intro _ | split)
theorem aC.qL (op : BinOp) (s a b : Bool) : aC (Sx.qL op s a b) := by
 unfold Sx.qL
 repeat (first | with_reducible exact aC.ret _ | with_reducible exact aC.no | with_reducible apply aC.cond | with_reducible apply aC.andThen | with_reducible apply aC.ite | intro _ | split)
theorem aC.o9 (op : BinOp) (b : Bool) : aC (Sx.o9 op b) := by
 unfold Sx.o9
 repeat (first | with_reducible exact aC.ret _ | with_reducible exact aC.no | with_reducible apply aC.cond | with_reducible apply aC.andThen | with_reducible apply aC.ite | intro _ | split)
theorem aC.rF (s : Bool) (op : BinOp) (x : Nat) (m : Int) : aC (Sx.rF s op x m) := by
 unfold Sx.rF
 repeat (first | with_reducible exact aC.ret _ | with_reducible exact aC.ck _ _ | with_reducible exact aC.jK _ _ _ _ _ | with_reducible apply aC.cond | with_reducible apply aC.andThen | with_reducible apply aC.ite | intro _ | split)
theorem aC.uJ (P : Program) (op : BinOp) (t : TypeId) (x y : AV) : aC (Sx.uJ P op t x y) := by
 unfold Sx.uJ
 repeat (first | with_reducible exact aC.ret _ | with_reducible exact aC.no | with_reducible exact aC.bF _ | with_reducible exact aC.ck _ _ | with_reducible exact aC.Yf _ _ | with_reducible exact aC.dn _ | with_reducible exact aC.jK _ _ _ _ _ | with_reducible exact aC.o8 _ _ _ _ _ | with_reducible exact aC.rE _ _ _ _ | with_reducible exact aC.xB _ _ _ _ _ _ | with_reducible exact aC.xC _ _ _ _ | with_reducible exact aC.qL _ _ _ _ | with_reducible exact aC.o9 _ _ | with_reducible exact aC.rF _ _ _ _ | with_reducible apply aC.cond | with_reducible apply aC.andThen | with_reducible apply aC.ite | intro _ | split)
theorem aC.Si (P : Program) (op : BinOp) (t : TypeId) (s : Bool) (k : IntKind) (a : Int) (y : AV) : aC (Sx.Si P op t s k a y) := by
 unfold Sx.Si
 repeat (first | with_reducible exact aC.no | with_reducible exact aC.jK _ _ _ _ _ | with_reducible exact aC.o8 _ _ _ _ _ | with_reducible exact aC.uJ _ _ _ _ _ | with_reducible apply aC.cond | with_reducible apply aC.andThen | with_reducible apply aC.ite | intro _ | split)
theorem aC.Sj (P : Program) (op : BinOp) (t : TypeId) (s : Bool) (a : Nat) (y : AV) : aC (Sx.Sj P op t s a y) := by
 unfold Sx.Sj
 repeat (first | with_reducible exact aC.rE _ _ _ _ | with_reducible exact aC.uJ _ _ _ _ _ | with_reducible apply aC.cond | with_reducible apply aC.andThen | with_reducible apply aC.ite | intro _ | split)
theorem aC.Ku (P : Program) (op : BinOp) (t : TypeId) (x y : AV) : aC (Sx.Ku P op t x y) := by
 unfold Sx.Ku
 repeat (first | with_reducible exact aC.uJ _ _ _ _ _ | with_reducible exact aC.Si _ _ _ _ _ _ _ | with_reducible exact aC.Sj _ _ _ _ _ _ | with_reducible apply aC.cond | with_reducible apply aC.andThen | with_reducible apply aC.ite | intro _ | split)
theorem aC.unA (op : UnOp) (x : AV) : aC (Sx.unA op x) := by
 unfold Sx.unA
 repeat (first | with_reducible exact aC.ret _ | with_reducible exact aC.no | with_reducible exact aC.lM _ _ _ | with_reducible apply aC.cond | with_reducible apply aC.andThen | with_reducible apply aC.ite | intro _ | split)
theorem aC.xE (s : Bool) (a : AA) (dL sz n m : Nat) : aC (Sx.xE s a dL sz n m) := by
 unfold Sx.xE
 repeat (first | with_reducible exact aC.ck _ _ | with_reducible apply aC.cond | with_reducible apply aC.andThen | with_reducible apply aC.ite | intro _ | split)
theorem aC.Gq (d : TypeDesc) (x : AV) : aC (Sx.Gq d x) := by
 unfold Sx.Gq
 repeat (first | with_reducible exact aC.ret _ | with_reducible exact aC.no | with_reducible exact aC.req _ | with_reducible exact aC.ck _ _ | with_reducible apply aC.cond | with_reducible apply aC.andThen | with_reducible apply aC.ite | intro _ | split)
theorem aC.Dh (P : Program) (src dst : TypeId) (x : AV) : aC (Sx.Dh P src dst x) := by
 unfold Sx.Dh
 repeat (first | with_reducible exact aC.bF _ | with_reducible exact aC.Gq _ _ | with_reducible apply aC.cond | with_reducible apply aC.andThen | with_reducible apply aC.ite | intro _ | split)
theorem aC.NS (P : Program) (t : TypeId) (x : AV) : aC (Sx.NS P t x) := by
 unfold Sx.NS
 repeat (first | with_reducible exact aC.ret _ | with_reducible exact aC.no | with_reducible exact aC.dn _ | with_reducible apply aC.cond | with_reducible apply aC.andThen | with_reducible apply aC.ite | intro _ | split)
theorem aC.xG (P : Program) (t : TypeId) (x : AV) (lo hi mx : Option AV) : aC (Sx.xG P t x lo hi mx) := by
 unfold Sx.xG
 repeat (first | with_reducible exact aC.ret _ | with_reducible exact aC.no | with_reducible exact aC.bF _ | with_reducible exact aC.ck _ _ | with_reducible exact aC.jU _ | with_reducible exact aC.dn _ | with_reducible apply aC.cond | with_reducible apply aC.andThen | with_reducible apply aC.ite | intro _ | split)
theorem aC.kY (P : Program) (t : TypeId) (x ix : AV) : aC (Sx.kY P t x ix) := by
 unfold Sx.kY
 repeat (first | with_reducible exact aC.ret _ | with_reducible exact aC.no | with_reducible exact aC.bF _ | with_reducible exact aC.ck _ _ | with_reducible exact aC.jU _ | with_reducible apply aC.cond | with_reducible apply aC.andThen | with_reducible apply aC.ite | intro _ | split)
theorem aC.yF (y : Nat × Bool) (cs : List AV) (off : Nat) : aC (Sx.yF y cs off) := by
 unfold Sx.yF
 repeat (first | with_reducible exact aC.ret _ | with_reducible exact aC.bF _ | with_reducible exact aC.dn _ | with_reducible apply aC.cond | with_reducible apply aC.andThen | with_reducible apply aC.ite | intro _ | split)
theorem aC.xH (P : Program) (t : TypeId) (x ix : AV) : aC (Sx.xH P t x ix) := by
 unfold Sx.xH
 repeat (first | with_reducible exact aC.ret _ | with_reducible exact aC.no | with_reducible exact aC.bF _ | with_reducible exact aC.ck _ _ | with_reducible exact aC.dn _ | with_reducible exact aC.yF _ _ _ | with_reducible apply aC.cond | with_reducible apply aC.andThen | with_reducible apply aC.ite | intro _ | split)
theorem aC.kZ (P : Program) (t : TypeId) (x : AV) (f : Nat) : aC (Sx.kZ P t x f) := by
 unfold Sx.kZ
 repeat (first | with_reducible exact aC.ret _ | with_reducible exact aC.bF _ | with_reducible exact aC.dn _ | with_reducible apply aC.cond | with_reducible apply aC.andThen | with_reducible apply aC.ite | intro _ | split)
theorem aC.xI (P : Program) (t : TypeId) (x : AV) (f : Nat) : aC (Sx.xI P t x f) := by
 unfold Sx.xI
 repeat (first | with_reducible exact aC.bF _ | with_reducible exact aC.yF _ _ _ | with_reducible apply aC.cond | with_reducible apply aC.andThen | with_reducible apply aC.ite | intro _ | split)
theorem aC.lu (P : Program) (t : TypeId) (l c : AV) : aC (Sx.lu P t l c) := by
 unfold Sx.lu
 repeat (first | with_reducible exact aC.ret _ | with_reducible exact aC.bF _ | with_reducible exact aC.ck _ _ | with_reducible exact aC.iR _ | with_reducible apply aC.cond | with_reducible apply aC.andThen | with_reducible apply aC.ite | intro _ | split)
theorem aC.xJ (P : Program) (t : TypeId) (parts : List (Nat × AV)) : aC (Sx.xJ P t parts) := by
 unfold Sx.xJ
 repeat (first | with_reducible exact aC.ret _ | with_reducible exact aC.bF _ | with_reducible exact aC.dn _ | with_reducible apply aC.cond | with_reducible apply aC.andThen | with_reducible apply aC.ite | intro _ | split)
theorem aC.jL (P : Program) (t : TypeId) (len : Nat) (parts : List (Nat × AV)) : aC (Sx.jL P t len parts) := by
 unfold Sx.jL
 repeat (first | with_reducible exact aC.ret _ | with_reducible exact aC.bF _ | with_reducible exact aC.iR _ | with_reducible exact aC.dn _ | with_reducible apply aC.cond | with_reducible apply aC.andThen | with_reducible apply aC.ite | intro _ | split)
theorem aC.pz (dL : Nat) (y : AV) : aC (Sx.pz dL y) := by
 unfold Sx.pz
 repeat (first | with_reducible exact aC.ret _ | with_reducible exact aC.no | with_reducible exact aC.jU _ | with_reducible exact aC.xE _ _ _ _ _ _ | with_reducible apply aC.cond | with_reducible apply aC.andThen | with_reducible apply aC.ite | intro _ | split)
theorem aC.nD (P : Program) (t u : TypeId) (x y : AV) : aC (Sx.nD P t u x y) := by
 unfold Sx.nD
 repeat (first | with_reducible exact aC.ret _ | with_reducible exact aC.no | with_reducible exact aC.bF _ | with_reducible exact aC.ck _ _ | with_reducible exact aC.jU _ | with_reducible exact aC.yC _ | with_reducible exact aC.iR _ | with_reducible exact aC.dn _ | with_reducible exact aC.pz _ _ | with_reducible apply aC.cond | with_reducible apply aC.andThen | with_reducible apply aC.ite | intro _ | split)
theorem aC.Kv (x y : AV) : aC (Sx.Kv x y) := by
 unfold Sx.Kv
 repeat (first | with_reducible exact aC.ret _ | with_reducible exact aC.no | with_reducible apply aC.cond | with_reducible apply aC.andThen | with_reducible apply aC.ite | intro _ | split)
theorem aC.Kw (x y : AV) : aC (Sx.Kw x y) := by
 unfold Sx.Kw
 repeat (first | with_reducible exact aC.ret _ | with_reducible exact aC.no | with_reducible apply aC.cond | with_reducible apply aC.andThen | with_reducible apply aC.ite | intro _ | split)
theorem aC.lookA (P : Program) (t : TypeId) (x ix : AV) (ok : Bool) : aC (Sx.lookA P t x ix ok) := by
 unfold Sx.lookA
 repeat (first | with_reducible exact aC.ret _ | with_reducible exact aC.no | with_reducible exact aC.bF _ | with_reducible exact aC.qm _ | with_reducible apply aC.cond | with_reducible apply aC.andThen | with_reducible apply aC.ite | intro _ | split)
theorem aC.qx (P : Program) (t : TypeId) (m k v : AV) : aC (Sx.qx P t m k v) := by
 unfold Sx.qx
 repeat (first | with_reducible exact aC.no | with_reducible exact aC.bF _ | with_reducible exact aC.qm _ | with_reducible exact aC.setB _ _ | with_reducible apply aC.cond | with_reducible apply aC.andThen | with_reducible apply aC.ite | intro _ | split)
theorem aC.pG (P : Program) (t : TypeId) (r : Option AV) : aC (Sx.pG P t r) := by
 unfold Sx.pG
 repeat (first | with_reducible exact aC.ret _ | with_reducible exact aC.bF _ | with_reducible exact aC.iR _ | with_reducible exact aC.dn _ | with_reducible apply aC.cond | with_reducible apply aC.andThen | with_reducible apply aC.ite | intro _ | split)
theorem aC.xK (P : Program) (t : TypeId) (x : AV) : aC (Sx.xK P t x) := by
 unfold Sx.xK
 repeat (first | with_reducible exact aC.ret _ | with_reducible exact aC.bF _ | with_reducible exact aC.iR _ | with_reducible exact aC.dn _ | with_reducible apply aC.cond | with_reducible apply aC.andThen | with_reducible apply aC.ite | intro _ | split)
theorem aC.NT (s b : Bool) : aC (Sx.NT s b) := by
 unfold Sx.NT
 repeat (first | with_reducible exact aC.ret _ | with_reducible exact aC.dec _ | with_reducible apply aC.cond | with_reducible apply aC.andThen | with_reducible apply aC.ite | intro _ | split)
theorem aC.Dj (it : AV) (isString : Bool) : aC (Sx.Dj it isString) := by
 unfold Sx.Dj
 repeat (first | with_reducible exact aC.ret _ | with_reducible exact aC.bF _ | with_reducible exact aC.qm _ | with_reducible exact aC.setB _ _ | with_reducible exact aC.dn _ | with_reducible exact aC.NT _ _ | with_reducible apply aC.cond | with_reducible apply aC.andThen | with_reducible apply aC.ite | intro _ | split)
theorem aC.A8 (P : Program) (src dst : TypeId) (x : AV) : aC (Sx.A8 P src dst x) := by
 unfold Sx.A8
 repeat (first | with_reducible exact aC.ret _ | with_reducible exact aC.bF _ | with_reducible exact aC.dn _ | with_reducible exact aC.pz _ _ | with_reducible apply aC.cond | with_reducible apply aC.andThen | with_reducible apply aC.ite | intro _ | split)
theorem aC.rJ (P : Program) (src dst : TypeId) (x : AV) : aC (Sx.rJ P src dst x) := by
 unfold Sx.rJ
 repeat (first | with_reducible exact aC.Dh _ _ _ _ | with_reducible exact aC.A8 _ _ _ _ | with_reducible apply aC.cond | with_reducible apply aC.andThen | with_reducible apply aC.ite | intro _ | split)
theorem aC.wU {f : AV → AV → M AV} (hf : ∀ x y, aC (f x y)) : ∀ (l : List AV) (x : AV), aC (Sx.wU f x l)
 | [], x => aC.ret x
 | y :: l, x => (hf x y).andThen fun _ => aC.wU hf l _
theorem aC.pF (P : Program) (b : Builtin) (ts : List TypeId) (args : List AV) : aC (Sx.pF P b ts args) := by
 unfold Sx.pF
 repeat (first | with_reducible exact aC.ret _ | with_reducible exact aC.no | with_reducible exact aC.NS _ _ _ | with_reducible exact aC.nD _ _ _ _ _ | with_reducible exact aC.Kv _ _ | with_reducible exact aC.Kw _ _ | with_reducible exact aC.wU aC.Kv _ _ | with_reducible exact aC.wU aC.Kw _ _ | with_reducible apply aC.cond | with_reducible apply aC.andThen | with_reducible apply aC.ite | intro _ | split)
def iq (call : Calls') : Prop := ∀ f args, aC (call f args)
theorem aC.NU (P : Program) {call : Calls'} (hc : iq call) (fr : Fr) (o : Oper) : aC (Sx.NU P call fr o) := by
 unfold Sx.NU
 repeat (first | with_reducible exact aC.ret _ | with_reducible exact aC.no | with_reducible exact aC.bF _ | with_reducible exact aC.dec _ | with_reducible exact aC.wS _ _ _ | with_reducible exact aC.xA _ _ _ _ | with_reducible exact aC.Kt _ | with_reducible exact aC.Ku _ _ _ _ _ | with_reducible exact aC.unA _ _ | with_reducible exact aC.xG _ _ _ _ _ _ | with_reducible exact aC.kY _ _ _ _ | with_reducible exact aC.xH _ _ _ _ | with_reducible exact aC.kZ _ _ _ _ | with_reducible exact aC.xI _ _ _ _ | with_reducible exact aC.lu _ _ _ _ | with_reducible exact aC.xJ _ _ _ | with_reducible exact aC.jL _ _ _ _ | with_reducible exact aC.lookA _ _ _ _ _ | with_reducible exact aC.qx _ _ _ _ _ | with_reducible exact aC.pG _ _ _ | with_reducible exact aC.xK _ _ _ | with_reducible exact aC.Dj _ _ | with_reducible exact aC.rJ _ _ _ _ | with_reducible exact aC.pF _ _ _ _ | exact hc _ _ | with_reducible apply aC.cond | with_reducible apply aC.andThen | with_reducible apply aC.ite | intro _ | split)
theorem aC.uM (n : Nat) (fr : Fr) (dst : Option Tmp) (v : AV) : aC (Sx.uM n fr dst v) := by
 unfold Sx.uM
 repeat (first | with_reducible exact aC.ret _ | with_reducible exact aC.no | with_reducible apply aC.cond | with_reducible apply aC.andThen | with_reducible apply aC.ite | intro _ | split)
theorem aC.Yg (P : Program) {call : Calls'} (hc : iq call) (n : Nat) (fr : Fr) (o : Oper) : aC (Sx.Yg P call n fr o) := by
 unfold Sx.Yg
 repeat (first | with_reducible exact aC.NU _ hc _ _ | with_reducible exact aC.uM _ _ _ _ | with_reducible apply aC.cond | with_reducible apply aC.andThen | with_reducible apply aC.ite | intro _ | split)
theorem aC.Ba (n : Nat) (fr : Fr) (o : Oper) : aC (Sx.Ba n fr o) := by
 unfold Sx.Ba
 repeat (first | with_reducible exact aC.uM _ _ _ _ | with_reducible apply aC.cond | with_reducible apply aC.andThen | with_reducible apply aC.ite | intro _ | split)
theorem aC.oV (P : Program) {call : Calls'} (hc : iq call) (n : Nat) (all : List Oper) (o : Oper) (fr : Fr) (p : Nat × Bool) : aC (Sx.oV P call n all o fr p) := by
 unfold Sx.oV
 repeat (first | with_reducible exact aC.no | with_reducible exact aC.dec _ | with_reducible exact aC.Yg _ hc _ _ _ | with_reducible exact aC.Ba _ _ _ | with_reducible apply aC.cond | with_reducible apply aC.andThen | with_reducible apply aC.ite | intro _ | split)
theorem aC.Dk (P : Program) {call : Calls'} (hc : iq call) (n : Nat) (all : List Oper) (o : Oper) (fr : Fr) : aC (Sx.Dk P call n all o fr) := by
 unfold Sx.Dk
 repeat (first | with_reducible exact aC.Yg _ hc _ _ _ | with_reducible exact aC.oV _ hc _ _ _ _ _ | with_reducible apply aC.cond | with_reducible apply aC.andThen | with_reducible apply aC.ite | intro _ | split)
theorem aC.zT (P : Program) {call : Calls'} (hc : iq call) (n : Nat) (all : List Oper) : ∀ (l : List Oper) (fr : Fr), aC (Sx.zT P call n all l fr)
 | [], fr => aC.ret fr
 | o :: l, fr => (aC.Dk P hc n all o fr).andThen fun _ => aC.zT P hc n all l _
theorem aC.loopA {body : Fr → M (Ex × Fr)} (hb : ∀ fr, aC (body fr)) : ∀ (n : Nat) (fr : Fr), aC (Sx.loopA body n fr)
 | 0, fr => aC.no
 | n + 1, fr => by
  have ih := aC.loopA hb n
  unfold Sx.loopA
  repeat (first | with_reducible exact aC.ret _ | with_reducible exact aC.no | exact ih _ | exact hb _ | with_reducible apply aC.cond | with_reducible apply aC.andThen | with_reducible apply aC.ite | intro _ | split)
def Ol (loops : Loops) : Prop := ∀ id S, loops id = some S → ∀ fr, aC (S fr)
theorem aC.cu (P : Program) {call : Calls'} (hc : iq call) {region : List Oper → Fr → M Fr} (hr : ∀ l fr, aC (region l fr)) {loops : Loops} (hl : Ol loops) (n rounds : Nat) : ∀ (c : Code) (fr : Fr), aC (Sx.cu P call region loops n rounds c fr)
 | .skip, fr => by unfold Sx.cu; exact aC.ret _
 | .region _ ops false, fr => by unfold Sx.cu; exact (aC.zT P hc _ _ _ _).andThen fun _ => aC.ret _
 | .region _ ops true, fr => by unfold Sx.cu; exact (hr _ _).andThen fun _ => aC.ret _
 | .seq a b, fr => by
  have iha := aC.cu P hc hr hl n rounds a
  have ihb := aC.cu P hc hr hl n rounds b
  unfold Sx.cu
  repeat (first | with_reducible exact aC.ret _ | with_reducible exact aC.no | with_reducible exact aC.dec _ | with_reducible exact aC.zT _ hc _ _ _ _ | exact iha _ | exact ihb _ | with_reducible apply aC.cond | with_reducible apply aC.andThen | with_reducible apply aC.ite | intro _ | split)
 | .cond c a b, fr => by
  have iha := aC.cu P hc hr hl n rounds a
  have ihb := aC.cu P hc hr hl n rounds b
  unfold Sx.cu
  repeat (first | with_reducible exact aC.ret _ | with_reducible exact aC.no | with_reducible exact aC.dec _ | with_reducible exact aC.zT _ hc _ _ _ _ | exact iha _ | exact ihb _ | with_reducible apply aC.cond | with_reducible apply aC.andThen | with_reducible apply aC.ite | intro _ | split)
 | .block id c, fr => by
  have ih := aC.cu P hc hr hl n rounds c
  unfold Sx.cu
  generalize hS : loops id = S
  cases S with
  | some S => exact hl id S hS fr
  | none =>
   refine (ih fr).andThen fun r => ?_
   repeat (first | with_reducible exact aC.ret _ | with_reducible exact aC.no | with_reducible exact aC.dec _ | with_reducible exact aC.zT _ hc _ _ _ _ | exact ih _ | with_reducible apply aC.cond | with_reducible apply aC.andThen | with_reducible apply aC.ite | intro _ | split)
 | .loop c, fr => by
  have ih := aC.cu P hc hr hl n rounds c
  unfold Sx.cu
  exact aC.loopA ih _ _
 | .exit id, fr => by unfold Sx.cu; exact aC.ret _
 | .ret, fr => by unfold Sx.cu; exact aC.ret _
 | .goto _, fr => aC.no
 | .label _, fr => aC.no
 | .rangeFunc .., fr => aC.no
 | .scope _, fr => aC.no
 | .refuse _, fr => aC.no
theorem aC.lS (P : Program) (fr : Fr) (r : ResultVar) : aC (Sx.lS P fr r) := by
 unfold Sx.lS
 repeat (first | with_reducible exact aC.ret _ | with_reducible exact aC.no | with_reducible exact aC.wS _ _ _ | with_reducible apply aC.cond | with_reducible apply aC.andThen | with_reducible apply aC.ite | intro _ | split)
theorem aC.dA (P : Program) (fr : Fr) : ∀ (l : List ResultVar), aC (Sx.dA P fr l)
 | [] => aC.ret _
 | r :: l => (aC.lS P fr r).andThen fun _ => (aC.dA P fr l).andThen fun _ => aC.ret _
def gG (Γ : Known) : Prop := ∀ f s, Γ f = some s → ∀ args, aC (s args)
theorem jO {P : Program} {Γ : Known} {Λ : FuncId → Loops} {region : Calls' → Nat → List Oper → Fr → M Fr} {rounds : Nat} (hΓ : gG Γ) (hΛ : ∀ f, Ol (Λ f)) (qO : ∀ call, iq call → ∀ n l fr, aC (region call n l fr)) :
  ∀ fuel, iq (FZ P Γ Λ region rounds fuel)
 | 0 => fun f args => aC.no
 | fuel + 1 => fun f args => by
  have ih := jO (P := P) (rounds := rounds) hΓ hΛ qO fuel
  unfold FZ
  split
  ·rename_i s hs
   exact hΓ f s hs args
  ·split
   ·exact aC.no
   ·split
    ·exact aC.no
    ·refine (aC.cu P ih (qO _ ih _) (hΛ f) _ _ _ _).andThen fun r => ?_
     have hres : aC ((Sx.dA P r.2 (by assumption : Func).results.toList).andThen fun vs =>
      match vs with
      | [v] => ret v
      | _ => ret (.iD vs)) := (aC.dA P _ _).andThen fun vs => by split <;> exact aC.ret _
     split
     ·exact aC.no
     ·exact hres
end Go.Sx
namespace Go.Sx
open M
mutual
def AV.low (N : Nat) : AV → Bool
 | .ptr a => Nat.blt a.g N
 | .slc _ _ a _ => Nat.blt a.g N
 | .mp g => Nat.blt g N
 | .fn _ l c => jw N l && jw N c
 | .agg l => jw N l
 | .iD l => jw N l
 | _ => true
def jw (N : Nat) : List AV → Bool
 | [] => true
 | v :: l => v.low N && jw N l
end
theorem lV {a b : Nat} (h : Nat.blt a b = true) : a < b := Nat.le_of_ble_eq_true h
mutual
theorem Rep.nO {N N' : Nat} {μ μ' : MM} (h : MM.upto N μ μ') : ∀ {v : AV} {c : Value}, v.low N = true → Rep N' μ' v c → Rep N μ v c
 | .top, _, _, _ => by simp [Rep]
 | .bool _, _, _, r => by simpa [Rep] using r
 | .aP _, _, _, r => by simpa [Rep] using r
 | .int .., _, _, r => by simpa [Rep] using r
 | .flt .., _, _, r => by simpa [Rep] using r
 | .raw .., _, _, r => by simpa [Rep] using r
 | .bits .., _, _, r => by simpa [Rep] using r
 | .dD .., _, _, r => by simpa [Rep] using r
 | .str .., _, _, r => by simpa [Rep] using r
 | .ptr a, _, l, r => by
  have hl := lV (by simpa [AV.low] using l)
  simp only [Rep] at r ⊢
  exact ⟨hl, by rw [← h.addr hl]; exact r.2⟩
 | .bG, _, _, r => by simpa [Rep] using r
 | .slc _ own a len, _, l, r => by
  have hl := lV (by simpa [AV.low] using l)
  simp only [Rep, yH] at r ⊢
  obtain ⟨_, A, C, rfl, hlen, h1, h3, h2⟩ := r
  exact ⟨hl, A, C, rfl, hlen, by rw [← h.addr hl]; exact h1, h3, by rw [← h.blk _ hl, ← h.cap _ hl]; exact h2⟩
 | .aX, _, _, r => by simpa [Rep] using r
 | .mp g, _, l, r => by
  have hl := lV (by simpa [AV.low] using l)
  simp only [Rep] at r ⊢
  exact ⟨hl, by rw [← h.blk _ hl]; exact r.2⟩
 | .zS, _, _, r => by simpa [Rep] using r
 | .fn f l cap, _, lo, r => by
  have hl : jw N l = true ∧ jw N cap = true := by simpa [AV.low] using lo
  simp only [Rep] at r ⊢
  obtain ⟨fs, cs, rfl, h1, h2⟩ := r
  exact ⟨fs, cs, rfl, aI.nO h hl.1 h1, aI.nO h hl.2 h2⟩
 | .xu, _, _, r => by simpa [Rep] using r
 | .C9, _, _, r => by simpa [Rep] using r
 | .agg l, _, lo, r => by
  simp only [Rep] at r ⊢
  obtain ⟨cs, rfl, h1⟩ := r
  exact ⟨cs, rfl, aI.nO h (by simpa [AV.low] using lo) h1⟩
 | .iD l, _, lo, r => by
  simp only [Rep] at r ⊢
  obtain ⟨cs, rfl, h1⟩ := r
  exact ⟨cs, rfl, aI.nO h (by simpa [AV.low] using lo) h1⟩
theorem aI.nO {N N' : Nat} {μ μ' : MM} (h : MM.upto N μ μ') : ∀ {l : List AV} {cs : List Value}, jw N l = true → aI N' μ' l cs → aI N μ l cs
 | [], _, _, r => by simpa [aI] using r
 | v :: l, _, lo, r => by
  have hl : v.low N = true ∧ jw N l = true := by simpa [jw] using lo
  simp only [aI] at r ⊢
  obtain ⟨c, t, rfl, h1, h2⟩ := r
  exact ⟨c, t, rfl, Rep.nO h hl.1 h1, aI.nO h hl.2 h2⟩
end
def dS (ops : Array Oper) (k : Nat) : Option Tmp := (ops[k]?).bind (·.dst)
def IW (P : Program) (ops : Array Oper) (o : Oper) (g : G) (μ : MM) (w : World) (g' : G) (v : AV) (a : Act) : Prop :=
 ∀ (next : Act → World → Prop) (Q : Exit → Act → World → Prop), (∀ c w', After g μ w g' v c w' → next (a.put o.dst c) w') →
  if Region.wanted o (yielded ops a.tmps) then o.wp P a w next Q else next (a.put o.dst undef) w
structure Plan (P : Program) (ops : Array Oper) (nT : Nat) (g0 gf : G) (qp F9 : Fr) where
 V : Nat → AV
 fr : Nat → Fr
 H : Nat → T aF
 nx : Nat → Nat
 ch : Nat → Bool
 T : Nat → List Nat
 kJ : Nat → Nat → Bool
 fin : Nat → Fr
 iZ : Nat → G
 fV : Nat → G
 lim : Nat → Nat
 NX : Nat
 UO : fr 0 = qp
 UQ : fr ops.size = F9
 H_0 : H 0 = g0.H
 BX : nx 0 = g0.nx
 H_n : H ops.size = gf.H
 KW : nx ops.size = gf.nx
 DU : ∀ j, j < ops.size → ∀ t v, (fin j).get t = some v → (fr j).get t = some v ∧ ∀ k, k < ops.size → k ≠ j → kJ k j = false → kJ j k = false → dS ops k ≠ some t
 UR : ∀ j, j < ops.size → ∀ t, (fr (j + 1)).get t = if dS ops j = some t then some (V j) else (fr j).get t
 DV : ∀ j, j < ops.size → ∀ d, dS ops j = some d → d < nT
 yS : ∀ i j d, i < ops.size → j < ops.size → dS ops i = some d → dS ops j = some d → i = j
 iU : ∀ k j, kJ k j = true → k < j
 pK : ∀ j o, ops[j]? = some o → ∀ e ∈ o.after, Region.binds .any e = true → kJ e.on j = true
 yT : ∀ k j, j < ops.size → kJ k j = true → ∃ o e, ops[j]? = some o ∧ e ∈ o.after ∧ Region.binds .any e = true ∧ (k = e.on ∨ kJ k e.on = true)
 KX : ∀ j o, ops[j]? = some o → (fV j).cs → ∀ μ w (a : Act), eX (iZ j).nx μ w.heap (iZ j).H → dM (iZ j).nx μ (fin j) a.tmps nT → IW P ops o (iZ j) μ w (fV j) (V j) a
 abJ : ∀ j, j < ops.size → (iZ j).nx ≤ (fV j).nx
 tr : ∀ j, j < ops.size → ∀ nm, nm < (iZ j).nx → nm ∉ T j → (fV j).H.get nm = (iZ j).H.get nm
 reader : ∀ j, j < ops.size → ch j = false → H (j + 1) = H j ∧ nx (j + 1) = nx j ∧ T j = [] ∧ (V j).low (lim j) = true ∧ (iZ j).nx = NX ∧
  ∀ nm b, (iZ j).H.get nm = some b → (H j).get nm = some b ∧ nm < lim j ∧ ∀ k, k < ops.size → k ≠ j → ch k = true → kJ k j = false → kJ j k = false → nm ∉ T k
 chain : ∀ j, j < ops.size → ch j = true → (iZ j).H = H j ∧ (iZ j).nx = nx j ∧ H (j + 1) = (fV j).H ∧ nx (j + 1) = (fV j).nx
 yU : ∀ i j, i < j → j < ops.size → ch i = true → ch j = true → kJ i j = true
 UU : ∀ j, j < ops.size → lim j = nx 0 ∨ ∃ k, k < ops.size ∧ ch k = true ∧ kJ k j = true ∧ lim j = nx (k + 1)
 UW : nx ops.size ≤ NX
 KY : gf.cs → ∀ j, j < ops.size → (fV j).cs
 UY : gf.cs → g0.cs
namespace Plan
variable {P : Program} {ops : Array Oper} {nT : Nat} {g0 gf : G} {qp F9 : Fr} (L : Plan P ops nT g0 gf qp F9)
theorem UZ (j : Nat) (hj : j < ops.size) : L.nx j ≤ L.nx (j + 1) := by
 cases hc : L.ch j with
 | false => rw [(L.reader j hj hc).2.1]; exact Nat.le_refl _
 | true =>
  obtain ⟨_, h1, _, h2⟩ := L.chain j hj hc
  have := L.abJ j hj
  omega
theorem fB (p q : Nat) (hpq : p ≤ q) (hq : q ≤ ops.size) : L.nx p ≤ L.nx q := by
 induction q with
 | zero => rw [show p = 0 by omega]; exact Nat.le_refl _
 | succ q ih =>
  by_cases h : p = q + 1
  ·rw [h]; exact Nat.le_refl _
  ·exact Nat.le_trans (ih (by omega) (by omega)) (L.UZ q (by omega))
theorem agree (p q nm : Nat) (hpq : p ≤ q) (hq : q ≤ ops.size) (hn : nm < L.nx p) (hk : ∀ k, p ≤ k → k < q → L.ch k = true → nm ∉ L.T k) : (L.H q).get nm = (L.H p).get nm := by
 induction q with
 | zero => rw [show p = 0 by omega]
 | succ q ih =>
  by_cases h : p = q + 1
  ·rw [h]
  ·have ih := ih (by omega) (by omega) fun k h1 h2 => hk k h1 (by omega)
   cases hc : L.ch q with
   | false => rw [(L.reader q (by omega) hc).1]; exact ih
   | true =>
    obtain ⟨e1, e2, e3, _⟩ := L.chain q (by omega) hc
    rw [e3, L.tr q (by omega) nm (by rw [e2]; have := L.fB p q (by omega) (by omega); omega) (hk q (by omega) (by omega) hc), e1]
    exact ih
theorem same (p q : Nat) (hpq : p ≤ q) (hq : q ≤ ops.size) (hk : ∀ k, p ≤ k → k < q → L.ch k = false) : L.H q = L.H p ∧ L.nx q = L.nx p := by
 induction q with
 | zero => rw [show p = 0 by omega]; exact ⟨rfl, rfl⟩
 | succ q ih =>
  by_cases h : p = q + 1
  ·rw [h]; exact ⟨rfl, rfl⟩
  ·have ih := ih (by omega) (by omega) fun k h1 h2 => hk k h1 (by omega)
   obtain ⟨e1, e2, _⟩ := L.reader q (by omega) (hk q (by omega) (by omega))
   rw [e1, e2]; exact ih
theorem DW (j : Nat) (hj : j ≤ ops.size) (t : Nat) (v : AV) (h : (L.fr j).get t = some v) : (∃ k, k < j ∧ dS ops k = some t ∧ v = L.V k) ∨ (qp.get t = some v ∧ ∀ k, k < j → dS ops k ≠ some t) := by
 induction j with
 | zero => rw [L.UO] at h; exact .inr ⟨h, fun k hk => by omega⟩
 | succ j ih =>
  rw [L.UR j (by omega)] at h
  split at h
  ·rename_i e
   cases h
   exact .inl ⟨j, by omega, e, rfl⟩
  ·rename_i e
   rcases ih (by omega) h with ⟨k, h1, h2, h3⟩ | ⟨h1, h2⟩
   ·exact .inl ⟨k, by omega, h2, h3⟩
   ·refine .inr ⟨h1, fun k hk => ?_⟩
    by_cases hkj : k = j
    ·rw [hkj]; exact e
    ·exact h2 k (by omega)
structure Inv (μ0 : MM) (w0 : World) (a0 : Act) (D : Nat → Prop) (a : Act) (w : World) (p : Nat) (μ : MM) : Prop where
 DX : p ≤ ops.size
 DY : ∀ k, k < ops.size → L.ch k = true → (D k ↔ k < p)
 yw : eX (L.nx p) μ w.heap (L.H p)
 ext : ∀ g : G, g.H = L.H p → g.nx = L.nx p → Ext g0 μ0 w0 g μ w
 defers : a.defers = a0.defers
 size : nT ≤ a.tmps.size
 done : ∀ k, k < ops.size → D k → ∀ d, dS ops k = some d → Rep (L.nx p) μ (L.V k) (a.tmps.getD d undef)
 rest : ∀ t, (∀ k, k < ops.size → D k → dS ops k ≠ some t) → a.tmps.getD t undef = a0.tmps.getD t undef
 down : ∀ j, j < ops.size → D j → ∀ k, L.kJ k j = true → D k
variable {L}
theorem Inv.names {μ0 : MM} {w0 : World} {a0 : Act} {D : Nat → Prop} {a : Act} {w : World} {p : Nat} {μ : MM} (I : L.Inv μ0 w0 a0 D a w p μ) : MM.upto g0.nx μ0 μ ∧ g0.nx ≤ L.nx p :=
 let E := I.ext ⟨L.H p, L.nx p, [], [], True⟩ rfl rfl
 ⟨E.names, E.nx⟩
theorem Inv.frame {μ0 : MM} {w0 : World} {a0 : Act} {D : Nat → Prop} {a : Act} {w : World} {p : Nat} {μ : MM} (I : L.Inv μ0 w0 a0 D a w p μ) (h0 : dM g0.nx μ0 qp a0.tmps nT) {j : Nat} (hj : j < ops.size) (hD : ¬ D j)
  (hP : ∀ k, L.kJ k j = true → D k) {N : Nat} (hN : L.nx p ≤ N) : dM N μ (L.fin j) a.tmps nT where
 size := I.size
 val := fun t v hv => by
  obtain ⟨h1, h2⟩ := L.DU j hj t v hv
  rcases L.DW j (by omega) t v h1 with ⟨k, hk, hd, rfl⟩ | ⟨h3, h4⟩
  ·have hb : L.kJ k j = true := by
    cases hb : L.kJ k j with
    | true => rfl
    | false =>
     cases hb' : L.kJ j k with
     | true => exact absurd (L.iU _ _ hb') (by omega)
     | false => exact absurd hd (h2 k (by omega) (by omega) hb hb')
   exact (I.done k (by omega) (hP k hb) t hd).later (MM.upto.refl _ _) hN
  ·have : ∀ k, k < ops.size → D k → dS ops k ≠ some t := fun k hk BZ e => by
    by_cases hkj : k < j
    ·exact h4 k hkj e
    ·have hne : k ≠ j := fun e => hD (e ▸ BZ)
     cases hb : L.kJ j k with
     | true => exact hD (I.down k hk BZ j hb)
     | false =>
      cases hb' : L.kJ k j with
      | true => exact absurd (L.iU _ _ hb') (by omega)
      | false => exact h2 k hk hne hb' hb e
   rw [I.rest t this]
   exact (h0.val t v h3).later I.names.1 (Nat.le_trans I.names.2 hN)
end Plan
end Go.Sx
namespace Go.Sx
open M
mutual
theorem Rep.isLow {N : Nat} {μ : MM} : ∀ {v : AV} {c : Value}, Rep N μ v c → v.low N = true
 | .top, _, _ => rfl
 | .bool _, _, _ => rfl
 | .aP _, _, _ => rfl
 | .int .., _, _ => rfl
 | .flt .., _, _ => rfl
 | .raw .., _, _ => rfl
 | .bits .., _, _ => rfl
 | .dD .., _, _ => rfl
 | .str .., _, _ => rfl
 | .ptr a, _, r => by simp only [Rep] at r; exact Nat.ble_eq_true_of_le r.1
 | .bG, _, _ => rfl
 | .slc _ own a len, _, r => by simp only [Rep] at r; exact Nat.ble_eq_true_of_le r.1
 | .aX, _, _ => rfl
 | .mp g, _, r => by simp only [Rep] at r; exact Nat.ble_eq_true_of_le r.1
 | .zS, _, _ => rfl
 | .fn f l cap, _, r => by
  simp only [Rep] at r
  obtain ⟨fs, cs, rfl, h1, h2⟩ := r
  simp only [AV.low, aI.isLow h1, aI.isLow h2, Bool.and_self]
 | .xu, _, _ => rfl
 | .C9, _, _ => rfl
 | .agg l, _, r => by
  simp only [Rep] at r
  obtain ⟨cs, rfl, h1⟩ := r
  simp only [AV.low, aI.isLow h1]
 | .iD l, _, r => by
  simp only [Rep] at r
  obtain ⟨cs, rfl, h1⟩ := r
  simp only [AV.low, aI.isLow h1]
theorem aI.isLow {N : Nat} {μ : MM} : ∀ {l : List AV} {cs : List Value}, aI N μ l cs → jw N l = true
 | [], _, _ => rfl
 | v :: l, _, r => by
  simp only [aI] at r
  obtain ⟨c, t, rfl, h1, h2⟩ := r
  simp only [jw, Rep.isLow h1, aI.isLow h2, Bool.and_self]
end
theorem dw.back {N N' : Nat} {μ μ' : MM} (h : MM.upto N μ μ') {hp hp' : Array Obj} {g : Nat} (hg : g < N) {b : aF} (r : dw N μ hp g b) (r' : dw N' μ' hp' g b) : dw N μ hp' g b := by
 cases b with
 | cells own sz n c =>
  simp only [dw, h.blk g hg, h.cap g hg, h.sz g hg, h.base g hg] at r r' ⊢
  refine ⟨r.1, r.2.1, fun hr => ?_⟩
  obtain ⟨cur, ty, fz, h1, h2, h3, h4⟩ := r'.2.2 hr
  obtain ⟨_, _, _, _, _, _, k4⟩ := r.2.2 hr
  refine ⟨cur, ty, fz, h1, h2, h3, fun i hi => ⟨(h4 i hi).1, fun o v hv => ?_⟩⟩
  obtain ⟨e1, cv, e2, e3⟩ := (h4 i hi).2 o v hv
  obtain ⟨_, cv', _, e4⟩ := (k4 i hi).2 o v hv
  exact ⟨e1, cv, e2, Rep.nO h e4.isLow e3⟩
 | aW s l => simp only [dw, h.blk g hg] at r r' ⊢; exact r'
 | RZ s l => simp only [dw, h.blk g hg] at r r' ⊢; exact r'
 | sit s l pos => simp only [dw, h.blk g hg, h.base g hg] at r r' ⊢; exact r'
theorem eX.up {N N' : Nat} {μ : MM} {hp : Array Obj} {H H' : T aF} (h : eX N μ hp H) (hN : N ≤ N') (hs : ∀ g b, H'.get g = some b → H.get g = some b) : eX N' μ hp H' where
 lt := fun g b hg => Nat.lt_of_lt_of_le (h.lt g b (hs g b hg)) hN
 ok := fun g b hg => (h.ok g b (hs g b hg)).later (MM.upto.refl _ _) hN (h.lt g b (hs g b hg)) fun _ => rfl
 sep := fun g b g' b' hg hg' => h.sep g b g' b' (hs _ _ hg) (hs _ _ hg')
theorem MM.upto.mono {N N' : Nat} {μ μ' : MM} (h : MM.upto N' μ μ') (hN : N ≤ N') : MM.upto N μ μ' :=
 ⟨fun g hg => h.blk g (by omega), fun g hg => h.cap g (by omega), fun g hg => h.sz g (by omega), fun g hg => h.base g (by omega)⟩
theorem Ext.swap {g h g' h' : G} {μ μ' : MM} {w w' : World} (e : Ext g μ w g' μ' w') (h1 : h.H = g.H) (h2 : h.nx = g.nx) (h3 : h'.H = g'.H) (h4 : h'.nx = g'.nx) : Ext h μ w h' μ' w' where
 nx := by rw [h2, h4]; exact e.nx
 names := by rw [h2]; exact e.names
 os := e.os
 tape := e.tape
 output := e.output
 size := e.size
 block := fun B hB hn => e.block B hB (by rw [← h1]; exact hn)
 may := fun B hB hm => by rw [h1]; exact e.may B hB (by rw [← h3]; exact hm)
theorem nP {a : Act} {dst : Option Tmp} {c : Value} {t : Nat} (h : dst ≠ some t) : (a.put dst c).tmps.getD t undef = a.tmps.getD t undef := by
 cases dst with
 | none => rfl
 | some d =>
  have : d ≠ t := fun e => h (by rw [e])
  simp only [Act.put, Array.getD_eq_getD_getElem?]
  rw [Array.getElem?_setIfInBounds_ne this]
theorem BF {a : Act} {c : Value} {d : Nat} (h : d < a.tmps.size) : (a.put (some d) c).tmps.getD d undef = c := by
 have : d < (a.tmps.setIfInBounds d c).size := by simpa using h
 simp only [Act.put, Array.getD_eq_getD_getElem?, Array.getElem?_eq_getElem this]
 simp
theorem size_put {a : Act} {dst : Option Tmp} {c : Value} : (a.put dst c).tmps.size = a.tmps.size := by cases dst <;> simp [Act.put]
namespace Plan
variable {P : Program} {ops : Array Oper} {nT : Nat} {g0 gf : G} {qp F9 : Fr} {L : Plan P ops nT g0 gf qp F9}
theorem Om {j p : Nat} (hj : j < ops.size) (hp : p ≤ ops.size) (h : ∀ k, L.ch k = true → L.kJ k j = true → k < p) : L.lim j ≤ L.nx p := by
 rcases L.UU j hj with e | ⟨k, hk, hc, hb, e⟩
 ·rw [e]; exact L.fB 0 p (by omega) hp
 ·rw [e]; exact L.fB (k + 1) p (h k hc hb) hp
theorem Inv.reads {μ0 : MM} {w0 : World} {a0 : Act} {D : Nat → Prop} {a : Act} {w : World} {p : Nat} {μ : MM} (I : L.Inv μ0 w0 a0 D a w p μ) {j : Nat} (hj : j < ops.size) (hD : ¬ D j)
  (hP : ∀ k, L.kJ k j = true → D k) (hc : L.ch j = false) {nm : Nat} {b : aF} (h : (L.iZ j).H.get nm = some b) : (L.H p).get nm = some b := by
 obtain ⟨_, _, _, _, _, h6⟩ := L.reader j hj hc
 obtain ⟨h7, h8, h9⟩ := h6 nm b h
 by_cases hpj : p ≤ j
 ·have l1 : L.lim j ≤ L.nx p := Om hj I.DX fun k hk hb => (I.DY k (by have := L.iU _ _ hb; omega) hk).1 (hP k hb)
  rw [← L.agree p j nm hpj (by omega) (by omega) fun k k1 k2 k3 => ?_]
  ·exact h7
  ·have hnD : ¬ D k := fun hd => by have := (I.DY k (by omega) k3).1 hd; omega
   refine h9 k (by omega) (by omega) k3 ?_ ?_
   ·cases hb : L.kJ k j with
    | false => rfl
    | true => exact absurd (hP k hb) hnD
   ·cases hb : L.kJ j k with
    | false => rfl
    | true => have := L.iU _ _ hb; omega
 ·have l2 : L.lim j ≤ L.nx j := Om hj (by omega) fun k hk hb => L.iU _ _ hb
  rw [L.agree j p nm (by omega) I.DX (by omega) fun k k1 k2 k3 => ?_]
  ·exact h7
  ·have hk : k < ops.size := by have := I.DX; omega
   have hd : D k := (I.DY k hk k3).2 k2
   refine h9 k hk (fun e => hD (e ▸ hd)) k3 ?_ ?_
   ·cases hb : L.kJ k j with
    | false => rfl
    | true => have := L.iU _ _ hb; omega
   ·cases hb : L.kJ j k with
    | false => rfl
    | true => exact absurd (I.down k hk hd j hb) hD
theorem Inv.chains {μ0 : MM} {w0 : World} {a0 : Act} {D : Nat → Prop} {a : Act} {w : World} {p : Nat} {μ : MM} (I : L.Inv μ0 w0 a0 D a w p μ) {j : Nat} (hj : j < ops.size) (hD : ¬ D j)
  (hP : ∀ k, L.kJ k j = true → D k) (hc : L.ch j = true) : L.H j = L.H p ∧ L.nx j = L.nx p := by
 have hpj : p ≤ j := by
  rcases Nat.lt_or_ge j p with h | h
  ·exact absurd ((I.DY j hj hc).2 h) hD
  ·exact h
 refine L.same p j hpj (by omega) fun k k1 k2 => ?_
 cases hk : L.ch k with
 | false => rfl
 | true =>
  have := (I.DY k (by omega) hk).1 (hP k (L.yU k j k2 hj hk hc))
  omega
theorem Inv.after {μ0 : MM} {w0 : World} {a0 : Act} {D : Nat → Prop} {a : Act} {w : World} {p : Nat} {μ : MM} (I : L.Inv μ0 w0 a0 D a w p μ) {j : Nat} (hj : j < ops.size) (hD : ¬ D j)
    (hP : ∀ k, L.kJ k j = true → D k) {c : Value} {w' : World} (hA : After (L.iZ j) μ w (L.fV j) (L.V j) c w') : ∃ p' μ', L.Inv μ0 w0 a0 (fun k => D k ∨ k = j) (a.put (dS ops j) c) w' p' μ' := by
  obtain ⟨μ', hv, hg', hE⟩ := hA
  have hne : ∀ k, k < ops.size → D k → ∀ d, dS ops k = some d → dS ops j ≠ some d := fun k hk BZ d hd e => hD (by rw [L.yS j k d hj hk e hd]; exact BZ)
  have rest : ∀ t, (∀ k, k < ops.size → (D k ∨ k = j) → dS ops k ≠ some t) → (a.put (dS ops j) c).tmps.getD t undef = a0.tmps.getD t undef := fun t ht => by
    rw [nP (ht j hj (.inr rfl))]
    exact I.rest t fun k hk BZ => ht k hk (.inl BZ)
  have down : ∀ i, i < ops.size → (D i ∨ i = j) → ∀ k, L.kJ k i = true → D k ∨ k = j := fun i hi hDi k hb => by
    rcases hDi with h | rfl
    · exact .inl (I.down i hi h k hb)
    · exact .inl (hP k hb)
  have size : nT ≤ (a.put (dS ops j) c).tmps.size := by rw [size_put]; exact I.size
  have own : ∀ d, dS ops j = some d → (a.put (dS ops j) c).tmps.getD d undef = c := fun d hd => by
    rw [hd]; exact BF (Nat.lt_of_lt_of_le (L.DV j hj d hd) I.size)
  cases hc : L.ch j with
  | false =>
    obtain ⟨h1, h2, h3, h4, h5, h6⟩ := L.reader j hj hc
    have sub : ∀ nm b, (L.iZ j).H.get nm = some b → (L.H p).get nm = some b := fun nm b h => I.reads hj hD hP hc h
    have hpn : L.nx p ≤ L.NX := Nat.le_trans (L.fB p _ I.DX (Nat.le_refl _)) L.UW
    have hlim : L.lim j ≤ L.nx p := Om hj I.DX fun k hk hb => (I.DY k (by have := L.iU _ _ hb; omega) hk).1 (hP k hb)
    have names : MM.upto L.NX μ μ' := by rw [← h5]; exact hE.names
    have SC : ∀ B, May μ (L.iZ j).H B → May μ (L.H p) B := fun B ⟨g, b, e1, e2, e3, e4⟩ => ⟨g, b, sub g b e1, e2, e3, e4⟩
    refine ⟨p, μ, ?_⟩
    exact {
      DX := I.DX
      DY := fun k hk hck => by
        have hkj : k ≠ j := fun e => by rw [e, hc] at hck; cases hck
        rw [← I.DY k hk hck]
        exact ⟨fun h => h.resolve_right hkj, .inl⟩
      yw := {
        lt := I.yw.lt
        sep := I.yw.sep
        ok := fun nm b hb => by
          have hlt := I.yw.lt nm b hb
          have old := I.yw.ok nm b hb
          cases hin : (L.iZ j).H.get nm with
          | some b' =>
            have e := sub nm b' hin
            rw [hb] at e
            cases e
            have hout : (L.fV j).H.get nm = some b := by rw [L.tr j hj nm (by rw [h5]; omega) (by rw [h3]; simp)]; exact hin
            exact old.back (names.mono hpn) hlt (hg'.ok nm b hout)
          | none =>
            refine old.later (MM.upto.refl _ _) (Nat.le_refl _) hlt fun hr => hE.block _ (old.lt_size hr) ?_
            rintro ⟨g, b', e1, e2, e3, e4⟩
            have := I.yw.sep g b' nm b (sub g b' e1) hb e2 e3 hr e4
            rw [this, hin] at e1
            cases e1 }
      ext := fun g e1 e2 => (I.ext g e1 e2).trans {
        nx := Nat.le_refl _
        names := MM.upto.refl _ _
        os := hE.os
        tape := hE.tape
        output := hE.output
        size := hE.size
        block := fun B hB hn => hE.block B hB fun hm => hn (by rw [e1]; exact SC B hm)
        may := fun B hB hm => hm }
      defers := by rw [Act.put_defers]; exact I.defers
      size := size
      done := fun k hk BZ d hd => by
        rcases BZ with h | rfl
        · rw [nP (hne k hk h d hd)]; exact I.done k hk h d hd
        · rw [own d hd]
          exact (Rep.nO (names.mono (Nat.le_trans hlim hpn)) h4 hv).later (MM.upto.refl _ _) hlim
      rest := rest
      down := down }
  | true =>
    obtain ⟨h1, h2, h3, h4⟩ := L.chain j hj hc
    obtain ⟨e1, e2⟩ := I.chains hj hD hP hc
    refine ⟨j + 1, μ', ?_⟩
    exact {
      DX := hj
      DY := fun k hk hck => by
        constructor
        · rintro (h | rfl)
          · rcases Nat.lt_trichotomy k j with h' | h' | h'
            · omega
            · omega
            · exact absurd (I.down k hk h j (L.yU j k h' hk hc hck)) hD
          · omega
        · intro h
          by_cases hkj : k = j
          · exact .inr hkj
          · exact .inl (hP k (L.yU k j (by omega) hj hck hc))
      yw := by rw [h3, h4]; exact hg'
      ext := fun g f1 f2 => ((I.ext (L.iZ j) (by rw [h1, e1]) (by rw [h2, e2])).trans hE).swap rfl rfl (by rw [f1, h3]) (by rw [f2, h4])
      defers := by rw [Act.put_defers]; exact I.defers
      size := size
      done := fun k hk BZ d hd => by
        rcases BZ with h | rfl
        · rw [nP (hne k hk h d hd), h4]
          exact (I.done k hk h d hd).later (by rw [← e2, ← h2]; exact hE.names) (by rw [← e2, ← h2]; exact hE.nx)
        · rw [own d hd, h4]
          exact hv
      rest := rest
      down := down }
end Plan
end Go.Sx
namespace Go.Sx
open M
namespace Plan
variable {P : Program} {ops : Array Oper} {nT : Nat} {g0 gf : G} {qp F9 : Fr} {L : Plan P ops nT g0 gf qp F9}
theorem Inv.Oo {μ0 : MM} {w0 : World} {a0 : Act} {D : Nat → Prop} {a : Act} {w : World} {p : Nat} {μ : MM} (I : L.Inv μ0 w0 a0 D a w p μ) {j : Nat} (hj : j < ops.size) (hD : ¬ D j)
  (hP : ∀ k, L.kJ k j = true → D k) : eX (L.iZ j).nx μ w.heap (L.iZ j).H ∧ L.nx p ≤ (L.iZ j).nx := by
 cases hc : L.ch j with
 | false =>
  obtain ⟨h1, h2, h3, h4, h5, h6⟩ := L.reader j hj hc
  have hpn : L.nx p ≤ L.NX := Nat.le_trans (L.fB p _ I.DX (Nat.le_refl _)) L.UW
  rw [h5]
  exact ⟨I.yw.up hpn fun g b h => I.reads hj hD hP hc h, hpn⟩
 | true =>
  obtain ⟨h1, h2, h3, h4⟩ := L.chain j hj hc
  obtain ⟨e1, e2⟩ := I.chains hj hD hP hc
  rw [h1, h2, e1, e2]
  exact ⟨I.yw, Nat.le_refl _⟩
theorem Inv.step {μ0 : MM} {w0 : World} {a0 : Act} {D : Nat → Prop} {a : Act} {w : World} {p : Nat} {μ : MM} (I : L.Inv μ0 w0 a0 D a w p μ) (h0 : dM g0.nx μ0 qp a0.tmps nT) (hcs : gf.cs) {j : Nat} (hj : j < ops.size) (hD : ¬ D j)
  (hP : ∀ k, L.kJ k j = true → D k) {Q : Exit → Act → World → Prop} {K : Act → World → Prop} (hK : ∀ a' w' p' μ', L.Inv μ0 w0 a0 (fun k => D k ∨ k = j) a' w' p' μ' → K a' w') : wpOp P ops Q j K a w := by
 obtain ⟨hg, hle⟩ := I.Oo hj hD hP
 have ho : ops[j]? = some ops[j] := Array.getElem?_eq_getElem hj
 have hd : dS ops j = (ops[j]).dst := by simp [dS, ho]
 have := L.KX j _ ho (L.KY hcs j hj) μ w a hg (I.frame h0 hj hD hP hle) K Q fun c w' hA => by
  obtain ⟨p', μ', hI⟩ := I.after hj hD hP hA
  rw [hd] at hI
  exact hK _ _ _ _ hI
 unfold wpOp
 rw [ho]
 dsimp only
 split
 ·rename_i hw; rw [if_pos hw] at this; exact .inl this
 ·rename_i hw; rw [if_neg hw] at this; exact this
theorem Inv.fin {μ0 : MM} {w0 : World} {a0 : Act} {D : Nat → Prop} {a : Act} {w : World} {p : Nat} {μ : MM} (I : L.Inv μ0 w0 a0 D a w p μ) (h0 : dM g0.nx μ0 qp a0.tmps nT) (hall : ∀ k, k < ops.size → D k) : kX nT g0 μ0 w0 gf F9 a0 a w := by
 obtain ⟨e1, e2⟩ := L.same p ops.size I.DX (Nat.le_refl _) fun k k1 k2 => by
  cases hc : L.ch k with
  | false => rfl
  | true => have := (I.DY k k2 hc).1 (hall k k2); omega
 rw [L.H_n] at e1
 rw [L.KW] at e2
 refine ⟨μ, by rw [e1, e2]; exact I.yw, I.ext gf e1 e2, ⟨I.size, fun t v hv => ?_⟩, I.defers⟩
 rw [← L.UQ] at hv
 rcases L.DW ops.size (Nat.le_refl _) t v hv with ⟨k, hk, hd, rfl⟩ | ⟨h1, h2⟩
 ·rw [e2]; exact I.done k hk (hall k hk) t hd
 ·rw [I.rest t fun k hk _ => h2 k hk, e2]
  exact (h0.val t v h1).later I.names.1 I.names.2
theorem Inv.start {μ0 : MM} {w0 : World} {a0 : Act} (hg : eX g0.nx μ0 w0.heap g0.H) (h0 : dM g0.nx μ0 qp a0.tmps nT) (D : Nat → Prop) (hD : ∀ k, ¬ D k) : L.Inv μ0 w0 a0 D a0 w0 0 μ0 where
 DX := Nat.zero_le _
 DY := fun k _ _ => ⟨fun h => absurd h (hD k), fun h => by omega⟩
 yw := by rw [L.H_0, L.BX]; exact hg
 ext := fun g e1 e2 => Ext.same μ0 w0 (by rw [e1, L.H_0]) (by rw [e2, L.BX])
 defers := rfl
 size := h0.size
 done := fun k _ h => absurd h (hD k)
 rest := fun _ _ => rfl
 down := fun j _ h => absurd h (hD j)
def jX (listed : Array Bool) (k : Nat) : Prop := listed.getD k false = true
theorem BG {listed : Array Bool} {i : Nat} (hi : i < listed.size) : jX (listed.setIfInBounds i true) = fun k => jX listed k ∨ k = i := by
 funext k
 simp only [jX, Array.getD_eq_getD_getElem?]
 by_cases h : i = k
 ·subst h
  rw [Array.getElem?_setIfInBounds_self_of_lt hi]
  simp
 ·rw [Array.getElem?_setIfInBounds_ne h]
  simp [Ne.symm h]
theorem rX {listed : Array Bool} {k : Nat} (hk : k < listed.size) : listed.getD k true = false ↔ ¬ jX listed k := by
 simp [jX, hk]
theorem any {μ0 : MM} {w0 : World} {a0 : Act} (h0 : dM g0.nx μ0 qp a0.tmps nT) (hcs : gf.cs) {Q : Exit → Act → World → Prop} (hQ : ∀ a w, kX nT g0 μ0 w0 gf F9 a0 a w → Q .normal a w) :
  ∀ (fuel : Nat) (listed : Array Bool) (a : Act) (w : World) (p : Nat) (μ : MM), listed.size = ops.size → listed.toList.count false ≤ fuel → L.Inv μ0 w0 a0 (jX listed) a w p μ → wpAny P .any ops Q fuel listed a w := by
 have final : ∀ (listed : Array Bool) a w p μ, listed.size = ops.size → L.Inv μ0 w0 a0 (jX listed) a w p μ → Region.ready .any ops listed = [] → Q .normal a w := by
  intro listed a w p μ hs I hr
  refine hQ _ _ (I.fin h0 ?_)
  intro k
  induction k using Nat.strongRecOn with
  | _ k ih =>
   intro hk
   refine Classical.byContradiction fun hn => ?_
   have : k ∈ Region.ready .any ops listed := by
    refine mem_ready.2 ⟨(rX (by omega)).2 hn, ops[k], Array.getElem?_eq_getElem hk, fun e he hb => ?_⟩
    have hb := L.iU _ _ (L.pK k _ (Array.getElem?_eq_getElem hk) e he hb)
    exact ih e.on hb (by omega)
   rw [hr] at this
   cases this
 intro fuel
 induction fuel with
 | zero =>
  intro listed a w p μ hs hc I
  have hr : Region.ready .any ops listed = [] := by
   cases h : Region.ready .any ops listed with
   | nil => rfl
   | cons i l =>
    have hi : i ∈ Region.ready .any ops listed := by rw [h]; exact List.mem_cons_self
    obtain ⟨h1, o, ho, _⟩ := mem_ready.1 hi
    have hlt : i < ops.size := (Array.getElem?_eq_some_iff.1 ho).1
    have : false ∈ listed.toList := by
     have : listed[i]'(by omega) = false := by simpa [show i < listed.size by omega] using h1
     rw [← this]; simp
    have := List.count_pos_iff.2 this
    omega
  exact ⟨hr, final listed a w p μ hs I hr⟩
 | succ fuel ih =>
  intro listed a w p μ hs hc I
  refine ⟨final listed a w p μ hs I, fun i hi => ?_⟩
  obtain ⟨h1, o, ho, h2⟩ := mem_ready.1 hi
  have hlt : i < ops.size := (Array.getElem?_eq_some_iff.1 ho).1
  refine I.step h0 hcs hlt ((rX (by omega)).1 h1) ?_ fun a' w' p' μ' I' => ?_
  ·intro k hb
   obtain ⟨o', e, ho', he, hbi, hk⟩ := L.yT k i hlt hb
   rw [ho] at ho'
   cases ho'
   have he' : jX listed e.on := h2 e he hbi
   rcases hk with rfl | hk
   ·exact he'
   ·exact I.down e.on (by have := L.iU _ _ (L.pK i o ho e he hbi); omega) he' k hk
  ·refine ih _ a' w' p' μ' (by simpa using hs) ?_ (by rw [BG (by omega)]; exact I')
   rw [Array.toList_setIfInBounds, List.count_set (by simp; omega)]
   have : listed.toList[i]'(by simp; omega) = false := by simpa [show i < listed.size by omega] using h1
   rw [this]
   have hm : false ∈ listed.toList := by rw [← this]; simp
   have := List.count_pos_iff.2 hm
   simp only [show (true == false) = false from rfl, beq_self_eq_true, if_true, Bool.false_eq_true, if_false]
   omega
theorem leads (L : Plan P ops nT g0 gf qp F9) (hm : P.follows .mixedOrders = true) (id : Nat) : yR P (.region id ops true) nT qp g0 (.normal, F9) gf := by
 refine ⟨L.UY, fun hcs μ w a hg hf Q hQ => wp_region_any hm ?_⟩
 have hE : Ext g0 μ w g0 μ { w with drawn := w.drawn + 1 } := Ext.drawn μ w _ rfl rfl
 refine any (L := L) (w0 := { w with drawn := w.drawn + 1 }) hf hcs (fun a' w' h => hQ a' w' (h.trans hE rfl)) ops.size _ a _ 0 μ (by simp) ?_ (Inv.start (w0 := { w with drawn := w.drawn + 1 }) hg hf _ ?_)
 ·rw [Array.toList_replicate]; simp
 ·intro k h
  simp only [jX, Array.getD_eq_getD_getElem?, Array.getElem?_replicate] at h
  split at h <;> simp at h
end Plan
end Go.Sx
namespace Go.Sx
open M
def xQ (P : Program) (call : Calls') (all : List Oper) (fr : Fr) (o : Oper) : M AV :=
 match o.guard with
 | none => NU P call fr o
 | some (j, want) =>
  match (all[j]?).bind (·.dst) with
  | none => no
  | some d =>
   match fr.get d with
   | some (.bool b) => bif b == want then NU P call fr o else ret (.iD [])
   | some (.aP b) => (dec b).andThen fun t => bif t == want then NU P call (fr.upd d (some (.bool t))) o else ret (.iD [])
   | some (.iD _) => ret (.iD [])
   | _ => no
def rY (FW : Bool) (v : AV) : M AV :=
 match v with
 | .aP b => bif FW then (dec b).andThen fun t => ret (.bool t) else ret (.aP b)
 | v => ret v
theorem aC.xQ (P : Program) {call : Calls'} (hc : iq call) (all : List Oper) (fr : Fr) (o : Oper) : aC (Sx.xQ P call all fr o) := by
 unfold Sx.xQ
 repeat (first | with_reducible exact aC.ret _ | with_reducible exact aC.no | with_reducible exact aC.dec _ | with_reducible exact aC.NU _ hc _ _ | with_reducible apply aC.cond | with_reducible apply aC.andThen | intro _ | split)
theorem aC.rY (FW : Bool) (v : AV) : aC (Sx.rY FW v) := by
 unfold Sx.rY
 repeat (first | with_reducible exact aC.ret _ | with_reducible exact aC.no | with_reducible exact aC.dec _ | with_reducible apply aC.cond | with_reducible apply aC.andThen | intro _ | split)
theorem After.afG {g g1 g' : G} {μ : MM} {w : World} {v : AV} {c : Value} {w' : World} {p : Prop} (k : Keep g g1 p) (h : After g1 μ w g' v c w') : After g μ w g' v c w' := by
 obtain ⟨μ', h1, h2, h3⟩ := h
 exact ⟨μ', h1, h2, h3.swap k.1.symm k.2.1.symm rfl rfl⟩
theorem IX {P : Program} {call : Calls'} (hcall : cO P call) {ops : Array Oper} {fr : Fr} {o : Oper} {v : AV} {g g' : G} (h : xQ P call ops.toList fr o g = .done v g') :
  (g'.cs → g.cs) ∧ (g'.cs → ∀ μ w (a : Act) n, eX g.nx μ w.heap g.H → dM g.nx μ fr a.tmps n → IW P ops o g μ w g' v a) := by
 unfold xQ at h
 generalize hgd : o.guard = gd at h
 split at h
 ·obtain ⟨hc, hs⟩ := qU hcall h
  refine ⟨hc, fun hcs μ w a n hg hf next Q hn => ?_⟩
  rw [if_pos (by simp [Region.wanted, hgd])]
  exact hs hcs μ w a n hg hf next Q hn
 ·rename_i j want
  generalize hd : (ops.toList[j]?).bind (·.dst) = dd at h
  rw [Array.getElem?_toList] at hd
  split at h
  ·exact (aY h).elim
  ·rename_i d
   generalize hfd : fr.get d = fd at h
   split at h
   ·rename_i b
    have key : ∀ N μ (a : Act) n, dM N μ fr a.tmps n → Region.wanted o (yielded ops a.tmps) = (b == want) := fun N μ a n hf =>
     wo hgd (rV hd (by have := hf.val d _ hfd; simpa [Rep] using this))
    cases hb : (b == want) with
    | true =>
     rw [hb] at h key
     obtain ⟨hc, hs⟩ := qU hcall h
     refine ⟨hc, fun hcs μ w a n hg hf next Q hn => ?_⟩
     rw [if_pos (key _ _ a n hf)]
     exact hs hcs μ w a n hg hf next Q hn
    | false =>
     rw [hb] at h key
     obtain ⟨rfl, rfl⟩ := aA h
     refine ⟨id, fun hcs μ w a n hg hf next Q hn => ?_⟩
     rw [if_neg (by rw [key _ _ a n hf]; simp)]
     exact hn undef w (.iG (Keep.refl g) hg Rep.undef)
   ·rename_i b
    obtain ⟨t, g1, a1, h1⟩ := au h
    have k := jc a1
    have know : ∀ N μ (a : Act) n, b = t → dM N μ fr a.tmps n → dM N μ (fr.upd d (some (.bool t))) a.tmps n := fun N μ a n e hf =>
     hf.know hfd fun c hc => by simpa [Rep, e] using hc
    have key : ∀ N μ (a : Act) n, b = t → dM N μ fr a.tmps n → Region.wanted o (yielded ops a.tmps) = (t == want) := fun N μ a n e hf =>
     wo hgd (rV hd (by have := hf.val d _ hfd; rw [← e]; simpa [Rep] using this))
    cases hb : (t == want) with
    | true =>
     simp only [hb, cond_true] at h1
     simp only [hb] at key
     obtain ⟨hc, hs⟩ := qU hcall h1
     refine ⟨fun hcs => (k.2.2 (hc hcs)).1, fun hcs μ w a n hg hf next Q hn => ?_⟩
     have e := (k.2.2 (hc hcs)).2
     rw [if_pos (key _ _ a n e hf)]
     exact hs hcs μ w a n (by rw [k.1, k.2.1]; exact hg) (by rw [k.2.1]; exact know _ _ a n e hf) next Q fun c w' ha => hn c w' (ha.afG k)
    | false =>
     simp only [hb, cond_false] at h1
     simp only [hb] at key
     obtain ⟨rfl, rfl⟩ := aA h1
     refine ⟨fun hcs => (k.2.2 hcs).1, fun hcs μ w a n hg hf next Q hn => ?_⟩
     have e := (k.2.2 hcs).2
     rw [if_neg (by rw [key _ _ a n e hf]; simp)]
     exact hn undef w (.iG k hg Rep.undef)
   ·rename_i l
    have key : ∀ N μ (a : Act) n, dM N μ fr a.tmps n → Region.wanted o (yielded ops a.tmps) = false := fun N μ a n hf => by
     have := hf.val d _ hfd
     simp only [Rep] at this
     obtain ⟨cs, e, _⟩ := this
     exact Gx hgd (Bv hd e)
    obtain ⟨rfl, rfl⟩ := aA h
    refine ⟨id, fun hcs μ w a n hg hf next Q hn => ?_⟩
    rw [if_neg (by rw [key _ _ a n hf]; simp)]
    exact hn undef w (.iG (Keep.refl g) hg Rep.undef)
   ·exact (aY h).elim
theorem Gf {FW : Bool} {v u : AV} {g g' : G} (h : rY FW v g = .done u g') : ∃ p, Keep g g' p ∧ (p → ∀ N μ c, Rep N μ v c → Rep N μ u c) := by
 unfold rY at h
 split at h
 ·rename_i b
  cases FW with
  | true =>
   obtain ⟨t, g1, a1, h1⟩ := au h
   have k := jc a1
   obtain ⟨rfl, rfl⟩ := aA h1
   exact ⟨_, k, fun e N μ c hc => by simpa [Rep, e] using hc⟩
  | false =>
   obtain ⟨rfl, rfl⟩ := aA h
   exact ⟨_, Keep.refl _, fun _ _ _ _ hc => hc⟩
 ·obtain ⟨rfl, rfl⟩ := aA h
  exact ⟨_, Keep.refl _, fun _ _ _ _ hc => hc⟩
def yV (P : Program) (call : Calls') (all : List Oper) (FW : Bool) (fr : Fr) (o : Oper) : M AV := (xQ P call all fr o).andThen fun v => rY FW v
theorem aC.yV (P : Program) {call : Calls'} (hc : iq call) (all : List Oper) (FW : Bool) (fr : Fr) (o : Oper) : aC (Sx.yV P call all FW fr o) := (aC.xQ P hc all fr o).andThen fun v => aC.rY FW v
theorem pO {P : Program} {call : Calls'} (hcall : cO P call) {ops : Array Oper} {FW : Bool} {fr : Fr} {o : Oper} {v : AV} {g g' : G} (h : yV P call ops.toList FW fr o g = .done v g') :
  (g'.cs → g.cs) ∧ (g'.cs → ∀ μ w (a : Act) n, eX g.nx μ w.heap g.H → dM g.nx μ fr a.tmps n → IW P ops o g μ w g' v a) := by
 obtain ⟨u, g1, a1, h1⟩ := au h
 obtain ⟨hc, hs⟩ := IX hcall a1
 obtain ⟨p, k, hv⟩ := Gf h1
 refine ⟨fun hcs => hc (k.2.2 hcs).1, fun hcs μ w a n hg hf next Q hn => hs (k.2.2 hcs).1 μ w a n hg hf next Q fun c w' ha => ?_⟩
 obtain ⟨μ', e1, e2, e3⟩ := ha
 exact hn c w' ⟨μ', by rw [k.2.1]; exact hv (k.2.2 hcs).2 _ _ _ e1, by rw [k.1, k.2.1]; exact e2, e3.swap rfl rfl k.1 k.2.1⟩
end Go.Sx
namespace Go.Sx
open M
def DZ (ms : List Nat) (o : Oper) : Nat := o.after.toList.foldl (fun s e => bif Region.binds .any e then s ||| (2 ^ e.on ||| ms.getD e.on 0) else s) 0
def eG : List Nat → List Oper → List Nat
 | ms, [] => ms
 | ms, o :: l => eG (ms ++ [DZ ms o]) l
def wP (ms : List Nat) (k j : Nat) : Bool := Nat.testBit (ms.getD j 0) k
def iJ (ms : List Nat) (nT : Nat) : Nat → Nat → List Oper → Bool
 | _, _, [] => true
 | j, m, o :: l => (o.after.toList.all fun e => !Region.binds .any e || Nat.blt e.on j) && Nat.beq (ms.getD j 0) (DZ ms o) &&
  match o.dst with
  | none => iJ ms nT (j + 1) m l
  | some d => Nat.blt d nT && !Nat.testBit m d && iJ ms nT (j + 1) (m ||| 2 ^ d) l
def incs (ms : List Nat) (n j : Nat) : List Nat := (List.range n).filter fun k => !Nat.beq k j && !wP ms k j && !wP ms j k
theorem KZ {ms : List Nat} {n j k : Nat} : k ∈ incs ms n j ↔ k < n ∧ k ≠ j ∧ wP ms k j = false ∧ wP ms j k = false := by
 simp only [incs, List.mem_filter, List.mem_range, Bool.and_eq_true, Bool.not_eq_true', Bool.not_eq_true]
 constructor
 ·rintro ⟨h1, ⟨h2, h3⟩, h4⟩; exact ⟨h1, Nat.ne_of_beq_eq_false h2, h3, h4⟩
 ·rintro ⟨h1, h2, h3, h4⟩
  refine ⟨h1, ⟨?_, h3⟩, h4⟩
  cases h : Nat.beq k j with
  | false => rfl
  | true => exact absurd (Nat.eq_of_beq_eq_true h) h2
theorem yX (ms : List Nat) (k : Nat) : ∀ (l : List Edge) (s : Nat), Nat.testBit (l.foldl (fun s e => bif Region.binds .any e then s ||| (2 ^ e.on ||| ms.getD e.on 0) else s) s) k = true ↔
  Nat.testBit s k = true ∨ ∃ e ∈ l, Region.binds .any e = true ∧ (k = e.on ∨ Nat.testBit (ms.getD e.on 0) k = true)
 | [], s => by simp
 | e :: l, s => by
  rw [List.foldl_cons, yX ms k l]
  cases hb : Region.binds .any e with
  | false =>
   simp only [cond_false]
   constructor
   ·rintro (h | ⟨e', h1, h2⟩)
    ·exact .inl h
    ·exact .inr ⟨e', List.mem_cons_of_mem _ h1, h2⟩
   ·rintro (h | ⟨e', h1, h2⟩)
    ·exact .inl h
    ·rcases List.mem_cons.1 h1 with rfl | h1
     ·rw [hb] at h2; exact absurd h2.1 (by simp)
     ·exact .inr ⟨e', h1, h2⟩
  | true =>
   simp only [cond_true, Nat.testBit_or, Nat.testBit_two_pow, Bool.or_eq_true, decide_eq_true_eq]
   constructor
   ·rintro ((h | h | h) | ⟨e', h1, h2⟩)
    ·exact .inl h
    ·exact .inr ⟨e, List.mem_cons_self, hb, .inl h.symm⟩
    ·exact .inr ⟨e, List.mem_cons_self, hb, .inr h⟩
    ·exact .inr ⟨e', List.mem_cons_of_mem _ h1, h2⟩
   ·rintro (h | ⟨e', h1, h2⟩)
    ·exact .inl (.inl h)
    ·rcases List.mem_cons.1 h1 with rfl | h1
     ·rcases h2.2 with h | h
      ·exact .inl (.inr (.inl h.symm))
      ·exact .inl (.inr (.inr h))
     ·exact .inr ⟨e', h1, h2⟩
theorem pR {ms : List Nat} {o : Oper} {k : Nat} : Nat.testBit (DZ ms o) k = true ↔ ∃ e ∈ o.after, Region.binds .any e = true ∧ (k = e.on ∨ Nat.testBit (ms.getD e.on 0) k = true) := by
 unfold DZ
 rw [yX]
 simp
theorem fM {ms : List Nat} {nT : Nat} : ∀ {l : List Oper} {j m : Nat}, iJ ms nT j m l = true → ∀ i o, l[i]? = some o →
  (∀ e ∈ o.after, Region.binds .any e = true → e.on < j + i) ∧ ms.getD (j + i) 0 = DZ ms o ∧ ∀ d, o.dst = some d → d < nT ∧ Nat.testBit m d = false ∧ ∀ i' o', i < i' → l[i']? = some o' → o'.dst ≠ some d
 | [], j, m, h, i, o, hi => by simp at hi
 | o' :: l, j, m, h, i, o, hi => by
  simp only [iJ, Bool.and_eq_true, List.all_eq_true] at h
  obtain ⟨⟨h1, h2⟩, h3⟩ := h
  have tail : ∃ m', iJ ms nT (j + 1) m' l = true ∧ (∀ d, Nat.testBit m' d = false → Nat.testBit m d = false) ∧ ∀ d, o'.dst = some d → d < nT ∧ Nat.testBit m d = false ∧ Nat.testBit m' d = true := by
   cases hd : o'.dst with
   | none => rw [hd] at h3; exact ⟨m, h3, fun _ h => h, fun d hd => by cases hd⟩
   | some d =>
    rw [hd] at h3
    simp only [Bool.and_eq_true, Bool.not_eq_true', Bool.not_eq_true] at h3
    refine ⟨_, h3.2, fun d' h => ?_, fun d' e => ?_⟩
    ·rw [Nat.testBit_or, Bool.or_eq_false_iff] at h; exact h.1
    ·cases e; exact ⟨lV h3.1.1, h3.1.2, by rw [Nat.testBit_or, Nat.testBit_two_pow]; simp⟩
  obtain ⟨m', t1, t2, t3⟩ := tail
  cases i with
  | zero =>
   simp only [List.getElem?_cons_zero, Option.some.injEq] at hi
   subst hi
   refine ⟨fun e he hb => ?_, by simpa using Nat.eq_of_beq_eq_true h2, fun d hd => ⟨(t3 d hd).1, (t3 d hd).2.1, fun i' o'' hi' acM => ?_⟩⟩
   ·have := h1 e (by simpa using he)
    rw [hb] at this
    exact lV (by simpa using this)
   ·obtain ⟨i'', rfl⟩ : ∃ i'', i' = i'' + 1 := ⟨i' - 1, by omega⟩
    intro e
    have := ((fM t1 i'' o'' (by simpa using acM)).2.2 d e).2.1
    rw [(t3 d hd).2.2] at this
    cases this
  | succ i =>
   obtain ⟨k1, k2, k3⟩ := fM t1 i o (by simpa using hi)
   refine ⟨fun e he hb => by have := k1 e he hb; omega, by rw [show j + (i + 1) = j + 1 + i by omega]; exact k2, fun d hd => ?_⟩
   obtain ⟨e1, e2, e3⟩ := k3 d hd
   exact ⟨e1, t2 d e2, fun i' o'' hi' acM => by
    obtain ⟨i'', rfl⟩ : ∃ i'', i' = i'' + 1 := ⟨i' - 1, by omega⟩
    exact e3 i'' o'' (by omega) (by simpa using acM)⟩
def nR {α : Type} (t : T α) : List Nat → T α
 | [] => t
 | k :: l => nR (t.upd k none) l
theorem lW {α : Type} : ∀ (l : List Nat) (t : T α) (i : Nat), (nR t l).get i = if i ∈ l then none else t.get i
 | [], t, i => by simp [nR]
 | k :: l, t, i => by
  simp only [nR, lW l, T.bP, List.mem_cons]
  by_cases h : i ∈ l
  ·simp [h]
  ·by_cases h' : i = k <;> simp [h, h']
def Oq {α : Type} (lim : Nat) : Nat → Nat → T α → T α
 | _, _, .e => .e
 | a, b, .n l v r => .n (Oq lim (2 * a) (a + b) l) (bif Nat.blt b lim then v else none) (Oq lim (2 * a) (2 * a + b) r)
theorem D5 {α : Type} (lim : Nat) : ∀ (t : T α) (a b i : Nat), (Oq lim a b t).get i = if a * i + b < lim then t.get i else none
 | .e, a, b, i => by simp [Oq, T.uH]
 | .n l v r, a, b, 0 => by
  simp only [Oq, T.qI, Nat.mul_zero, Nat.zero_add]
  by_cases h : b < lim
  ·rw [if_pos h, show Nat.blt b lim = true from Nat.ble_eq_true_of_le h, cond_true]
  ·rw [if_neg h]
   cases hb : Nat.blt b lim with
   | true => exact absurd (lV hb) h
   | false => rfl
 | .n l v r, a, b, i + 1 => by
  simp only [Oq, T.qJ]
  cases hp : Nat.beq (i % 2) 0 with
  | true =>
   have hp' : i % 2 = 0 := Nat.eq_of_beq_eq_true hp
   simp only [cond_true, D5 lim l]
   have e : 2 * a * (i / 2) + (a + b) = a * (i + 1) + b := by
    have : i = 2 * (i / 2) := by omega
    rw [show 2 * a * (i / 2) = a * (2 * (i / 2)) by rw [Nat.mul_comm 2 a, Nat.mul_assoc], ← this, Nat.mul_succ, Nat.add_assoc]
   rw [e]
  | false =>
   have hp' : ¬ i % 2 = 0 := Nat.ne_of_beq_eq_false hp
   simp only [cond_false, D5 lim r]
   have e : 2 * a * (i / 2) + (2 * a + b) = a * (i + 1) + b := by
    have : i + 1 = 2 * (i / 2) + 2 := by omega
    rw [this, Nat.mul_add, show 2 * a * (i / 2) = a * (2 * (i / 2)) by rw [Nat.mul_comm 2 a, Nat.mul_assoc], Nat.mul_comm 2 a, Nat.add_assoc]
   rw [e]
end Go.Sx
namespace Go.Sx
open M
def light : Op → Bool
 | .move _ | .assign _ | .pick .. | .binOp .. | .unOp .. | .convert .. | .makeFunc .. | .field .. | .extract .. | .build .. | .nilCheck _ | .fieldAddr .. => true
 | _ => false
def Qn (P : Program) : Nat → TypeId → Bool
 | 0, _ => true
 | n + 1, t =>
  match P.underlying t with
  | some (.slice _) | some (.pointer _) | some (.map _ _) | some (.func _ _ _) => true
  | some (.tuple ts) => ts.toList.isEmpty || ts.toList.any (Qn P n)
  | some (.struct fs) => fs.toList.any fun f => Qn P n f.type
  | some (.array _ e) => Qn P n e
  | _ => false
def makes (P : Program) (o : Oper) : Bool :=
 match o.op with
 | .store .. | .alloc _ | .box .. | .buildSlice .. | .makeSlice .. | .mapUpdate .. | .insert .. | .makeMap .. => true
 | .call c =>
  match c.callee with
  | .value _ => Qn P 3 o.type
  | .builtin b => match b with
   | .append | .copy => true
   | _ => false
  | _ => true
 | _ => false
structure Rc where
 v : AV
 fin : Fr
 iZ : G
 fV : G
 ch : Bool
 T : List Nat
 lim : Nat
 qp : Fr
 xP : Fr
 g0 : G
 g1 : G
structure qA where
 nT : Nat
 all : List Oper
 ms : List Nat
 Ts : List (List Nat)
 NX : Nat
 yY : Nat
def qA.inc (C : qA) (j : Nat) : List Nat := incs C.ms C.all.length j
def qA.dst (C : qA) (k : Nat) : Option Tmp := (C.all[k]?).bind (·.dst)
def qA.fin (C : qA) (j : Nat) (fr : Fr) : Fr := nR fr ((C.inc j).filterMap C.dst)
def qB (yY m : Nat) : List (Nat × Nat) → Nat
 | [] => yY
 | c :: l => bif Nat.testBit m c.1 then max c.2 (qB yY m l) else qB yY m l
def qA.FW (C : qA) (j : Nat) : Bool := C.all.any fun o => match o.guard with
 | some (k, _) => Nat.beq k j
 | none => false
def Aa (C : qA) (j : Nat) (o : Oper) (lim : Nat) (g : G) : G :=
 { g with H := bif light o.op then .e else nR (Oq lim 1 0 g.H) ((C.inc j).flatMap fun k => C.Ts.getD k []), nx := C.NX, uG := [] }
def U0 (P : Program) (call : Calls') (C : qA) (j : Nat) (o : Oper) (fr : Fr) (lim : Nat) : G → BU Rc := fun g =>
 match yV P call C.all (C.FW j) (C.fin j fr) o (Aa C j o lim g) with
 | .done v go =>
  bif (go.uG.all fun nm => Nat.ble C.NX nm) && v.low lim && Nat.ble C.NX go.nx then
   .done ⟨v, C.fin j fr, Aa C j o lim g, go, false, [], lim, fr, (match o.dst with
    | some d => fr.upd d (some v)
    | none => fr), g, { g with path := go.path, cs := go.cs }⟩ { g with path := go.path, cs := go.cs }
  else .fail
 | .need b => .need b
 | .fail => .fail
def IY (P : Program) (call : Calls') (C : qA) (j : Nat) (o : Oper) (fr : Fr) (qC : List (Nat × Nat)) (lim : Nat) : G → BU Rc := fun g =>
 match yV P call C.all (C.FW j) (C.fin j fr) o { g with uG := [] } with
 | .done v go =>
  bif (qC.all fun c => wP C.ms c.1 j) && Nat.ble g.nx go.nx then
   .done ⟨v, C.fin j fr, { g with uG := [] }, go, true, go.uG, lim, fr, (match o.dst with
    | some d => fr.upd d (some v)
    | none => fr), g, { go with uG := go.uG ++ g.uG }⟩ { go with uG := go.uG ++ g.uG }
  else .fail
 | .need b => .need b
 | .fail => .fail
def lX (P : Program) (call : Calls') (C : qA) (j : Nat) (o : Oper) (fr : Fr) (qC : List (Nat × Nat)) : M Rc := fun g =>
 bif makes P o then IY P call C j o fr qC (qB C.yY (C.ms.getD j 0) qC) g
 else match U0 P call C j o fr (qB C.yY (C.ms.getD j 0) qC) g with
  | .done rc g' => .done rc g'
  | .need b => .need b
  | .fail => IY P call C j o fr qC (qB C.yY (C.ms.getD j 0) qC) g
def uU (P : Program) (call : Calls') (C : qA) : Nat → List Oper → Fr → List (Nat × Nat) → M (List Rc)
 | _, [], _, _ => ret []
 | j, o :: l, fr, qC => (lX P call C j o fr qC).andThen fun rc =>
  (uU P call C (j + 1) l rc.xP (bif rc.ch then (j, rc.g1.nx) :: qC else qC)).andThen fun rcs => ret (rc :: rcs)
def rZ (C : qA) : Nat → List Rc → Bool
 | _, [] => true
 | j, rc :: l => ((rc.T.all fun nm => (C.Ts.getD j []).contains nm) || ((C.inc j).all fun k => ((C.all[k]?).map fun o => light o.op).getD true)) && rZ C (j + 1) l
def Ac : Fr → List Rc → Fr
 | fr, [] => fr
 | _, rc :: l => Ac rc.xP l
def yZ (P : Program) (call : Calls') (nT : Nat) (ops : List Oper) (fr : Fr) : M Fr := fun g =>
 bif iJ (eG [] ops) nT 0 0 ops then
  match uU P call ⟨nT, ops, eG [] ops, [], g.nx + 4096, g.nx⟩ 0 ops fr [] g with
  | .done rcs g' =>
   bif Nat.ble g'.nx (g.nx + 4096) && rZ ⟨nT, ops, eG [] ops, [], g.nx + 4096, g.nx⟩ 0 rcs then .done (Ac fr rcs) g'
   else
    match uU P call ⟨nT, ops, eG [] ops, rcs.map (·.T), g.nx + 4294967296, g.nx⟩ 0 ops fr [] g with
    | .done IZ g'' =>
     bif Nat.ble g''.nx (g.nx + 4294967296) && rZ ⟨nT, ops, eG [] ops, rcs.map (·.T), g.nx + 4294967296, g.nx⟩ 0 IZ then .done (Ac fr IZ) g'' else .fail
    | .need b => .need b
    | .fail => .fail
  | .need b => .need b
  | .fail => .fail
 else .fail
end Go.Sx
namespace Go.Sx
open M
def D6 (o : Oper) (fr : Fr) (v : AV) : Fr :=
 match o.dst with
 | some d => fr.upd d (some v)
 | none => fr
structure U1 (P : Program) (call : Calls') (C : qA) (j : Nat) (o : Oper) (fr : Fr) (qC : List (Nat × Nat)) (g : G) (rc : Rc) (g' : G) : Prop where
 fin : rc.fin = C.fin j fr
 lim : rc.lim = qB C.yY (C.ms.getD j 0) qC
 qp : rc.qp = fr
 xP : rc.xP = D6 o fr rc.v
 g0 : rc.g0 = g
 g1 : rc.g1 = g'
 run : yV P call C.all (C.FW j) rc.fin o rc.iZ = .done rc.v rc.fV
 afH : rc.iZ.cs = g.cs
 U2 : g'.cs = rc.fV.cs
 tin : rc.iZ.uG = []
 nxs : rc.iZ.nx ≤ rc.fV.nx
 read : rc.ch = false → rc.T = [] ∧ rc.iZ = Aa C j o rc.lim g ∧ (∀ nm ∈ rc.fV.uG, C.NX ≤ nm) ∧ rc.v.low rc.lim = true ∧ g'.H = g.H ∧ g'.nx = g.nx ∧ g'.uG = g.uG
 chain : rc.ch = true → rc.iZ.H = g.H ∧ rc.iZ.nx = g.nx ∧ rc.T = rc.fV.uG ∧ g'.H = rc.fV.H ∧ g'.nx = rc.fV.nx ∧ g'.uG = rc.fV.uG ++ g.uG ∧ ∀ c ∈ qC, wP C.ms c.1 j = true
theorem Ot {P : Program} {call : Calls'} {C : qA} {j : Nat} {o : Oper} {fr : Fr} {qC : List (Nat × Nat)} {g : G} {rc : Rc} {g' : G} (h : U0 P call C j o fr (qB C.yY (C.ms.getD j 0) qC) g = .done rc g') : U1 P call C j o fr qC g rc g' := by
 unfold U0 at h
 generalize hone : yV P call C.all (C.FW j) (C.fin j fr) o (Aa C j o (qB C.yY (C.ms.getD j 0) qC) g) = r at h
 split at h
 ·rename_i v go
  cases hb : ((go.uG.all fun nm => Nat.ble C.NX nm) && v.low (qB C.yY (C.ms.getD j 0) qC) && Nat.ble C.NX go.nx) with
  | false => rw [hb] at h; cases h
  | true =>
   rw [hb] at h
   cases h
   simp only [Bool.and_eq_true, List.all_eq_true] at hb
   exact ⟨rfl, rfl, rfl, rfl, rfl, rfl, hone, rfl, rfl, rfl, Nat.le_of_ble_eq_true hb.2, fun _ => ⟨rfl, rfl, fun nm hn => Nat.le_of_ble_eq_true (hb.1.1 nm hn), hb.1.2, rfl, rfl, rfl⟩, fun h => by cases h⟩
 ·cases h
 ·cases h
theorem BH {P : Program} {call : Calls'} {C : qA} {j : Nat} {o : Oper} {fr : Fr} {qC : List (Nat × Nat)} {g : G} {rc : Rc} {g' : G} (h : IY P call C j o fr qC (qB C.yY (C.ms.getD j 0) qC) g = .done rc g') : U1 P call C j o fr qC g rc g' := by
 unfold IY at h
 generalize hone : yV P call C.all (C.FW j) (C.fin j fr) o { g with uG := [] } = r at h
 split at h
 ·rename_i v go
  cases hb : ((qC.all fun c => wP C.ms c.1 j) && Nat.ble g.nx go.nx) with
  | false => rw [hb] at h; cases h
  | true =>
   rw [hb] at h
   cases h
   simp only [Bool.and_eq_true, List.all_eq_true] at hb
   exact ⟨rfl, rfl, rfl, rfl, rfl, rfl, hone, rfl, rfl, rfl, Nat.le_of_ble_eq_true hb.2, (fun h => by cases h), fun _ => ⟨rfl, rfl, rfl, rfl, rfl, rfl, hb.1⟩⟩
 ·cases h
 ·cases h
theorem D7 {P : Program} {call : Calls'} {C : qA} {j : Nat} {o : Oper} {fr : Fr} {qC : List (Nat × Nat)} {g : G} {rc : Rc} {g' : G} (h : lX P call C j o fr qC g = .done rc g') : U1 P call C j o fr qC g rc g' := by
 unfold lX at h
 cases hm : makes P o with
 | true => rw [hm] at h; exact BH h
 | false =>
  rw [hm] at h
  simp only [cond_false] at h
  split at h
  ·rename_i rc' g1 hr
   cases h
   exact Ot hr
  ·cases h
  ·exact BH h
def Gg (fr : Fr) (rcs : List Rc) : Nat → Fr
 | 0 => fr
 | i + 1 => ((rcs[i]?).map (·.xP)).getD fr
def NC (g : G) (rcs : List Rc) : Nat → G
 | 0 => g
 | i + 1 => ((rcs[i]?).map (·.g1)).getD g
theorem Gy (fr : Fr) (rc : Rc) (rcs : List Rc) : ∀ i, i ≤ rcs.length → Gg fr (rc :: rcs) (i + 1) = Gg rc.xP rcs i
 | 0, _ => by simp [Gg]
 | i + 1, h => by
  have : rcs[i]? = some rcs[i] := List.getElem?_eq_getElem (by omega)
  simp [Gg, this]
theorem D8 (g : G) (rc : Rc) (rcs : List Rc) : ∀ i, i ≤ rcs.length → NC g (rc :: rcs) (i + 1) = NC rc.g1 rcs i
 | 0, _ => by simp [NC]
 | i + 1, h => by
  have : rcs[i]? = some rcs[i] := List.getElem?_eq_getElem (by omega)
  simp [NC, this]
theorem La {P : Program} {call : Calls'} {C : qA} : ∀ {l : List Oper} {j : Nat} {fr : Fr} {qC : List (Nat × Nat)} {g : G} {rcs : List Rc} {g' : G}, uU P call C j l fr qC g = .done rcs g' →
  rcs.length = l.length ∧ NC g rcs l.length = g' ∧ Gg fr rcs l.length = Ac fr rcs ∧ ∀ i o, l[i]? = some o → ∃ rc nS, rcs[i]? = some rc ∧ U1 P call C (j + i) o (Gg fr rcs i) nS (NC g rcs i) rc (NC g rcs (i + 1)) ∧
   (∀ c ∈ nS, c ∈ qC ∨ ∃ m r, m < i ∧ rcs[m]? = some r ∧ r.ch = true ∧ c = (j + m, r.g1.nx)) ∧ (∀ c ∈ qC, c ∈ nS) ∧ (∀ m r, m < i → rcs[m]? = some r → r.ch = true → (j + m, r.g1.nx) ∈ nS)
 | [], j, fr, qC, g, rcs, g', h => by
  unfold uU at h
  obtain ⟨rfl, rfl⟩ := aA h
  exact ⟨rfl, rfl, rfl, fun i o hi => by simp at hi⟩
 | o :: l, j, fr, qC, g, rcs, g', h => by
  unfold uU at h
  obtain ⟨rc, g1, a1, h1⟩ := au h
  obtain ⟨IZ, g2, a2, h2⟩ := au h1
  obtain ⟨rfl, rfl⟩ := aA h2
  have hr := D7 a1
  obtain ⟨p1, p2, p3, p4⟩ := La a2
  refine ⟨by simp [p1], ?_, ?_, fun i o' hi => ?_⟩
  ·rw [List.length_cons, D8 _ _ _ _ (by omega), hr.g1]; exact p2
  ·rw [List.length_cons, Gy _ _ _ _ (by omega)]; exact p3
  ·cases i with
   | zero =>
    simp only [List.getElem?_cons_zero, Option.some.injEq] at hi
    subst hi
    refine ⟨rc, qC, rfl, ?_, fun c hc => .inl hc, fun c hc => hc, fun m r hm => by omega⟩
    have e : NC g (rc :: IZ) (0 + 1) = g1 := by simp [NC, hr.g1]
    rw [e]
    exact hr
   | succ i =>
    have hi' : l[i]? = some o' := by simpa using hi
    have hlt : i < l.length := (List.getElem?_eq_some_iff.1 hi').1
    obtain ⟨r', nS, q1, q2, q3, q4, q5⟩ := p4 i o' hi'
    refine ⟨r', nS, by simpa using q1, ?_, fun c hc => ?_, fun c hc => ?_, fun m r hm hr1 hr2 => ?_⟩
    ·rw [Gy _ _ _ _ (by omega), D8 _ _ _ _ (by omega), D8 _ _ _ _ (by omega), hr.g1, show j + (i + 1) = j + 1 + i by omega]
     exact q2
    ·rcases q3 c hc with h3 | ⟨m, r, m1, m2, m3, m4⟩
     ·cases hch : rc.ch with
      | false => rw [hch] at h3; exact .inl h3
      | true =>
       rw [hch] at h3
       rcases List.mem_cons.1 h3 with rfl | h3
       ·exact .inr ⟨0, rc, by omega, rfl, hch, rfl⟩
       ·exact .inl h3
     ·exact .inr ⟨m + 1, r, by omega, by simpa using m2, m3, by rw [m4, show j + (m + 1) = j + 1 + m by omega]⟩
    ·refine q4 c ?_
     cases rc.ch
     ·exact hc
     ·exact List.mem_cons_of_mem _ hc
    ·cases m with
     | zero =>
      simp only [List.getElem?_cons_zero, Option.some.injEq] at hr1
      subst hr1
      refine q4 _ ?_
      rw [hr2]
      exact List.mem_cons_self
     | succ m =>
      rw [show j + (m + 1) = j + 1 + m by omega]
      exact q5 m r (by omega) (by simpa using hr1) hr2
theorem Gz {C : qA} : ∀ {l : List Rc} {j : Nat}, rZ C j l = true → ∀ i rc, l[i]? = some rc → (∀ nm ∈ rc.T, nm ∈ C.Ts.getD (j + i) []) ∨ ∀ k ∈ C.inc (j + i), ∀ o, C.all[k]? = some o → light o.op = true
 | [], j, h, i, rc, hi => by simp at hi
 | r :: l, j, h, i, rc, hi => by
  simp only [rZ, Bool.and_eq_true] at h
  cases i with
  | zero =>
   simp only [List.getElem?_cons_zero, Option.some.injEq] at hi
   subst hi
   rcases Bool.or_eq_true _ _ ▸ h.1 with h | h
   ·left
    rw [List.all_eq_true] at h
    exact fun nm hn => by simpa using h nm hn
   ·right
    rw [List.all_eq_true] at h
    intro k hk o ho
    have := h k hk
    rw [ho] at this
    simpa using this
  | succ i =>
   rw [show j + (i + 1) = j + 1 + i by omega]
   exact Gz h.2 i rc (by simpa using hi)
end Go.Sx
namespace Go.Sx
open M
theorem D9 (yY m : Nat) : ∀ (qC : List (Nat × Nat)), qB yY m qC = yY ∨ ∃ c ∈ qC, Nat.testBit m c.1 = true ∧ qB yY m qC = c.2
 | [] => .inl rfl
 | c :: l => by
  simp only [qB]
  cases hb : Nat.testBit m c.1 with
  | false =>
   simp only [cond_false]
   rcases D9 yY m l with h | ⟨c', h1, h2, h3⟩
   ·exact .inl h
   ·exact .inr ⟨c', List.mem_cons_of_mem _ h1, h2, h3⟩
  | true =>
   simp only [cond_true]
   rcases Nat.le_total c.2 (qB yY m l) with h | h
   ·rw [Nat.max_eq_right h]
    rcases D9 yY m l with h | ⟨c', h1, h2, h3⟩
    ·exact .inl h
    ·exact .inr ⟨c', List.mem_cons_of_mem _ h1, h2, h3⟩
   ·rw [Nat.max_eq_left h]
    exact .inr ⟨c, List.mem_cons_self, hb, rfl⟩
section
variable {P : Program} {call : Calls'} {ops : Array Oper} {nT : Nat} {ms : List Nat} {Ts : List (List Nat)} {NX : Nat} {g g' : G} {fr : Fr} {rcs : List Rc}
def qw (ops : Array Oper) (ms : List Nat) (k j : Nat) : Bool := Nat.blt j ops.size && wP ms k j
theorem Qo (hst : iJ ms nT 0 0 ops.toList = true) : ∀ (j k : Nat), qw ops ms k j = true → k < j := by
 intro j
 induction j using Nat.strongRecOn with
 | _ j ih =>
  intro k h
  simp only [qw, Bool.and_eq_true] at h
  have hj : j < ops.size := lV h.1
  obtain ⟨s1, s2, _⟩ := fM hst j ops[j] (by simp [hj])
  have hb := h.2
  unfold wP at hb
  rw [Nat.zero_add] at s1 s2
  rw [s2, pR] at hb
  obtain ⟨e, he, hbi, hk⟩ := hb
  have hlt := s1 e he hbi
  rcases hk with rfl | hk
  ·exact hlt
  ·exact Nat.lt_trans (ih e.on hlt k (by simp only [qw, Bool.and_eq_true]; exact ⟨Nat.ble_eq_true_of_le (by omega), hk⟩)) hlt
def acO (hcall : cO P call) (hct : iq call) (hst : iJ ms nT 0 0 ops.toList = true)
    (hp : uU P call ⟨nT, ops.toList, ms, Ts, NX, g.nx⟩ 0 ops.toList fr [] g = .done rcs g') (U3 : rZ ⟨nT, ops.toList, ms, Ts, NX, g.nx⟩ 0 rcs = true) (hNX : g'.nx ≤ NX) : Plan P ops nT g g' fr (Ac fr rcs) :=
  have hat := La hp
  have len : rcs.length = ops.size := by rw [hat.1]; simp
  have lC : ∀ j (hj : j < ops.size), ∃ rc nS, rcs[j]? = some rc ∧ U1 P call ⟨nT, ops.toList, ms, Ts, NX, g.nx⟩ j ops[j] (Gg fr rcs j) nS (NC g rcs j) rc (NC g rcs (j + 1)) ∧
      (∀ c ∈ nS, ∃ m r, m < j ∧ rcs[m]? = some r ∧ r.ch = true ∧ c = (m, r.g1.nx)) ∧ (∀ m r, m < j → rcs[m]? = some r → r.ch = true → (m, r.g1.nx) ∈ nS) := fun j hj => by
    obtain ⟨rc, nS, h1, h2, h3, _, h5⟩ := hat.2.2.2 j ops[j] (by simp [hj])
    rw [Nat.zero_add] at h2
    refine ⟨rc, nS, h1, h2, fun c hc => ?_, fun m r hm hr hch => by simpa using h5 m r hm hr hch⟩
    rcases h3 c hc with h | ⟨m, r, k1, k2, k3, k4⟩
    · cases h
    · exact ⟨m, r, k1, k2, k3, by simpa using k4⟩
  have acP : ∀ k, (qA.mk nT ops.toList ms Ts NX g.nx).dst k = dS ops k := fun k => by simp [qA.dst, dS]
  have su : ∀ k j, k < ops.size → j < ops.size → k ≠ j → qw ops ms k j = false → qw ops ms j k = false → k ∈ (qA.mk nT ops.toList ms Ts NX g.nx).inc j := fun k j hk hj hne h1 h2 => by
    unfold qA.inc
    rw [KZ]
    simp only [qw, show Nat.blt j ops.size = true from Nat.ble_eq_true_of_le hj, show Nat.blt k ops.size = true from Nat.ble_eq_true_of_le hk, Bool.true_and] at h1 h2
    exact ⟨by simpa using hk, hne, h1, h2⟩
  have trj : ∀ j (hj : j < ops.size) rc, rcs[j]? = some rc → ∃ l, rc.fV.uG = l ++ [] ∧ rc.iZ.nx ≤ rc.fV.nx ∧ ∀ nm, nm < rc.iZ.nx → nm ∉ l → rc.fV.H.get nm = rc.iZ.H.get nm := fun j hj rc hrc => by
    obtain ⟨rc', nS, h1, h2, _⟩ := lC j hj
    rw [hrc] at h1
    cases h1
    have := (aC.yV P hct _ _ _ _).of _ _ _ h2.run
    rw [← h2.tin]
    exact this
  { V := fun j => ((rcs[j]?).map (·.v)).getD .top
    fr := Gg fr rcs
    H := fun j => (NC g rcs j).H
    nx := fun j => (NC g rcs j).nx
    ch := fun j => ((rcs[j]?).map (·.ch)).getD false
    T := fun j => ((rcs[j]?).map (·.T)).getD []
    kJ := qw ops ms
    fin := fun j => ((rcs[j]?).map (·.fin)).getD .e
    iZ := fun j => ((rcs[j]?).map (·.iZ)).getD g
    fV := fun j => ((rcs[j]?).map (·.fV)).getD g
    lim := fun j => ((rcs[j]?).map (·.lim)).getD g.nx
    NX := NX
    UO := rfl
    UQ := by rw [← hat.2.2.1]; simp
    H_0 := rfl
    BX := rfl
    H_n := by rw [← hat.2.1]; simp
    KW := by rw [← hat.2.1]; simp
    DU := fun j hj t v h => by
      obtain ⟨rc, nS, h1, h2, _⟩ := lC j hj
      simp only [h1, Option.map_some, Option.getD_some, h2.fin, qA.fin, lW] at h
      split at h
      · cases h
      · rename_i hn
        refine ⟨h, fun k hk hne b1 b2 e => hn ?_⟩
        rw [List.mem_filterMap]
        exact ⟨k, su k j hk hj hne b1 b2, by rw [acP, e]⟩
    UR := fun j hj t => by
      obtain ⟨rc, nS, h1, h2, _⟩ := lC j hj
      have e : Gg fr rcs (j + 1) = rc.xP := by simp [Gg, h1]
      have hd : dS ops j = (ops[j]).dst := by simp [dS, hj]
      rw [e, h2.xP, hd]
      simp only [h1, Option.map_some, Option.getD_some, D6]
      cases hdd : (ops[j]).dst with
      | none => simp
      | some d =>
        simp only [T.bP, Option.some.injEq]
        by_cases ht : t = d
        · rw [if_pos ht, if_pos ht.symm]
        · rw [if_neg ht, if_neg (Ne.symm ht)]
    DV := fun j hj d hd => by
      have := (fM hst j ops[j] (by simp [hj])).2.2 d (by simpa [dS, hj] using hd)
      exact this.1
    yS := fun i j d hi hj h1 h2 => by
      have e1 : (ops[i]).dst = some d := by simpa [dS, hi] using h1
      have e2 : (ops[j]).dst = some d := by simpa [dS, hj] using h2
      rcases Nat.lt_trichotomy i j with h | h | h
      · exact absurd e2 (((fM hst i ops[i] (by simp [hi])).2.2 d e1).2.2 j ops[j] h (by simp [hj]))
      · exact h
      · exact absurd e1 (((fM hst j ops[j] (by simp [hj])).2.2 d e2).2.2 i ops[i] h (by simp [hi]))
    iU := fun k j h => Qo hst j k h
    pK := fun j o ho e he hb => by
      have hj := (Array.getElem?_eq_some_iff.1 ho).1
      have s2 := (fM hst j o (by simpa using ho)).2.1
      rw [Nat.zero_add] at s2
      simp only [qw, Bool.and_eq_true]
      refine ⟨Nat.ble_eq_true_of_le hj, ?_⟩
      unfold wP
      rw [s2, pR]
      exact ⟨e, he, hb, .inl rfl⟩
    yT := fun k j hj h => by
      have s := fM hst j ops[j] (by simp [hj])
      simp only [qw, Bool.and_eq_true] at h
      have hb := h.2
      unfold wP at hb
      have s2 := s.2.1
      rw [Nat.zero_add] at s2
      rw [s2, pR] at hb
      obtain ⟨e, he, hbi, hk⟩ := hb
      refine ⟨ops[j], e, by simp [hj], he, hbi, hk.imp id fun hk => ?_⟩
      have := s.1 e he hbi
      simp only [qw, Bool.and_eq_true]
      exact ⟨Nat.ble_eq_true_of_le (by omega), hk⟩
    KX := fun j o ho hcs μ w a hg hf => by
      have hj := (Array.getElem?_eq_some_iff.1 ho).1
      obtain ⟨rc, nS, h1, h2, _⟩ := lC j hj
      have eo : o = ops[j] := by rw [Array.getElem?_eq_getElem hj] at ho; cases ho; rfl
      simp only [h1, Option.map_some, Option.getD_some] at hcs hg hf ⊢
      rw [eo]
      exact (pO hcall h2.run).2 hcs μ w a nT hg hf
    abJ := fun j hj => by
      obtain ⟨rc, nS, h1, h2, _⟩ := lC j hj
      simp only [h1, Option.map_some, Option.getD_some]
      exact h2.nxs
    tr := fun j hj nm hn hT => by
      obtain ⟨rc, nS, h1, h2, _⟩ := lC j hj
      obtain ⟨l, t1, _, t3⟩ := trj j hj rc h1
      simp only [h1, Option.map_some, Option.getD_some] at hn hT ⊢
      refine t3 nm hn ?_
      rw [List.append_nil] at t1
      rw [← t1]
      cases hc : rc.ch with
      | true => rw [← (h2.chain hc).2.2.1]; exact hT
      | false =>
        obtain ⟨_, e, hx, _⟩ := h2.read hc
        intro hm
        have : NX ≤ nm := hx nm hm
        rw [e] at hn
        simp only [Aa] at hn
        omega
    reader := fun j hj hc => by
      obtain ⟨rc, nS, h1, h2, _⟩ := lC j hj
      simp only [h1, Option.map_some, Option.getD_some] at hc ⊢
      obtain ⟨r1, r2, r3, r4, r5, r6, _⟩ := h2.read hc
      refine ⟨r5, r6, r1, r4, by rw [r2]; rfl, fun nm b hb => ?_⟩
      rw [r2] at hb
      simp only [Aa] at hb
      cases hl : light (ops[j]).op with
      | true => rw [hl] at hb; simp [T.get] at hb
      | false =>
        rw [hl] at hb
        simp only [cond_false, lW, D5, Nat.one_mul, Nat.add_zero] at hb
        split at hb
        · cases hb
        · rename_i hn
          split at hb
          · rename_i hlt
            refine ⟨hb, hlt, fun k hk hne hck b1 b2 hT => ?_⟩
            obtain ⟨rk, chk, k1, k2, _⟩ := lC k hk
            simp only [k1, Option.map_some, Option.getD_some] at hT
            rcases Gz U3 k rk k1 with hs | hs
            · refine hn ?_
              rw [List.mem_flatMap]
              exact ⟨k, su k j hk hj hne b1 b2, by simpa using hs nm hT⟩
            · have := hs j (by rw [Nat.zero_add]; exact su j k hj hk (Ne.symm hne) b2 b1) ops[j] (by simp [hj])
              rw [hl] at this
              cases this
          · cases hb
    chain := fun j hj hc => by
      obtain ⟨rc, nS, h1, h2, _⟩ := lC j hj
      simp only [h1, Option.map_some, Option.getD_some] at hc ⊢
      obtain ⟨r1, r2, r3, r4, r5, _⟩ := h2.chain hc
      exact ⟨r1, r2, r4, r5⟩
    yU := fun i j hij hj hi hc => by
      obtain ⟨rc, nS, h1, h2, h3, h4⟩ := lC j hj
      obtain ⟨ri, chi, i1, i2, _⟩ := lC i (by omega)
      simp only [h1, i1, Option.map_some, Option.getD_some] at hc hi
      have := (h2.chain hc).2.2.2.2.2.2 _ (h4 i ri hij i1 hi)
      simp only [qw, Bool.and_eq_true]
      exact ⟨Nat.ble_eq_true_of_le hj, this⟩
    UU := fun j hj => by
      obtain ⟨rc, nS, h1, h2, h3, h4⟩ := lC j hj
      simp only [h1, Option.map_some, Option.getD_some, h2.lim]
      rcases D9 g.nx (ms.getD j 0) nS with h | ⟨c, c1, c2, c3⟩
      · exact .inl h
      · obtain ⟨m, r, m1, m2, m3, rfl⟩ := h3 c c1
        refine .inr ⟨m, by omega, ?_, ?_, ?_⟩
        · simp [m2, m3]
        · simp only [qw, Bool.and_eq_true]
          exact ⟨Nat.ble_eq_true_of_le hj, c2⟩
        · rw [c3]; simp [NC, m2]
    UW := by rw [show ops.size = ops.toList.length by simp, hat.2.1]; exact hNX
    KY := fun hcs => by
      have key : ∀ d j, j + d = ops.size → (NC g rcs j).cs := by
        intro d
        induction d with
        | zero => intro j hj; rw [show j = ops.toList.length by simp; omega, hat.2.1]; exact hcs
        | succ d ih =>
          intro j hj
          obtain ⟨rc, nS, h1, h2, _⟩ := lC j (by omega)
          have := ih (j + 1) (by omega)
          rw [h2.U2] at this
          rw [← h2.afH]
          exact (pO hcall h2.run).1 this
      intro j hj
      obtain ⟨rc, nS, h1, h2, _⟩ := lC j hj
      simp only [h1, Option.map_some, Option.getD_some]
      rw [← h2.U2]
      exact key (ops.size - (j + 1)) (j + 1) (by omega)
    UY := fun hcs => by
      have key : ∀ d j, j + d = ops.size → (NC g rcs j).cs := by
        intro d
        induction d with
        | zero => intro j hj; rw [show j = ops.toList.length by simp; omega, hat.2.1]; exact hcs
        | succ d ih =>
          intro j hj
          obtain ⟨rc, nS, h1, h2, _⟩ := lC j (by omega)
          have := ih (j + 1) (by omega)
          rw [h2.U2] at this
          rw [← h2.afH]
          exact (pO hcall h2.run).1 this
      exact key ops.size 0 (by omega) }
end
end Go.Sx
namespace Go.Sx
open M
theorem y7 {P : Program} {call : Calls'} {nT : Nat} {ops : List Oper} {fr fr' : Fr} {g g' : G} (h : yZ P call nT ops fr g = .done fr' g') :
  iJ (eG [] ops) nT 0 0 ops = true ∧ ∃ Ts NX rcs, uU P call ⟨nT, ops, eG [] ops, Ts, NX, g.nx⟩ 0 ops fr [] g = .done rcs g' ∧ rZ ⟨nT, ops, eG [] ops, Ts, NX, g.nx⟩ 0 rcs = true ∧ g'.nx ≤ NX ∧ fr' = Ac fr rcs := by
 unfold yZ at h
 cases hst : iJ (eG [] ops) nT 0 0 ops with
 | false => rw [hst] at h; cases h
 | true =>
  rw [hst, cond_true] at h
  refine ⟨rfl, ?_⟩
  generalize hp : uU P call ⟨nT, ops, eG [] ops, [], g.nx + 4096, g.nx⟩ 0 ops fr [] g = r at h
  split at h
  ·rename_i rcs g1
   cases hb : (Nat.ble g1.nx (g.nx + 4096) && rZ ⟨nT, ops, eG [] ops, [], g.nx + 4096, g.nx⟩ 0 rcs) with
   | true =>
    rw [hb, cond_true] at h
    cases h
    simp only [Bool.and_eq_true] at hb
    exact ⟨_, _, _, hp, hb.2, Nat.le_of_ble_eq_true hb.1, rfl⟩
   | false =>
    rw [hb, cond_false] at h
    generalize hp2 : uU P call ⟨nT, ops, eG [] ops, rcs.map (·.T), g.nx + 4294967296, g.nx⟩ 0 ops fr [] g = r2 at h
    split at h
    ·rename_i acQ g2
     cases hb2 : (Nat.ble g2.nx (g.nx + 4294967296) && rZ ⟨nT, ops, eG [] ops, rcs.map (·.T), g.nx + 4294967296, g.nx⟩ 0 acQ) with
     | true =>
      rw [hb2, cond_true] at h
      cases h
      simp only [Bool.and_eq_true] at hb2
      exact ⟨_, _, _, hp2, hb2.2, Nat.le_of_ble_eq_true hb2.1, rfl⟩
     | false => rw [hb2, cond_false] at h; cases h
    ·cases h
    ·cases h
  ·cases h
  ·cases h
theorem Ou {P : Program} {call : Calls'} (hcall : cO P call) (hct : iq call) (hm : P.follows .mixedOrders = true) (n : Nat) : gq P (yZ P call n) n := fun ops id fr fr' g g' h => by
 obtain ⟨hst, Ts, NX, rcs, hp, hs, hx, rfl⟩ := y7 h
 exact (acO hcall hct hst hp hs hx).leads hm id
theorem SE {P : Program} {call : Calls'} (hct : iq call) {C : qA} {j : Nat} {o : Oper} {fr : Fr} {qC : List (Nat × Nat)} : aC (lX P call C j o fr qC) := ⟨fun g rc g' h => by
 have hr := D7 h
 cases hc : rc.ch with
 | false =>
  obtain ⟨_, _, _, _, r5, r6, r7⟩ := hr.read hc
  exact ⟨[], r7, by rw [r6]; exact Nat.le_refl _, fun nm _ _ => by rw [r5]⟩
 | true =>
  obtain ⟨r1, r2, r3, r4, r5, r6, _⟩ := hr.chain hc
  obtain ⟨l, t1, t2, t3⟩ := (aC.yV P hct _ _ _ _).of _ _ _ hr.run
  rw [hr.tin, List.append_nil] at t1
  refine ⟨l, by rw [r6, t1], by rw [r5, ← r2]; exact t2, fun nm hn hl => ?_⟩
  rw [r4, t3 nm (by rw [r2]; exact hn) hl, r1]⟩
theorem GH {P : Program} {call : Calls'} (hct : iq call) {C : qA} : ∀ (l : List Oper) (j : Nat) (fr : Fr) (qC : List (Nat × Nat)), aC (uU P call C j l fr qC)
 | [], j, fr, qC => aC.ret _
 | o :: l, j, fr, qC => (SE hct).andThen fun rc => (GH hct l _ _ _).andThen fun _ => aC.ret _
theorem Lc {P : Program} {call : Calls'} (hct : iq call) (n : Nat) (ops : List Oper) (fr : Fr) : aC (yZ P call n ops fr) := ⟨fun g fr' g' h => by
 obtain ⟨_, Ts, NX, rcs, hp, _⟩ := y7 h
 exact (GH hct ops _ _ _).of _ _ _ hp⟩
def runN (P : Program) (Γ : Known) (region : Calls' → Nat → List Oper → Fr → M Fr) (rounds fuel : Nat) : Calls' := FZ P Γ (fun _ => lQ) region rounds fuel
end Go.Sx
namespace Go.Sx
open M
def Qp (P : Program) (e : Array Value → Sem Value) (s : List AV → M AV) : Prop :=
 ∀ args v g g', s args g = .done v g' → ∃ p, Keep g g' p ∧ (p → ∀ N μ (w : World) (bT : Array Value), aI N μ args bT.toList → ∃ c, (e bT).run P w = .ok c w ∧ Rep N μ v c)
theorem Qp.iw {P : Program} {f : FuncId} {fn : Func} {e : Array Value → Sem Value} {s : List AV → M AV} (h : Qp P e s) (hf : P.funcs[f]? = some fn) (hname : (fn.name == "runtime.NumGoroutine") = false)
  (hb : fn.body.isNone = true) (hn : Extern.findNext fn = none) (he : Extern.find fn = some e) : ∀ args v g g', s args g = .done v g' → bf P f args v g g' := fun args v g g' hs => by
 obtain ⟨p, k, hr⟩ := h args v g g' hs
 refine ⟨fun hc => (k.2.2 hc).1, fun hc μ w bT hg ha => .inl ?_⟩
 obtain ⟨c, e1, hv⟩ := hr (k.2.2 hc).2 g.nx μ w bT ha
 refine ⟨c, w, ?_, .iG k hg hv⟩
 rw [run_callFunc_extern hf hname hb hn he, e1]
 rfl
def toBits : List AV → M AV
 | [.flt s x] => ret (.bits s x)
 | [.raw s x] => ret (.int s .u64 x)
 | _ => no
def ofBits : List AV → M AV
 | [.bits s x] => ret (.flt s x)
 | [.int s .u64 n] => (ck s (0 ≤ n ∧ n < 18446744073709551616)).andThen fun _ => ret (.raw s n.toNat)
 | _ => no
theorem je (P : Program) : Qp P Extern.MathFloatBits.float64bits toBits := fun args v g g' h => by
 unfold toBits at h
 split at h
 ·rename_i s x
  obtain ⟨rfl, rfl⟩ := aA h
  refine ⟨_, Keep.refl _, fun _ N μ w bT hr => ?_⟩
  obtain ⟨c, rfl, hx⟩ := hr.one
  simp only [Rep] at hx
  obtain ⟨b, rfl, hb⟩ := hx
  exact ⟨.int .u64 b, rfl, by simp only [Rep]; exact ⟨b, rfl, hb⟩⟩
 ·rename_i s x
  obtain ⟨rfl, rfl⟩ := aA h
  refine ⟨_, Keep.refl _, fun _ N μ w bT hr => ?_⟩
  obtain ⟨c, rfl, hx⟩ := hr.one
  simp only [Rep] at hx
  obtain ⟨rfl, hb⟩ := hx
  exact ⟨.int .u64 x, rfl, by simp only [Rep]⟩
 ·exact (aY h).elim
theorem jf (P : Program) : Qp P Extern.MathFloatBits.float64frombits ofBits := fun args v g g' h => by
 unfold ofBits at h
 split at h
 ·rename_i s x
  obtain ⟨rfl, rfl⟩ := aA h
  refine ⟨_, Keep.refl _, fun _ N μ w bT hr => ?_⟩
  obtain ⟨c, rfl, hx⟩ := hr.one
  simp only [Rep] at hx
  obtain ⟨b, rfl, hb⟩ := hx
  exact ⟨.float .f64 b, rfl, by simp only [Rep]; exact ⟨b, rfl, hb⟩⟩
 ·rename_i s n
  obtain ⟨_, g1, a1, h1⟩ := au h
  obtain ⟨rfl, rfl⟩ := aA h1
  refine ⟨_, dI a1, fun hp N μ w bT hr => ?_⟩
  obtain ⟨c, rfl, hx⟩ := hr.one
  simp only [Rep] at hx
  subst hx
  exact ⟨.float .f64 n.toNat, rfl, by simp only [Rep]; exact ⟨trivial, by omega⟩⟩
 ·exact (aY h).elim
theorem aC.toBits (l : List AV) : aC (Sx.toBits l) := by
 unfold Sx.toBits; split
 ·exact aC.ret _
 ·exact aC.ret _
 ·exact aC.no
theorem aC.ofBits (l : List AV) : aC (Sx.ofBits l) := by
 unfold Sx.ofBits; split
 ·exact aC.ret _
 ·exact (aC.ck _ _).andThen fun _ => aC.ret _
 ·exact aC.no
def G.start : G := ⟨.e, 0, [], [], True⟩
def MM.none : MM := ⟨fun _ => 0, fun _ => 0, fun _ => 0, fun _ => 0⟩
theorem eX.start (μ : MM) (hp : Array Obj) : eX 0 μ hp .e :=
 ⟨fun _ _ h => by simp [T.get] at h, fun _ _ h => by simp [T.get] at h, fun _ _ _ _ h => by simp [T.get] at h⟩
end Go.Sx
namespace Go.Sx
open M
def G.on (path : List Bool) : G := ⟨.e, 0, [], path, True⟩
def BI (v : AV) : BU AV → Prop
 | .done v' g => v' = v ∧ g.cs
 | _ => False
structure gX (v : AV) (r : BU AV) : Prop where
 of : BI v r
theorem eX.below {N : Nat} {μ : MM} {w w' : World} {H : T aF} (h : eX N μ w.heap H) (b : RowKit.Below w.heap.size w w') : eX N μ w'.heap H where
 lt := h.lt
 sep := h.sep
 ok := fun g bk hg => (h.ok g bk hg).later (MM.upto.refl _ _) (Nat.le_refl _) (h.lt g bk hg) fun hr => b.block _ ((h.ok g bk hg).lt_size hr)
theorem Ext.below {g : G} {μ : MM} {w w' : World} (b : RowKit.Below w.heap.size w w') : Ext g μ w g μ w' where
 nx := Nat.le_refl _
 names := .refl _ _
 os := b.os
 tape := b.tape
 output := b.output
 size := b.size
 block := fun B hB _ => b.block B hB
 may := fun B _ h => h
theorem After.below {g : G} {μ : MM} {w w' : World} {v : AV} {c : Value} (hg : eX g.nx μ w.heap g.H) (hv : Rep g.nx μ v c) (b : RowKit.Below w.heap.size w w') : After g μ w g v c w' :=
 ⟨μ, hv, hg.below b, .below b⟩
theorem CF.mono {P : Program} {f : FuncId} {args : Array Value} {w : World} {R R' : Value → World → Prop} (h : CF P f args w R) (k : ∀ c w', R c w' → R' c w') : CF P f args w R' := by
 rcases h with ⟨c, w', e, hr⟩ | ⟨f', args', w', e, hc⟩
 ·exact .inl ⟨c, w', e, k _ _ hr⟩
 ·exact .inr ⟨f', args', w', e, hc.mono fun e w'' ⟨c, h1, h2⟩ => ⟨c, h1, k _ _ h2⟩⟩
theorem GI {P : Program} {call : Calls'} (hcall : cO P call) {f : FuncId} {args : List AV} {path : List Bool} {v : AV} (h : gX v (call f args (G.on path))) (hv : v.low 0 = true) (w : World) {bT : Array Value} (ha : aI 0 MM.none args bT.toList) :
  CF P f bT w fun c w' => (∀ N μ, Rep N μ v c) ∧ RowKit.Below w.heap.size w w' := by
 have h := h.of
 unfold BI at h
 split at h
 ·rename_i v' g hr
  obtain ⟨rfl, hcs⟩ := h
  obtain ⟨_, hs⟩ := hcall _ _ _ _ _ hr
  refine (hs hcs MM.none w bT (eX.start _ _) ha).mono ?_
  rintro c w' ⟨μ', hv', _, hE⟩
  refine ⟨fun N μ => ?_, hE.os, hE.tape, hE.output, hE.size, fun k hk => hE.block k hk (by rintro ⟨g, b, h, _⟩; simp [G.on, T.uH] at h)⟩
  have h1 : Rep 0 μ v' c := Rep.nO ⟨fun g hg => by omega, fun g hg => by omega, fun g hg => by omega, fun g hg => by omega⟩ hv hv'
  exact h1.later (.refl _ _) (Nat.zero_le _)
 ·exact h.elim
theorem After.keepR {g g' : G} {μ : MM} {w w' : World} {v : AV} {c : Value} {p : Prop} (h : After g μ w g v c w') (k : Keep g g' p) : After g μ w g' v c w' := by
 obtain ⟨μ', h1, h2, h3⟩ := h
 exact ⟨μ', by rw [k.2.1]; exact h1, by rw [k.1, k.2.1]; exact h2, h3.swap rfl rfl k.1 k.2.1⟩
theorem Ld {P : Program} {call : Calls'} (hcall : cO P call) {f : FuncId} {args : List AV} {v : AV} {g : G}
  (H : ∀ μ (bT : Array Value), aI g.nx μ args bT.toList → ∃ args' path lv, aI 0 MM.none args' bT.toList ∧ gX lv (call f args' (G.on path)) ∧ lv.low 0 = true ∧ ∀ c, (∀ N μ, Rep N μ lv c) → Rep g.nx μ v c) : bf P f args v g g := by
 refine ⟨id, fun _ μ w bT hg ha => ?_⟩
 obtain ⟨args', path, lv, h1, h2, h3, h4⟩ := H μ bT ha
 exact (GI hcall h2 h3 w h1).mono fun c w' ⟨h5, h6⟩ => .below hg (h4 c h5) h6
theorem abK {P : Program} {call : Calls'} (hcall : cO P call) {f : FuncId} {args : List AV} {v : AV} {g g' : G} {p : Prop} (k : Keep g g' p)
  (H : p → ∀ μ (bT : Array Value), aI g.nx μ args bT.toList → ∃ args' path lv, aI 0 MM.none args' bT.toList ∧ gX lv (call f args' (G.on path)) ∧ lv.low 0 = true ∧ ∀ c, (∀ N μ, Rep N μ lv c) → Rep g.nx μ v c) : bf P f args v g g' := by
 refine ⟨fun hc => (k.2.2 hc).1, fun hc μ w bT hg ha => ?_⟩
 obtain ⟨args', path, lv, h1, h2, h3, h4⟩ := H (k.2.2 hc).2 μ bT ha
 exact (GI hcall h2 h3 w h1).mono fun c w' ⟨h5, h6⟩ => (After.below hg (h4 c h5) h6 : After g μ w g v c w').keepR k
theorem cZ {N : Nat} {μ : MM} {s b : Bool} {c : Value} : Rep N μ (dH s b) c ↔ c = .bool b := by
 cases s <;> simp [dH, Rep]
end Go.Sx
namespace Go.Sx
def kE (n : Nat) : Int := uI BinOp.and IntKind.u64 ((n : Int).fdiv (2 ^ min (Int.toNat 52) IntKind.u64.bits)) 2047
def kR (n : Nat) : Int := IntKind.u64.wrap ((n : Int) * 2 ^ min (Int.toNat 12) IntKind.u64.bits)
theorem abL {n : Nat} (h : n < 18446744073709551616) : kE n = ((n / 4503599627370496 % 2048 : Nat) : Int) := by
 unfold kE
 have e1 : (2 ^ min (Int.toNat 52) IntKind.u64.bits : Int) = 4503599627370496 := by decide
 rw [e1]
 have e2 : (n : Int).fdiv 4503599627370496 = ((n / 4503599627370496 : Nat) : Int) := by
  rw [Int.fdiv_eq_ediv_of_nonneg _ (by omega)]; rfl
 rw [e2]
 simp only [uI]
 have e3 : IntKind.u64.bits = 64 := rfl
 rw [e3]
 have e4 : (BitVec.ofInt 64 ((n / 4503599627370496 : Nat) : Int) &&& BitVec.ofInt 64 2047).toNat = n / 4503599627370496 % 2048 := by
  rw [BitVec.toNat_and]
  have a : (BitVec.ofInt 64 ((n / 4503599627370496 : Nat) : Int)).toNat = n / 4503599627370496 := by
   rw [BitVec.toNat_ofInt]; omega
  have b : (BitVec.ofInt 64 2047).toNat = 2 ^ 11 - 1 := by decide
  rw [a, b, Nat.and_two_pow_sub_one_eq_mod]
 rw [e4]
 simp only [IntKind.wrap, e3, IntKind.signed, Bool.false_and, Bool.false_eq_true, if_false]
 omega
theorem abM {n : Nat} (h : n < 18446744073709551616) : kR n = ((n * 4096 % 18446744073709551616 : Nat) : Int) := by
 unfold kR
 have e1 : (2 ^ min (Int.toNat 12) IntKind.u64.bits : Int) = 4096 := by decide
 have e3 : IntKind.u64.bits = 64 := rfl
 rw [e1]
 simp only [IntKind.wrap, e3, IntKind.signed, Bool.false_and, Bool.false_eq_true, if_false]
 omega
def fQ (n : Nat) : Int := bif decide (kE n = 0) then (bif decide (kR n = 0) then 0 else 1) else bif decide (kE n < 2047) then 2 else bif decide (kR n = 0) then 3 else 4
theorem Ea {n : Nat} (h : n < 18446744073709551616) (hn : isnan n = true) : fQ n = 4 := by
 unfold fQ
 rw [abL h, abM h]
 have hn' : 9218868437227405312 < n % 9223372036854775808 := by simpa [isnan] using hn
 have a : ¬ (((n / 4503599627370496 % 2048 : Nat) : Int) = 0) := by omega
 have b : ¬ (((n / 4503599627370496 % 2048 : Nat) : Int) < 2047) := by omega
 have c : ¬ (((n * 4096 % 18446744073709551616 : Nat) : Int) = 0) := by omega
 rw [decide_eq_false a, decide_eq_false b, decide_eq_false c]; rfl
theorem Yv {n : Nat} (h : n < 18446744073709551616) : fQ (cn n) = fQ n := by
 cases hn : isnan n with
 | false => rw [iC hn]
 | true => rw [gu hn, Ea h hn]; exact Ea (by decide) fH
end Go.Sx
namespace Go.Sx
def U (r : Nat) : Nat := if r < 4503599627370496 then r else (4503599627370496 + r % 4503599627370496) * 2 ^ (r / 4503599627370496 - 1)
theorem Yw {r r' : Nat} (h : r < r') : U r < U r' := by
 unfold U
 by_cases h1 : r' < 4503599627370496
 ·rw [if_pos h1, if_pos (by omega)]; exact h
 ·rw [if_neg h1]
  have hp : 0 < 2 ^ (r' / 4503599627370496 - 1) := Nat.two_pow_pos _
  by_cases h2 : r < 4503599627370496
  ·rw [if_pos h2]
   calc r < 4503599627370496 := h2
    _ ≤ (4503599627370496 + r' % 4503599627370496) * 1 := by omega
    _ ≤ _ := Nat.mul_le_mul_left _ hp
  ·rw [if_neg h2]
   by_cases hq : r / 4503599627370496 = r' / 4503599627370496
   ·rw [hq]
    exact Nat.mul_lt_mul_of_pos_right (by omega) hp
   ·have hq' : r / 4503599627370496 + 1 ≤ r' / 4503599627370496 := by omega
    have hq1 : 1 ≤ r / 4503599627370496 := by omega
    have e : 2 ^ (r' / 4503599627370496 - 1) = 2 ^ (r / 4503599627370496 - 1) * 2 ^ (r' / 4503599627370496 - r / 4503599627370496) := by
     rw [← Nat.pow_add]; congr 1; omega
    have h2p : 2 ≤ 2 ^ (r' / 4503599627370496 - r / 4503599627370496) := by
     calc 2 = 2 ^ 1 := rfl
      _ ≤ _ := Nat.pow_le_pow_right (by omega) (by omega)
    rw [e]
    have hpr : 0 < 2 ^ (r / 4503599627370496 - 1) := Nat.two_pow_pos _
    calc (4503599627370496 + r % 4503599627370496) * 2 ^ (r / 4503599627370496 - 1)
      < (4503599627370496 * 2) * 2 ^ (r / 4503599627370496 - 1) := Nat.mul_lt_mul_of_pos_right (by omega) hpr
     _ = 4503599627370496 * (2 ^ (r / 4503599627370496 - 1) * 2) := by rw [Nat.mul_assoc, Nat.mul_comm 2]
     _ ≤ (4503599627370496 + r' % 4503599627370496) * (2 ^ (r / 4503599627370496 - 1) * 2 ^ (r' / 4503599627370496 - r / 4503599627370496)) := Nat.mul_le_mul (by omega) (Nat.mul_le_mul_left _ h2p)
theorem y8 {r r' : Nat} : U r < U r' ↔ r < r' := by
 constructor
 ·intro h
  rcases Nat.lt_trichotomy r r' with h1 | h1 | h1
  ·exact h1
  ·rw [h1] at h; omega
  ·have := Yw h1; omega
 ·exact Yw
theorem Le {r r' : Nat} : U r = U r' ↔ r = r' := by
 constructor
 ·intro h
  rcases Nat.lt_trichotomy r r' with h1 | h1 | h1
  ·have := Yw h1; omega
  ·exact h1
  ·have := Yw h1; omega
 ·rintro rfl; rfl
theorem U4 : U 0 = 0 := rfl
theorem U5 : Ieee.double.leastPlace = -1074 := by decide
theorem Ja : Ieee.double.binade = 4503599627370496 := by decide
theorem Eb : Ieee.double.infRung = 9218868437227405312 := by decide
theorem Ad : Ieee.double.signWeight = 9223372036854775808 := by decide
theorem y9 {x : Nat} (h : x % 9223372036854775808 < 9218868437227405312) : ∃ m i, Ieee.double.read x = .number (x / 9223372036854775808 % 2 == 1) m i ∧ -1074 ≤ i ∧ m * 2 ^ (i - -1074).toNat = U (x % 9223372036854775808) := by
 unfold Ieee.Format.read
 simp only [Ad, Ja, Eb, U5]
 generalize x % 9223372036854775808 = r at h ⊢
 by_cases h1 : r < 4503599627370496
 ·rw [if_pos h1]
  exact ⟨_, _, rfl, by omega, by simp [U, h1]⟩
 ·rw [if_neg h1, if_pos h]
  refine ⟨_, _, rfl, by omega, ?_⟩
  rw [show (-1074 + ((r / 4503599627370496 - 1 : Nat) : Int) - -1074).toNat = r / 4503599627370496 - 1 by omega]
  simp [U, h1]
theorem zf {x : Nat} (h : x % 9223372036854775808 = 9218868437227405312) : Ieee.double.read x = .infinity (x / 9223372036854775808 % 2 == 1) := by
 unfold Ieee.Format.read
 simp only [Ad, Ja, Eb, U5, h]
 rfl
def rk (n : Nat) : Int := if 9223372036854775808 ≤ n then -((n - 9223372036854775808 : Nat) : Int) else n
theorem Ec {a b c d : Int} (h1 : a < b ↔ c < d) (h2 : a = b ↔ c = d) : compare a b = compare c d := by
 simp only [compare, compareOfLessAndEq, h1, h2]
theorem zh (s : Bool) (m : Nat) {i base : Int} (h1 : base ≤ i) (h2 : -1074 ≤ base) :
  Ieee.signed s m (i - base).toNat * 2 ^ (base - -1074).toNat = if s then -((m * 2 ^ (i - -1074).toNat : Nat) : Int) else ((m * 2 ^ (i - -1074).toNat : Nat) : Int) := by
 have e : (i - -1074).toNat = (i - base).toNat + (base - -1074).toNat := by omega
 unfold Ieee.signed
 rw [e, Nat.pow_add, Nat.shiftLeft_eq]
 cases s
 ·simp [Int.mul_assoc]
 ·simp [Int.mul_assoc, Int.neg_mul]
theorem Gh (a b : Int) (k : Nat) : compare a b = compare (a * 2 ^ k) (b * 2 ^ k) := by
 have hp : (0 : Int) < 2 ^ k := by
  have := Nat.two_pow_pos k
  exact_mod_cast this
 refine Ec ?_ ?_
 ·exact (Int.mul_lt_mul_right hp).symm
 ·exact ⟨fun h => by rw [h], fun h => Int.eq_of_mul_eq_mul_right (by omega) h⟩
theorem GK {n : Nat} (h : n < 18446744073709551616) : (n / 9223372036854775808 % 2 == 1) = decide (9223372036854775808 ≤ n) := by
 by_cases h1 : 9223372036854775808 ≤ n
 ·rw [decide_eq_true h1, show n / 9223372036854775808 = 1 by omega]; rfl
 ·rw [decide_eq_false h1, show n / 9223372036854775808 = 0 by omega]; rfl
theorem Ov {n : Nat} (h : isnan n = false) : n % 9223372036854775808 ≤ 9218868437227405312 := by
 unfold isnan at h
 have := of_decide_eq_false h
 omega
theorem Lh {x y : Nat} (hx : x < 18446744073709551616) (hy : y < 18446744073709551616) (nx : isnan x = false) (ny : isnan y = false) : iQ x y = some (compare (rk x) (rk y)) := by
 unfold iQ Ieee.Format.order
 have lx := Ov nx
 have ly := Ov ny
 have rx : rk x = if 9223372036854775808 ≤ x then -((x % 9223372036854775808 : Nat) : Int) else ((x % 9223372036854775808 : Nat) : Int) := by
  unfold rk
  by_cases h : 9223372036854775808 ≤ x
  ·rw [if_pos h, if_pos h, show x - 9223372036854775808 = x % 9223372036854775808 by omega]
  ·rw [if_neg h, if_neg h, show x % 9223372036854775808 = x by omega]
 have ry : rk y = if 9223372036854775808 ≤ y then -((y % 9223372036854775808 : Nat) : Int) else ((y % 9223372036854775808 : Nat) : Int) := by
  unfold rk
  by_cases h : 9223372036854775808 ≤ y
  ·rw [if_pos h, if_pos h, show y - 9223372036854775808 = y % 9223372036854775808 by omega]
  ·rw [if_neg h, if_neg h, show y % 9223372036854775808 = y by omega]
 by_cases fx : x % 9223372036854775808 < 9218868437227405312
 ·obtain ⟨m, i, e1, i1, u1⟩ := y9 fx
  rw [e1, GK hx]
  by_cases fy : y % 9223372036854775808 < 9218868437227405312
  ·obtain ⟨n, j, e2, j1, u2⟩ := y9 fy
   rw [e2, GK hy]
   simp only [Ieee.Datum.order]
   congr 1
   rw [Gh _ _ (min i j - -1074).toNat, zh _ _ (Int.min_le_left ..) (by omega), zh _ _ (Int.min_le_right ..) (by omega), u1, u2, rx, ry]
   have hl := @y8 (x % 9223372036854775808) (y % 9223372036854775808)
   have hg := @y8 (y % 9223372036854775808) (x % 9223372036854775808)
   have he := @Le (x % 9223372036854775808) (y % 9223372036854775808)
   have z1 := @y8 0 (x % 9223372036854775808)
   have z2 := @y8 0 (y % 9223372036854775808)
   rw [U4] at z1 z2
   generalize U (x % 9223372036854775808) = ux at *
   generalize U (y % 9223372036854775808) = uy at *
   simp only [decide_eq_true_eq]
   refine Ec ?_ ?_
   ·split <;> split <;> omega
   ·split <;> split <;> omega
  ·have fy' : y % 9223372036854775808 = 9218868437227405312 := by omega
   rw [zf fy', GK hy]
   simp only [Ieee.Datum.order]
   congr 1
   rw [rx, ry]
   by_cases h : 9223372036854775808 ≤ y
   ·simp only [h, decide_true, if_true]
    symm
    rw [Int.compare_eq_gt]
    split <;> omega
   ·simp only [h, decide_false, if_false, Bool.false_eq_true]
    symm
    rw [Int.compare_eq_lt]
    split <;> omega
 ·have fx' : x % 9223372036854775808 = 9218868437227405312 := by omega
  rw [zf fx', GK hx]
  by_cases fy : y % 9223372036854775808 < 9218868437227405312
  ·obtain ⟨n, j, e2, j1, u2⟩ := y9 fy
   rw [e2]
   simp only [Ieee.Datum.order]
   congr 1
   rw [rx, ry]
   by_cases h : 9223372036854775808 ≤ x
   ·simp only [h, decide_true, if_true]
    symm
    rw [Int.compare_eq_lt]
    split <;> omega
   ·simp only [h, decide_false, if_false, Bool.false_eq_true]
    symm
    rw [Int.compare_eq_gt]
    split <;> omega
  ·have fy' : y % 9223372036854775808 = 9218868437227405312 := by omega
   rw [zf fy', GK hy]
   simp only [Ieee.Datum.order]
   congr 1
   rw [rx, ry]
   by_cases h : 9223372036854775808 ≤ x <;> by_cases h' : 9223372036854775808 ≤ y <;> simp [h, h', fx', fy'] <;> decide
theorem Ed {x y : Nat} (h : isnan x = true ∨ isnan y = true) : iQ x y = none := by
 unfold iQ Ieee.Format.order
 rcases h with h | h
 ·obtain ⟨s, t, e⟩ := aZ h
  rw [e]; rfl
 ·obtain ⟨s, t, e⟩ := aZ h
  rw [e]; cases Ieee.double.read x <;> rfl
theorem GL (x y : Nat) : iQ (cn x) (cn y) = iQ x y := Ko x y
section
variable {x y : Nat} (hx : x < 18446744073709551616) (hy : y < 18446744073709551616)
include hx hy
theorem acR : vP x y = (!isnan x && !isnan y && decide (rk x = rk y)) := by
 unfold vP
 cases nx : isnan x with
 | true => rw [Ed (.inl nx)]; rfl
 | false =>
  cases ny : isnan y with
  | true => rw [Ed (.inr ny)]; rfl
  | false =>
   rw [Lh hx hy nx ny]
   by_cases h : rk x = rk y
   ·rw [Int.compare_eq_eq.2 h, decide_eq_true h]; rfl
   ·rw [decide_eq_false h]
    by_cases h2 : rk x < rk y
    ·rw [Int.compare_eq_lt.2 h2]; rfl
    ·rw [Int.compare_eq_gt.2 (by omega)]; rfl
end
theorem afI {n : Nat} (h : n < 18446744073709551616) : cn n < 18446744073709551616 := by
 unfold cn; cases isnan n
 ·exact h
 ·show qn < _; decide
end Go.Sx
namespace Go.Sx
theorem wrap_u64 {n : Nat} (h : n < 18446744073709551616) : IntKind.u64.wrap (n : Int) = n := by
 simp only [IntKind.wrap, show IntKind.u64.bits = 64 from rfl, IntKind.signed, Bool.false_and, Bool.false_eq_true, if_false]
 omega
theorem wrap_i64 {n : Int} (h : -9223372036854775808 ≤ n) (h2 : n ≤ 9223372036854775807) : IntKind.i64.wrap n = n := by
 simp only [IntKind.wrap, show IntKind.i64.bits = 64 from rfl, IntKind.signed, Bool.true_and, decide_eq_true_eq]
 split <;> omega
def wd (p : Int) : Nat := if p < 0 then 9223372036854775808 + (-p).toNat else p.toNat
end Go.Sx
namespace Go.Sx
theorem Ox (r : Nat) : Ieee.double.word false r = r := rfl
end Go.Sx
namespace Go.Sx
open M
def aF.bare : aF → Prop
 | .cells _ _ n c => ∀ i, i < n → ∀ v, v ∈ c.row i → v.low 0 = true
 | _ => True
theorem Rep.bare {N N' : Nat} {μ μ' : MM} {v : AV} {c : Value} (h : Rep N μ v c) (hl : v.low 0 = true) : Rep N' μ' v c :=
 (Rep.nO (N := 0) (μ := μ') ⟨fun g hg => by omega, fun g hg => by omega, fun g hg => by omega, fun g hg => by omega⟩ hl h).later (.refl _ _) (Nat.zero_le _)
theorem dw.bare {N N' : Nat} {μ μ' : MM} {hp : Array Obj} {g g' : Nat} {b : aF} (h : dw N μ hp g b) (hb : b.bare) (e1 : μ'.blk g' = μ.blk g) (e2 : μ'.cap g' = μ.cap g) (e3 : μ'.sz g' = μ.sz g) (e4 : μ'.base g' = μ.base g) : dw N' μ' hp g' b := by
 cases b with
 | cells own sz n c =>
  simp only [dw, e1, e2, e3, e4] at h ⊢
  refine ⟨h.1, h.2.1, fun hr => ?_⟩
  obtain ⟨cur, ty, fz, h1, h2, h3, h4⟩ := h.2.2 hr
  refine ⟨cur, ty, fz, h1, h2, h3, fun i hi => ⟨(h4 i hi).1, fun o v hv => ?_⟩⟩
  obtain ⟨k1, cv, k2, k3⟩ := (h4 i hi).2 o v hv
  exact ⟨k1, cv, k2, k3.bare (hb i hi v (List.mem_of_getElem? hv))⟩
 | aW s l => simp only [dw, e1] at h ⊢; exact h
 | RZ s l => simp only [dw, e1] at h ⊢; exact h
 | sit s l pos => simp only [dw, e1, e4] at h ⊢; exact h
theorem aF.fC {μ μ' : MM} {g g' : Nat} (e : μ'.cap g' = μ.cap g) (b : aF) : b.real μ' g' ↔ b.real μ g := by
 cases b <;> simp [aF.real, e]
def MM.via (μ : MM) (ρ : Nat → Nat) : MM := ⟨fun i => μ.blk (ρ i), fun i => μ.cap (ρ i), fun i => μ.sz (ρ i), fun i => μ.base (ρ i)⟩
structure Canon (H : T aF) (Hc : T aF) (k : Nat) (ρ : Nat → Nat) : Prop where
 get : ∀ i b, Hc.get i = some b → i < k ∧ b.bare ∧ H.get (ρ i) = some b
 inj : ∀ i j b b', Hc.get i = some b → Hc.get j = some b' → ρ i = ρ j → i = j
theorem Canon.yw {N : Nat} {μ : MM} {hp : Array Obj} {H Hc : T aF} {k : Nat} {ρ : Nat → Nat} (C : Canon H Hc k ρ) (h : eX N μ hp H) : eX k (μ.via ρ) hp Hc where
 lt := fun i b hb => (C.get i b hb).1
 ok := fun i b hb => by
  obtain ⟨h1, h2, h3⟩ := C.get i b hb
  exact (h.ok _ _ h3).bare h2 rfl rfl rfl rfl
 sep := fun i b j b' hi hj ho hr hr' he => by
  obtain ⟨h1, h2, h3⟩ := C.get i b hi
  obtain ⟨k1, k2, k3⟩ := C.get j b' hj
  exact C.inj i j b b' hi hj (h.sep _ _ _ _ h3 k3 ho ((aF.fC rfl b).1 hr) ((aF.fC rfl b').1 hr') he)
structure acS (H H' : T aF) (Hc Hc' : T aF) (k : Nat) (ρ : Nat → Nat) : Prop where
 /-- what was in the small heap is as it says there, or nothing is known of it -/
 ins : ∀ i b, Hc.get i = some b → H'.get (ρ i) = none ∨ ∃ b', Hc'.get i = some b' ∧ b'.bare ∧ (b'.owned = true → b.owned = true) ∧ (∀ μ m, b'.real μ m → b.real μ m) ∧ H'.get (ρ i) = some b'
 out : ∀ nm, (∀ i b, Hc.get i = some b → nm ≠ ρ i) → H'.get nm = H.get nm
theorem Canon.back {g : G} {μ : MM} {w w' : World} {Hc : T aF} {k : Nat} {ρ : Nat → Nat} {gc gc' : G} {μc' : MM} {g' : G} (C : Canon g.H Hc k ρ) (hg : eX g.nx μ w.heap g.H)
  (e1 : gc.H = Hc) (e2 : gc.nx = k) (hE : Ext gc (μ.via ρ) w gc' μc' w') (hc' : eX gc'.nx μc' w'.heap gc'.H) (D : acS g.H g'.H Hc gc'.H k ρ) (hn : g'.nx = g.nx) :
  eX g'.nx μ w'.heap g'.H ∧ Ext g μ w g' μ w' := by
 subst e1
 have blk : ∀ i, i < k → μc'.blk i = μ.blk (ρ i) := fun i hi => hE.names.blk i (by omega)
 have cap : ∀ i, i < k → μc'.cap i = μ.cap (ρ i) := fun i hi => hE.names.cap i (by omega)
 have szz : ∀ i, i < k → μc'.sz i = μ.sz (ρ i) := fun i hi => hE.names.sz i (by omega)
 have bas : ∀ i, i < k → μc'.base i = μ.base (ρ i) := fun i hi => hE.names.base i (by omega)
 have afJ : ∀ B, May (μ.via ρ) gc.H B → May μ g.H B := fun B ⟨i, b, h1, h2, h3, h4⟩ => by
  obtain ⟨k1, k2, k3⟩ := C.get i b h1
  exact ⟨ρ i, b, k3, h2, (aF.fC rfl b).1 h3, h4⟩
 -- a block of the great heap behind it: an old one that is as it was, or one of the small heap
 have cases' : ∀ nm b', g'.H.get nm = some b' → ((∀ i b, gc.H.get i = some b → nm ≠ ρ i) ∧ g.H.get nm = some b') ∨ ∃ i b, gc.H.get i = some b ∧ nm = ρ i ∧ gc'.H.get i = some b' ∧ b'.bare ∧ (b'.owned = true → b.owned = true) ∧ (∀ μ m, b'.real μ m → b.real μ m) := by
  intro nm b' hb
  by_cases h : ∃ i b, gc.H.get i = some b ∧ nm = ρ i
  ·obtain ⟨i, b, h1, rfl⟩ := h
   rcases D.ins i b h1 with h2 | ⟨b2, h2, h3, h4, h6, h5⟩
   ·rw [h2] at hb; cases hb
   ·rw [h5] at hb; cases hb
    exact .inr ⟨i, b, h1, rfl, h2, h3, h4, h6⟩
  ·have h' : ∀ i b, gc.H.get i = some b → nm ≠ ρ i := fun i b h1 e => h ⟨i, b, h1, e⟩
   rw [D.out nm h'] at hb
   exact .inl ⟨h', hb⟩
 have afK : ∀ i b b', gc.H.get i = some b → gc'.H.get i = some b' → (b'.real μ (ρ i) ↔ b'.real μc' i) := fun i b b' h1 h2 => (aF.fC (cap i (C.get i b h1).1) b').symm
 have back : ∀ i b b', gc.H.get i = some b → gc'.H.get i = some b' → b'.bare → dw g.nx μ w'.heap (ρ i) b' := fun i b b' h1 h2 h3 => by
  have hi := (C.get i b h1).1
  exact (hc'.ok i b' h2).bare h3 (blk i hi).symm (cap i hi).symm (szz i hi).symm (bas i hi).symm
 -- who lies where something owned of the small heap lies
 have may' : ∀ i b', gc'.H.get i = some b' → b'.owned = true → b'.real μc' i → μc'.blk i < w.heap.size → May μ g.H (μc'.blk i) := fun i b' h1 h2 h3 h4 =>
  afJ _ (hE.may _ h4 ⟨i, b', h1, h2, h3, rfl⟩)
 constructor
 ·rw [hn]
  refine ⟨fun nm b' hb => ?_, fun nm b' hb => ?_, fun n1 b1 n2 b2 hb1 hb2 ho hr1 hr2 he => ?_⟩
  ·rcases cases' nm b' hb with ⟨_, h⟩ | ⟨i, b, h1, rfl, _⟩
   ·exact hg.lt _ _ h
   ·exact hg.lt _ _ (C.get i b h1).2.2
  ·rcases cases' nm b' hb with ⟨h', h⟩ | ⟨i, b, h1, rfl, h2, h3, _⟩
   ·have old := hg.ok _ _ h
    refine old.later (.refl _ _) (Nat.le_refl _) (hg.lt _ _ h) fun hr => hE.block _ (old.lt_size hr) ?_
    rintro ⟨i, b, k1, k2, k3, k4⟩
    obtain ⟨m1, m2, m3⟩ := C.get i b k1
    exact h' i b k1 (hg.sep _ _ _ _ m3 h k2 ((aF.fC rfl b).1 k3) hr k4).symm
   ·exact back i b b' h1 h2 h3
  ·have old : ∀ nm b', g'.H.get nm = some b' → ∃ b, g.H.get nm = some b ∧ (b'.owned = true → b.owned = true) ∧ (b'.real μ nm → b.real μ nm) := by
    intro nm b' hb
    rcases cases' nm b' hb with ⟨_, h⟩ | ⟨i, b, h1, rfl, h2, h3, h4, h5⟩
    ·exact ⟨b', h, id, id⟩
    ·exact ⟨b, (C.get i b h1).2.2, h4, h5 _ _⟩
   obtain ⟨c1, k1, k2, k3⟩ := old n1 b1 hb1
   obtain ⟨c2, l1, l2, l3⟩ := old n2 b2 hb2
   exact hg.sep _ _ _ _ k1 l1 (k2 ho) (k3 hr1) (l3 hr2) he
 ·refine ⟨by rw [hn]; exact Nat.le_refl _, .refl _ _, hE.os, hE.tape, hE.output, hE.size, fun B hB hnm => hE.block B hB fun hm => hnm (afJ B hm), fun B hB hm => ?_⟩
  obtain ⟨nm, b', h1, h2, h3, rfl⟩ := hm
  rcases cases' nm b' h1 with ⟨_, h⟩ | ⟨i, b, i1, rfl, i2, i3, i4⟩
  ·exact ⟨nm, b', h, h2, h3, rfl⟩
  ·have hi := (C.get i b i1).1
   have := may' i b' i2 h2 ((afK i b b' i1 i2).1 h3) (by rw [blk i hi]; exact hB)
   rw [blk i hi] at this
   exact this
end Go.Sx
