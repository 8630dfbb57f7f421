/- WHAT A LAW IS HANDED: readings of flat types, cell by cell; slices of them as views. -/
import Derived.Test.YtehhljcjdiokjaaSyR
import Derived.Deep.Slices
import Derived.OpenShut
set_option linter.unusedSimpArgs false
set_option linter.unusedVariables false
noncomputable section
namespace Go.Sx
open M

inductive Sh where
  | int (k : IntKind)
  | str
  | bool
  | f64
def Sh.ok : Sh → Value → Prop
  | .int k, v => ∃ n, v = .int k n ∧ (Lit.int k n).wf = true
  | .str, v => ∃ s : ByteArray, v = .string s ∧ s.size ≤ maxLen
  | .bool, v => ∃ b, v = .bool b
  | .f64, v => ∃ b, v = .float .f64 b ∧ b < 18446744073709551616
def intOf : Value → Int
  | .int _ n => n
  | _ => 0
def strOf : Value → List UInt8
  | .string s => s.data.toList
  | _ => []
def boolOf : Value → Bool
  | .bool b => b
  | _ => false
def fltOf : Value → Nat
  | .float _ b => b
  | _ => 0
def Sh.av : Sh → Value → AV
  | .int k, v => .int true k (intOf v)
  | .str, v => .str true (strOf v)
  | .bool, v => .sbool (boolOf v)
  | .f64, v => .raw true (fltOf v)
theorem Sh.rep {N : Nat} {μ : MM} : ∀ {sh : Sh} {v : Value}, sh.ok v → Rep N μ (sh.av v) v
  | .int k, v, h => by obtain ⟨n, rfl, _⟩ := h; simp only [Sh.av, Rep, intOf]
  | .str, v, h => by obtain ⟨s, rfl, _⟩ := h; simp only [Sh.av, Rep, strOf]
  | .bool, v, h => by obtain ⟨b, rfl⟩ := h; simp only [Sh.av, Rep, boolOf]
  | .f64, v, h => by obtain ⟨b, rfl, hb⟩ := h; simp only [Sh.av, Rep, fltOf]; exact ⟨trivial, hb⟩
theorem Sh.one {sh : Sh} {v : Value} : (sh.av v).one = true := by cases sh <;> rfl
theorem Sh.low {sh : Sh} {v : Value} {N : Nat} : (sh.av v).low N = true := by cases sh <;> rfl
def flatFs (P : Program) (r : TypeId → Option (List Sh)) : Nat → List Field → Option (List Sh)
  | _, [] => some []
  | off, f :: fs =>
    match r f.type, flatFs P r (off + P.cellsOf f.type) fs with
    | some l, some m => bif Nat.beq f.offset off && Nat.beq l.length (P.cellsOf f.type) then some (l ++ m) else none
    | _, _ => none
def manySh (l : List Sh) : Nat → List Sh
  | 0 => []
  | n + 1 => l ++ manySh l n
def flatT (P : Program) : Nat → TypeId → Option (List Sh)
  | 0, _ => none
  | n + 1, t =>
    match P.underlying t with
    | some (.int k) => some [.int k]
    | some .string => some [.str]
    | some .bool => some [.bool]
    | some (.struct fs) => flatFs P (flatT P n) 0 fs.toList
    | some (.array m e) =>
      match flatT P n e with
      | some l => bif Nat.beq l.length (P.cellsOf e) then some (manySh l m) else none
      | none => none
    | _ => none
def Okl (shs : List Sh) (cs : List Value) : Prop := ∀ (i : Nat) (sh : Sh), shs[i]? = some sh → ∃ v, cs[i]? = some v ∧ sh.ok v
section
variable {H : Type} {enc : TypeId × Value → H} {P : Program} {w : World} {base : Nat} {spare : Nat → Bool} {held : Bool}
theorem okl_one {sh : Sh} {v : Value} (h : sh.ok v) : Okl [sh] [v] := fun i s hi => by
  cases i with
  | zero => simp at hi; subst hi; exact ⟨v, rfl, h⟩
  | succ i => simp at hi
theorem okl_fields {r : TypeId → Option (List Sh)} {cs : List Value} (ih : ∀ t l, r t = some l → ∀ (n : Nat) (c : List Value) (x : DataW H × List MemPlace), DataW.trod enc P w base spare held n t c = some x → Okl l c) :
    ∀ (fs : List Field) (off : Nat) (l : List Sh), flatFs P r off fs = some l → (∀ f ∈ fs, ∃ (n : Nat) (x : DataW H × List MemPlace), DataW.trod enc P w base spare held n f.type ((cs.drop f.offset).take (P.cellsOf f.type)) = some x) → ∀ (i : Nat) (sh : Sh), l[i]? = some sh → ∃ v, cs[off + i]? = some v ∧ sh.ok v
  | [], off, l, h, _, i, sh, hi => by simp only [flatFs, Option.some.injEq] at h; subst h; simp at hi
  | f :: fs, off, l, h, hf, i, sh, hi => by
    simp only [flatFs] at h
    cases h1 : r f.type with
    | none => rw [h1] at h; cases h
    | some a =>
      cases h2 : flatFs P r (off + P.cellsOf f.type) fs with
      | none => rw [h1, h2] at h; cases h
      | some m =>
        rw [h1, h2] at h
        simp only at h
        cases hb : (Nat.beq f.offset off && Nat.beq a.length (P.cellsOf f.type)) with
        | false => rw [hb, cond_false] at h; cases h
        | true =>
          rw [hb, cond_true] at h
          cases h
          simp only [Bool.and_eq_true] at hb
          have eo := Nat.eq_of_beq_eq_true hb.1
          have el := Nat.eq_of_beq_eq_true hb.2
          by_cases hlt : i < a.length
          · rw [List.getElem?_append_left hlt] at hi
            obtain ⟨n, x, hx⟩ := hf f List.mem_cons_self
            obtain ⟨v, hv, hok⟩ := ih _ _ h1 n _ x hx i sh hi
            refine ⟨v, ?_, hok⟩
            rw [List.getElem?_take, if_pos (by omega), List.getElem?_drop, eo] at hv
            exact hv
          · rw [List.getElem?_append_right (by omega)] at hi
            obtain ⟨v, hv, hok⟩ := okl_fields ih fs (off + P.cellsOf f.type) m h2 (fun g hg => hf g (List.mem_cons_of_mem _ hg)) _ sh hi
            refine ⟨v, ?_, hok⟩
            rw [← hv]
            congr 1
            omega
theorem manySh_get (l : List Sh) : ∀ (m i : Nat) (sh : Sh), (manySh l m)[i]? = some sh → ∃ j k, j < m ∧ i = j * l.length + k ∧ l[k]? = some sh
  | 0, i, sh, h => by simp [manySh] at h
  | m + 1, i, sh, h => by
    simp only [manySh] at h
    by_cases hlt : i < l.length
    · rw [List.getElem?_append_left hlt] at h
      exact ⟨0, i, by omega, by omega, h⟩
    · rw [List.getElem?_append_right (by omega)] at h
      obtain ⟨j, k, h1, h2, h3⟩ := manySh_get l m _ sh h
      exact ⟨j + 1, k, by omega, by rw [Nat.succ_mul]; omega, h3⟩
theorem trod_flat : ∀ (n : Nat) (t : TypeId) (shs : List Sh), flatT P n t = some shs → ∀ (fuel : Nat) (cs : List Value) (x : DataW H × List MemPlace), DataW.trod enc P w base spare held fuel t cs = some x → Okl shs cs := by
  intro n
  induction n with
  | zero => intro t shs h; cases h
  | succ n ih =>
    intro t shs h fuel cs x hx
    simp only [flatT] at h
    generalize hu : P.underlying t = u at h
    split at h
    · cases h
      obtain ⟨k, rfl, _, hw⟩ := DataW.trod_int hu hx
      exact okl_one ⟨_, rfl, hw⟩
    · cases h
      obtain ⟨s, rfl, _, hs⟩ := DataW.trod_string hu hx
      exact okl_one ⟨_, rfl, hs⟩
    · cases h
      obtain ⟨b, rfl, _⟩ := DataW.trod_bool hu hx
      exact okl_one ⟨_, rfl⟩
    · rename_i fs
      obtain ⟨xs, m, _, _, hl, hxl, hf⟩ := DataW.trod_struct hu hx
      intro i sh hi
      have := okl_fields (cs := cs) (fun t l ht k c y hy => ih t l ht k c y hy) fs.toList 0 shs h (fun f hfm => by
        obtain ⟨j, hj, rfl⟩ := List.getElem_of_mem hfm
        have hj' : j < fs.size := by simpa using hj
        have e := hf j fs[j] (by simp [hj'])
        refine ⟨m, xs[j]'(by omega), ?_⟩
        rw [List.getElem?_eq_getElem (by omega)] at e
        simpa using e) i sh hi
      simpa using this
    · rename_i m e
      cases h1 : flatT P n e with
      | none => rw [h1] at h; cases h
      | some l =>
        rw [h1] at h
        simp only at h
        cases hb : Nat.beq l.length (P.cellsOf e) with
        | false => rw [hb, cond_false] at h; cases h
        | true =>
          rw [hb, cond_true] at h
          cases h
          have el := Nat.eq_of_beq_eq_true hb
          obtain ⟨xs, k, _, _, hl, hxl, hf⟩ := DataW.trod_array hu hx
          intro i sh hi
          obtain ⟨j, q, hj, rfl, hq⟩ := manySh_get l m i sh hi
          have e1 := hf j hj
          rw [List.getElem?_eq_getElem (by omega)] at e1
          obtain ⟨v, hv, hok⟩ := ih e l h1 _ _ _ e1 q sh hq
          refine ⟨v, ?_, hok⟩
          have hql := (List.getElem?_eq_some_iff.1 hq).1
          rw [List.getElem?_take, if_pos (by omega), List.getElem?_drop, ← el] at hv
          exact hv
    · cases h
end
/-- the cells of a row, as they are read -/
def rowAv : List Sh → Nat → (Nat → Value) → List AV
  | [], _, _ => []
  | sh :: l, o, c => sh.av (c o) :: rowAv l (o + 1) c
theorem rowAv_length (l : List Sh) (o : Nat) (c : Nat → Value) : (rowAv l o c).length = l.length := by
  induction l generalizing o with
  | nil => rfl
  | cons sh l ih => simp [rowAv, ih]
theorem rowAv_get (l : List Sh) (o : Nat) (c : Nat → Value) (i : Nat) : (rowAv l o c)[i]? = (l[i]?).map fun sh => sh.av (c (o + i)) := by
  induction l generalizing o i with
  | nil => simp [rowAv]
  | cons sh l ih =>
    cases i with
    | zero => simp [rowAv]
    | succ i => simp only [rowAv, List.getElem?_cons_succ, ih]; rw [show o + 1 + i = o + (i + 1) by omega]
theorem reps_row {N : Nat} {μ : MM} {l : List Sh} {cs : List Value} {c : Nat → Value} (hl : cs.length = l.length) (h : ∀ (i : Nat) (sh : Sh), l[i]? = some sh → cs[i]? = some (c i) ∧ sh.ok (c i)) : Reps N μ (rowAv l 0 c) cs :=
  .of_get (by rw [rowAv_length]; exact hl) fun i v hv => by
    rw [rowAv_get] at hv
    cases hs : l[i]? with
    | none => rw [hs] at hv; cases hv
    | some sh =>
      rw [hs] at hv
      simp only [Option.map_some, Option.some.injEq, Nat.zero_add] at hv
      subst hv
      obtain ⟨h1, h2⟩ := h i sh hs
      exact ⟨_, h1, Sh.rep h2⟩
section
open Go.WideShapes
variable {H : Type} {enc : TypeId × Value → H} {P : Program} {W : World} {held : Bool}
/-- a struct that is handed in by its value -/
theorem open_agg {t : TypeId} {fs : Array Field} {n : Nat} {shs : List Sh} {r : Reach} {b0 : Nat} {v : Value} {d : DataW H} {ps : List MemPlace} {sp : Nat → Bool} (ht : P.underlying t = some (.struct fs)) (hflat : flatT P n t = some shs) (hlen : shs.length = P.cellsOf t)
    (hval : Value.okWide P W r b0 t v) (hd : DataW.Trod enc P W 0 sp held t v d ps) :
    ∃ c : Nat → Value, (∀ N μ, Rep N μ (.agg (rowAv shs 0 c)) v) ∧ ∀ (i : Nat) (sh : Sh), shs[i]? = some sh → sh.ok (c i) := by
  obtain ⟨cs, rfl, hsz⟩ := okWide_struct ht hval
  obtain ⟨fuel, hx⟩ := hd
  have hok := trod_flat n t shs hflat fuel _ _ hx
  refine ⟨fun i => cs.getD i undef, fun N μ => ?_, fun i sh hi => ?_⟩
  · simp only [Rep]
    refine ⟨cs, rfl, reps_row (by simpa [hlen] using hsz) fun i sh hi => ?_⟩
    obtain ⟨v, hv, ho⟩ := hok i sh hi
    have hv' : cs[i]? = some v := by simpa [Value.cells] using hv
    rw [Array.getD_eq_getD_getElem?, hv']
    exact ⟨by simpa using hv', ho⟩
  · obtain ⟨v, hv, ho⟩ := hok i sh hi
    have hv' : cs[i]? = some v := by simpa [Value.cells] using hv
    simp only [Array.getD_eq_getD_getElem?, hv']
    exact ho
theorem heap_of_cell {w : World} {b o : Nat} {sp : Option Nat} {v : Value} (h : w.cell? ⟨b, o, sp⟩ = some v) : sp = none ∧ ∃ cur ty fz, w.heap[b]? = some (.cells cur ty fz) ∧ cur[o]? = some v := by
  unfold World.cell? at h
  split at h
  · rename_i c e fz hb
    split at h
    · cases h
    · rename_i hs
      refine ⟨by cases sp <;> simp_all, c, e, fz, hb, h⟩
  · cases h
/-- a slice of flat elements that is handed in -/
theorem open_slc {t e : TypeId} {n : Nat} {shs : List Sh} {fuel : Nat} {v : Value} {x : DataW H × List MemPlace} {sp : Nat → Bool} (ht : P.underlying t = some (.slice e)) (hflat : flatT P n e = some shs) (hlen : shs.length = P.cellsOf e) (hpos : 0 < shs.length)
    (hd : DataW.trod enc P W 0 sp held fuel t [v] = some x) :
    ∃ (len blk bs : Nat) (c : Nat → Nat → Value),
      (∀ (μ : MM) (i N : Nat), i < N → μ.blk i = blk → μ.base i = bs → μ.sz i = shs.length → Rep N μ (slcV i len) v) ∧
      (∀ (μ : MM) (i N : Nat), μ.blk i = blk → μ.base i = bs → μ.sz i = shs.length → BkOk N μ W.heap i (.cells false shs.length len (.fn fun j => rowAv shs 0 (c j)))) ∧
      (∀ j, j < len → ∀ (i : Nat) (sh : Sh), shs[i]? = some sh → sh.ok (c j i)) ∧
      ((len = 0 ∧ x.1 = .nil) ∨ ∃ es sps, x.1 = .slice es sps ∧ es.length = len) := by
  rcases Go.Deep.open_slice ht hd with ⟨h0, hx⟩ | ⟨a, len, cap, m, k, D, Pl, h0, _, hl, hm, hmm, hx, hel⟩
  · cases h0
    refine ⟨0, 0, 0, fun _ _ => undef, fun μ i N hi _ _ _ => ?_, fun μ i N _ _ hs => ⟨hs, hpos, fun h => ?_⟩, fun j hj => by omega, .inl ⟨rfl, by rw [hx]⟩⟩
    · simp only [slcV, Rep, RepS]
      exact ⟨hi, none, 0, rfl, Nat.le_refl _, fun h => absurd h (by omega), fun h => (by cases h), fun h => (by cases h)⟩
    · rcases h with h | ⟨h, _⟩
      · exact absurd h (by omega)
      · cases h
  · cases h0
    have hmlen : len ≤ m := by rw [hmm]; split <;> omega
    have cell : ∀ j, j < len → ∀ (i : Nat) (sh : Sh), shs[i]? = some sh → ∃ u, W.cell? (a.add (j * shs.length + i)) = some u ∧ sh.ok u := fun j hj i sh hi => by
      obtain ⟨cs', h1, h2⟩ := hel j (by omega)
      obtain ⟨_, hcl, hc⟩ := World.cells?_some h1
      obtain ⟨u, hu, ho⟩ := trod_flat n e shs hflat _ _ _ h2 i sh hi
      have hil := (List.getElem?_eq_some_iff.1 hi).1
      refine ⟨u, ?_, ho⟩
      rw [← hu, ← hc i (by omega), ← hlen, Go.Deep.add_add]
    rcases Nat.eq_zero_or_pos len with rfl | h0
    · refine ⟨0, 0, 0, fun _ _ => undef, fun μ i N hi _ _ _ => ?_, fun μ i N _ _ hs => ⟨hs, hpos, fun h => ?_⟩, fun j hj => by omega, .inr ⟨_, _, by rw [hx], by simp⟩⟩
      · simp only [slcV, Rep, RepS]
        exact ⟨hi, _, _, rfl, hl, fun h => absurd h (by omega), fun h => (by cases h), fun h => (by cases h)⟩
      · rcases h with h | ⟨h, _⟩
        · exact absurd h (by omega)
        · cases h
    obtain ⟨ab, ao, asp⟩ := a
    obtain rfl : asp = none := by
      obtain ⟨u, hu, _⟩ := cell 0 h0 0 shs[0] (List.getElem?_eq_getElem hpos)
      rw [Nat.zero_mul, Nat.zero_add, Addr.add_zero'] at hu
      exact (heap_of_cell hu).1
    have cell' : ∀ j, j < len → ∀ (i : Nat) (sh : Sh), shs[i]? = some sh → ∃ u, W.cell? ⟨ab, ao + (j * shs.length + i), none⟩ = some u ∧ sh.ok u := fun j hj i sh hi => by
      obtain ⟨u, hu, ho⟩ := cell j hj i sh hi
      rw [Addr.add_lit] at hu
      exact ⟨u, hu, ho⟩
    refine ⟨len, ab, ao, fun j i => (W.cell? ⟨ab, ao + (j * shs.length + i), none⟩).getD undef, fun μ i N hi e1 e2 e3 => ?_, fun μ i N e1 e2 e3 => ⟨e3, hpos, fun h => ?_⟩, fun j hj i sh hi => ?_, .inr ⟨_, _, by rw [hx], by simp⟩⟩
    · simp only [slcV, Rep, RepS]
      exact ⟨hi, _, _, rfl, hl, fun h => by simp [MM.addr, e1, e2], fun h => (by cases h), fun h => (by cases h)⟩
    · obtain ⟨u, hu, _⟩ := cell' 0 h0 0 shs[0] (List.getElem?_eq_getElem hpos)
      obtain ⟨_, cur, ty, fz, hB, _⟩ := heap_of_cell hu
      have at' : ∀ j, j < len → ∀ (i : Nat) (sh : Sh), shs[i]? = some sh → ∃ u, cur[ao + (j * shs.length + i)]? = some u ∧ sh.ok u ∧ W.cell? ⟨ab, ao + (j * shs.length + i), none⟩ = some u := fun j hj i sh hi => by
        obtain ⟨u, hu, ho⟩ := cell' j hj i sh hi
        obtain ⟨_, cur', ty', fz', hB', hc'⟩ := heap_of_cell hu
        rw [hB] at hB'
        cases hB'
        exact ⟨u, hc', ho, hu⟩
      refine ⟨cur, ty, fz, by rw [e1]; exact hB, ?_, fun h => (by cases h), fun j hj => ⟨rowAv_length _ _ _, fun o v hv => ?_⟩⟩
      · obtain ⟨u, hu, _⟩ := at' (len - 1) (by omega) (shs.length - 1) shs[shs.length - 1] (List.getElem?_eq_getElem (by omega))
        have := (Array.getElem?_eq_some_iff.1 hu).1
        have e4 : (len - 1) * shs.length + shs.length = len * shs.length := by rw [← Nat.succ_mul]; congr 1; omega
        rw [e2]; omega
      · simp only [Cont.row] at hv
        rw [rowAv_get] at hv
        cases hs : shs[o]? with
        | none => rw [hs] at hv; cases hv
        | some sh =>
          rw [hs] at hv
          simp only [Option.map_some, Option.some.injEq, Nat.zero_add] at hv
          subst hv
          obtain ⟨u, h1, h2, h3⟩ := at' j hj o sh hs
          refine ⟨Sh.one, u, by rw [e2, Nat.add_assoc]; exact h1, ?_⟩
          rw [h3, Option.getD_some]
          exact Sh.rep h2
    · obtain ⟨u, hu, ho⟩ := cell' j hj i sh hi
      simp only [hu, Option.getD_some]
      exact ho
end
end Go.Sx
