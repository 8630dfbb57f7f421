/- THE ENGINE, part 3: an interpreter of the program's code over abstract values, and its proof. -/
import Derived.Test.YtdagokpedjfepaaSm2
import Derived.Deep.Slices
import Derived.OpenShut
noncomputable section
set_option linter.unusedSimpArgs false
set_option linter.unusedVariables false
namespace Go.Sx
open M
theorem ct {α : Sort _} {b : Bool} {x y : α} (h : b = true) : cond b x y = x := by rw [h]; rfl
theorem cf {α : Sort _} {b : Bool} {x y : α} (h : b = false) : cond b x y = y := by rw [h]; rfl
theorem cond_elim {b : Bool} {A B C : Prop} (h : cond b A B) (ha : b = true → A → C) (hb : b = false → B → C) : C := by
  cases b
  · exact hb rfl h
  · exact ha rfl h
def nav : List Nat → Code → Code
  | [], c => c
  | i :: l, .seq a b => bif Nat.beq i 0 then nav l a else nav l b
  | i :: l, .cond _ a b => bif Nat.beq i 0 then nav l a else nav l b
  | _ :: l, .block _ c => nav l c
  | _ :: l, .loop c => nav l c
  | _, c => c
def bodyOf (f : Func) : Code := f.body.getD .skip
def pieceN (K' : Nat) (e : Ex) (fl : List (Nat × AV)) (hl : List (Nat × ABk)) : Res (Ex × Fr) → Prop
  | .done r g => r.1 = e ∧ Wants r.2 fl ∧ WantsH g.H hl ∧ Nat.ble g.nx K' = true ∧ g.cs
  | _ => False
structure PieceN (K' : Nat) (e : Ex) (fl : List (Nat × AV)) (hl : List (Nat × ABk)) (r : Res (Ex × Fr)) : Prop where
  of : pieceN K' e fl hl r
section
variable {P : Program} {n B K K' : Nat}
theorem GoesB.runN {call : Calls'} (hcall : CallOk P call) {region : List Oper → Fr → M Fr} {loops : Loops} {rounds : Nat} (hreg : RegionOk P region n) {c : Code} (hl : LoopsIn P loops n c) {fr : Fr} {H : T ABk} {path : List Bool}
    {e : Ex} {fl : List (Nat × AV)} {bl : List (Nat × ABk)} (h : PieceN K' e fl bl (codeA P call region loops n rounds c fr ⟨H, K, [], path, True⟩)) (hB : B ≤ K) :
    GoesB P c n B K K' fr H fun e' fr' H' => e' = e ∧ fr' = frL fl ∧ H' = hpL bl := by
  have h := h.of
  generalize hr : codeA P call region loops n rounds c fr ⟨H, K, [], path, True⟩ = res at h
  unfold pieceN at h
  split at h
  · rename_i r g
    obtain ⟨rfl, hw, hh, hnx, hcs⟩ := h
    have hnx := Nat.le_of_ble_eq_true hnx
    obtain ⟨_, hs⟩ := codeA_sound hcall hreg c hl _ _ _ _ hr
    intro μ w a hg hf Q hQ
    refine hs hcs μ w a hg hf Q fun a' w' hk => hQ r.1 _ _ a' w' ⟨rfl, rfl, rfl⟩ ⟨?_⟩
    obtain ⟨μ', k1, k2, k3, k4⟩ := hk
    have sub : ∀ i b, (hpL bl).get i = some b → g.H.get i = some b := fun i b hb => hh.get (hpL_get hb)
    refine ⟨μ', k1.up hnx sub, ?_, ⟨k3.size, fun t v ht => (k3.val t v (hw.get (frL_get ht))).later (.refl _ _) hnx⟩, k4⟩
    exact ⟨k2.names.mono hB, k2.os, k2.tape, k2.output, k2.size, k2.block, fun b hb hm => k2.may b hb (by
        obtain ⟨i, x, m1, m2, m3, m4⟩ := hm
        exact ⟨i, x, sub i x m1, m2, m3, m4⟩)⟩
  · exact h.elim
theorem AV.ge.refl (v : AV) : AV.ge v v := fun _ _ _ h => h
theorem AV.ge.int (s s' : Bool) (k : IntKind) (n : Int) : AV.ge (.int s k n) (.int s' k n) := fun _ _ _ h => by simpa only [Rep] using h
theorem AV.ge.int' (s s' : Bool) (k : IntKind) {n n' : Int} (e : n = n') : AV.ge (.int s k n) (.int s' k n') := e ▸ AV.ge.int s s' k n
theorem AV.ge.bool (b : Bool) : AV.ge (.bool b) (.sbool b) := fun _ _ _ h => by simpa only [Rep] using h
theorem AV.ge.bool' {b b' : Bool} (e : b = b') : AV.ge (.bool b) (.sbool b') := e ▸ AV.ge.bool b
theorem AV.ge.sbool' {b b' : Bool} (e : b = b') : AV.ge (.sbool b) (.sbool b') := e ▸ AV.ge.refl _
theorem AV.ge.cpx' (s s' : Bool) {x x' y y' : Nat} (e : x = x') (e' : y = y') : AV.ge (.cpx s x y) (.cpx s' x' y') := fun _ _ _ h => by subst e e'; simpa only [Rep] using h
theorem AV.ge.str' (s s' : Bool) {l l' : List UInt8} (e : l = l') : AV.ge (.str s l) (.str s' l') := fun _ _ _ h => by subst e; simpa only [Rep] using h
theorem AV.ge.nils (a : AA) : AV.ge (.slc false false a 0) (.slc true false a 0) := fun _ _ _ h => by
  simp only [Rep, RepS] at h ⊢
  obtain ⟨h1, A, C, h2, h3, h4, h5, h6⟩ := h
  exact ⟨h1, A, C, h2, h3, h4, fun h => (by cases h), h6⟩
theorem AV.ge.slc (s own : Bool) (a : AA) {len len' : Nat} (e : len = len') : AV.ge (.slc s own a len) (.slc true own a len') := fun _ _ _ h => by
  subst e
  simp only [Rep, RepS] at h ⊢
  obtain ⟨h1, A, C, h2, h3, h4, h5, h6⟩ := h
  exact ⟨h1, A, C, h2, h3, h4, fun h => (by cases h), h6⟩
def Ge (fr : Fr) : List (Nat × AV) → Prop
  | [] => True
  | p :: l => (∃ u, fr.get p.1 = some u ∧ AV.ge u p.2) ∧ Ge fr l
theorem Ge.get {fr : Fr} : ∀ {l : List (Nat × AV)}, Ge fr l → ∀ p ∈ l, ∃ u, fr.get p.1 = some u ∧ AV.ge u p.2
  | q :: l, h, p, hp => by
    rcases List.mem_cons.1 hp with rfl | hp
    · exact h.1
    · exact Ge.get h.2 p hp
def GeH (H : T ABk) : List (Nat × ABk) → Prop
  | [] => True
  | p :: l => (∃ b, H.get p.1 = some b ∧ SameC b p.2) ∧ GeH H l
theorem GeH.get {H : T ABk} : ∀ {l : List (Nat × ABk)}, GeH H l → ∀ p ∈ l, ∃ b, H.get p.1 = some b ∧ SameC b p.2
  | q :: l, h, p, hp => by
    rcases List.mem_cons.1 hp with rfl | hp
    · exact h.1
    · exact GeH.get h.2 p hp
theorem GoesB.weakL {c : Code} {fr : Fr} {H : T ABk} {fl : List (Nat × AV)} {bl : List (Nat × ABk)} {Post : Po} (hf : Ge fr fl) (hH : GeH H bl) (h : GoesB P c n B K K' (frL fl) (hpL bl) Post) : GoesB P c n B K K' fr H Post :=
  h.weakR (fun t v ht => hf.get _ (frL_get ht)) fun i b hb => hH.get _ (hpL_get hb)
theorem AtB.weakL {H : T ABk} {μ : MM} {w w' : World} {H' : T ABk} {fr' : Fr} {a a' : Act} {fl : List (Nat × AV)} {bl : List (Nat × ABk)} (hf : Ge fr' fl) (hH : GeH H' bl) (h : AtB n B K H μ w H' fr' a a' w') : AtB n B K H μ w (hpL bl) (frL fl) a a' w' := by
  obtain ⟨μ', k1, k2, k3, k4⟩ := h.of
  have G := fun i b (hb : (hpL bl).get i = some b) => hH.get _ (hpL_get hb)
  refine ⟨μ', ⟨fun i b hb => ?_, fun i b hb => ?_, fun i b j b' hi hj ho hr hr' he => ?_⟩, ⟨k2.names, k2.os, k2.tape, k2.output, k2.size, k2.block, fun b hb hm => k2.may b hb ?_⟩, ⟨k3.size, fun t v ht => ?_⟩, k4⟩
  · obtain ⟨b0, h1, h2⟩ := G i b hb; exact k1.lt i b0 h1
  · obtain ⟨b0, h1, h2⟩ := G i b hb; exact h2.ok (k1.ok i b0 h1)
  · obtain ⟨b0, h1, h2⟩ := G i b hi
    obtain ⟨b1, l1, l2⟩ := G j b' hj
    exact k1.sep i b0 j b1 h1 l1 (by rw [h2.owned]; exact ho) ((h2.real _ _).2 hr) ((l2.real _ _).2 hr') he
  · obtain ⟨i, x, m1, m2, m3, m4⟩ := hm
    obtain ⟨b0, h1, h2⟩ := G i x m1
    exact ⟨i, b0, h1, by rw [h2.owned]; exact m2, (h2.real _ _).2 m3, m4⟩
  · obtain ⟨u, h1, h2⟩ := hf.get _ (frL_get ht)
    exact h2 _ _ _ (k3.val t u h1)
theorem GoesB.post {c : Code} {fr : Fr} {H : T ABk} {Post Post' : Po} (h : GoesB P c n B K K' fr H Post) (k : ∀ e fr' H', Post e fr' H' → ∃ fl bl, Ge fr' fl ∧ GeH H' bl ∧ Post' e (frL fl) (hpL bl)) : GoesB P c n B K K' fr H Post' :=
  fun μ w a hg hf Q hQ => h μ w a hg hf Q fun e fr' H' a' w' hp ha => by
    obtain ⟨fl, bl, h1, h2, h3⟩ := k _ _ _ hp
    exact hQ e _ _ a' w' h3 (ha.weakL h1 h2)
def RenF (K' : Nat) (σ : Nat → Nat) (fr : Fr) : List (Nat × AV) → Prop
  | [] => True
  | p :: l => (∃ u, fr.get p.1 = some u ∧ AV.ge u (p.2.ren σ) ∧ p.2.low K' = true) ∧ RenF K' σ fr l
def RenH (K' : Nat) (σ : Nat → Nat) (H : T ABk) : List (Nat × ABk) → Prop
  | [] => True
  | p :: l => (∃ b, H.get (σ p.1) = some b ∧ SameC b p.2 ∧ p.2.bare ∧ p.1 < K') ∧ RenH K' σ H l
theorem RenF.get {σ : Nat → Nat} {fr : Fr} : ∀ {l : List (Nat × AV)}, RenF K' σ fr l → ∀ p ∈ l, ∃ u, fr.get p.1 = some u ∧ AV.ge u (p.2.ren σ) ∧ p.2.low K' = true
  | q :: l, h, p, hp => by
    rcases List.mem_cons.1 hp with rfl | hp
    · exact h.1
    · exact RenF.get h.2 p hp
theorem RenH.get {σ : Nat → Nat} {H : T ABk} : ∀ {l : List (Nat × ABk)}, RenH K' σ H l → ∀ p ∈ l, ∃ b, H.get (σ p.1) = some b ∧ SameC b p.2 ∧ p.2.bare ∧ p.1 < K'
  | q :: l, h, p, hp => by
    rcases List.mem_cons.1 hp with rfl | hp
    · exact h.1
    · exact RenH.get h.2 p hp
end
end Go.Sx
set_option linter.unusedSimpArgs false
set_option linter.unusedVariables false
namespace Go.Sx
open M
inductive Sh where
  | int (k : IntKind)
  | str
  | bool
  | f64
def Sh.ok : Sh → Value → Prop
  | .int k, v => ∃ n, v = .int k n ∧ (Lit.int k n).wf = true
  | .str, v => ∃ s : ByteArray, v = .string s ∧ s.size ≤ maxLen
  | .bool, v => ∃ b, v = .bool b
  | .f64, v => ∃ b, v = .float .f64 b ∧ b < 18446744073709551616
def intOf : Value → Int
  | .int _ n => n
  | _ => 0
def strOf : Value → List UInt8
  | .string s => s.data.toList
  | _ => []
def boolOf : Value → Bool
  | .bool b => b
  | _ => false
def fltOf : Value → Nat
  | .float _ b => b
  | _ => 0
def Sh.av : Sh → Value → AV
  | .int k, v => .int true k (intOf v)
  | .str, v => .str true (strOf v)
  | .bool, v => .sbool (boolOf v)
  | .f64, v => .raw true (fltOf v)
theorem Sh.rep {N : Nat} {μ : MM} : ∀ {sh : Sh} {v : Value}, sh.ok v → Rep N μ (sh.av v) v
  | .int k, v, h => by obtain ⟨n, rfl, _⟩ := h; simp only [Sh.av, Rep, intOf]
  | .str, v, h => by obtain ⟨s, rfl, _⟩ := h; simp only [Sh.av, Rep, strOf]
  | .bool, v, h => by obtain ⟨b, rfl⟩ := h; simp only [Sh.av, Rep, boolOf]
  | .f64, v, h => by obtain ⟨b, rfl, hb⟩ := h; simp only [Sh.av, Rep, fltOf]; exact ⟨trivial, hb⟩
theorem Sh.one {sh : Sh} {v : Value} : (sh.av v).one = true := by cases sh <;> rfl
theorem Sh.low {sh : Sh} {v : Value} {N : Nat} : (sh.av v).low N = true := by cases sh <;> rfl
def flatFs (P : Program) (r : TypeId → Option (List Sh)) : Nat → List Field → Option (List Sh)
  | _, [] => some []
  | off, f :: fs =>
    match r f.type, flatFs P r (off + P.cellsOf f.type) fs with
    | some l, some m => bif Nat.beq f.offset off && Nat.beq l.length (P.cellsOf f.type) then some (l ++ m) else none
    | _, _ => none
def manySh (l : List Sh) : Nat → List Sh
  | 0 => []
  | n + 1 => l ++ manySh l n
def flatT (P : Program) : Nat → TypeId → Option (List Sh)
  | 0, _ => none
  | n + 1, t =>
    match P.underlying t with
    | some (.int k) => some [.int k]
    | some .string => some [.str]
    | some .bool => some [.bool]
    | some (.struct fs) => flatFs P (flatT P n) 0 fs.toList
    | some (.array m e) =>
      match flatT P n e with
      | some l => bif Nat.beq l.length (P.cellsOf e) then some (manySh l m) else none
      | none => none
    | _ => none
def Okl (shs : List Sh) (cs : List Value) : Prop := ∀ (i : Nat) (sh : Sh), shs[i]? = some sh → ∃ v, cs[i]? = some v ∧ sh.ok v
section
variable {H : Type} {enc : TypeId × Value → H} {P : Program} {w : World} {base : Nat} {spare : Nat → Bool} {held : Bool}
theorem okl_one {sh : Sh} {v : Value} (h : sh.ok v) : Okl [sh] [v] := fun i s hi => by
  cases i with
  | zero => simp at hi; subst hi; exact ⟨v, rfl, h⟩
  | succ i => simp at hi
theorem okl_fields {r : TypeId → Option (List Sh)} {cs : List Value} (ih : ∀ t l, r t = some l → ∀ (n : Nat) (c : List Value) (x : DataW H × List MemPlace), DataW.trod enc P w base spare held n t c = some x → Okl l c) :
    ∀ (fs : List Field) (off : Nat) (l : List Sh), flatFs P r off fs = some l → (∀ f ∈ fs, ∃ (n : Nat) (x : DataW H × List MemPlace), DataW.trod enc P w base spare held n f.type ((cs.drop f.offset).take (P.cellsOf f.type)) = some x) → ∀ (i : Nat) (sh : Sh), l[i]? = some sh → ∃ v, cs[off + i]? = some v ∧ sh.ok v
  | [], off, l, h, _, i, sh, hi => by simp only [flatFs, Option.some.injEq] at h; subst h; simp at hi
  | f :: fs, off, l, h, hf, i, sh, hi => by
    simp only [flatFs] at h
    cases h1 : r f.type with
    | none => rw [h1] at h; cases h
    | some a =>
      cases h2 : flatFs P r (off + P.cellsOf f.type) fs with
      | none => rw [h1, h2] at h; cases h
      | some m =>
        rw [h1, h2] at h
        simp only at h
        cases hb : (Nat.beq f.offset off && Nat.beq a.length (P.cellsOf f.type)) with
        | false => rw [hb, cond_false] at h; cases h
        | true =>
          rw [hb, cond_true] at h
          cases h
          simp only [Bool.and_eq_true] at hb
          have eo := Nat.eq_of_beq_eq_true hb.1
          have el := Nat.eq_of_beq_eq_true hb.2
          by_cases hlt : i < a.length
          · rw [List.getElem?_append_left hlt] at hi
            obtain ⟨n, x, hx⟩ := hf f List.mem_cons_self
            obtain ⟨v, hv, hok⟩ := ih _ _ h1 n _ x hx i sh hi
            refine ⟨v, ?_, hok⟩
            rw [List.getElem?_take, if_pos (by omega), List.getElem?_drop, eo] at hv
            exact hv
          · rw [List.getElem?_append_right (by omega)] at hi
            obtain ⟨v, hv, hok⟩ := okl_fields ih fs (off + P.cellsOf f.type) m h2 (fun g hg => hf g (List.mem_cons_of_mem _ hg)) _ sh hi
            refine ⟨v, ?_, hok⟩
            rw [← hv]
            congr 1
            omega
theorem manySh_get (l : List Sh) : ∀ (m i : Nat) (sh : Sh), (manySh l m)[i]? = some sh → ∃ j k, j < m ∧ i = j * l.length + k ∧ l[k]? = some sh
  | 0, i, sh, h => by simp [manySh] at h
  | m + 1, i, sh, h => by
    simp only [manySh] at h
    by_cases hlt : i < l.length
    · rw [List.getElem?_append_left hlt] at h
      exact ⟨0, i, by omega, by omega, h⟩
    · rw [List.getElem?_append_right (by omega)] at h
      obtain ⟨j, k, h1, h2, h3⟩ := manySh_get l m _ sh h
      exact ⟨j + 1, k, by omega, by rw [Nat.succ_mul]; omega, h3⟩
theorem trod_flat : ∀ (n : Nat) (t : TypeId) (shs : List Sh), flatT P n t = some shs → ∀ (fuel : Nat) (cs : List Value) (x : DataW H × List MemPlace), DataW.trod enc P w base spare held fuel t cs = some x → Okl shs cs := by
  intro n
  induction n with
  | zero => intro t shs h; cases h
  | succ n ih =>
    intro t shs h fuel cs x hx
    simp only [flatT] at h
    generalize hu : P.underlying t = u at h
    split at h
    · cases h
      obtain ⟨k, rfl, _, hw⟩ := DataW.trod_int hu hx
      exact okl_one ⟨_, rfl, hw⟩
    · cases h
      obtain ⟨s, rfl, _, hs⟩ := DataW.trod_string hu hx
      exact okl_one ⟨_, rfl, hs⟩
    · cases h
      obtain ⟨b, rfl, _⟩ := DataW.trod_bool hu hx
      exact okl_one ⟨_, rfl⟩
    · rename_i fs
      obtain ⟨xs, m, _, _, hl, hxl, hf⟩ := DataW.trod_struct hu hx
      intro i sh hi
      have := okl_fields (cs := cs) (fun t l ht k c y hy => ih t l ht k c y hy) fs.toList 0 shs h (fun f hfm => by
        obtain ⟨j, hj, rfl⟩ := List.getElem_of_mem hfm
        have hj' : j < fs.size := by simpa using hj
        have e := hf j fs[j] (by simp [hj'])
        refine ⟨m, xs[j]'(by omega), ?_⟩
        rw [List.getElem?_eq_getElem (by omega)] at e
        simpa using e) i sh hi
      simpa using this
    · rename_i m e
      cases h1 : flatT P n e with
      | none => rw [h1] at h; cases h
      | some l =>
        rw [h1] at h
        simp only at h
        cases hb : Nat.beq l.length (P.cellsOf e) with
        | false => rw [hb, cond_false] at h; cases h
        | true =>
          rw [hb, cond_true] at h
          cases h
          have el := Nat.eq_of_beq_eq_true hb
          obtain ⟨xs, k, _, _, hl, hxl, hf⟩ := DataW.trod_array hu hx
          intro i sh hi
          obtain ⟨j, q, hj, rfl, hq⟩ := manySh_get l m i sh hi
          have e1 := hf j hj
          rw [List.getElem?_eq_getElem (by omega)] at e1
          obtain ⟨v, hv, hok⟩ := ih e l h1 _ _ _ e1 q sh hq
          refine ⟨v, ?_, hok⟩
          have hql := (List.getElem?_eq_some_iff.1 hq).1
          rw [List.getElem?_take, if_pos (by omega), List.getElem?_drop, ← el] at hv
          exact hv
    · cases h
end
def rowAv : List Sh → Nat → (Nat → Value) → List AV
  | [], _, _ => []
  | sh :: l, o, c => sh.av (c o) :: rowAv l (o + 1) c
theorem rowAv_length (l : List Sh) (o : Nat) (c : Nat → Value) : (rowAv l o c).length = l.length := by
  induction l generalizing o with
  | nil => rfl
  | cons sh l ih => simp [rowAv, ih]
theorem rowAv_get (l : List Sh) (o : Nat) (c : Nat → Value) (i : Nat) : (rowAv l o c)[i]? = (l[i]?).map fun sh => sh.av (c (o + i)) := by
  induction l generalizing o i with
  | nil => simp [rowAv]
  | cons sh l ih =>
    cases i with
    | zero => simp [rowAv]
    | succ i => simp only [rowAv, List.getElem?_cons_succ, ih]; rw [show o + 1 + i = o + (i + 1) by omega]
section
open Go.WideShapes
variable {H : Type} {enc : TypeId × Value → H} {P : Program} {W : World} {held : Bool}
theorem heap_of_cell {w : World} {b o : Nat} {sp : Option Nat} {v : Value} (h : w.cell? ⟨b, o, sp⟩ = some v) : sp = none ∧ ∃ cur ty fz, w.heap[b]? = some (.cells cur ty fz) ∧ cur[o]? = some v := by
  unfold World.cell? at h
  split at h
  · rename_i c e fz hb
    split at h
    · cases h
    · rename_i hs
      refine ⟨by cases sp <;> simp_all, c, e, fz, hb, h⟩
  · cases h
theorem open_slc {t e : TypeId} {n : Nat} {shs : List Sh} {fuel : Nat} {v : Value} {x : DataW H × List MemPlace} {sp : Nat → Bool} (ht : P.underlying t = some (.slice e)) (hflat : flatT P n e = some shs) (hlen : shs.length = P.cellsOf e) (hpos : 0 < shs.length)
    (hd : DataW.trod enc P W 0 sp held fuel t [v] = some x) :
    ∃ (len blk bs : Nat) (c : Nat → Nat → Value),
      (∀ (μ : MM) (i N : Nat), i < N → μ.blk i = blk → μ.base i = bs → μ.sz i = shs.length → Rep N μ (slcV i len) v) ∧
      (∀ (μ : MM) (i N : Nat), μ.blk i = blk → μ.base i = bs → μ.sz i = shs.length → BkOk N μ W.heap i (.cells false shs.length len (.fn fun j => rowAv shs 0 (c j)))) ∧
      (∀ j, j < len → ∀ (i : Nat) (sh : Sh), shs[i]? = some sh → sh.ok (c j i)) ∧
      ((len = 0 ∧ x.1 = .nil) ∨ ∃ es sps, x.1 = .slice es sps ∧ es.length = len) := by
  rcases Go.Deep.open_slice ht hd with ⟨h0, hx⟩ | ⟨a, len, cap, m, k, D, Pl, h0, _, hl, hm, hmm, hx, hel⟩
  · cases h0
    refine ⟨0, 0, 0, fun _ _ => undef, fun μ i N hi _ _ _ => ?_, fun μ i N _ _ hs => ⟨hs, hpos, fun h => ?_⟩, fun j hj => by omega, .inl ⟨rfl, by rw [hx]⟩⟩
    · simp only [slcV, Rep, RepS]
      exact ⟨hi, none, 0, rfl, Nat.le_refl _, fun h => absurd h (by omega), fun h => (by cases h), fun h => (by cases h)⟩
    · rcases h with h | ⟨h, _⟩
      · exact absurd h (by omega)
      · cases h
  · cases h0
    have hmlen : len ≤ m := by rw [hmm]; split <;> omega
    have cell : ∀ j, j < len → ∀ (i : Nat) (sh : Sh), shs[i]? = some sh → ∃ u, W.cell? (a.add (j * shs.length + i)) = some u ∧ sh.ok u := fun j hj i sh hi => by
      obtain ⟨cs', h1, h2⟩ := hel j (by omega)
      obtain ⟨_, hcl, hc⟩ := World.cells?_some h1
      obtain ⟨u, hu, ho⟩ := trod_flat n e shs hflat _ _ _ h2 i sh hi
      have hil := (List.getElem?_eq_some_iff.1 hi).1
      refine ⟨u, ?_, ho⟩
      rw [← hu, ← hc i (by omega), ← hlen, Go.Deep.add_add]
    rcases Nat.eq_zero_or_pos len with rfl | h0
    · refine ⟨0, 0, 0, fun _ _ => undef, fun μ i N hi _ _ _ => ?_, fun μ i N _ _ hs => ⟨hs, hpos, fun h => ?_⟩, fun j hj => by omega, .inr ⟨_, _, by rw [hx], by simp⟩⟩
      · simp only [slcV, Rep, RepS]
        exact ⟨hi, _, _, rfl, hl, fun h => absurd h (by omega), fun h => (by cases h), fun h => (by cases h)⟩
      · rcases h with h | ⟨h, _⟩
        · exact absurd h (by omega)
        · cases h
    obtain ⟨ab, ao, asp⟩ := a
    obtain rfl : asp = none := by
      obtain ⟨u, hu, _⟩ := cell 0 h0 0 shs[0] (List.getElem?_eq_getElem hpos)
      rw [Nat.zero_mul, Nat.zero_add, Addr.add_zero'] at hu
      exact (heap_of_cell hu).1
    have cell' : ∀ j, j < len → ∀ (i : Nat) (sh : Sh), shs[i]? = some sh → ∃ u, W.cell? ⟨ab, ao + (j * shs.length + i), none⟩ = some u ∧ sh.ok u := fun j hj i sh hi => by
      obtain ⟨u, hu, ho⟩ := cell j hj i sh hi
      rw [Addr.add_lit] at hu
      exact ⟨u, hu, ho⟩
    refine ⟨len, ab, ao, fun j i => (W.cell? ⟨ab, ao + (j * shs.length + i), none⟩).getD undef, fun μ i N hi e1 e2 e3 => ?_, fun μ i N e1 e2 e3 => ⟨e3, hpos, fun h => ?_⟩, fun j hj i sh hi => ?_, .inr ⟨_, _, by rw [hx], by simp⟩⟩
    · simp only [slcV, Rep, RepS]
      exact ⟨hi, _, _, rfl, hl, fun h => by simp [MM.addr, e1, e2], fun h => (by cases h), fun h => (by cases h)⟩
    · obtain ⟨u, hu, _⟩ := cell' 0 h0 0 shs[0] (List.getElem?_eq_getElem hpos)
      obtain ⟨_, cur, ty, fz, hB, _⟩ := heap_of_cell hu
      have at' : ∀ j, j < len → ∀ (i : Nat) (sh : Sh), shs[i]? = some sh → ∃ u, cur[ao + (j * shs.length + i)]? = some u ∧ sh.ok u ∧ W.cell? ⟨ab, ao + (j * shs.length + i), none⟩ = some u := fun j hj i sh hi => by
        obtain ⟨u, hu, ho⟩ := cell' j hj i sh hi
        obtain ⟨_, cur', ty', fz', hB', hc'⟩ := heap_of_cell hu
        rw [hB] at hB'
        cases hB'
        exact ⟨u, hc', ho, hu⟩
      refine ⟨cur, ty, fz, by rw [e1]; exact hB, ?_, fun h => (by cases h), fun j hj => ⟨rowAv_length _ _ _, fun o v hv => ?_⟩⟩
      · obtain ⟨u, hu, _⟩ := at' (len - 1) (by omega) (shs.length - 1) shs[shs.length - 1] (List.getElem?_eq_getElem (by omega))
        have := (Array.getElem?_eq_some_iff.1 hu).1
        have e4 : (len - 1) * shs.length + shs.length = len * shs.length := by rw [← Nat.succ_mul]; congr 1; omega
        rw [e2]; omega
      · simp only [Cont.row] at hv
        rw [rowAv_get] at hv
        cases hs : shs[o]? with
        | none => rw [hs] at hv; cases hv
        | some sh =>
          rw [hs] at hv
          simp only [Option.map_some, Option.some.injEq, Nat.zero_add] at hv
          subst hv
          obtain ⟨u, h1, h2, h3⟩ := at' j hj o sh hs
          refine ⟨Sh.one, u, by rw [e2, Nat.add_assoc]; exact h1, ?_⟩
          rw [h3, Option.getD_some]
          exact Sh.rep h2
    · obtain ⟨u, hu, ho⟩ := cell' j hj i sh hi
      simp only [hu, Option.getD_some]
      exact ho
end
end Go.Sx
set_option linter.unusedSimpArgs false
set_option linter.unusedVariables false
namespace Go.Sx
open M
def kn : Known := fun _ => none
def kc (i : Nat) (s : List AV → M AV) (γ : Known) : Known := fun f => bif Nat.beq f i then some s else γ f
theorem kn_ok {P : Program} : KnownOk P kn := fun f s h => by cases h
theorem kn_tch : KnownT kn := fun f s h => by cases h
theorem kc_ok {P : Program} {i : Nat} {s : List AV → M AV} {γ : Known} (h : ∀ args v g g', s args g = .done v g' → CallIs P i args v g g') (k : KnownOk P γ) : KnownOk P (kc i s γ) := fun f s' hs => by
  unfold kc at hs
  cases h1 : Nat.beq f i with
  | true => rw [h1] at hs; cases hs; cases Nat.eq_of_beq_eq_true h1; exact h
  | false => rw [h1] at hs; exact k f s' hs
theorem kc_tch {i : Nat} {s : List AV → M AV} {γ : Known} (h : ∀ args, Tch (s args)) (k : KnownT γ) : KnownT (kc i s γ) := fun f s' hs => by
  unfold kc at hs
  cases h1 : Nat.beq f i with
  | true => rw [h1] at hs; cases hs; exact h
  | false => rw [h1] at hs; exact k f s' hs
theorem eqq {v : AV} {r : Res AV} {q : Prop} (e : pureP v r = (v = v ∧ q)) (h : q) : PureP v r := ⟨by rw [e]; exact ⟨rfl, h⟩⟩
def selfW : List (Nat × AV) → Prop
  | [] => True
  | p :: l => some p.2 = some p.2 ∧ selfW l
theorem selfW_ok : ∀ l, selfW l
  | [] => trivial
  | _ :: l => ⟨rfl, selfW_ok l⟩
def selfH : List (Nat × ABk) → Prop
  | [] => True
  | p :: l => some p.2 = some p.2 ∧ selfH l
theorem selfH_ok : ∀ l, selfH l
  | [] => trivial
  | _ :: l => ⟨rfl, selfH_ok l⟩
theorem eqn {K' : Nat} {e : Ex} {fl : List (Nat × AV)} {bl : List (Nat × ABk)} {r : Res (Ex × Fr)} {q : Prop} (h : pieceN K' e fl bl r = (e = e ∧ selfW fl ∧ selfH bl ∧ true = true ∧ q)) (hq : q) : PieceN K' e fl bl r :=
  ⟨by rw [h]; exact ⟨rfl, selfW_ok _, selfH_ok _, rfl, hq⟩⟩
structure Gv where
  esz : Nat
  len : Nat
  blk : Nat
  base : Nat
  rows : Nat → List AV
def Gv.bk (v : Gv) : ABk := .cells false v.esz v.len (.fn v.rows)
def gvMM (l : List Gv) : MM :=
  ⟨fun i => (l[i]?).elim 0 (·.blk), fun _ => 0, fun i => (l[i]?).elim 0 (·.esz), fun i => (l[i]?).elim 0 (·.base)⟩
def gvL : List Gv → Nat → List (Nat × ABk)
  | [], _ => []
  | v :: l, i => (i, v.bk) :: gvL l (i + 1)
theorem gvL_mem : ∀ {l : List Gv} {i : Nat} {p : Nat × ABk}, p ∈ gvL l i → ∃ j v, l[j]? = some v ∧ p = (i + j, v.bk)
  | [], i, p, h => by cases h
  | v :: l, i, p, h => by
    rcases List.mem_cons.1 h with rfl | h
    · exact ⟨0, v, rfl, rfl⟩
    · obtain ⟨j, u, h1, rfl⟩ := gvL_mem h
      exact ⟨j + 1, u, by simpa using h1, by rw [show i + 1 + j = i + (j + 1) by omega]⟩
theorem gv_gok {l : List Gv} {hp : Array Obj} (h : ∀ i v, l[i]? = some v → ∀ (μ : MM) (N : Nat), μ.blk i = v.blk → μ.base i = v.base → μ.sz i = v.esz → BkOk N μ hp i v.bk) : GOk l.length (gvMM l) hp (hpL (gvL l 0)) where
  lt := fun i b hb => by
    obtain ⟨j, v, h1, h2⟩ := gvL_mem (hpL_get hb)
    cases h2
    have := (List.getElem?_eq_some_iff.1 h1).1
    omega
  ok := fun i b hb => by
    obtain ⟨j, v, h1, h2⟩ := gvL_mem (hpL_get hb)
    cases h2
    rw [Nat.zero_add]
    refine h j v h1 _ _ ?_ ?_ ?_ <;> simp [gvMM, h1]
  sep := fun i b j b' hi hj ho => by
    obtain ⟨k, v, h1, h2⟩ := gvL_mem (hpL_get hi)
    cases h2
    cases ho
theorem gv_may {l : List Gv} {μ : MM} {B : Nat} : ¬ May μ (hpL (gvL l 0)) B := by
  rintro ⟨i, b, hb, ho, _⟩
  obtain ⟨j, v, h1, h2⟩ := gvL_mem (hpL_get hb)
  cases h2
  cases ho
def G.of (bl : List (Nat × ABk)) (K : Nat) (path : List Bool) : G := ⟨hpL bl, K, [], path, True⟩
section
variable {P : Program} {n B K K' : Nat}
def MM.at (μ : MM) (K esz : Nat) : MM :=
  ⟨fun i => if i = K then 0 else μ.blk i, fun i => if i = K then 0 else μ.cap i, fun i => if i = K then esz else μ.sz i, fun i => if i = K then 0 else μ.base i⟩
theorem MM.at_upto (μ : MM) (K esz : Nat) : MM.upto K μ (μ.at K esz) := ⟨fun g hg => if_neg (by omega), fun g hg => if_neg (by omega), fun g hg => if_neg (by omega), fun g hg => if_neg (by omega)⟩
def noSlc (K : Nat) : AV := .slc true true ⟨false, K, 0, 0⟩ 0
theorem GoesB.phantom {c : Code} {fr : Fr} {H : T ABk} {Post : Po} (t esz : Nat) (rows : Nat → List AV) (ht : fr.get t = some .nils) (hpos : 0 < esz) (hB : B ≤ K)
    (h : GoesB P c n B (K + 1) K' (fr.upd t (some (noSlc K))) (H.upd K (some (.cells true esz 0 (.fn rows)))) Post) : GoesB P c n B K K' fr H Post := by
  intro μ w a hg hf Q hQ
  have hu := MM.at_upto μ K esz
  have case : ∀ i b, (H.upd K (some (.cells true esz 0 (.fn rows)))).get i = some b → (i = K ∧ b = .cells true esz 0 (.fn rows)) ∨ (i < K ∧ H.get i = some b) := fun i b hb => by
    rw [T.get_upd] at hb
    split at hb
    · cases hb; exact .inl ⟨‹_›, rfl⟩
    · exact .inr ⟨hg.lt _ _ hb, hb⟩
  have unreal : ∀ b, b = ABk.cells true esz 0 (.fn rows) → ¬ b.real (μ.at K esz) K := by
    rintro b rfl hr
    simp [ABk.real, MM.at] at hr
  have may : ∀ b, May (μ.at K esz) (H.upd K (some (.cells true esz 0 (.fn rows)))) b → May μ H b := by
    rintro b ⟨i, x, m1, m2, m3, m4⟩
    rcases case i x m1 with ⟨rfl, rfl⟩ | ⟨hi, hx⟩
    · exact (unreal _ rfl m3).elim
    · rw [ABk.real_later hu hi] at m3
      rw [hu.blk i hi] at m4
      exact ⟨i, x, hx, m2, m3, m4⟩
  have may' : ∀ b, May μ H b → May (μ.at K esz) (H.upd K (some (.cells true esz 0 (.fn rows)))) b := by
    rintro b ⟨i, x, m1, m2, m3, m4⟩
    have hi := hg.lt _ _ m1
    refine ⟨i, x, ?_, m2, (ABk.real_later hu hi x).2 m3, by rw [hu.blk i hi]; exact m4⟩
    rw [T.get_upd, if_neg (by omega)]; exact m1
  have hE : ExtB B H μ w (H.upd K (some (.cells true esz 0 (.fn rows)))) (μ.at K esz) w := ⟨hu.mono hB, rfl, rfl, rfl, Nat.le_refl _, fun b _ _ => rfl, fun b _ hm => may b hm⟩
  refine h (μ.at K esz) w a ⟨fun i b hb => ?_, fun i b hb => ?_, fun i b j b' hi hj ho hr hr' he => ?_⟩ ⟨hf.size, fun t' v hv => ?_⟩ Q fun e fr' H' a' w' hp ha => hQ e fr' H' a' w' hp (AtB.trans hE rfl ha)
  · rcases case i b hb with ⟨rfl, _⟩ | ⟨hi, _⟩ <;> omega
  · rcases case i b hb with ⟨rfl, rfl⟩ | ⟨hi, hx⟩
    · refine ⟨by simp [MM.at], hpos, fun hr => ?_⟩
      simp [MM.at] at hr
    · exact (hg.ok i b hx).later hu (by omega) hi fun _ => rfl
  · rcases case i b hi with ⟨rfl, rfl⟩ | ⟨hi1, hx⟩
    · exact (unreal _ rfl hr).elim
    · rcases case j b' hj with ⟨rfl, rfl⟩ | ⟨hj1, hy⟩
      · exact (unreal _ rfl hr').elim
      · rw [ABk.real_later hu hi1] at hr
        rw [ABk.real_later hu hj1] at hr'
        rw [hu.blk i hi1, hu.blk j hj1] at he
        exact hg.sep _ _ _ _ hx hy ho hr hr' he
  · rw [T.get_upd] at hv
    split at hv
    · rename_i htt
      cases hv
      have := hf.val t .nils ht
      rw [htt]
      simp only [Rep] at this
      rw [this]
      simp only [noSlc, Rep]
      exact ⟨by omega, none, 0, rfl, Nat.le_refl _, fun h => absurd h (by omega), fun h => (by cases h), fun _ => ⟨rfl, rfl, .inl ⟨rfl, rfl, rfl⟩⟩⟩
    · exact (hf.val t' v hv).later hu (by omega)
def RowGe : List AV → List AV → Prop
  | [], [] => True
  | u :: l, v :: l' => AV.ge u v ∧ v.one = true ∧ RowGe l l'
  | _, _ => False
theorem RowGe.length : ∀ {r r' : List AV}, RowGe r r' → r'.length = r.length
  | [], [], _ => rfl
  | u :: l, v :: l', h => by simp [RowGe.length h.2.2]
  | [], _ :: _, h => h.elim
  | _ :: _, [], h => h.elim
theorem RowGe.get : ∀ {r r' : List AV}, RowGe r r' → ∀ {o : Nat} {v : AV}, r'[o]? = some v → ∃ u, r[o]? = some u ∧ AV.ge u v ∧ v.one = true
  | [], [], _, o, v, hv => by simp at hv
  | u :: l, w :: l', h, o, v, hv => by
    cases o with
    | zero => simp at hv; subst hv; exact ⟨u, rfl, h.1, h.2.1⟩
    | succ o => simpa using RowGe.get h.2.2 (by simpa using hv)
  | [], _ :: _, h, _, _, _ => h.elim
  | _ :: _, [], h, _, _, _ => h.elim
def SameG : ABk → ABk → Prop
  | .cells own sz m c, .cells own' sz' m' c' => own = own' ∧ sz = sz' ∧ m = m' ∧ ∀ i, i < m → RowGe (c.row i) (c'.row i)
  | b, b' => b = b'
theorem SameG.owned {b b' : ABk} (h : SameG b b') : b.owned = b'.owned := by
  cases b <;> cases b' <;> simp_all [SameG, ABk.owned]
theorem SameG.real {b b' : ABk} (h : SameG b b') (μ : MM) (g : Nat) : b.real μ g ↔ b'.real μ g := by
  cases b <;> cases b' <;> simp_all [SameG, ABk.real]
theorem SameG.ok {N : Nat} {μ : MM} {hp : Array Obj} {g : Nat} {b b' : ABk} (h : SameG b b') (k : BkOk N μ hp g b) : BkOk N μ hp g b' := by
  cases b with
  | cells own sz m c =>
    cases b' with
    | cells own' sz' m' c' =>
      obtain ⟨rfl, rfl, rfl, hr⟩ := h
      refine ⟨k.1, k.2.1, fun hh => ?_⟩
      obtain ⟨cur, ty, fz, h1, h2, h3, h4⟩ := k.2.2 hh
      refine ⟨cur, ty, fz, h1, h2, h3, fun i hi => ⟨(hr i hi).length.trans (h4 i hi).1, fun o v hv => ?_⟩⟩
      obtain ⟨u, e1, e2, e3⟩ := (hr i hi).get hv
      obtain ⟨_, cv, e4, e5⟩ := (h4 i hi).2 o u e1
      exact ⟨e3, cv, e4, e2 _ _ _ e5⟩
    | _ => simp [SameG] at h
  | _ => cases b' <;> simp [SameG] at h <;> first | exact h ▸ k | (obtain ⟨rfl, rfl⟩ := h; exact k) | (obtain ⟨rfl, rfl, rfl⟩ := h; exact k)
theorem GoesB.weakG {c : Code} {fr fr0 : Fr} {H H0 : T ABk} {Post : Po} (hf : ∀ t v, fr0.get t = some v → ∃ u, fr.get t = some u ∧ AV.ge u v) (hH : ∀ i b, H0.get i = some b → ∃ b', H.get i = some b' ∧ SameG b' b) (h : GoesB P c n B K K' fr0 H0 Post) : GoesB P c n B K K' fr H Post := by
  intro μ w a hg hfr Q hQ
  refine h μ w a ⟨fun i b hb => let ⟨b', h1, _⟩ := hH i b hb; hg.lt i b' h1, fun i b hb => let ⟨b', h1, h2⟩ := hH i b hb; h2.ok (hg.ok i b' h1), fun i b j b' hi hj ho hr hr' he => ?_⟩
    ⟨hfr.size, fun t v ht => let ⟨u, h1, h2⟩ := hf t v ht; h2 _ _ _ (hfr.val t u h1)⟩ Q fun e fr' H' a' w' hp ha => hQ e fr' H' a' w' hp ⟨?_⟩
  · obtain ⟨b1, h1, h2⟩ := hH i b hi
    obtain ⟨b2, k1, k2⟩ := hH j b' hj
    exact hg.sep i b1 j b2 h1 k1 (by rw [h2.owned]; exact ho) ((h2.real μ i).2 hr) ((k2.real μ j).2 hr') he
  · obtain ⟨μ', k1, k2, k3, k4⟩ := ha.of
    have may : ∀ b, May μ H0 b → May μ H b := fun b ⟨i, x, m1, m2, m3, m4⟩ => by
      obtain ⟨b', h1, h2⟩ := hH i x m1
      exact ⟨i, b', h1, by rw [h2.owned]; exact m2, (h2.real μ i).2 m3, m4⟩
    exact ⟨μ', k1, ⟨k2.names, k2.os, k2.tape, k2.output, k2.size, fun b hb hn => k2.block b hb fun hm => hn (may b hm), fun b hb hm => may b (k2.may b hb hm)⟩, k3, k4⟩
def GeG (H : T ABk) : List (Nat × ABk) → Prop
  | [] => True
  | p :: l => (∃ b, H.get p.1 = some b ∧ SameG b p.2) ∧ GeG H l
theorem GeG.get {H : T ABk} : ∀ {l : List (Nat × ABk)}, GeG H l → ∀ p ∈ l, ∃ b, H.get p.1 = some b ∧ SameG b p.2
  | q :: l, h, p, hp => by
    rcases List.mem_cons.1 hp with rfl | hp
    · exact h.1
    · exact GeG.get h.2 p hp
theorem GoesB.weakGL {c : Code} {fr : Fr} {H : T ABk} {fl : List (Nat × AV)} {bl : List (Nat × ABk)} {Post : Po} (hf : Ge fr fl) (hH : GeG H bl) (h : GoesB P c n B K K' (frL fl) (hpL bl) Post) : GoesB P c n B K K' fr H Post :=
  h.weakG (fun t v ht => hf.get _ (frL_get ht)) fun i b hb => hH.get _ (hpL_get hb)
end
def rd (esz : Nat) (x : AV) (p : Nat → (Nat → List AV) → Prop) : M (Nat × (Nat → List AV)) :=
  (srcOf esz x).andThen fun y => (req (p y.2.1 y.2.2 ∧ ∀ j, j < y.2.1 → ∀ u, u ∈ y.2.2 j → u.low 0 = true)).andThen fun _ => ret (y.2.1, y.2.2)
theorem rd_done {esz : Nat} {x : AV} {p : Nat → (Nat → List AV) → Prop} {y : Nat × (Nat → List AV)} {g g' : G} (h : rd esz x p g = .done y g') (he : 0 < esz) :
    ∃ q, Keep g g' q ∧ (q → Vw.Ok ⟨x, esz, y.1, y.2⟩ g ∧ p y.1 y.2) := by
  unfold rd at h
  obtain ⟨z, g1, a1, h1⟩ := done_of h
  obtain ⟨_, g2, a2, h2⟩ := done_of h1
  obtain ⟨rfl, rfl⟩ := ret_done h2
  obtain ⟨q1, k1, f1⟩ := Vw.Ok.of a1 he
  have k2 := req_done a2
  exact ⟨_, k1.trans k2, fun ⟨e1, e2, e3⟩ => ⟨f1 e1 e3, e2⟩⟩
theorem Tch.rd (esz : Nat) (x : AV) (p : Nat → (Nat → List AV) → Prop) : Tch (Sx.rd esz x p) := (Tch.srcOf _ _).andThen fun _ => (Tch.req _).andThen fun _ => Tch.ret _
theorem Vw.Ok.same {v : Vw} {g g' : G} {q : Prop} (h : v.Ok g') (k : Keep g g' q) : v.Ok g :=
  ⟨h.pos, h.bare, fun N μ w hg => h.view N μ w (by rw [k.1]; exact hg), h.val⟩
def newS (esz len : Nat) (rows : Nat → List AV) : M AV := (newB (.cells true esz len (.fn rows))).andThen fun nm => ret (.slc true true ⟨false, nm, 0, 0⟩ len)
theorem Tch.newS (esz len : Nat) (rows : Nat → List AV) : Tch (Sx.newS esz len rows) := (Tch.newB _).andThen fun _ => Tch.ret _
theorem newS_done {esz len : Nat} {rows : Nat → List AV} {v : AV} {g g' : G} (h : newS esz len rows g = .done v g') : v = .slc true true ⟨false, g.nx, 0, 0⟩ len ∧ g'.H = putNew g.H g.nx [.cells true esz len (.fn rows)] ∧ g'.nx = g.nx + 1 ∧ g'.cs = g.cs := by
  unfold newS at h
  obtain ⟨nm, g1, a1, h1⟩ := done_of h
  obtain ⟨rfl, rfl⟩ := ret_done h1
  cases a1
  exact ⟨rfl, rfl, rfl, rfl⟩
theorem res1 {P : Program} {rs : List ResultVar} {t K : Nat} {fr : Fr} {H : T ABk} {v : AV} (e : rs = [.tmp t]) (h : fr.get t = some v) : resultsA P fr rs ⟨H, K, [], [], True⟩ = .done [v] ⟨H, K, [], [], True⟩ := by
  subst e
  simp only [resultsA, resultA, h, Option.getD_some]; rfl
theorem res2 {P : Program} {rs : List ResultVar} {t t' K : Nat} {fr : Fr} {H : T ABk} {v v' : AV} (e : rs = [.tmp t, .tmp t']) (h : fr.get t = some v) (h' : fr.get t' = some v') : resultsA P fr rs ⟨H, K, [], [], True⟩ = .done [v, v'] ⟨H, K, [], [], True⟩ := by
  subst e
  simp only [resultsA, resultA, h, h', Option.getD_some]; rfl
theorem AV.ge.tup2 {u v u' v' : AV} (h : AV.ge u u') (h' : AV.ge v v') : AV.ge (.tup [u, v]) (.tup [u', v']) := fun N μ cv hr => by
  simp only [Rep, Reps] at hr ⊢
  obtain ⟨cs, e, c, r, e1, h1, c', r', e2, h2, e3⟩ := hr
  exact ⟨cs, e, c, r, e1, h _ _ _ h1, c', r', e2, h' _ _ _ h2, e3⟩
end Go.Sx
set_option linter.unusedSimpArgs false
set_option linter.unusedVariables false
namespace Go.Sx
open M
def zre : List AV → Int
  | [.int _ .u64 a, .int _ .u64 _] => a
  | _ => 0
def zim : List AV → Int
  | [.int _ .u64 _, .int _ .u64 b] => b
  | _ => 0
def zrow (r : List AV) : List AV := [.int true .u64 (zre r), .int true .u64 (zim r)]
def ZRow (r : List AV) : Prop := (∃ s s', r = [.int s .u64 (zre r), .int s' .u64 (zim r)]) ∧ 0 ≤ zre r ∧ zre r < 18446744073709551616 ∧ 0 ≤ zim r ∧ zim r < 18446744073709551616
theorem ZRow.ge {r : List AV} (h : ZRow r) : RowGe r (zrow r) := by
  obtain ⟨⟨s, s', e⟩, _⟩ := h
  rw [e]
  exact ⟨AV.ge.int _ _ _ _, rfl, AV.ge.int _ _ _ _, rfl, trivial⟩
def cre : List AV → Nat
  | [.cpx _ a _] => a
  | _ => 0
def cim : List AV → Nat
  | [.cpx _ _ b] => b
  | _ => 0
def crow (r : List AV) : List AV := [.cpx true (cre r) (cim r)]
def Fw (x : Nat) : Prop := x < 18446744073709551616 ∧ cn x = x
def CRow (r : List AV) : Prop := (∃ s, r = [.cpx s (cre r) (cim r)]) ∧ Fw (cre r) ∧ Fw (cim r)
theorem CRow.ge {r : List AV} (h : CRow r) : RowGe r (crow r) := by
  obtain ⟨⟨s, e⟩, _⟩ := h
  rw [e]
  exact ⟨AV.ge.cpx' _ _ rfl rfl, rfl, trivial⟩
theorem Fw.cn {x : Nat} (h : x < 18446744073709551616) : Fw (cn x) := ⟨cn_lt h, cn_cn x⟩
theorem CRow.bare {r : List AV} (h : CRow r) : ∀ u, u ∈ r → u.low 0 = true := by
  obtain ⟨⟨s, e⟩, _⟩ := h
  rw [e]
  intro u hu
  simp at hu
  subst hu; rfl
def CRows (len : Nat) (rows : Nat → List AV) : Prop := ∀ j, j < len → CRow (rows j)
end Go.Sx
set_option linter.unusedSimpArgs false
set_option linter.unusedVariables false
namespace Go.Sx
theorem write_lt (d : Ieee.Datum) : Ieee.double.write d < 18446744073709551616 := by
  have hb := bin_is
  have hi := inf_is
  have hs := sgn_is
  have wd : ∀ s r, r < 9218868437227405312 + 4503599627370496 → Ieee.double.word s r < 18446744073709551616 := fun s r h => by
    unfold Ieee.Format.word
    rw [hs]
    cases s
    · show r < 18446744073709551616; omega
    · show 9223372036854775808 + r < 18446744073709551616; omega
  cases d with
  | number s m p =>
    unfold Ieee.Format.write Ieee.Format.nearest
    dsimp only
    split
    · exact wd _ _ (by omega)
    · exact wd _ _ (Nat.lt_of_le_of_lt (Nat.min_le_right ..) (by omega))
  | infinity s => exact wd _ _ (by omega)
  | nan s r => exact wd _ _ (by rw [hi, hb]; have := Nat.mod_lt r (show 0 < 4503599627370496 by omega); omega)
theorem fadd_lt (x y : Nat) : fadd x y < 18446744073709551616 := by
  unfold fadd Ieee.Format.add
  cases (Ieee.double.read x).sum (Ieee.double.read y) with
  | none => show qn < _; decide
  | some d => exact write_lt d
end Go.Sx
set_option linter.unusedSimpArgs false
set_option linter.unusedVariables false
namespace Go.Sx
open Go.WideShapes
section
variable {H : Type} {enc : TypeId × Value → H} {P : Program} {W : World} {held : Bool}
end
theorem fsub_nan {h : Nat} (hn : isnan h = true) : fsub h h = qn := by
  obtain ⟨s, t, e⟩ := read_of_nan hn
  unfold fsub Ieee.Format.sub; rw [e]; rfl
theorem fin_iff {h : Nat} : feq (fsub h h) 0 = true ↔ h % 9223372036854775808 < 9218868437227405312 := by
  cases hn : isnan h with
  | true =>
    rw [fsub_nan hn]
    constructor
    · intro h; exact absurd h (by decide)
    · intro h1; unfold isnan at hn; have := of_decide_eq_true hn; omega
  | false =>
    have e := fsub_self hn
    rw [cn_of_not hn] at e
    rw [e]
    by_cases hf : h % 9223372036854775808 < 9218868437227405312
    · rw [if_pos hf]; exact ⟨fun _ => hf, fun _ => by decide⟩
    · rw [if_neg hf]; exact ⟨fun h => absurd h (by decide), fun h => absurd h hf⟩
end Go.Sx
set_option linter.unusedSimpArgs false
set_option linter.unusedVariables false
namespace Go.Sx
open Go.WideShapes
section
variable {H : Type} {enc : TypeId × Value → H} {P : Program} {W : World} {held : Bool}
end
end Go.Sx
set_option linter.unusedSimpArgs false
set_option linter.unusedVariables false
namespace Go.Sx
theorem log2_mul_pow {n : Nat} (hn : n ≠ 0) : ∀ k, (n * 2 ^ k).log2 = n.log2 + k
  | 0 => by simp
  | k + 1 => by
    have h : n * 2 ^ k ≠ 0 := Nat.mul_ne_zero hn (Nat.ne_of_gt (Nat.two_pow_pos k))
    rw [Nat.pow_succ, ← Nat.mul_assoc, Nat.mul_comm (n * 2 ^ k) 2, Nat.log2_two_mul h, log2_mul_pow hn k]
    omega
theorem cut_scale (s : Bool) {n : Nat} (hn : n ≠ 0) (d k : Nat) : Ieee.Toward.even.cut s (n * 2 ^ k) (d + k) = Ieee.Toward.even.cut s n d := by
  have hp : 0 < 2 ^ k := Nat.two_pow_pos k
  unfold Ieee.Toward.cut
  rw [log2_mul_pow hn k, show min (d + k) (n.log2 + k + 2) = min d (n.log2 + 2) + k by omega]
  generalize min d (n.log2 + 2) = a
  have e1 : 1 <<< (a + k) = (1 <<< a) * 2 ^ k := by rw [Nat.shiftLeft_eq, Nat.shiftLeft_eq, Nat.pow_add, Nat.mul_assoc]
  simp only [e1]
  generalize 1 <<< a = g
  have e2 : n * 2 ^ k / (g * 2 ^ k) = n / g := Nat.mul_div_mul_right _ _ hp
  have e3 : n * 2 ^ k % (g * 2 ^ k) = n % g * 2 ^ k := Nat.mul_mod_mul_right _ _ _
  rw [e2, e3]
  generalize n % g = r
  have e4 : decide (g * 2 ^ k < 2 * (r * 2 ^ k)) = decide (g < 2 * r) := decide_eq_decide.2 (by rw [← Nat.mul_assoc]; exact Nat.mul_lt_mul_right hp)
  have e5 : (g * 2 ^ k == 2 * (r * 2 ^ k)) = (g == 2 * r) := by
    rw [← Nat.mul_assoc]
    rw [Bool.eq_iff_iff]
    simp only [beq_iff_eq]
    exact ⟨fun hh => Nat.eq_of_mul_eq_mul_right hp hh, fun hh => by rw [hh]⟩
  rw [e4, e5]
theorem frac_is : (Ieee.double.fractionBits : Int) = 52 := rfl
def rung (s : Bool) (m : Nat) (p : Int) : Nat :=
  (max (p + m.log2 - 52) (-1074) - -1074).toNat * 4503599627370496 + Ieee.Toward.even.cut s (m <<< (p - max (p + m.log2 - 52) (-1074)).toNat) (max (p + m.log2 - 52) (-1074) - p).toNat
theorem nearest_is (s : Bool) {m : Nat} (hm : m ≠ 0) (p : Int) : Ieee.double.nearest s m p = Ieee.double.word s (min (rung s m p) 9218868437227405312) := by
  unfold Ieee.Format.nearest
  rw [if_neg hm]
  simp only [frac_is, lp_is, bin_is, inf_is]
  rfl
theorem rung_scale (s : Bool) {m : Nat} (hm : m ≠ 0) (k : Nat) (p : Int) : rung s (m * 2 ^ k) (p - k) = rung s m p := by
  unfold rung
  rw [log2_mul_pow hm k, show p - (k : Int) + ((m.log2 + k : Nat) : Int) - 52 = p + m.log2 - 52 by omega]
  generalize max (p + m.log2 - 52) (-1074) = L
  congr 1
  by_cases h1 : L ≤ p
  · by_cases h2 : L ≤ p - k
    · rw [show (L - (p - k)).toNat = 0 by omega, show (L - p).toNat = 0 by omega]
      congr 1
      rw [Nat.shiftLeft_eq, Nat.shiftLeft_eq, Nat.mul_assoc, ← Nat.pow_add, show k + (p - k - L).toNat = (p - L).toNat by omega]
    · rw [show (p - k - L).toNat = 0 by omega, show (L - p).toNat = 0 by omega]
      have e : k = (p - L).toNat + (L - (p - k)).toNat := by omega
      have hm' : m * 2 ^ (p - L).toNat ≠ 0 := Nat.mul_ne_zero hm (Nat.ne_of_gt (Nat.two_pow_pos _))
      have := cut_scale s hm' 0 (L - (p - k)).toNat
      rw [Nat.zero_add, Nat.mul_assoc, ← Nat.pow_add, ← e] at this
      rw [Nat.shiftLeft_zero, Nat.shiftLeft_eq]
      exact this
  · rw [show (p - k - L).toNat = 0 by omega, show (p - L).toNat = 0 by omega, Nat.shiftLeft_zero, Nat.shiftLeft_zero, show (L - (p - k)).toNat = (L - p).toNat + k by omega]
    exact cut_scale s hm _ _
theorem cut_zero (s : Bool) (n : Nat) : Ieee.Toward.even.cut s n 0 = n := by
  unfold Ieee.Toward.cut
  simp [Nat.mod_one]
theorem rung_small (s : Bool) {S : Nat} (h : S < 9007199254740992) (h0 : S ≠ 0) : rung s S (-1074) = S := by
  have hl : S.log2 < 53 := (Nat.log2_lt h0).2 h
  unfold rung
  rw [show max (-1074 + (S.log2 : Int) - 52) (-1074) = -1074 by omega]
  simp [cut_zero]
def nearU (S : Nat) : Nat := Ieee.double.nearest false S (-1074)
theorem nearU_zero : nearU 0 = 0 := rfl
theorem nearU_is {S : Nat} (h : S ≠ 0) : nearU S = min (rung false S (-1074)) 9218868437227405312 := by
  unfold nearU; rw [nearest_is _ h, word_false]
theorem nearU_small {S : Nat} (h : S < 9007199254740992) : nearU S = S := by
  by_cases h0 : S = 0
  · subst h0; rfl
  · rw [nearU_is h0, rung_small _ h h0]; omega
theorem nearU_U {r : Nat} (h : r < 9218868437227405312) : nearU (U r) = r := by
  by_cases hr : r < 4503599627370496
  · have : U r = r := by unfold U; rw [if_pos hr]
    rw [this]; exact nearU_small (by omega)
  · have hU : U r = (4503599627370496 + r % 4503599627370496) * 2 ^ (r / 4503599627370496 - 1) := by unfold U; rw [if_neg hr]
    have hf : (4503599627370496 + r % 4503599627370496).log2 = 52 := by
      have h1 : 52 ≤ (4503599627370496 + r % 4503599627370496).log2 := (Nat.le_log2 (by omega)).2 (by omega)
      have h2 : (4503599627370496 + r % 4503599627370496).log2 < 53 := (Nat.log2_lt (by omega)).2 (by omega)
      omega
    have hm : 4503599627370496 + r % 4503599627370496 ≠ 0 := by omega
    have h0 : U r ≠ 0 := by rw [hU]; exact Nat.mul_ne_zero hm (Nat.ne_of_gt (Nat.two_pow_pos _))
    rw [nearU_is h0, hU]
    have e := rung_scale false hm (r / 4503599627370496 - 1) (-1074 + ((r / 4503599627370496 - 1 : Nat) : Int))
    rw [show -1074 + ((r / 4503599627370496 - 1 : Nat) : Int) - ((r / 4503599627370496 - 1 : Nat) : Int) = -1074 by omega] at e
    rw [e]
    have e2 : rung false (4503599627370496 + r % 4503599627370496) (-1074 + ((r / 4503599627370496 - 1 : Nat) : Int)) = r := by
      unfold rung
      rw [hf, show max (-1074 + ((r / 4503599627370496 - 1 : Nat) : Int) + ((52 : Nat) : Int) - 52) (-1074) = -1074 + ((r / 4503599627370496 - 1 : Nat) : Int) by omega]
      rw [show (-1074 + ((r / 4503599627370496 - 1 : Nat) : Int) - (-1074 + ((r / 4503599627370496 - 1 : Nat) : Int))).toNat = 0 by omega, Nat.shiftLeft_zero, cut_zero, show (-1074 + ((r / 4503599627370496 - 1 : Nat) : Int) - -1074).toNat = r / 4503599627370496 - 1 by omega]
      omega
    rw [e2]; omega
end Go.Sx
set_option linter.unusedSimpArgs false
set_option linter.unusedVariables false
namespace Go.Sx
theorem fmul_lt (x y : Nat) : fmul x y < 18446744073709551616 := by
  unfold fmul Ieee.Format.mul
  cases (Ieee.double.read x).product (Ieee.double.read y) with
  | none => show qn < _; decide
  | some d => exact write_lt d
theorem near_at (s : Bool) {T : Nat} {p : Int} (hp : -1074 ≤ p) : Ieee.double.nearest s T p = Ieee.double.word s (nearU (T * 2 ^ (p - -1074).toNat)) := by
  by_cases h : T = 0
  · subst h
    rw [Nat.zero_mul, nearU_zero]; rfl
  · have h2 : T * 2 ^ (p - -1074).toNat ≠ 0 := Nat.mul_ne_zero h (Nat.ne_of_gt (Nat.two_pow_pos _))
    rw [nearest_is s h, nearU_is h2]
    have e := rung_scale false h (p - -1074).toNat p
    rw [show p - ((p - -1074).toNat : Int) = -1074 by omega] at e
    rw [e]
    rfl
theorem word_mod (s : Bool) {r : Nat} (h : r < 9223372036854775808) : Ieee.double.word s r % 9223372036854775808 = r := by
  unfold Ieee.Format.word
  rw [sgn_is]
  cases s
  · show r % _ = r; omega
  · show (9223372036854775808 + r) % _ = r; omega
theorem goes_true {P : Program} {f : FuncId} {fn : Func} {c : Code} (hf : P.funcs[f]? = some fn) (hb : fn.body = some c) (hname : (fn.name == "runtime.NumGoroutine") = false) {args : List AV} {bl : List (Nat × ABk)} {K K' t : Nat} (hres : fn.results.toList = [.tmp t])
    (h : GoesB P c fn.ntmps K K K' (frameOf args 0 .e) (hpL bl) fun e fr' H' => (e = .ret ∨ e = .normal) ∧ ∃ u, fr'.get t = some u ∧ AV.ge u (.bool true)) {μ : MM} {w : World} (hg : GOk K μ w.heap (hpL bl)) (hno : ∀ B, ¬ May μ (hpL bl) B) {cargs : Array Value} (ha : Reps K μ args cargs.toList) :
    Calls P f cargs w fun e w' => e = .returned (.bool true) ∧ RowKit.Below w.heap.size w w' := by
  have hc := GoesB.call hf hb hname (V := fun u H' => AV.ge u (.bool true)) (h.mono fun e fr' H' ⟨k1, u, k2, k3⟩ => ⟨k1, [u], _, res1 hres k2, trivial, k3⟩) μ w hg ha
  have main : ∀ c w', (∃ v μ' H', AV.ge v (.bool true) ∧ Rep K' μ' v c ∧ GOk K' μ' w'.heap H' ∧ ExtB K (hpL bl) μ w H' μ' w') → c = .bool true ∧ RowKit.Below w.heap.size w w' := by
    rintro c w' ⟨v, μ', H', h1, h2, _, hE⟩
    have := h1 _ _ _ h2
    simp only [Rep] at this
    exact ⟨this, hE.os, hE.tape, hE.output, hE.size, fun k hk => hE.block k hk (hno k)⟩
  rcases hc with ⟨cv, w', e, _⟩ | ⟨f', args', w', e, hc⟩
  · rw [run_enter hf hname hb] at e; cases e
  · rw [run_enter hf hname hb] at e
    cases e
    refine hc.mono ?_
    rintro e1 w1 ⟨cv, rfl, h1⟩
    obtain ⟨h2, h3⟩ := main cv w1 h1
    exact ⟨by rw [h2], h3⟩
end Go.Sx
set_option linter.unusedSimpArgs false
set_option linter.unusedVariables false
namespace Go.Sx
open M
variable {P : Program} {n B K K' : Nat}
theorem ri {fr : Fr} {t : Nat} {s s' : Bool} {k : IntKind} {x : Int} (h : fr.get t = some (.int s k x)) : ∃ u, fr.get t = some u ∧ AV.ge u (.int s' k x) := ⟨_, h, AV.ge.int _ _ _ _⟩
theorem hs {H : T ABk} {i : Nat} {b : ABk} (h : H.get i = some b) : ∃ b', H.get i = some b' ∧ SameC b' b := ⟨_, h, SameC.refl _⟩
theorem rn {fr : Fr} {t K' : Nat} {σ : Nat → Nat} {v : AV} (h : fr.get t = some (v.ren σ)) (hl : v.low K' = true) : ∃ u, fr.get t = some u ∧ AV.ge u (v.ren σ) ∧ v.low K' = true := ⟨_, h, AV.ge.refl _, hl⟩
theorem GoesB.count {c : Code} {id : Nat} (len : Nat) (F : Nat → List (Nat × AV)) (Hh : Nat → List (Nat × ABk)) (Z : List (Nat × AV)) (ZH : List (Nat × ABk)) (g : Nat → Prop) (R : Fr → T ABk → Prop) (g0 : g 0)
    (h : ∀ i, i ≤ len → g i → GoesB P c n B K K (frL (F i)) (hpL (Hh i)) fun e fr H => (e = .normal ∧ i < len ∧ g (i + 1) ∧ fr = frL (F (i + 1)) ∧ H = hpL (Hh (i + 1))) ∨ (e = .exit id ∧ g len ∧ fr = frL Z ∧ H = hpL ZH) ∨ (e = .ret ∧ R fr H)) :
    GoesB P (.block id (.loop c)) n B K K (frL (F 0)) (hpL (Hh 0)) fun e fr H => (e = .normal ∧ g len ∧ fr = frL Z ∧ H = hpL ZH) ∨ (e = .ret ∧ R fr H) := by
  refine GoesB.block ((GoesB.loop (fun k fr H => ∃ i, k = len - i ∧ i ≤ len ∧ g i ∧ fr = frL (F i) ∧ H = hpL (Hh i)) (Post := fun e fr H => (e = .exit id ∧ g len ∧ fr = frL Z ∧ H = hpL ZH) ∨ (e = .ret ∧ R fr H)) ?_ _ _ _ ⟨0, rfl, by omega, g0, rfl, rfl⟩).mono fun e fr H hp => ?_)
  · rintro k fr H ⟨i, rfl, hi, hg, rfl, rfl⟩
    refine (h i hi hg).mono fun e fr H hp => ?_
    rcases hp with ⟨rfl, h1, h2, h3, h4⟩ | ⟨rfl, h1, h2, h3⟩ | ⟨rfl, h1⟩
    · exact ⟨len - (i + 1), by omega, i + 1, rfl, by omega, h2, h3, h4⟩
    · exact .inl ⟨rfl, h1, h2, h3⟩
    · exact .inr ⟨rfl, h1⟩
  · rcases hp with ⟨rfl, h1, h2, h3⟩ | ⟨rfl, h1⟩
    · simp only [if_true]; exact .inl ⟨trivial, h1, h2, h3⟩
    · exact .inr ⟨rfl, h1⟩
theorem beq_dec (a b : Nat) : Nat.beq a b = decide (a = b) := by
  cases h : Nat.beq a b
  · simp [Nat.ne_of_beq_eq_false h]
  · simp [Nat.eq_of_beq_eq_true h]
theorem row_put (r : Nat → List AV) (z v : List AV) (i j : Nat) (e : r i = v := by rfl) : (bif Nat.beq j i then v else bif decide (j < i) then r j else z) = bif decide (j < i + 1) then r j else z := by
  subst e
  rw [beq_dec]
  by_cases h : j = i
  · subst h; simp
  · by_cases h2 : j < i
    · simp [h, h2, show j < i + 1 by omega]
    · simp [h, h2, show ¬ j < i + 1 by omega]
def lenOk (n : Nat) : Prop := n * 16 ≤ 140737488355328
def cL (n : Nat) (rows : Nat → List AV) : Prop := lenOk n ∧ CRows n rows
noncomputable def c1 (x : AV) (k : Nat → (Nat → Nat) → (Nat → Nat) → M AV) : M AV := (rd 1 x cL).andThen fun a => k a.1 (fun j => cre (a.2 j)) (fun j => cim (a.2 j))
noncomputable def c2 (x y : AV) (k : Nat → (Nat → Nat) → (Nat → Nat) → Nat → (Nat → Nat) → (Nat → Nat) → M AV) : M AV := c1 x fun n a b => c1 y fun m c d => k n a b m c d
theorem Tch.c1 (x : AV) {k : Nat → (Nat → Nat) → (Nat → Nat) → M AV} (h : ∀ n a b, Tch (k n a b)) : Tch (Sx.c1 x k) := (Tch.rd _ _ _).andThen fun _ => h _ _ _
theorem Tch.c2 (x y : AV) {k : Nat → (Nat → Nat) → (Nat → Nat) → Nat → (Nat → Nat) → (Nat → Nat) → M AV} (h : ∀ n a b m c d, Tch (k n a b m c d)) : Tch (Sx.c2 x y k) := Tch.c1 _ fun _ _ _ => Tch.c1 _ fun _ _ _ => h _ _ _ _ _ _
structure Named (v : Nat → AV) : Prop where
  ren : ∀ N σ, (v N).ren σ = v (σ N)
  low : ∀ N, (v N).low (N + 1) = true
  ins : ∀ N, (v N).inS fun i => N ≤ i
theorem Named.slc (len : Nat) : Named fun N => .slc true true ⟨false, N, 0, 0⟩ len := ⟨fun N σ => rfl, fun N => by simp [AV.low], fun N => Nat.le_refl N⟩
theorem Named.tup (len : Nat) (e : Int) : Named fun N => .tup [.slc true true ⟨false, N, 0, 0⟩ len, .int true .i64 e] := ⟨fun N σ => rfl, fun N => by simp [AV.low, lows], fun N => by simp [AV.inS, insS]⟩
section
variable {P : Program} {f : FuncId} {fn : Func} {c : Code} (hf : P.funcs[f]? = some fn) (hb : fn.body = some c) (hname : (fn.name == "runtime.NumGoroutine") = false)
include hf hb hname
end
end Go.Sx
set_option linter.unusedSimpArgs false
set_option linter.unusedVariables false
namespace Go.Sx
open Ieee (Datum)
theorem sum_comm (a b : Datum) : a.sum b = b.sum a := by
  cases a <;> cases b <;> simp only [Ieee.Datum.sum]
  · rename_i s m i t n j
    rw [Int.min_comm, Int.add_comm, Bool.and_comm]
  · rename_i s t
    cases s <;> cases t <;> rfl
theorem fadd_comm (x y : Nat) : fadd x y = fadd y x := by
  unfold fadd Ieee.Format.add
  rw [sum_comm]
theorem fsub_lt (x y : Nat) : fsub x y < 18446744073709551616 := by
  unfold fsub Ieee.Format.sub
  cases (Ieee.double.read x).sum (Ieee.double.read y).opposite with
  | none => show qn < _; decide
  | some d => exact write_lt d
theorem word_val (s : Bool) (r : Nat) : Ieee.double.word s r = (bif s then 9223372036854775808 else 0) + r := by
  unfold Ieee.Format.word
  rw [sgn_is]
  cases s <;> simp
def E0 (x y : Nat) : Prop := x = y ∨ (x % 9223372036854775808 = 0 ∧ y % 9223372036854775808 = 0)
theorem E0.refl (x : Nat) : E0 x x := .inl rfl
theorem E0.of {x y : Nat} (h : x = y) : E0 x y := .inl h
theorem E0.symm {x y : Nat} (h : E0 x y) : E0 y x := by
  rcases h with rfl | ⟨h1, h2⟩
  · exact .inl rfl
  · exact .inr ⟨h2, h1⟩
theorem E0.trans {x y z : Nat} (h : E0 x y) (k : E0 y z) : E0 x z := by
  rcases h with rfl | ⟨h1, h2⟩
  · exact k
  · rcases k with rfl | ⟨k1, k2⟩
    · exact .inr ⟨h1, h2⟩
    · exact .inr ⟨h1, k2⟩
theorem fadd_nan {x y : Nat} (h : isnan x = true ∨ isnan y = true) : fadd x y = qn := by
  unfold fadd Ieee.Format.add
  have r := fun z => read_nan z
  rcases h with h | h
  · have := r x
    rw [h] at this
    cases e : Ieee.double.read x <;> rw [e] at this <;> first | rfl | cases this
  · have := r y
    rw [h] at this
    cases e : Ieee.double.read y <;> rw [e] at this <;> first | (cases Ieee.double.read x <;> rfl) | cases this
theorem write_zero (s : Bool) (p : Int) : Ieee.double.write (.number s 0 p) % 9223372036854775808 = 0 := by
  show Ieee.double.nearest s 0 p % _ = 0
  unfold Ieee.Format.nearest
  rw [if_pos rfl, word_mod s (by omega)]
theorem word_of {x : Nat} (h : x < 18446744073709551616) : Ieee.double.word (x / 9223372036854775808 % 2 == 1) (x % 9223372036854775808) = x := by
  rw [word_val, sg_lt h]
  by_cases c : 9223372036854775808 ≤ x
  · rw [decide_eq_true c]; simp; omega
  · rw [decide_eq_false c]; simp; omega
theorem read_zero {z : Nat} (h : z % 9223372036854775808 = 0) : Ieee.double.read z = .number (z / 9223372036854775808 % 2 == 1) 0 (-1074) := by
  unfold Ieee.Format.read
  simp only [sgn_is, h]
  rfl
theorem fadd_zero {x z : Nat} (hx : Fw x) (hz : z % 9223372036854775808 = 0) : E0 (fadd x z) x := by
  have hl := hx.1
  cases nx : isnan x with
  | true =>
    have : x = qn := by rw [← hx.2]; exact cn_of_nan nx
    rw [fadd_nan (.inl nx), this]; exact .refl _
  | false =>
    have hm := notnan nx
    by_cases hi : x % 9223372036854775808 = 9218868437227405312
    · unfold fadd Ieee.Format.add
      rw [read_inf hi, read_zero hz]
      refine .of ?_
      show Ieee.double.word _ Ieee.double.infRung = x
      rw [inf_is, ← hi]
      exact word_of hl
    · obtain ⟨m, i, e1, i1, u1⟩ := read_fin (x := x) (by omega)
      unfold fadd Ieee.Format.add
      rw [e1, read_zero hz]
      have hmin : min i (-1074) = -1074 := by omega
      have tot : Ieee.signed (x / 9223372036854775808 % 2 == 1) m (i - -1074).toNat + Ieee.signed (z / 9223372036854775808 % 2 == 1) 0 (-1074 - -1074 : Int).toNat = (if (x / 9223372036854775808 % 2 == 1) then -(U (x % 9223372036854775808) : Int) else (U (x % 9223372036854775808) : Int)) := by
        unfold Ieee.signed
        rw [Nat.shiftLeft_eq, u1]
        cases (x / 9223372036854775808 % 2 == 1) <;> cases (z / 9223372036854775808 % 2 == 1) <;> simp
      simp only [Ieee.Datum.sum, hmin, Option.map_some, Option.getD_some, tot]
      by_cases h0 : x % 9223372036854775808 = 0
      · refine .inr ⟨?_, h0⟩
        rw [h0]
        cases (x / 9223372036854775808 % 2 == 1) <;> exact write_zero _ _
      · have hU : U (x % 9223372036854775808) ≠ 0 := fun c => h0 (U_eq_iff.1 (c.trans U_zero.symm))
        refine .of ?_
        have hw : ∀ s : Bool, (x / 9223372036854775808 % 2 == 1) = s → Ieee.double.write (.number (if (if s then -(U (x % 9223372036854775808) : Int) else (U (x % 9223372036854775808) : Int)) = 0 then s && (z / 9223372036854775808 % 2 == 1) else decide ((if s then -(U (x % 9223372036854775808) : Int) else (U (x % 9223372036854775808) : Int)) < 0)) (if s then -(U (x % 9223372036854775808) : Int) else (U (x % 9223372036854775808) : Int)).natAbs (-1074)) = x := fun s hs => by
          have e2 : Ieee.double.write (.number s (U (x % 9223372036854775808)) (-1074)) = x := by
            show Ieee.double.nearest s _ _ = x
            rw [near_at s (by omega)]
            have : (-1074 - -1074 : Int).toNat = 0 := by omega
            rw [this, Nat.pow_zero, Nat.mul_one, nearU_U (by omega), ← hs]
            exact word_of hl
          cases s with
          | false =>
            simp only [Bool.false_eq_true, if_false]
            rw [if_neg (by omega), decide_eq_false (by omega), Int.natAbs_natCast]
            exact e2
          | true =>
            simp only [if_true]
            rw [if_neg (by omega), decide_eq_true (by omega), Int.natAbs_neg, Int.natAbs_natCast]
            exact e2
        exact hw _ rfl
theorem E0.add {u u' v v' : Nat} (hu : Fw u) (hu' : Fw u') (hv : Fw v) (hv' : Fw v') (h : E0 u u') (k : E0 v v') : E0 (fadd u v) (fadd u' v') := by
  have left : ∀ {a z z' : Nat}, Fw a → z % 9223372036854775808 = 0 → z' % 9223372036854775808 = 0 → E0 (fadd a z) (fadd a z') := fun ha h1 h2 => (fadd_zero ha h1).trans (fadd_zero ha h2).symm
  rcases k with rfl | ⟨k1, k2⟩
  · rcases h with rfl | ⟨h1, h2⟩
    · exact .refl _
    · rw [fadd_comm u v, fadd_comm u' v]; exact left hv h1 h2
  · refine (left hu k1 k2).trans ?_
    rcases h with rfl | ⟨h1, h2⟩
    · exact .refl _
    · rw [fadd_comm u v', fadd_comm u' v']; exact left hv' h1 h2
theorem Fw.fadd (x y : Nat) : Fw (Sx.fadd x y) := ⟨fadd_lt _ _, cn_fadd _ _⟩
theorem Fw.fsub (x y : Nat) : Fw (Sx.fsub x y) := ⟨fsub_lt _ _, cn_fsub _ _⟩
theorem Fw.fmul (x y : Nat) : Fw (Sx.fmul x y) := ⟨fmul_lt _ _, cn_fmul _ _⟩
end Go.Sx
set_option linter.unusedSimpArgs false
set_option linter.unusedVariables false
namespace Go.Sx
open Ieee (Datum)
def V (x : Nat) : Int := if x / 9223372036854775808 % 2 == 1 then -(U (x % 9223372036854775808) : Int) else (U (x % 9223372036854775808) : Int)
def W (n : Int) : Nat := Ieee.double.nearest (decide (n < 0)) n.natAbs 0
end Go.Sx
set_option linter.unusedSimpArgs false
set_option linter.unusedVariables false
namespace Go.Sx
open M
variable {P : Program} {n B K K' : Nat}
def ABk.lowR (N : Nat) : ABk → Prop
  | .cells _ _ m c => ∀ i, i < m → ∀ v, v ∈ c.row i → v.low N = true
  | _ => True
theorem BkOk.lowB {N N' : Nat} {μ μ' : MM} {hp hp' : Array Obj} {g : Nat} {b : ABk} (r : BkOk N μ hp g b) (hl : b.lowR K) (hu : MM.upto K μ μ') (hg : g < K) (hK : K ≤ N') (hB : b.real μ g → hp'[μ.blk g]? = hp[μ.blk g]?) : BkOk N' μ' hp' g b := by
  have r1 : BkOk K μ hp g b := by
    cases b with
    | cells own sz m c =>
      refine ⟨r.1, r.2.1, fun hr => ?_⟩
      obtain ⟨cur, ty, fz, h1, h2, h3, h4⟩ := r.2.2 hr
      refine ⟨cur, ty, fz, h1, h2, h3, fun i hi => ⟨(h4 i hi).1, fun o v hv => ?_⟩⟩
      obtain ⟨k1, cv, k2, k3⟩ := (h4 i hi).2 o v hv
      exact ⟨k1, cv, k2, Rep.ofLow (.refl _ _) (hl i hi v (List.mem_of_getElem? hv)) k3⟩
    | _ => exact r
  exact r1.later hu hK hg hB
theorem frame_at {H H0 H0' H' : T ABk} {μ μ' : MM} {w w' : World} (hg : GOk K μ w.heap H) (hsub : ∀ i b, H0.get i = some b → H.get i = some b)
    (hlow : ∀ i b, H.get i = some b → H0.get i = none → i < B ∧ b.lowR B) (hB : B ≤ K')
    (hc : ∀ i b, H'.get i = some b → (H0'.get i = some b ∧ (b.owned = true ∨ (i < B ∧ ∃ b0, H0.get i = some b0 ∧ ∀ μ, b.real μ i → b0.real μ i))) ∨ (H0.get i = none ∧ H.get i = some b))
    (k1 : GOk K' μ' w'.heap H0') (k2 : ExtB B H0 μ w H0' μ' w') : GOk K' μ' w'.heap H' ∧ ExtB B H μ w H' μ' w' := by
  have nomay : ∀ i b, H.get i = some b → H0.get i = none → b.real μ i → ¬ May μ H0 (μ.blk i) := by
    rintro i b hb h0 hr ⟨g, b0, m1, m2, m3, m4⟩
    have := hg.sep g b0 i b (hsub _ _ m1) hb m2 m3 hr m4
    subst this
    rw [m1] at h0; cases h0
  have nomay' : ∀ i b, H.get i = some b → H0.get i = none → b.real μ i → ¬ May μ' H0' (μ.blk i) := fun i b hb h0 hr hm =>
    nomay i b hb h0 hr (k2.may _ ((hg.ok i b hb).lt_size hr) hm)
  refine ⟨⟨fun i b hb => ?_, fun i b hb => ?_, fun i b j b' hi hj ho hr hr' he => ?_⟩, ⟨k2.names, k2.os, k2.tape, k2.output, k2.size, fun b hb hn => k2.block b hb fun hm => hn ?_, fun b hb hm => ?_⟩⟩
  · rcases hc i b hb with ⟨h, _⟩ | ⟨h0, h⟩
    · exact k1.lt i b h
    · have := (hlow i b h h0).1; omega
  · rcases hc i b hb with ⟨h, _⟩ | ⟨h0, h⟩
    · exact k1.ok i b h
    · obtain ⟨l1, l2⟩ := hlow i b h h0
      exact (hg.ok i b h).lowB l2 k2.names l1 hB fun hr => k2.block _ ((hg.ok i b h).lt_size hr) (nomay i b h h0 hr)
  · rcases hc i b hi with ⟨h, _⟩ | ⟨h0, h⟩
    · rcases hc j b' hj with ⟨h', _⟩ | ⟨h0', h'⟩
      · exact k1.sep i b j b' h h' ho hr hr' he
      · obtain ⟨l1, l2⟩ := hlow j b' h' h0'
        rw [ABk.real_later k2.names l1] at hr'
        rw [k2.names.blk j l1] at he
        exact (nomay' j b' h' h0' hr' ⟨i, b, h, ho, hr, he⟩).elim
    · obtain ⟨l1, l2⟩ := hlow i b h h0
      rw [ABk.real_later k2.names l1] at hr
      rw [k2.names.blk i l1] at he
      rcases hc j b' hj with ⟨h', hw⟩ | ⟨h0', h'⟩
      · rcases hw with hw | ⟨l3, b0, h3, h4⟩
        · exact (nomay' i b h h0 hr ⟨j, b', h', hw, hr', he.symm⟩).elim
        · rw [ABk.real_later k2.names l3] at hr'
          rw [k2.names.blk j l3] at he
          have := hg.sep i b j b0 h (hsub _ _ h3) ho hr (h4 _ hr') he
          exact this
      · obtain ⟨l3, l4⟩ := hlow j b' h' h0'
        rw [ABk.real_later k2.names l3] at hr'
        rw [k2.names.blk j l3] at he
        exact hg.sep i b j b' h h' ho hr hr' he
  · obtain ⟨g, b0, m1, m2, m3, m4⟩ := hm
    exact ⟨g, b0, hsub _ _ m1, m2, m3, m4⟩
  · obtain ⟨g, b0, m1, m2, m3, m4⟩ := hm
    rcases hc g b0 m1 with ⟨h, _⟩ | ⟨h0, h⟩
    · obtain ⟨g', b1, q1, q2, q3, q4⟩ := k2.may b hb ⟨g, b0, h, m2, m3, m4⟩
      exact ⟨g', b1, hsub _ _ q1, q2, q3, q4⟩
    · obtain ⟨l1, l2⟩ := hlow g b0 h h0
      rw [ABk.real_later k2.names l1] at m3
      rw [k2.names.blk g l1] at m4
      exact ⟨g, b0, h, m2, m3, m4⟩
theorem hpL_app : ∀ (l l' : List (Nat × ABk)) (i : Nat), (hpL (l ++ l')).get i = ((hpL l).get i).or ((hpL l').get i)
  | [], l', i => by simp [hpL, T.get_e]
  | p :: l, l', i => by
    simp only [List.cons_append, hpL, T.get_upd]
    split
    · rfl
    · exact hpL_app l l' i
def dis (l l' : List (Nat × ABk)) : Bool := l.all fun p => l'.all fun q => !Nat.beq p.1 q.1
theorem dis_ne {l l' : List (Nat × ABk)} (h : dis l l' = true) {i : Nat} {b b' : ABk} (h1 : (hpL l).get i = some b) (h2 : (hpL l').get i = some b') : False := by
  unfold dis at h
  have h3 := List.all_eq_true.1 (List.all_eq_true.1 h _ (hpL_get h1)) _ (hpL_get h2)
  simp at h3
def LowL (B : Nat) : List (Nat × ABk) → Prop
  | [] => True
  | p :: l => (p.1 < B ∧ p.2.lowR B) ∧ LowL B l
theorem LowL.get {B : Nat} : ∀ {l : List (Nat × ABk)}, LowL B l → ∀ p ∈ l, p.1 < B ∧ p.2.lowR B
  | q :: l, h, p, hp => by
    rcases List.mem_cons.1 hp with rfl | hp
    · exact h.1
    · exact LowL.get h.2 p hp
def OwnL (B : Nat) (bl : List (Nat × ABk)) : List (Nat × ABk) → Prop
  | [] => True
  | p :: l => (p.2.owned = true ∨ (p.1 < B ∧ ∃ b0, (hpL bl).get p.1 = some b0 ∧ ∀ μ, p.2.real μ p.1 → b0.real μ p.1)) ∧ OwnL B bl l
theorem OwnL.get {B : Nat} {bl : List (Nat × ABk)} : ∀ {l : List (Nat × ABk)}, OwnL B bl l → ∀ p ∈ l, p.2.owned = true ∨ (p.1 < B ∧ ∃ b0, (hpL bl).get p.1 = some b0 ∧ ∀ μ, p.2.real μ p.1 → b0.real μ p.1)
  | q :: l, h, p, hp => by
    rcases List.mem_cons.1 hp with rfl | hp
    · exact h.1
    · exact OwnL.get h.2 p hp
theorem AtB.frameL {bl bl' xl : List (Nat × ABk)} {fr' : Fr} {a a' : Act} {μ : MM} {w w' : World} (hg : GOk K μ w.heap (hpL (bl ++ xl))) (hB : B ≤ K') (hx : LowL B xl) (hd : dis bl xl = true) (hd' : dis bl' xl = true) (ho : OwnL B bl bl')
    (h : AtB n B K' (hpL bl) μ w (hpL bl') fr' a a' w') : AtB n B K' (hpL (bl ++ xl)) μ w (hpL (bl' ++ xl)) fr' a a' w' := by
  obtain ⟨μ', k1, k2, k3, k4⟩ := h.of
  have q := frame_at (H' := hpL (bl' ++ xl)) hg (fun i b hb => by rw [hpL_app, hb]; rfl) (fun i b hb h0 => by
    rw [hpL_app, h0] at hb
    exact hx.get _ (hpL_get hb)) hB (fun i b hb => by
    rw [hpL_app] at hb
    cases h1 : (hpL bl').get i with
    | some b1 =>
      rw [h1] at hb
      cases hb
      exact .inl ⟨rfl, ho.get _ (hpL_get h1)⟩
    | none =>
      rw [h1] at hb
      refine .inr ?_
      cases h2 : (hpL bl).get i with
      | some b2 => exact (dis_ne hd h2 hb).elim
      | none => exact ⟨rfl, by rw [hpL_app, h2]; exact hb⟩) k1 k2
  exact ⟨μ', q.1, q.2, k3, k4⟩
theorem GoesB.frameL {c : Code} {fr : Fr} {bl xl : List (Nat × ABk)} {Post Post' : Po} (h : GoesB P c n B K K' fr (hpL bl) Post) (hB : B ≤ K') (hx : LowL B xl) (hd : dis bl xl = true)
    (k : ∀ e fr' H0', Post e fr' H0' → ∃ bl', H0' = hpL bl' ∧ dis bl' xl = true ∧ OwnL B bl bl' ∧ Post' e fr' (hpL (bl' ++ xl))) : GoesB P c n B K K' fr (hpL (bl ++ xl)) Post' := by
  intro μ w a hg hf Q hQ
  refine h μ w a (hg.sub fun i b hb => by rw [hpL_app, hb]; rfl) hf Q fun e fr' H0' a' w' hp ha => ?_
  obtain ⟨bl', rfl, h1, h2, h3⟩ := k _ _ _ hp
  exact hQ e fr' _ a' w' h3 (ha.frameL hg hB hx hd h1 h2)
def ABk.ren (σ : Nat → Nat) : ABk → ABk
  | .cells own sz m c => .cells own sz m (.fn fun i => rens σ (c.row i))
  | b => b
theorem rens_length (σ : Nat → Nat) : ∀ l : List AV, (rens σ l).length = l.length
  | [] => rfl
  | v :: l => by simp [rens, rens_length σ l]
theorem rens_get (σ : Nat → Nat) : ∀ (l : List AV) (i : Nat), (rens σ l)[i]? = (l[i]?).map (AV.ren σ)
  | [], i => by simp [rens]
  | v :: l, 0 => by simp [rens]
  | v :: l, i + 1 => by simp [rens, rens_get σ l i]
theorem one_ren (σ : Nat → Nat) (v : AV) : (v.ren σ).one = v.one := by cases v <;> simp [AV.ren, AV.one]
theorem BkOk.unren {N N' : Nat} {μ μ' : MM} {σ : Nat → Nat} {hp : Array Obj} {g g' : Nat} {b : ABk} (h : BkOk N μ hp g' (b.ren σ)) (hl : b.lowR N') (e0 : ∀ i, i < N' → AtN (μ.via σ) μ' i)
    (e1 : μ'.blk g = μ.blk g') (e2 : μ'.cap g = μ.cap g') (e3 : μ'.sz g = μ.sz g') (e4 : μ'.base g = μ.base g') : BkOk N' μ' hp g b := by
  cases b with
  | cells own sz m c =>
    simp only [BkOk, ABk.ren, e1, e2, e3, e4] at h ⊢
    refine ⟨h.1, h.2.1, fun hr => ?_⟩
    obtain ⟨cur, ty, fz, h1, h2, h3, h4⟩ := h.2.2 hr
    refine ⟨cur, ty, fz, h1, h2, h3, fun i hi => ⟨by have := (h4 i hi).1; simpa [Cont.row, rens_length] using this, fun o v hv => ?_⟩⟩
    obtain ⟨k1, cv, k2, k3⟩ := (h4 i hi).2 o (v.ren σ) (by show (rens σ (c.row i))[o]? = _; rw [rens_get, hv]; rfl)
    have hlow := hl i hi v (List.mem_of_getElem? hv)
    refine ⟨by rw [← one_ren σ]; exact k1, cv, k2, ?_⟩
    have k4 := Rep.unren (N' := N') k3 hlow
    exact k4.on (S := fun g => g < N') (fun g _ hg => ⟨hg, e0 g hg⟩) (Rep.inN k4)
  | mSI s l => simp only [BkOk, ABk.ren, e1] at h ⊢; exact h
  | mII s l => simp only [BkOk, ABk.ren, e1] at h ⊢; exact h
  | sit s l pos => simp only [BkOk, ABk.ren, e1, e4] at h ⊢; exact h
theorem ABk.ren_owned (σ : Nat → Nat) (b : ABk) : (b.ren σ).owned = b.owned := by cases b <;> rfl
theorem ABk.ren_real (σ : Nat → Nat) (b : ABk) (μ : MM) (g : Nat) : (b.ren σ).real μ g ↔ b.real μ g := by cases b <;> rfl
def RenG (K' : Nat) (σ : Nat → Nat) (H : T ABk) : List (Nat × ABk) → Prop
  | [] => True
  | p :: l => (∃ b, H.get (σ p.1) = some b ∧ SameC b (p.2.ren σ) ∧ p.2.lowR K' ∧ p.1 < K') ∧ RenG K' σ H l
theorem RenG.get {σ : Nat → Nat} {H : T ABk} : ∀ {l : List (Nat × ABk)}, RenG K' σ H l → ∀ p ∈ l, ∃ b, H.get (σ p.1) = some b ∧ SameC b (p.2.ren σ) ∧ p.2.lowR K' ∧ p.1 < K'
  | q :: l, h, p, hp => by
    rcases List.mem_cons.1 hp with rfl | hp
    · exact h.1
    · exact RenG.get h.2 p hp
theorem AtB.renG {K'' : Nat} {σ : Nat → Nat} {fl : List (Nat × AV)} {bl : List (Nat × ABk)} {fr' : Fr} {H H' : T ABk} {a a' : Act} {μ : MM} {w w' : World} (hk : ∀ g, g < B → σ g = g) (hF : RenF K'' σ fr' fl) (hB : RenG K'' σ H' bl) (hinj : ∀ i j, i < K'' → j < K'' → σ i = σ j → i = j)
    (ha : AtB n B K' H μ w H' fr' a a' w') : AtB n B K'' H μ w (hpL bl) (frL fl) a a' w' := by
  obtain ⟨μ', k1, k2, k3, k4⟩ := ha.of
  have G := fun i b (hb : (hpL bl).get i = some b) => hB.get _ (hpL_get hb)
  refine ⟨μ'.via σ, ⟨fun i b hb => ?_, fun i b hb => ?_, fun i b j b' hi hj ho hr hr' he => ?_⟩, ⟨⟨fun g hg => ?_, fun g hg => ?_, fun g hg => ?_, fun g hg => ?_⟩, k2.os, k2.tape, k2.output, k2.size, k2.block, fun b hb hm => k2.may b hb ?_⟩, ⟨k3.size, fun t v ht => ?_⟩, k4⟩
  · obtain ⟨b0, h1, h2, h3, h4⟩ := G i b hb; exact h4
  · obtain ⟨b0, h1, h2, h3, h4⟩ := G i b hb
    exact (h2.ok (k1.ok _ _ h1)).unren h3 (fun i _ => ⟨rfl, rfl, rfl, rfl⟩) rfl rfl rfl rfl
  · obtain ⟨b0, h1, h2, h3, h4⟩ := G i b hi
    obtain ⟨b1, l1, l2, l3, l4⟩ := G j b' hj
    exact hinj i j h4 l4 (k1.sep _ _ _ _ h1 l1 (by rw [h2.owned, ABk.ren_owned]; exact ho) ((h2.real _ _).2 ((ABk.ren_real _ _ _ _).2 ((ABk.real_eq rfl b).1 hr))) ((l2.real _ _).2 ((ABk.ren_real _ _ _ _).2 ((ABk.real_eq rfl b').1 hr'))) he)
  · show μ'.blk (σ g) = _; rw [hk g hg]; exact k2.names.blk g hg
  · show μ'.cap (σ g) = _; rw [hk g hg]; exact k2.names.cap g hg
  · show μ'.sz (σ g) = _; rw [hk g hg]; exact k2.names.sz g hg
  · show μ'.base (σ g) = _; rw [hk g hg]; exact k2.names.base g hg
  · obtain ⟨i, x, m1, m2, m3, m4⟩ := hm
    obtain ⟨b0, h1, h2, h3, h4⟩ := G i x m1
    exact ⟨σ i, b0, h1, by rw [h2.owned, ABk.ren_owned]; exact m2, (h2.real _ _).2 ((ABk.ren_real _ _ _ _).2 ((ABk.real_eq rfl x).1 m3)), m4⟩
  · obtain ⟨u, h1, h2, h3⟩ := hF.get _ (frL_get ht)
    exact (h2 _ _ _ (k3.val t u h1)).unren h3
theorem GoesB.renG {K'' : Nat} {c : Code} {fr : Fr} {H : T ABk} {Post Post' : Po} (h : GoesB P c n B K K' fr H Post)
    (k : ∀ e fr' H', Post e fr' H' → ∃ σ fl bl, (∀ g, g < B → σ g = g) ∧ RenF K'' σ fr' fl ∧ RenG K'' σ H' bl ∧ (∀ i j, i < K'' → j < K'' → σ i = σ j → i = j) ∧ Post' e (frL fl) (hpL bl)) : GoesB P c n B K K'' fr H Post' := by
  intro μ w a hg hf Q hQ
  refine h μ w a hg hf Q fun e fr' H' a' w' hp ha => ?_
  obtain ⟨σ, fl, bl, hk, hF, hB, hinj, hp'⟩ := k _ _ _ hp
  exact hQ e _ _ a' w' hp' (ha.renG hk hF hB hinj)
end Go.Sx
set_option linter.unusedSimpArgs false
set_option linter.unusedVariables false
namespace Go.Sx
open M
structure Keeps (w w' : World) (b m : Nat) : Prop where
  other : ∀ B, B < w.heap.size → B ≠ b → w'.heap[B]? = w.heap[B]?
  low : ∀ cur ty fz, w.heap[b]? = some (.cells cur ty fz) → ∃ cur', w'.heap[b]? = some (.cells cur' ty fz) ∧ cur'.size = cur.size ∧ ∀ o, o < m → cur'[o]? = cur[o]?
theorem Keeps.refl (w : World) (b m : Nat) : Keeps w w b m := ⟨fun _ _ _ => rfl, fun cur ty fz h => ⟨cur, h, rfl, fun _ _ => rfl⟩⟩
theorem Keeps.alloc (w : World) (o : Obj) (b m : Nat) : Keeps w (w.drew.alloc o) b m := by
  have e : ∀ B, B < w.heap.size → (w.drew.alloc o).heap[B]? = w.heap[B]? := fun B hB => by
    show (w.heap.push o)[B]? = _
    rw [Array.getElem?_push_lt hB, Array.getElem?_eq_getElem hB]
  exact ⟨fun B hB _ => e B hB, fun cur ty fz h => ⟨cur, by rw [e b ((Array.getElem?_eq_some_iff.1 h).1)]; exact h, rfl, fun _ _ => rfl⟩⟩
variable {P : Program} {n B K K' : Nat}
structure VX (B j sz m : Nat) (c : Cont) (μ : MM) (w : World) : Prop where
  ok : BkOk B μ w.heap j (.cells false sz m c)
  base : 0 < m → μ.base j = 0
theorem VX.real {j sz m : Nat} {c : Cont} {μ : MM} (h : (ABk.cells false sz m c).real μ j) : 0 < m := by
  rcases h with h | ⟨h, _⟩
  · exact h
  · cases h
theorem VX.stab {j sz m : Nat} {c : Cont} {μ μ' : MM} {w w' : World} (h : VX B j sz m c μ w) (hj : j < B) (hl : (ABk.cells false sz m c).lowR B) (hu : MM.upto B μ μ') (hs : ∀ b, b < w.heap.size → w'.heap[b]? = w.heap[b]?) : VX B j sz m c μ' w' :=
  ⟨h.ok.lowB hl hu hj (Nat.le_refl _) fun hr => hs _ (h.ok.lt_size hr), fun hm => by rw [hu.base j hj]; exact h.base hm⟩
theorem VX.keep {j sz m : Nat} {c : Cont} {μ μ' : MM} {w w' : World} {b k : Nat} (h : VX B j sz m c μ w) (hj : j < B) (hl : (ABk.cells false sz m c).lowR B) (hu : MM.upto B μ μ') (hk : Keeps w w' b k) (hm : m * sz ≤ k) : VX B j sz m c μ' w' := by
  refine ⟨⟨by rw [hu.sz j hj]; exact h.ok.1, h.ok.2.1, fun hr => ?_⟩, fun hm => by rw [hu.base j hj]; exact h.base hm⟩
  have h0 : 0 < m := by
    rcases hr with hr | ⟨hr, _⟩
    · exact hr
    · cases hr
  obtain ⟨cur, ty, fz, h1, h2, h3, h4⟩ := h.ok.2.2 (.inl h0)
  have hb0 := h.base h0
  have hlt := (Array.getElem?_eq_some_iff.1 h1).1
  obtain ⟨cur', e1, e2, e3⟩ : ∃ cur', w'.heap[μ.blk j]? = some (.cells cur' ty fz) ∧ cur'.size = cur.size ∧ ∀ o, o < k → cur'[o]? = cur[o]? := by
    by_cases hb : μ.blk j = b
    · rw [hb] at h1 ⊢; exact hk.low _ _ _ h1
    · exact ⟨cur, by rw [hk.other _ hlt hb]; exact h1, rfl, fun _ _ => rfl⟩
  refine ⟨cur', ty, fz, by rw [hu.blk j hj]; exact e1, by rw [hu.base j hj, e2]; exact h2, fun h => (by cases h), fun i hi => ⟨(h4 i hi).1, fun o v hv => ?_⟩⟩
  obtain ⟨k1, cv, k2, k3⟩ := (h4 i hi).2 o v hv
  have ho : o < sz := by have := (List.getElem?_eq_some_iff.1 hv).1; have := (h4 i hi).1; omega
  have hfit : (i + 1) * sz ≤ m * sz := Nat.mul_le_mul_right _ hi
  rw [Nat.add_mul] at hfit
  rw [hb0] at k2
  refine ⟨k1, cv, by rw [hu.base j hj, hb0, e3 _ (by omega)]; exact k2, ?_⟩
  exact (Rep.ofLow (.refl _ _) (hl i hi v (List.mem_of_getElem? hv)) k3).later hu (Nat.le_refl _)
structure AtX (n B K : Nat) (X : MM → World → Prop) (H : T ABk) (μ : MM) (w : World) (H' : T ABk) (fr' : Fr) (a a' : Act) (w' : World) : Prop where
  of : ∃ μ', GOk K μ' w'.heap H' ∧ ExtB B H μ w H' μ' w' ∧ FrOk K μ' fr' a'.tmps n ∧ a'.defers = a.defers ∧ X μ' w'
def GoesX (P : Program) (c : Code) (n B K K' : Nat) (X : MM → World → Prop) (fr : Fr) (H : T ABk) (Post : Po) : Prop :=
  ∀ μ w (a : Act), GOk K μ w.heap H → FrOk K μ fr a.tmps n → X μ w → ∀ Q : Exit → Act → World → Prop, (∀ e fr' H' a' w', Post e fr' H' → AtX n B K' X H μ w H' fr' a a' w' → Q e.ex a' w') → c.wp P Q a w
section
variable {X : MM → World → Prop}
theorem AtX.trans {H H' H'' : T ABk} {μ : MM} {w w' w'' : World} {fr'' : Fr} {a a' a'' : Act} {μ' : MM} (h1 : ExtB B H μ w H' μ' w') (h2 : a'.defers = a.defers) (h : AtX n B K X H' μ' w' H'' fr'' a' a'' w'') : AtX n B K X H μ w H'' fr'' a a'' w'' := by
  obtain ⟨μ'', k1, k2, k3, k4, k5⟩ := h.of
  exact ⟨μ'', k1, h1.trans k2, k3, k4.trans h2, k5⟩
theorem AtX.up {H H' : T ABk} {μ : MM} {w w' : World} {fr' : Fr} {a a' : Act} (h : AtX n B K X H μ w H' fr' a a' w') (hK : K ≤ K') : AtX n B K' X H μ w H' fr' a a' w' := by
  obtain ⟨μ', k1, k2, k3, k4, k5⟩ := h.of
  exact ⟨μ', k1.up hK fun _ _ h => h, k2, k3.later (.refl _ _) hK, k4, k5⟩
theorem GoesX.mono {c : Code} {fr : Fr} {H : T ABk} {Post Post' : Po} (h : GoesX P c n B K K' X fr H Post) (k : ∀ e fr' H', Post e fr' H' → Post' e fr' H') : GoesX P c n B K K' X fr H Post' :=
  fun μ w a hg hf hx Q hQ => h μ w a hg hf hx Q fun e fr' H' a' w' hp ha => hQ e fr' H' a' w' (k _ _ _ hp) ha
theorem GoesX.seq {K1 : Nat} {x y : Code} {fr : Fr} {H : T ABk} {Post : Po} (hK : K1 ≤ K')
    (h : GoesX P x n B K K1 X fr H fun e fr' H' => match e with
      | .normal => GoesX P y n B K1 K' X fr' H' Post
      | e => Post e fr' H') : GoesX P (.seq x y) n B K K' X fr H Post := by
  intro μ w a hg hf hx Q hQ
  refine wp_seq (h μ w a hg hf hx _ fun e fr' H' a' w' hp ha => ?_)
  cases e with
  | normal =>
    obtain ⟨μ', k1, k2, k3, k4, k5⟩ := ha.of
    exact hp μ' w' a' k1 k3 k5 Q fun e'' fr'' H'' a'' w'' hp' ha' => hQ _ _ _ _ _ hp' (AtX.trans k2 k4 ha')
  | exit id => exact hQ _ _ _ _ _ hp (ha.up hK)
  | ret => exact hQ _ _ _ _ _ hp (ha.up hK)
theorem GoesX.block {id : Nat} {c : Code} {fr : Fr} {H : T ABk} {Post : Po}
    (h : GoesX P c n B K K' X fr H fun e fr' H' => match e with
      | .exit id' => if id' = id then Post .normal fr' H' else Post (.exit id') fr' H'
      | e => Post e fr' H') : GoesX P (.block id c) n B K K' X fr H Post := by
  intro μ w a hg hf hx Q hQ
  refine wp_block (h μ w a hg hf hx _ fun e fr' H' a' w' hp ha => ?_)
  cases e with
  | normal => exact hQ _ _ _ _ _ hp ha
  | ret => exact hQ _ _ _ _ _ hp ha
  | exit id' =>
    simp only [Ex.ex, Exit.inBlock]
    by_cases he : id' = id
    · simp only [he, if_true] at hp ⊢
      exact hQ .normal _ _ _ _ hp ha
    · simp only [if_neg he] at hp ⊢
      exact hQ (.exit id') _ _ _ _ hp ha
theorem GoesX.loop {c : Code} {Post : Po} (I : Nat → Fr → T ABk → Prop)
    (h : ∀ k fr H, I k fr H → GoesX P c n B K K X fr H fun e fr' H' => match e with
      | .normal => ∃ k', k' < k ∧ I k' fr' H'
      | e => Post e fr' H') : ∀ k fr H, I k fr H → GoesX P (.loop c) n B K K X fr H Post := by
  have key : ∀ R k fr H, k < R → I k fr H → ∀ μ w (a : Act), GOk K μ w.heap H → FrOk K μ fr a.tmps n → X μ w → ∀ Q : Exit → Act → World → Prop, (∀ e fr' H' a' w', Post e fr' H' → AtX n B K X H μ w H' fr' a a' w' → Q e.ex a' w') → Code.rounds P c Q R a w := by
    intro R
    induction R with
    | zero => intro k fr H hk; omega
    | succ R ih =>
      intro k fr H hkR hI μ w a hg hf hx Q hQ
      rw [rounds_succ]
      refine wp_mono (h k fr H hI μ w a hg hf hx (fun e a' w' => (e = .normal ∧ ∃ k' fr' H', k' < k ∧ I k' fr' H' ∧ AtX n B K X H μ w H' fr' a a' w') ∨ (e ≠ .normal ∧ Q e a' w')) fun e fr' H' a' w' hp ha => ?_) ?_
      · cases e with
        | normal =>
          obtain ⟨k', hk, hI'⟩ := hp
          exact .inl ⟨rfl, k', fr', H', hk, hI', ha⟩
        | exit id => exact .inr ⟨by simp [Ex.ex], hQ (.exit id) _ _ _ _ hp ha⟩
        | ret => exact .inr ⟨by simp [Ex.ex], hQ .ret _ _ _ _ hp ha⟩
      · rintro e a' w' (⟨rfl, k', fr', H', hk, hI', ha⟩ | ⟨hne, hq⟩)
        · obtain ⟨μ', k1, k2, k3, k4, k5⟩ := ha.of
          exact ih k' fr' H' (by omega) hI' μ' w' a' k1 k3 k5 Q fun e'' fr'' H'' a'' w'' hp' ha' => hQ _ _ _ _ _ hp' (AtX.trans k2 k4 ha')
        · cases e <;> first | exact absurd rfl hne | exact hq
  intro k fr H hI μ w a hg hf hx Q hQ
  exact wp_loop_rounds (k + 1) (key (k + 1) k fr H (by omega) hI μ w a hg hf hx Q hQ)
end
section
variable {j sz m : Nat} {cj : Cont}
theorem GoesX.pure {B' : Nat} {c : Code} {fr : Fr} {bl xl : List (Nat × ABk)} {Post Post' : Po} (hj : j < B) (hl : (ABk.cells false sz m cj).lowR B) (hBB : B ≤ B') (h : GoesB P c n B' K K' fr (hpL bl) Post) (hB : B' ≤ K') (hv : ∀ p ∈ bl, p.2.owned = false) (hx : LowL B' xl) (hd : dis bl xl = true)
    (k : ∀ e fr' H0', Post e fr' H0' → ∃ bl', H0' = hpL bl' ∧ dis bl' xl = true ∧ OwnL B' bl bl' ∧ Post' e fr' (hpL (bl' ++ xl))) : GoesX P c n B K K' (VX B j sz m cj) fr (hpL (bl ++ xl)) Post' := by
  intro μ w a hg hf hX Q hQ
  refine h μ w a (hg.sub fun i b hb => by rw [hpL_app, hb]; rfl) hf Q fun e fr' H0' a' w' hp ha => ?_
  obtain ⟨bl', rfl, h1, h2, h3⟩ := k _ _ _ hp
  obtain ⟨μ', k1, k2, k3, k4⟩ := ha.of
  have nm : ∀ b, ¬ May μ (hpL bl) b := fun b ⟨i, x, m1, m2, _⟩ => by
    have := hv _ (hpL_get m1)
    rw [m2] at this; cases this
  obtain ⟨μ2, q1, q2, q3, q4⟩ : ∃ μ2, GOk K' μ2 w'.heap (hpL (bl' ++ xl)) ∧ ExtB B (hpL (bl ++ xl)) μ w (hpL (bl' ++ xl)) μ2 w' ∧ FrOk K' μ2 fr' a'.tmps n ∧ VX B j sz m cj μ2 w' := by
    have q := frame_at (H' := hpL (bl' ++ xl)) hg (fun i b hb => by rw [hpL_app, hb]; rfl) (fun i b hb h0 => by
      rw [hpL_app, h0] at hb
      exact hx.get _ (hpL_get hb)) hB (fun i b hb => by
      rw [hpL_app] at hb
      cases h1 : (hpL bl').get i with
      | some b1 =>
        rw [h1] at hb
        cases hb
        exact .inl ⟨rfl, h2.get _ (hpL_get h1)⟩
      | none =>
        rw [h1] at hb
        refine .inr ?_
        cases h2 : (hpL bl).get i with
        | some b2 => exact (dis_ne hd h2 hb).elim
        | none => exact ⟨rfl, by rw [hpL_app, h2]; exact hb⟩) k1 k2
    exact ⟨μ', q.1, ⟨q.2.names.mono hBB, q.2.os, q.2.tape, q.2.output, q.2.size, q.2.block, q.2.may⟩, k3, hX.stab hj hl (k2.names.mono hBB) fun b hb => k2.block b hb (nm b)⟩
  exact hQ e fr' _ a' w' h3 ⟨μ2, q1, q2, q3, k4, q4⟩
theorem GoesX.renG {K'' : Nat} {c : Code} {fr : Fr} {H : T ABk} {Post Post' : Po} (hj : j < B) (hl : (ABk.cells false sz m cj).lowR B) (h : GoesX P c n B K K' (VX B j sz m cj) fr H Post)
    (k : ∀ e fr' H', Post e fr' H' → ∃ σ fl bl, (∀ g, g < B → σ g = g) ∧ RenF K'' σ fr' fl ∧ RenG K'' σ H' bl ∧ (∀ i j, i < K'' → j < K'' → σ i = σ j → i = j) ∧ Post' e (frL fl) (hpL bl)) : GoesX P c n B K K'' (VX B j sz m cj) fr H Post' := by
  intro μ w a hg hf hX Q hQ
  refine h μ w a hg hf hX Q fun e fr' H' a' w' hp ha => ?_
  obtain ⟨σ, fl, bl, hk, hF, hB, hinj, hp'⟩ := k _ _ _ hp
  obtain ⟨μ', k1, k2, k3, k4, k5⟩ := ha.of
  have G := fun i b (hb : (hpL bl).get i = some b) => hB.get _ (hpL_get hb)
  have u : MM.upto B μ' (μ'.via σ) := ⟨fun g hg => by show μ'.blk (σ g) = _; rw [hk g hg], fun g hg => by show μ'.cap (σ g) = _; rw [hk g hg], fun g hg => by show μ'.sz (σ g) = _; rw [hk g hg], fun g hg => by show μ'.base (σ g) = _; rw [hk g hg]⟩
  refine hQ e _ _ a' w' hp' ⟨μ'.via σ, ⟨fun i b hb => ?_, fun i b hb => ?_, fun i b j b' hi hj ho hr hr' he => ?_⟩, ⟨k2.names.trans u (Nat.le_refl _), k2.os, k2.tape, k2.output, k2.size, k2.block, fun b hb hm => k2.may b hb ?_⟩, ⟨k3.size, fun t v ht => ?_⟩, k4, k5.stab hj hl u fun _ _ => rfl⟩
  · obtain ⟨b0, h1, h2, h3, h4⟩ := G i b hb; exact h4
  · obtain ⟨b0, h1, h2, h3, h4⟩ := G i b hb
    exact (h2.ok (k1.ok _ _ h1)).unren h3 (fun i _ => ⟨rfl, rfl, rfl, rfl⟩) rfl rfl rfl rfl
  · obtain ⟨b0, h1, h2, h3, h4⟩ := G i b hi
    obtain ⟨b1, l1, l2, l3, l4⟩ := G j b' hj
    exact hinj i j h4 l4 (k1.sep _ _ _ _ h1 l1 (by rw [h2.owned, ABk.ren_owned]; exact ho) ((h2.real _ _).2 ((ABk.ren_real _ _ _ _).2 ((ABk.real_eq rfl b).1 hr))) ((l2.real _ _).2 ((ABk.ren_real _ _ _ _).2 ((ABk.real_eq rfl b').1 hr'))) he)
  · obtain ⟨i, x, m1, m2, m3, m4⟩ := hm
    obtain ⟨b0, h1, h2, h3, h4⟩ := G i x m1
    exact ⟨σ i, b0, h1, by rw [h2.owned, ABk.ren_owned]; exact m2, (h2.real _ _).2 ((ABk.ren_real _ _ _ _).2 ((ABk.real_eq rfl x).1 m3)), m4⟩
  · obtain ⟨u, h1, h2, h3⟩ := hF.get _ (frL_get ht)
    exact (h2 _ _ _ (k3.val t u h1)).unren h3
theorem opsPre {call : Calls'} (hcall : CallOk P call) {ops : Array Oper} {Q : Exit → Act → World → Prop} {l2 all : List Oper} : ∀ (l1 : List Oper) (fr fr' : Fr) (g g' : G), (∀ o ∈ l1, o.guard = none) → opsA0 P call n all l1 fr g = .done fr' g' →
    (g'.cs → g.cs) ∧ (g'.cs → ∀ μ w (a : Act), GOk g.nx μ w.heap g.H → FrOk g.nx μ fr a.tmps n → (∀ a' w', FrAfter n g μ w g' fr' a a' w' → wpList P ops Q l2 a' w') → wpList P ops Q (l1 ++ l2) a w)
  | [], fr, fr', g, g', _, h => by
    obtain ⟨rfl, rfl⟩ := ret_done h
    exact ⟨id, fun _ μ w a hg hf hK => hK a w ⟨μ, hg, Ext.refl _ _ _, hf, rfl⟩⟩
  | o :: rest, fr, fr', g, g', hgd, h => by
    unfold opsA0 at h
    have h0 := hgd o List.mem_cons_self
    rw [h0] at h
    obtain ⟨v, g1, a1, h1⟩ := done_of h
    obtain ⟨fr1, g2, a2, h2⟩ := done_of h1
    obtain ⟨hc1, hs1⟩ := opA_sound hcall a1
    obtain ⟨rfl, hp⟩ := putA_sound a2
    obtain ⟨hc2, hs2⟩ := opsPre hcall (ops := ops) (Q := Q) (l2 := l2) rest _ _ _ _ (fun o ho => hgd o (List.mem_cons_of_mem _ ho)) h2
    refine ⟨fun hc => hc1 (hc2 hc), fun hc μ w a hg hf hK => wpList_plain h0 fun K hK' => hs1 (hc2 hc) μ w a n hg hf _ _ fun c w' ha => ?_⟩
    obtain ⟨μ', hv, hg', hext⟩ := ha
    exact hK' _ _ (hs2 hc μ' w' _ hg' (hp _ _ _ _ (hf.later hext.names hext.nx) hv) fun a' w'' hk => hK _ _ (hk.trans hext (Act.put_defers _ _ _)))
theorem BkOk.view {N : Nat} {μ : MM} {hp : Array Obj} {g sz m : Nat} {c : Cont} (h : BkOk N μ hp g (.cells true sz m c)) : BkOk N μ hp g (.cells false sz m c) := by
  refine ⟨h.1, h.2.1, fun hr => ?_⟩
  obtain ⟨cur, ty, fz, h1, h2, h3, h4⟩ := h.2.2 (.inl (by
    rcases hr with hr | ⟨hr, _⟩
    · exact hr
    · cases hr))
  exact ⟨cur, ty, fz, h1, h2, fun h => (by cases h), h4⟩
end
end Go.Sx
set_option linter.unusedSimpArgs false
set_option linter.unusedVariables false
namespace Go.Sx
open M
variable {P : Program} {n B K K' : Nat}
abbrev Nm (F : List (Nat × AV)) (H : List (Nat × ABk)) : Po := fun e fr' H' => e = .normal ∧ fr' = frL F ∧ H' = hpL H
abbrev Xm (id : Nat) (F : List (Nat × AV)) (H : List (Nat × ABk)) : Po := fun e fr' H' => e = .exit id ∧ fr' = frL F ∧ H' = hpL H
theorem GoesB.lower {B' : Nat} {c : Code} {fr : Fr} {H : T ABk} {Post : Po} (h : GoesB P c n B' K K' fr H Post) (hB : B ≤ B') : GoesB P c n B K K' fr H Post :=
  fun μ w a hg hf Q hQ => h μ w a hg hf Q fun e fr' H' a' w' hp ha => hQ e fr' H' a' w' hp (by
    obtain ⟨μ', k1, k2, k3, k4⟩ := ha.of
    exact ⟨μ', k1, ⟨k2.names.mono hB, k2.os, k2.tape, k2.output, k2.size, k2.block, k2.may⟩, k3, k4⟩)
theorem GoesB.seqN {K1 : Nat} {x y : Code} {fr : Fr} {H : T ABk} {F1 : List (Nat × AV)} {H1 : List (Nat × ABk)} {Post : Po} (h1 : GoesB P x n B K K1 fr H (Nm F1 H1)) (hK : K1 ≤ K') (h2 : GoesB P y n B K1 K' (frL F1) (hpL H1) Post) : GoesB P (.seq x y) n B K K' fr H Post :=
  GoesB.seq hK (h1.mono fun e fr' H' ⟨e1, e2, e3⟩ => by subst e1 e2 e3; exact h2)
theorem GoesB.blockN {id : Nat} {c : Code} {fr : Fr} {H : T ABk} {F1 : List (Nat × AV)} {H1 : List (Nat × ABk)} (h : GoesB P c n B K K' fr H (Nm F1 H1)) : GoesB P (.block id c) n B K K' fr H (Nm F1 H1) :=
  GoesB.block (h.mono fun e fr' H' ⟨e1, e2, e3⟩ => by subst e1; exact ⟨rfl, e2, e3⟩)
theorem GoesB.toN {c : Code} {fr : Fr} {H : T ABk} {F F' : List (Nat × AV)} {H1 H1' : List (Nat × ABk)} (h : GoesB P c n B K K' fr H (Nm F H1)) (hf : Ge (frL F) F') (hh : GeH (hpL H1) H1') : GoesB P c n B K K' fr H (Nm F' H1') :=
  h.post fun e fr' H' ⟨e1, e2, e3⟩ => by subst e1 e2 e3; exact ⟨F', H1', hf, hh, rfl, rfl, rfl⟩
theorem GoesB.seqX {K1 id : Nat} {x y : Code} {fr : Fr} {H : T ABk} {F1 : List (Nat × AV)} {H1 : List (Nat × ABk)} (h1 : GoesB P x n B K K1 fr H (Xm id F1 H1)) (hK : K1 ≤ K') : GoesB P (.seq x y) n B K K' fr H (Xm id F1 H1) :=
  GoesB.seq hK (h1.mono fun e fr' H' ⟨e1, e2, e3⟩ => by subst e1; exact ⟨rfl, e2, e3⟩)
theorem GoesB.rounds {c : Code} {id : Nat} (len : Nat) (F : Nat → List (Nat × AV)) (Hh : Nat → List (Nat × ABk)) {Z : List (Nat × AV)} {ZH : List (Nat × ABk)} (h : ∀ i, i < len → GoesB P c n B K K (frL (F i)) (hpL (Hh i)) (Nm (F (i + 1)) (Hh (i + 1)))) (hz : GoesB P c n B K K (frL (F len)) (hpL (Hh len)) (Xm id Z ZH)) :
    GoesB P (.block id (.loop c)) n B K K (frL (F 0)) (hpL (Hh 0)) (Nm Z ZH) :=
  (GoesB.count len F Hh Z ZH (fun _ => True) (fun _ _ => False) trivial fun i hi _ => by
    by_cases e : i < len
    · exact (h i e).mono fun e' fr H ⟨e1, e2, e3⟩ => .inl ⟨e1, e, trivial, e2, e3⟩
    · obtain rfl : i = len := by omega
      exact hz.mono fun e' fr H ⟨e1, e2, e3⟩ => .inr (.inl ⟨e1, trivial, e2, e3⟩)).mono fun e fr H h => by
    rcases h with ⟨e1, _, e2, e3⟩ | ⟨_, h⟩
    · exact ⟨e1, e2, e3⟩
    · exact h.elim
theorem GoesX.seqN {X : MM → World → Prop} {K1 : Nat} {x y : Code} {fr : Fr} {H : T ABk} {F1 : List (Nat × AV)} {H1 : List (Nat × ABk)} {Post : Po} (h1 : GoesX P x n B K K1 X fr H (Nm F1 H1)) (hK : K1 ≤ K') (h2 : GoesX P y n B K1 K' X (frL F1) (hpL H1) Post) : GoesX P (.seq x y) n B K K' X fr H Post :=
  GoesX.seq hK (h1.mono fun e fr' H' ⟨e1, e2, e3⟩ => by subst e1 e2 e3; exact h2)
theorem GoesX.blockN {X : MM → World → Prop} {id : Nat} {c : Code} {fr : Fr} {H : T ABk} {F1 : List (Nat × AV)} {H1 : List (Nat × ABk)} (h : GoesX P c n B K K' X fr H (Nm F1 H1)) : GoesX P (.block id c) n B K K' X fr H (Nm F1 H1) :=
  GoesX.block (h.mono fun e fr' H' ⟨e1, e2, e3⟩ => by subst e1; exact ⟨rfl, e2, e3⟩)
theorem GoesX.seqX {X : MM → World → Prop} {K1 id : Nat} {x y : Code} {fr : Fr} {H : T ABk} {F1 : List (Nat × AV)} {H1 : List (Nat × ABk)} (h1 : GoesX P x n B K K1 X fr H (Xm id F1 H1)) (hK : K1 ≤ K') : GoesX P (.seq x y) n B K K' X fr H (Xm id F1 H1) :=
  GoesX.seq hK (h1.mono fun e fr' H' ⟨e1, e2, e3⟩ => by subst e1; exact ⟨rfl, e2, e3⟩)
theorem GoesX.rounds {X : MM → World → Prop} {c : Code} {id : Nat} (len : Nat) (F : Nat → List (Nat × AV)) (Hh : Nat → List (Nat × ABk)) {Z : List (Nat × AV)} {ZH : List (Nat × ABk)} (h : ∀ i, i < len → GoesX P c n B K K X (frL (F i)) (hpL (Hh i)) (Nm (F (i + 1)) (Hh (i + 1)))) (hz : GoesX P c n B K K X (frL (F len)) (hpL (Hh len)) (Xm id Z ZH)) :
    GoesX P (.block id (.loop c)) n B K K X (frL (F 0)) (hpL (Hh 0)) (Nm Z ZH) := by
  refine GoesX.block ((GoesX.loop (fun m fr H => ∃ i, m = len - i ∧ i ≤ len ∧ fr = frL (F i) ∧ H = hpL (Hh i)) (Post := Xm id Z ZH) ?_ _ _ _ ⟨0, rfl, by omega, rfl, rfl⟩).mono fun e fr H ⟨e1, e2, e3⟩ => ?_)
  · rintro k fr H ⟨i, rfl, hi, rfl, rfl⟩
    by_cases e : i < len
    · exact (h i e).mono fun e' fr H ⟨e1, e2, e3⟩ => by subst e1; exact ⟨len - (i + 1), by omega, i + 1, rfl, by omega, e2, e3⟩
    · obtain rfl : i = len := by omega
      exact hz.mono fun e' fr H ⟨e1, e2, e3⟩ => by subst e1; exact ⟨rfl, e2, e3⟩
  · subst e1; simp only [if_true]; exact ⟨rfl, e2, e3⟩
theorem GoesX.toN {j sz m : Nat} {cj : Cont} {K'' : Nat} {c : Code} {fr : Fr} {H : T ABk} {Post : Po} {F : List (Nat × AV)} {H1 : List (Nat × ABk)} (σ : Nat → Nat) (hj : j < B) (hl : (ABk.cells false sz m cj).lowR B) (h : GoesX P c n B K K' (VX B j sz m cj) fr H Post)
    (hσ : ∀ g, g < B → σ g = g) (hinj : ∀ i j, i < K'' → j < K'' → σ i = σ j → i = j) (k : ∀ e fr' H', Post e fr' H' → e = .normal ∧ RenF K'' σ fr' F ∧ RenG K'' σ H' H1) : GoesX P c n B K K'' (VX B j sz m cj) fr H (Nm F H1) :=
  GoesX.renG hj hl h fun e fr' H' hp => let ⟨e1, h1, h2⟩ := k e fr' H' hp; ⟨σ, F, H1, hσ, h1, h2, hinj, e1, rfl, rfl⟩
end Go.Sx
set_option linter.unusedSimpArgs false
set_option linter.unusedVariables false
namespace Go.Sx
open M
structure Told (g : G) (ρ : Nat → Nat) (K0 i : Nat) (b : ABk) : Prop where
  lt : i < K0
  low : b.lowR K0
  of : ∃ b1, g.H.get (ρ i) = some b1 ∧ (∀ N μ hp, BkOk N μ hp (ρ i) b1 → BkOk N μ hp (ρ i) (b.ren ρ)) ∧ (b.owned = true → b1.owned = true) ∧ ∀ μ m, b.real μ m → b1.real μ m
theorem smallCall {P : Program} {f : FuncId} {fn : Func} {c : Code} (hf : P.funcs[f]? = some fn) (hb : fn.body = some c) (hname : (fn.name == "runtime.NumGoroutine") = false) {args argsC : List AV} {g g' : G} {p : Prop} (hcs : g'.cs → g.cs ∧ p) (hnx : g'.nx = g.nx)
    {bl bl' : List (Nat × ABk)} {B0 K0 K' : Nat} (ρ : Nat → Nat) {v : AV} (hA : p → ∀ N μ (cs : List Value), Reps N μ args cs → Reps K0 (μ.via ρ) argsC cs)
    (hsub : p → ∀ i b, (hpL bl).get i = some b → Told g ρ K0 i b) (inj : p → ∀ i j b b', (hpL bl).get i = some b → (hpL bl).get j = some b' → ρ i = ρ j → i = j)
    (h : p → GoesB P c fn.ntmps B0 K0 K' (frameOf argsC 0 .e) (hpL bl) fun e fr' H' => (e = .ret ∨ e = .normal) ∧ ∃ vs gr, resultsA P fr' fn.results.toList ⟨H', K', [], [], True⟩ = .done vs gr ∧ gr.cs ∧ AV.ge (packA vs) v ∧ GeH H' bl') (hv : v.low 0 = true)
    (hg' : p → ∀ i b, g'.H.get i = some b → (g.H.get i = some b ∧ ∀ j bj, (hpL bl).get j = some bj → bj.owned = true → ρ j ≠ i) ∨ ∃ j bj, j < B0 ∧ ρ j = i ∧ (hpL bl').get j = some b ∧ b.bare ∧ (hpL bl).get j = some bj ∧ bj.owned = true ∧ ∀ μ m, b.real μ m → bj.real μ m) :
    CallIs P f args v g g' := by
  refine ⟨fun hc => (hcs hc).1, fun hc μ w cargs hg ha => ?_⟩
  obtain ⟨_, hp⟩ := hcs hc
  have T := fun i b hb => hsub hp i b hb
  have real1 : ∀ {i : Nat} {b : ABk}, b.real (μ.via ρ) i ↔ b.real μ (ρ i) := fun {i b} => ABk.real_eq rfl b
  have hgc : GOk K0 (μ.via ρ) w.heap (hpL bl) := by
    refine ⟨fun i b hb => (T i b hb).lt, fun i b hb => ?_, fun i b j b' hi hj ho hr hr' he => ?_⟩
    · obtain ⟨b1, h1, h2, h3, h4⟩ := (T i b hb).of
      exact (h2 _ _ _ (hg.ok _ _ h1)).unren (T i b hb).low (fun i _ => ⟨rfl, rfl, rfl, rfl⟩) rfl rfl rfl rfl
    · obtain ⟨b1, h1, h2, h3, h4⟩ := (T i b hi).of
      obtain ⟨b2, k1, k2, k3, k4⟩ := (T j b' hj).of
      exact inj hp i j b b' hi hj (hg.sep _ _ _ _ h1 k1 (h3 ho) (h4 _ _ (real1.1 hr)) (k4 _ _ (real1.1 hr')) he)
  have may1 : ∀ b, May (μ.via ρ) (hpL bl) b → ∃ j bj b1, (hpL bl).get j = some bj ∧ bj.owned = true ∧ g.H.get (ρ j) = some b1 ∧ b1.owned = true ∧ b1.real μ (ρ j) ∧ μ.blk (ρ j) = b := fun b ⟨j, bj, m1, m2, m3, m4⟩ => by
    obtain ⟨b1, h1, h2, h3, h4⟩ := (T j bj m1).of
    exact ⟨j, bj, b1, m1, m2, h1, h3 m2, h4 _ _ (real1.1 m3), m4⟩
  refine (GoesB.call hf hb hname (V := fun u H' => AV.ge u v ∧ GeH H' bl') ((h hp).mono fun e fr' H' ⟨k1, vs, gr, k2, k3, k4, k5⟩ => ⟨k1, vs, gr, k2, k3, k4, k5⟩) (μ.via ρ) w hgc (hA hp _ _ _ ha)).mono ?_
  rintro cv w' ⟨u, μ', H', ⟨hge, hG⟩, hrep, hgk, hE⟩
  -- what is told behind
  have told : ∀ j b, j < B0 → (hpL bl').get j = some b → b.bare → BkOk g'.nx μ w'.heap (ρ j) b := fun j b hj hb hbare => by
    obtain ⟨b0, e1, e2⟩ := hG.get _ (hpL_get hb)
    exact (e2.ok (hgk.ok j b0 e1)).bare hbare (hE.names.blk j hj).symm (hE.names.cap j hj).symm (hE.names.sz j hj).symm (hE.names.base j hj).symm
  have keep : ∀ i b, g.H.get i = some b → (∀ j bj, (hpL bl).get j = some bj → bj.owned = true → ρ j ≠ i) → b.real μ i → ¬ May (μ.via ρ) (hpL bl) (μ.blk i) := fun i b hb hn hr hm => by
    obtain ⟨j, bj, b1, m1, m2, m3, m4, m5, m6⟩ := may1 _ hm
    exact hn j bj m1 m2 (hg.sep _ _ _ _ m3 hb m4 m5 hr m6)
  refine ⟨μ, (Rep.ofLow (N := 0) (μ := μ) ⟨fun g hg => by omega, fun g hg => by omega, fun g hg => by omega, fun g hg => by omega⟩ hv (hge _ _ _ hrep)).later (.refl _ _) (Nat.zero_le _), ⟨fun i b hb => ?_, fun i b hb => ?_, fun i b j b' hi hj ho hr hr' he => ?_⟩, ⟨by omega, .refl _ _, hE.os, hE.tape, hE.output, hE.size, fun b hb hn => hE.block b hb fun hm => hn ?_, fun b hb hm => ?_⟩⟩
  · rcases hg' hp i b hb with ⟨h1, _⟩ | ⟨j, bj, h1, h2, h3, h4, h5, h6, h7⟩
    · rw [hnx]; exact hg.lt _ _ h1
    · obtain ⟨b1, q1, _⟩ := (T j bj h5).of
      rw [hnx, ← h2]; exact hg.lt _ _ q1
  · rcases hg' hp i b hb with ⟨h1, hn⟩ | ⟨j, bj, h1, h2, h3, h4, h5, h6, h7⟩
    · exact (hg.ok i b h1).later (.refl _ _) (by omega) (hg.lt _ _ h1) fun hr => hE.block _ ((hg.ok i b h1).lt_size hr) (keep i b h1 hn hr)
    · rw [← h2]; exact told j b h1 h3 h4
  · -- apart
    have orig : ∀ i b, g'.H.get i = some b → b.real μ i → ∃ b1, g.H.get i = some b1 ∧ b1.real μ i ∧ (b.owned = true → b1.owned = true) := fun i b hb hr => by
      rcases hg' hp i b hb with ⟨h1, hn⟩ | ⟨j, bj, h1, h2, h3, h4, h5, h6, h7⟩
      · exact ⟨b, h1, hr, id⟩
      · obtain ⟨b1, q1, q2, q3, q4⟩ := (T j bj h5).of
        exact ⟨b1, by rw [← h2]; exact q1, q4 _ _ (h7 _ _ hr), fun _ => q3 h6⟩
    obtain ⟨b1, e1, e2, e3⟩ := orig i b hi hr
    obtain ⟨b2, k1, k2, k3⟩ := orig j b' hj hr'
    exact hg.sep i b1 j b2 e1 k1 (e3 ho) e2 k2 he
  · obtain ⟨j, bj, b1, m1, m2, m3, m4, m5, m6⟩ := may1 _ hm
    exact ⟨ρ j, b1, m3, m4, m5, m6⟩
  · obtain ⟨i, x, m1, m2, m3, m4⟩ := hm
    rcases hg' hp i x m1 with ⟨h1, hn⟩ | ⟨j, bj, h1, h2, h3, h4, h5, h6, h7⟩
    · exact ⟨i, x, h1, m2, m3, m4⟩
    · obtain ⟨b1, q1, q2, q3, q4⟩ := (T j bj h5).of
      exact ⟨i, b1, by rw [← h2]; exact q1, q3 h6, q4 _ _ (h7 _ _ m3), m4⟩
def nodupB : List Nat → Bool
  | [] => true
  | x :: l => l.all (fun y => !Nat.beq x y) && nodupB l
theorem nodup_of : ∀ {l : List Nat}, nodupB l = true → l.Nodup
  | [], _ => List.nodup_nil
  | x :: l, h => by
    simp only [nodupB, Bool.and_eq_true] at h
    refine List.nodup_cons.2 ⟨fun hx => ?_, nodup_of h.2⟩
    have := List.all_eq_true.1 h.1 x hx
    simp at this
theorem rep_slc0 {N K0 : Nat} {μ : MM} {ρ : Nat → Nat} {s own : Bool} {a : AA} {n i : Nat} {c : Value} (h : Rep N μ (.slc s own a n) c) (h1 : a.i = 0) (h2 : a.o = 0) (hi : i < K0) (e : ρ i = a.g) : Rep K0 (μ.via ρ) (.slc s own ⟨false, i, 0, 0⟩ n) c := by
  simp only [Rep, RepS] at h ⊢
  obtain ⟨h0, A, C, e1, e2, e3, e4, e5⟩ := h
  have ad : (μ.via ρ).addr ⟨false, i, 0, 0⟩ = μ.addr a := by
    simp only [MM.addr, MM.via, e, h1, h2]
    try simp
  refine ⟨hi, A, C, e1, e2, fun hl => by rw [ad]; exact e3 hl, e4, fun ho => ?_⟩
  obtain ⟨_, _, e6⟩ := e5 ho
  refine ⟨trivial, trivial, ?_⟩
  show (A = none ∧ C = 0 ∧ n = 0) ∨ (A = some ⟨μ.blk (ρ i), 0, none⟩ ∧ C = μ.cap (ρ i))
  rw [e]; exact e6
theorem RowOk.ge {N : Nat} {μ : MM} {row row' : List AV} {sz : Nat} {cur : Array Value} {base : Nat} (h : RowOk N μ row sz cur base) (k : RowGe row row') : RowOk N μ row' sz cur base :=
  ⟨k.length.trans h.1, fun o v hv => by
    obtain ⟨u, e1, e2, e3⟩ := k.get hv
    obtain ⟨_, cv, e4, e5⟩ := h.2 o u e1
    exact ⟨e3, cv, e4, e2 _ _ _ e5⟩⟩
theorem AV.ge.hdr {s own : Bool} {a : AA} {n q : Nat} (h1 : a.g = q) (h2 : a.i = 0) (h3 : a.o = 0) : AV.ge (.slc s own a n) (.slc true own ⟨false, q, 0, 0⟩ n) := fun N μ c h => by
  simp only [Rep, RepS] at h ⊢
  obtain ⟨h0, A, C, e1, e2, e3, e4, e5⟩ := h
  have ad : μ.addr ⟨false, q, 0, 0⟩ = μ.addr a := by simp only [MM.addr, h1, h2, h3]
  refine ⟨by rw [← h1]; exact h0, A, C, e1, e2, fun hl => by rw [ad]; exact e3 hl, fun h => (by cases h), fun ho => ?_⟩
  obtain ⟨_, _, e6⟩ := e5 ho
  exact ⟨trivial, trivial, by rw [← h1]; exact e6⟩
theorem CallIs.as {P : Program} {f : FuncId} {args : List AV} {u v : AV} {g g1 g' : G} {p : Prop} (h : CallIs P f args u g g1) (k : Keep g1 g' p) (hv : p → AV.ge u v) : CallIs P f args v g g' := by
  refine ⟨fun hc => h.1 (k.2.2 hc).1, fun hc μ w cargs hg ha => ?_⟩
  obtain ⟨h1, hp⟩ := k.2.2 hc
  refine (h.2 h1 μ w cargs hg ha).mono fun cv w' hA => ?_
  obtain ⟨μ', r1, r2, r3⟩ := hA
  refine ⟨μ', by rw [k.2.1]; exact hv hp _ _ _ r1, by rw [k.1, k.2.1]; exact r2, ?_⟩
  exact ⟨by rw [k.2.1]; exact r3.nx, r3.names, r3.os, r3.tape, r3.output, r3.size, r3.block, fun b hb hm => r3.may b hb (by rw [← k.1]; exact hm)⟩
end Go.Sx
set_option linter.unusedSimpArgs false
set_option linter.unusedVariables false
namespace Go.Sx
open M
variable {P : Program} {n B K K' : Nat}
theorem AV.ge.raw {x : Nat} (s s' : Bool) (h : cn x = x) : AV.ge (.raw s x) (.flt s' x) := fun N μ c hr => by
  simp only [Rep] at hr ⊢
  obtain ⟨rfl, h2⟩ := hr
  exact ⟨x, rfl, h, h2⟩
theorem CallIs.by {f : FuncId} {args : List AV} {u v : AV} {g g1 g' : G} (h : CallIs P f args u g g1) (e1 : g'.H = g1.H) (e2 : g'.nx = g1.nx) (k : g'.cs → g1.cs ∧ AV.ge u v) (k0 : g'.cs → g.cs) : CallIs P f args v g g' := by
  refine ⟨k0, fun hc μ w cargs hg ha => ?_⟩
  obtain ⟨h1, hp⟩ := k hc
  refine (h.2 h1 μ w cargs hg ha).mono fun cv w' hA => ?_
  obtain ⟨μ', r1, r2, r3⟩ := hA
  refine ⟨μ', by rw [e2]; exact hp _ _ _ r1, by rw [e1, e2]; exact r2, ?_⟩
  exact ⟨by rw [e2]; exact r3.nx, r3.names, r3.os, r3.tape, r3.output, r3.size, r3.block, fun b hb hm => r3.may b hb (by rw [← e1]; exact hm)⟩
theorem GoesB.callR {call : Calls'} (hcall : CallOk P call) {region : List Oper → Fr → M Fr} {loops : Loops} {rounds : Nat} {ops : Array Oper} {id id1 id2 : Nat} {l1 l2 : List Oper} {o : Oper} (hops : ops.toList = l1 ++ (o :: l2))
    (hgd : ∀ o ∈ l1, o.guard = none) (hgo : o.guard = none) (hg2 : ∀ o ∈ l2, o.guard = none)
    {cl : Call} (ho : o.op = .call cl) {fop : Operand} (hcal : cl.callee = .value fop) {d : Nat} (hdst : o.dst = some d) (hd : d < n)
    {K1 K2 : Nat} (hKle : K1 ≤ K2) {fr : Fr} {H : T ABk} {fl1 : List (Nat × AV)} {bl1 : List (Nat × ABk)} {path : List Bool}
    (hrun : PieceN K1 .normal fl1 bl1 (codeA P call region loops n rounds (.region id1 l1.toArray false) fr ⟨H, K, [], path, True⟩))
    {f : FuncId} {fn : Func} {body : Code} (hf : P.funcs[f]? = some fn) (hb : fn.body = some body) (hname : (fn.name == "runtime.NumGoroutine") = false)
    {pre cap : List AV} (hfv : evalA (frL fl1) fop = .fn (.func f) pre cap) (hBK : B ≤ K) {V : AV → T ABk → Prop}
    (hcallee : GoesB P body fn.ntmps K1 K1 K2 (frameOf (pre ++ cl.args.toList.map (evalA (frL fl1)) ++ cap) 0 .e) (hpL bl1) fun e fr' H' => (e = .ret ∨ e = .normal) ∧ ∃ vs g', resultsA P fr' fn.results.toList ⟨H', K2, [], [], True⟩ = .done vs g' ∧ g'.cs ∧ ∃ u, AV.ge (packA vs) u ∧ V u H')
    {Post : Po} (hpost : ∀ v H', V v H' → ∃ path2 fl2 bl2, PieceN K' .normal fl2 bl2 (codeA P call region loops n rounds (.region id2 l2.toArray false) ((frL fl1).upd d (some v)) ⟨H', K2, [], path2, True⟩) ∧ Post .normal (frL fl2) (hpL bl2)) :
    GoesB P (.region id ops false) n B K K' fr H Post := by
  intro μ w a hg hf0 Q hQ
  refine wp_region_list ?_
  rw [hops]
  have hr := hrun.of
  generalize hres : codeA P call region loops n rounds (.region id1 l1.toArray false) fr ⟨H, K, [], path, True⟩ = res at hr
  unfold pieceN at hr
  split at hr
  · rename_i r g
    obtain ⟨hre, hw, hh, hnx, hcs1⟩ := hr
    have hnx := Nat.le_of_ble_eq_true hnx
    unfold codeA at hres
    obtain ⟨fr1, g1, b1, b2⟩ := done_of hres
    obtain ⟨rfl, rfl⟩ := ret_done b2
    have b1' : opsA0 P call n l1 l1 fr ⟨H, K, [], path, True⟩ = .done fr1 g1 := by rw [← opsA_eq]; simpa using b1
    obtain ⟨_, hs⟩ := opsPre hcall (ops := ops) (Q := Q) (l2 := o :: l2) l1 _ _ _ _ hgd b1'
    refine hs hcs1 μ w a hg hf0 fun a1 w1 hk => ?_
    obtain ⟨μ1, k1, k2, k3, k4⟩ := hk
    have sub : ∀ i b, (hpL bl1).get i = some b → g1.H.get i = some b := fun i b hb => hh.get (hpL_get hb)
    have k1' : GOk K1 μ1 w1.heap (hpL bl1) := k1.up hnx sub
    have x1 : ExtB B H μ w (hpL bl1) μ1 w1 := ⟨k2.names.mono hBK, k2.os, k2.tape, k2.output, k2.size, k2.block, fun b hb hm => k2.may b hb (by
      obtain ⟨i, x, m1, m2, m3, m4⟩ := hm
      exact ⟨i, x, sub i x m1, m2, m3, m4⟩)⟩
    have k3' : FrOk K1 μ1 (frL fl1) a1.tmps n := ⟨k3.size, fun t v ht => (k3.val t v (hw.get (frL_get ht))).later (.refl _ _) hnx⟩
    have hKK : K ≤ K1 := Nat.le_trans k2.nx hnx
    refine wpList_plain hgo fun KK hKK' => ?_
    -- the call
    have hxv := k3'.eval fop
    rw [hfv] at hxv
    simp only [Rep] at hxv
    obtain ⟨fs, cs, e, h1, h2⟩ := hxv
    have hargs : Reps K1 μ1 (pre ++ cl.args.toList.map (evalA (frL fl1)) ++ cap) ((fs ++ cl.args.map a1.eval) ++ cs).toList := by
      simp only [Array.toList_append]
      exact (h1.append (k3'.evals _)).append h2
    have hcf := GoesB.call hf hb hname (V := fun v H' => ∃ u, AV.ge v u ∧ V u H') hcallee μ1 w1 k1' hargs
    have hrunop : (execOp a1.eval o).run P w1 = (callFunc f ((fs ++ cl.args.map a1.eval) ++ cs)).run P w1 := by
      simp only [execOp, ho, resolve, hcal, e, Deferred.ofValue, Sem.run_bind]
      rfl
    have fin : ∀ c w', (∃ v μ' H', (∃ u, AV.ge v u ∧ V u H') ∧ Rep K2 μ' v c ∧ GOk K2 μ' w'.heap H' ∧ ExtB K1 (hpL bl1) μ1 w1 H' μ' w') → KK (a1.put o.dst c) w' := by
      rintro c w' ⟨v0, μ2, H2, ⟨v, hge, hV⟩, r1, r2, r3⟩
      replace r1 := hge _ _ _ r1
      refine hKK' _ _ ?_
      obtain ⟨path2, fl2, bl2, hp2, hP⟩ := hpost v H2 hV
      have hr2 := hp2.of
      generalize hres2 : codeA P call region loops n rounds (.region id2 l2.toArray false) ((frL fl1).upd d (some v)) ⟨H2, K2, [], path2, True⟩ = res2 at hr2
      unfold pieceN at hr2
      split at hr2
      · rename_i r' g'
        obtain ⟨hre', hw', hh', hnx', hcs2⟩ := hr2
        have hnx' := Nat.le_of_ble_eq_true hnx'
        unfold codeA at hres2
        obtain ⟨fr3, g3, b3, b4⟩ := done_of hres2
        obtain ⟨rfl, rfl⟩ := ret_done b4
        have b3' : opsA0 P call n l2 l2 ((frL fl1).upd d (some v)) ⟨H2, K2, [], path2, True⟩ = .done fr3 g3 := by rw [← opsA_eq]; simpa using b3
        obtain ⟨_, hs2⟩ := opsPre hcall (ops := ops) (Q := Q) (l2 := []) l2 _ _ _ _ hg2 b3'
        rw [List.append_nil] at hs2
        have f1 : FrOk K2 μ2 ((frL fl1).upd d (some v)) (a1.put o.dst c).tmps n := by
          rw [hdst]
          exact (k3'.later r3.names hKle).upd hd r1
        refine hs2 hcs2 μ2 w' _ r2 f1 fun a3 w3 hk3 => ?_
        obtain ⟨μ3, q1, q2, q3, q4⟩ := hk3
        have sub3 : ∀ i b, (hpL bl2).get i = some b → g3.H.get i = some b := fun i b hb => hh'.get (hpL_get hb)
        refine wpList_nil (hQ .normal _ _ _ _ hP ⟨μ3, q1.up hnx' sub3, ?_, ⟨q3.size, fun t v ht => (q3.val t v (hw'.get (frL_get ht))).later (.refl _ _) hnx'⟩, ?_⟩)
        · have x2 : ExtB B (hpL bl1) μ1 w1 H2 μ2 w' := ⟨r3.names.mono (Nat.le_trans hBK hKK), r3.os, r3.tape, r3.output, r3.size, r3.block, r3.may⟩
          have x3 : ExtB B H2 μ2 w' (hpL bl2) μ3 w3 := ⟨q2.names.mono (Nat.le_trans hBK (Nat.le_trans hKK hKle)), q2.os, q2.tape, q2.output, q2.size, q2.block, fun b hb hm => q2.may b hb (by
            obtain ⟨i, x, m1, m2, m3, m4⟩ := hm
            exact ⟨i, x, sub3 i x m1, m2, m3, m4⟩)⟩
          exact (x1.trans x2).trans x3
        · rw [q4, Act.put_defers]; exact k4
      · exact hr2.elim
    unfold Oper.wp
    rw [hrunop]
    rcases hcf with ⟨c, w', e, ha⟩ | ⟨f', args', w', e, hcalls⟩
    · rw [e]; exact fin c w' ha
    · rw [e, Oper.upon_enter]
      refine hcalls.mono ?_
      rintro e1 w2 ⟨c, rfl, ha⟩
      exact fin c w2 ha
  · exact hr.elim
def LtG (g : G) : Prop := ∀ i b, g.H.get i = some b → i < g.nx
theorem smallCallN {f : FuncId} {fn : Func} {c : Code} (hf : P.funcs[f]? = some fn) (hb : fn.body = some c) (hname : (fn.name == "runtime.NumGoroutine") = false) {args argsC : List AV} {g g' : G} {p : Prop} (hcs : g'.cs → g.cs ∧ p)
    {bl bl' : List (Nat × ABk)} {K0 K' : Nat} (ρ κ : Nat → Nat) {nms : List Nat} (hnx : g'.nx = g.nx + nms.length) {v : AV} (S : Nat → Prop)
    (hA : p → ∀ N μ (cs : List Value), Reps N μ args cs → Reps K0 (μ.via ρ) argsC cs)
    (hsub : p → ∀ i b, (hpL bl).get i = some b → Told g ρ K0 i b) (inj : p → ∀ i j b b', (hpL bl).get i = some b → (hpL bl).get j = some b' → ρ i = ρ j → i = j)
    (hnew : ∀ nm ∈ nms, K0 ≤ nm) (hnd : nms.Nodup) (hκ : p → LtG g → ∀ j, j < nms.length → κ (g.nx + j) = nms.getD j 0)
    (hS : p → LtG g → ∀ i, S i → i < g'.nx ∧ (i < g.nx → κ i < K0 ∧ ρ (κ i) = i))
    (h : p → LtG g → GoesB P c fn.ntmps K0 K0 K' (frameOf argsC 0 .e) (hpL bl) fun e fr' H' => (e = .ret ∨ e = .normal) ∧ ∃ vs gr, resultsA P fr' fn.results.toList ⟨H', K', [], [], True⟩ = .done vs gr ∧ gr.cs ∧ AV.ge (packA vs) (v.ren κ) ∧ ∀ q ∈ bl', ∃ b, H'.get (κ q.1) = some b ∧ SameC b (q.2.ren κ))
    (hv : p → LtG g → v.low g'.nx = true) (hvS : p → LtG g → v.inS S)
    (hbl' : p → LtG g → ∀ q ∈ bl', S q.1 ∧ q.2.inS S ∧ q.2.lowR g'.nx ∧ (q.1 < g.nx → ∃ bj, (hpL bl).get (κ q.1) = some bj ∧ bj.owned = true ∧ ∀ μ m, q.2.real μ m → bj.real μ m) ∧ (g.nx ≤ q.1 → q.2.owned = true))
    (hg' : p → LtG g → ∀ i b, g'.H.get i = some b → (g.H.get i = some b ∧ ∀ j bj, (hpL bl).get j = some bj → bj.owned = true → ρ j ≠ i) ∨ (i, b) ∈ bl') :
    CallIs P f args v g g' := by
  refine ⟨fun hc => (hcs hc).1, fun hc μ w cargs hg ha => ?_⟩
  obtain ⟨_, hp⟩ := hcs hc
  have T := fun i b hb => hsub hp i b hb
  have hL : LtG g := fun i b hb => hg.lt i b hb
  have real1 : ∀ {i : Nat} {b : ABk}, b.real (μ.via ρ) i ↔ b.real μ (ρ i) := fun {i b} => ABk.real_eq rfl b
  have hgc : GOk K0 (μ.via ρ) w.heap (hpL bl) := by
    refine ⟨fun i b hb => (T i b hb).lt, fun i b hb => ?_, fun i b j b' hi hj ho hr hr' he => ?_⟩
    · obtain ⟨b1, h1, h2, h3, h4⟩ := (T i b hb).of
      exact (h2 _ _ _ (hg.ok _ _ h1)).unren (T i b hb).low (fun i _ => ⟨rfl, rfl, rfl, rfl⟩) rfl rfl rfl rfl
    · obtain ⟨b1, h1, h2, h3, h4⟩ := (T i b hi).of
      obtain ⟨b2, k1, k2, k3, k4⟩ := (T j b' hj).of
      exact inj hp i j b b' hi hj (hg.sep _ _ _ _ h1 k1 (h3 ho) (h4 _ _ (real1.1 hr)) (k4 _ _ (real1.1 hr')) he)
  have may1 : ∀ b, May (μ.via ρ) (hpL bl) b → ∃ j bj b1, (hpL bl).get j = some bj ∧ bj.owned = true ∧ g.H.get (ρ j) = some b1 ∧ b1.owned = true ∧ b1.real μ (ρ j) ∧ μ.blk (ρ j) = b := fun b ⟨j, bj, m1, m2, m3, m4⟩ => by
    obtain ⟨b1, h1, h2, h3, h4⟩ := (T j bj m1).of
    exact ⟨j, bj, b1, m1, m2, h1, h3 m2, h4 _ _ (real1.1 m3), m4⟩
  refine (GoesB.call hf hb hname (V := fun u H' => AV.ge u (v.ren κ) ∧ ∀ q ∈ bl', ∃ b, H'.get (κ q.1) = some b ∧ SameC b (q.2.ren κ)) ((h hp hL).mono fun e fr' H' ⟨k1, vs, gr, k2, k3, k4, k5⟩ => ⟨k1, vs, gr, k2, k3, k4, k5⟩) (μ.via ρ) w hgc (hA hp _ _ _ ha)).mono ?_
  rintro cv w' ⟨u, μ', H', ⟨hge, hG⟩, hrep, hgk, hE⟩
  -- the names behind it
  have at' : ∀ i, S i → AtN (μ'.via κ) (newMM μ μ' g.nx nms) i := fun i hi => by
    obtain ⟨q1, q2⟩ := hS hp hL i hi
    by_cases hlt : i < g.nx
    · obtain ⟨q3, q4⟩ := q2 hlt
      have hu : MM.upto g.nx μ (newMM μ μ' g.nx nms) := newMM_lt
      refine ⟨?_, ?_, ?_, ?_⟩
      · rw [hu.blk i hlt]; show _ = μ'.blk (κ i); rw [hE.names.blk _ q3]; show _ = μ.blk (ρ (κ i)); rw [q4]
      · rw [hu.cap i hlt]; show _ = μ'.cap (κ i); rw [hE.names.cap _ q3]; show _ = μ.cap (ρ (κ i)); rw [q4]
      · rw [hu.sz i hlt]; show _ = μ'.sz (κ i); rw [hE.names.sz _ q3]; show _ = μ.sz (ρ (κ i)); rw [q4]
      · rw [hu.base i hlt]; show _ = μ'.base (κ i); rw [hE.names.base _ q3]; show _ = μ.base (ρ (κ i)); rw [q4]
    · obtain ⟨j, rfl⟩ := Nat.exists_eq_add_of_le (Nat.le_of_not_lt hlt)
      have e := hκ hp hL j (by omega)
      have hge : ¬ g.nx + j < g.nx := by omega
      refine ⟨?_, ?_, ?_, ?_⟩ <;> simp only [newMM, if_neg hge, MM.via, e, show g.nx + j - g.nx = j by omega]
  have atS : ∀ i, S i → i < g'.nx → i < g'.nx ∧ AtN (μ'.via κ) (newMM μ μ' g.nx nms) i := fun i hi hl => ⟨hl, at' i hi⟩
  -- what is told behind
  have told : ∀ i b, (i, b) ∈ bl' → BkOk g'.nx (newMM μ μ' g.nx nms) w'.heap i b ∧ ∃ b0, H'.get (κ i) = some b0 ∧ b0.owned = b.owned ∧ (b.real (newMM μ μ' g.nx nms) i ↔ b0.real μ' (κ i)) ∧ (newMM μ μ' g.nx nms).blk i = μ'.blk (κ i) := fun i b hm => by
    obtain ⟨b0, e1, e2⟩ := hG _ hm
    obtain ⟨s1, s2, s3, s4, s5⟩ := hbl' hp hL _ hm
    have hat := at' i s1
    have r1 : BkOk g'.nx (μ'.via κ) w'.heap i b := (e2.ok (hgk.ok _ _ e1)).unren s3 (fun i _ => ⟨rfl, rfl, rfl, rfl⟩) rfl rfl rfl rfl
    refine ⟨BkOk.on atS hat s2 (fun _ => rfl) r1, b0, e1, by rw [e2.owned, ABk.ren_owned], ?_, hat.blk⟩
    rw [ABk.real_at hat, e2.real, ABk.ren_real]
    exact ABk.real_eq rfl b
  have hu : MM.upto g.nx μ (newMM μ μ' g.nx nms) := newMM_lt
  have keep : ∀ i b, g.H.get i = some b → (∀ j bj, (hpL bl).get j = some bj → bj.owned = true → ρ j ≠ i) → b.real μ i → ¬ May (μ.via ρ) (hpL bl) (μ.blk i) := fun i b hb hn hr hm => by
    obtain ⟨j, bj, b1, m1, m2, m3, m4, m5, m6⟩ := may1 _ hm
    exact hn j bj m1 m2 (hg.sep _ _ _ _ m3 hb m4 m5 hr m6)
  refine ⟨newMM μ μ' g.nx nms, ((hge _ _ _ hrep).unren (hv hp hL)).on atS (hvS hp hL), ⟨fun i b hb => ?_, fun i b hb => ?_, fun i b j b' hi hj ho hr hr' he => ?_⟩, ⟨by omega, hu, hE.os, hE.tape, hE.output, hE.size, fun b hb hn => hE.block b hb fun hm => hn ?_, fun B hb hm => ?_⟩⟩
  · rcases hg' hp hL i b hb with ⟨h1, _⟩ | hm
    · have := hg.lt _ _ h1; omega
    · exact (hS hp hL i (hbl' hp hL _ hm).1).1
  · rcases hg' hp hL i b hb with ⟨h1, hn⟩ | hm
    · exact (hg.ok i b h1).later hu (by omega) (hg.lt _ _ h1) fun hr => hE.block _ ((hg.ok i b h1).lt_size hr) (keep i b h1 hn hr)
    · exact (told i b hm).1
  · -- apart
    have high : ∀ i b, (i, b) ∈ bl' → b.real (newMM μ μ' g.nx nms) i → (newMM μ μ' g.nx nms).blk i < w.heap.size → b.owned = true → May (μ.via ρ) (hpL bl) ((newMM μ μ' g.nx nms).blk i) := fun i b hm hr hlt ho => by
      obtain ⟨_, b0, e1, e2, e3, e4⟩ := told i b hm
      rw [e4] at hlt ⊢
      exact hE.may _ hlt ⟨κ i, b0, e1, e2.trans ho, e3.1 hr, rfl⟩
    have mixed : ∀ i b j b', g.H.get i = some b → (∀ j bj, (hpL bl).get j = some bj → bj.owned = true → ρ j ≠ i) → b.real (newMM μ μ' g.nx nms) i → (j, b') ∈ bl' → b'.real (newMM μ μ' g.nx nms) j → (b'.owned = true ∨ j < g.nx) → (b.owned = true ∨ b'.owned = true) → (newMM μ μ' g.nx nms).blk i = (newMM μ μ' g.nx nms).blk j → False := fun i b j b' h1 hn hr hm hr' hoj hob he => by
      have hlt := hg.lt _ _ h1
      rw [ABk.real_later hu hlt] at hr
      have hsz := (hg.ok _ _ h1).lt_size hr
      rw [hu.blk i hlt] at he
      by_cases hj : j < g.nx
      · obtain ⟨s1, s2, s3, s4, s5⟩ := hbl' hp hL _ hm
        obtain ⟨bj, q1, q2, q3⟩ := s4 hj
        obtain ⟨_, q4⟩ := hS hp hL j s1
        obtain ⟨_, q5⟩ := q4 hj
        obtain ⟨b1, t1, t2, t3, t4⟩ := (T _ _ q1).of
        rw [q5] at t1
        rw [hu.blk j hj] at he
        rw [ABk.real_later hu hj] at hr'
        exact hn _ _ q1 q2 (q5.trans (hg.sep _ _ _ _ t1 h1 (t3 q2) (t4 μ j (q3 μ j hr')) hr he.symm))
      · have ho : b'.owned = true := hoj.resolve_right hj
        have := high j b' hm hr' (by rw [← he]; exact hsz) ho
        rw [← he] at this
        exact keep i b h1 hn hr this
    rcases hg' hp hL i b hi with ⟨h1, hn⟩ | hm
    · rcases hg' hp hL j b' hj with ⟨h2, hn'⟩ | hm'
      · have l1 := hg.lt _ _ h1
        have l2 := hg.lt _ _ h2
        rw [ABk.real_later hu l1] at hr
        rw [ABk.real_later hu l2] at hr'
        rw [hu.blk i l1, hu.blk j l2] at he
        exact hg.sep _ _ _ _ h1 h2 ho hr hr' he
      · exact (mixed i b j b' h1 hn hr hm' hr' (by
          by_cases q : j < g.nx
          · exact .inr q
          · exact .inl ((hbl' hp hL _ hm').2.2.2.2 (by omega))) (.inl ho) he).elim
    · rcases hg' hp hL j b' hj with ⟨h2, hn'⟩ | hm'
      · exact (mixed j b' i b h2 hn' hr' hm hr (.inl ho) (.inr ho) he.symm).elim
      · obtain ⟨_, b0, e1, e2, e3, e4⟩ := told i b hm
        obtain ⟨_, b1, l1, l2, l3, l4⟩ := told j b' hm'
        have e : κ i = κ j := hgk.sep _ _ _ _ e1 l1 (e2.trans ho) (e3.1 hr) (l3.1 hr') (by rw [← e4, ← l4]; exact he)
        obtain ⟨p1, p2⟩ := hS hp hL i (hbl' hp hL _ hm).1
        obtain ⟨p3, p4⟩ := hS hp hL j (hbl' hp hL _ hm').1
        by_cases c1 : i < g.nx
        · by_cases c2 : j < g.nx
          · rw [← (p2 c1).2, ← (p4 c2).2, e]
          · obtain ⟨y, rfl⟩ := Nat.exists_eq_add_of_le (Nat.le_of_not_lt c2)
            have hy : y < nms.length := by omega
            have k1 := hκ hp hL y hy
            have k2 := hnew (nms.getD y 0) (by rw [List.getD_eq_getElem?_getD, List.getElem?_eq_getElem hy]; exact List.getElem_mem hy)
            have := (p2 c1).1
            omega
        · obtain ⟨x, rfl⟩ := Nat.exists_eq_add_of_le (Nat.le_of_not_lt c1)
          have hx : x < nms.length := by omega
          have k1 := hκ hp hL x hx
          have k2 := hnew (nms.getD x 0) (by rw [List.getD_eq_getElem?_getD, List.getElem?_eq_getElem hx]; exact List.getElem_mem hx)
          by_cases c2 : j < g.nx
          · have := (p4 c2).1
            omega
          · obtain ⟨y, rfl⟩ := Nat.exists_eq_add_of_le (Nat.le_of_not_lt c2)
            have hy : y < nms.length := by omega
            have k3 := hκ hp hL y hy
            have : nms.getD x 0 = nms.getD y 0 := by omega
            rw [List.getD_eq_getElem?_getD, List.getD_eq_getElem?_getD, List.getElem?_eq_getElem hx, List.getElem?_eq_getElem hy] at this
            have := (List.getElem_inj hnd).1 this
            omega
  · obtain ⟨j, bj, b1, m1, m2, m3, m4, m5, m6⟩ := may1 _ hm
    exact ⟨ρ j, b1, m3, m4, m5, m6⟩
  · obtain ⟨i, x, m1, m2, m3, m4⟩ := hm
    rcases hg' hp hL i x m1 with ⟨h1, hn⟩ | hmm
    · have l1 := hg.lt _ _ h1
      exact ⟨i, x, h1, m2, (ABk.real_later hu l1 x).1 m3, by rw [← hu.blk i l1]; exact m4⟩
    · obtain ⟨_, b0, e1, e2, e3, e4⟩ := told i x hmm
      obtain ⟨j, bj, b1, q1, q2, q3, q4, q5, q6⟩ := may1 _ (hE.may B hb ⟨κ i, b0, e1, e2.trans m2, e3.1 m3, by rw [← e4]; exact m4⟩)
      exact ⟨ρ j, b1, q3, q4, q5, q6⟩
def regPre (m : Nat) : Code → Code
  | .region i ops d => .region i (ops.toList.take m).toArray d
  | c => c
def regPost (m : Nat) : Code → Code
  | .region i ops d => .region i (ops.toList.drop m).toArray d
  | c => c
def regOps : Code → List Oper
  | .region _ ops _ => ops.toList
  | _ => []
def regId : Code → Nat
  | .region i _ _ => i
  | _ => 0
end Go.Sx
set_option linter.unusedSimpArgs false
set_option linter.unusedVariables false
namespace Go.Sx
open M
variable {P : Program} {n B K K' : Nat}
theorem GoesB.phantomR {c : Code} {fr : Fr} {H : T ABk} {Post : Po} (q esz : Nat) (rows : Nat → List AV) {own : Bool} {c0 : Cont} {sz1 : Nat} (o0 : Nat) (l : List AV) (ht : H.get q = some (.cells own sz1 1 c0)) (h0 : c0.row 0 = l) (hl : l[o0]? = some .nils) (hpos : 0 < esz) (hB : B ≤ K)
    (h : GoesB P c n B (K + 1) K' fr ((H.upd K (some (.cells true esz 0 (.fn rows)))).upd q (some (.cells own sz1 1 (.fn fun _ => l.set o0 (noSlc K))))) Post) : GoesB P c n B K K' fr H Post := by
  intro μ w a hg hf Q hQ
  have hu := MM.at_upto μ K esz
  have hqK := hg.lt _ _ ht
  have case : ∀ i b, ((H.upd K (some (.cells true esz 0 (.fn rows)))).upd q (some (.cells own sz1 1 (.fn fun _ => l.set o0 (noSlc K))))).get i = some b → (i = K ∧ b = .cells true esz 0 (.fn rows)) ∨ ∃ b0, i < K ∧ H.get i = some b0 ∧ b0.owned = b.owned ∧ (∀ μ m, b.real μ m ↔ b0.real μ m) ∧ (b = b0 ∨ (i = q ∧ b = .cells own sz1 1 (.fn fun _ => l.set o0 (noSlc K)))) := fun i b hb => by
    rw [T.get_upd] at hb
    split at hb
    · cases hb; rename_i e; subst e
      exact .inr ⟨_, hqK, ht, rfl, fun μ m => Iff.rfl, .inr ⟨rfl, rfl⟩⟩
    · rw [T.get_upd] at hb
      split at hb
      · cases hb; exact .inl ⟨‹_›, rfl⟩
      · exact .inr ⟨b, hg.lt _ _ hb, hb, rfl, fun μ m => Iff.rfl, .inl rfl⟩
  have unreal : ∀ b, b = ABk.cells true esz 0 (.fn rows) → ¬ b.real (μ.at K esz) K := by
    rintro b rfl hr
    simp [ABk.real, MM.at] at hr
  have may : ∀ b, May (μ.at K esz) ((H.upd K (some (.cells true esz 0 (.fn rows)))).upd q (some (.cells own sz1 1 (.fn fun _ => l.set o0 (noSlc K))))) b → May μ H b := by
    rintro b ⟨i, x, m1, m2, m3, m4⟩
    rcases case i x m1 with ⟨rfl, rfl⟩ | ⟨b0, hi, hx, e1, e2, _⟩
    · exact (unreal _ rfl m3).elim
    · rw [ABk.real_later hu hi] at m3
      rw [hu.blk i hi] at m4
      exact ⟨i, b0, hx, e1.trans m2, (e2 _ _).1 m3, m4⟩
  have hE : ExtB B H μ w ((H.upd K (some (.cells true esz 0 (.fn rows)))).upd q (some (.cells own sz1 1 (.fn fun _ => l.set o0 (noSlc K))))) (μ.at K esz) w := ⟨hu.mono hB, rfl, rfl, rfl, Nat.le_refl _, fun b _ _ => rfl, fun b _ hm => may b hm⟩
  refine h (μ.at K esz) w a ⟨fun i b hb => ?_, fun i b hb => ?_, fun i b j b' hi hj ho hr hr' he => ?_⟩ ⟨hf.size, fun t' v hv => (hf.val t' v hv).later hu (by omega)⟩ Q fun e fr' H' a' w' hp ha => hQ e fr' H' a' w' hp (AtB.trans hE rfl ha)
  · rcases case i b hb with ⟨rfl, _⟩ | ⟨b0, hi, _⟩ <;> omega
  · rcases case i b hb with ⟨rfl, rfl⟩ | ⟨b0, hi, hx, e1, e2, rfl | ⟨rfl, rfl⟩⟩
    · refine ⟨by simp [MM.at], hpos, fun hr => ?_⟩
      simp [MM.at] at hr
    · exact (hg.ok i b hx).later hu (by omega) hi fun _ => rfl
    · have ok := (hg.ok _ _ ht).later hu (Nat.le_succ K) hqK (fun _ => rfl)
      refine ⟨ok.1, ok.2.1, fun hr => ?_⟩
      obtain ⟨cur, ty, fz, k1, k2, k3, k4⟩ := ok.2.2 hr
      refine ⟨cur, ty, fz, k1, k2, k3, fun j hj => ?_⟩
      obtain rfl : j = 0 := by omega
      have k5 := k4 0 (by omega)
      rw [h0] at k5
      refine ⟨(List.length_set (as := l) (i := o0) (a := noSlc K)).trans k5.1, fun o v hv => ?_⟩
      have hv : (l.set o0 (noSlc K))[o]? = some v := hv
      by_cases q : o = o0
      · subst q
        have hlt : o < l.length := (List.getElem?_eq_some_iff.1 hl).1
        rw [List.getElem?_set_self hlt] at hv
        cases hv
        obtain ⟨_, cv, k6, k7⟩ := k5.2 o .nils hl
        refine ⟨rfl, cv, k6, ?_⟩
        simp only [Rep] at k7
        rw [k7]
        simp only [noSlc, Rep]
        exact ⟨by omega, none, 0, rfl, Nat.le_refl _, fun h => absurd h (by omega), fun h => (by cases h), fun _ => ⟨rfl, rfl, .inl ⟨rfl, rfl, rfl⟩⟩⟩
      · rw [List.getElem?_set_ne (by omega)] at hv
        exact k5.2 o v hv
  · rcases case i b hi with ⟨rfl, rfl⟩ | ⟨b0, hi1, hx, e1, e2, _⟩
    · exact (unreal _ rfl hr).elim
    · rcases case j b' hj with ⟨rfl, rfl⟩ | ⟨b1, hj1, hy, e3, e4, _⟩
      · exact (unreal _ rfl hr').elim
      · rw [ABk.real_later hu hi1] at hr
        rw [ABk.real_later hu hj1] at hr'
        rw [hu.blk i hi1, hu.blk j hj1] at he
        exact hg.sep _ _ _ _ hx hy (e1.trans ho) ((e2 _ _).1 hr) ((e4 _ _).1 hr') he
theorem GoesB.callRL {call : Calls'} (hcall : CallOk P call) {region : List Oper → Fr → M Fr} {loops : Loops} {rounds : Nat} {ops : Array Oper} {id id1 id2 : Nat} {l1 l2 : List Oper} {o : Oper} (hops : ops.toList = l1 ++ (o :: l2))
    (hgd : ∀ o ∈ l1, o.guard = none) (hgo : o.guard = none) (hg2 : ∀ o ∈ l2, o.guard = none)
    {cl : Call} (ho : o.op = .call cl) {fop : Operand} (hcal : cl.callee = .value fop) {d : Nat} (hdst : o.dst = some d) (hd : d < n)
    {K1 K2 : Nat} (hKle : K1 ≤ K2) {fr : Fr} {H : T ABk} {fl1 : List (Nat × AV)} {bl1 : List (Nat × ABk)} {path : List Bool}
    (hrun : PieceN K1 .normal fl1 bl1 (codeA P call region loops n rounds (.region id1 l1.toArray false) fr ⟨H, K, [], path, True⟩))
    {f : FuncId} {fn : Func} {body : Code} (hf : P.funcs[f]? = some fn) (hb : fn.body = some body) (hname : (fn.name == "runtime.NumGoroutine") = false)
    {pre cap : List AV} (hfv : evalA (frL fl1) fop = .fn (.func f) pre cap) {B0 : Nat} (hB0 : B ≤ B0) (hBK : B0 ≤ K1) (hBB : B ≤ K) {flk : List (Nat × AV)} (hk1 : flk.all (fun p => p.2.low B0) = true) (hk2 : Ge (frL fl1) flk) {V : AV → T ABk → Prop}
    (hcallee : GoesB P body fn.ntmps B0 K1 K2 (frameOf (pre ++ cl.args.toList.map (evalA (frL fl1)) ++ cap) 0 .e) (hpL bl1) fun e fr' H' => (e = .ret ∨ e = .normal) ∧ ∃ vs g', resultsA P fr' fn.results.toList ⟨H', K2, [], [], True⟩ = .done vs g' ∧ g'.cs ∧ ∃ u, AV.ge (packA vs) u ∧ V u H')
    {Post : Po} (hpost : ∀ v H', V v H' → ∃ path2 fl2 bl2, PieceN K' .normal fl2 bl2 (codeA P call region loops n rounds (.region id2 l2.toArray false) ((frL flk).upd d (some v)) ⟨H', K2, [], path2, True⟩) ∧ Post .normal (frL fl2) (hpL bl2)) :
    GoesB P (.region id ops false) n B K K' fr H Post := by
  intro μ w a hg hf0 Q hQ
  refine wp_region_list ?_
  rw [hops]
  have hr := hrun.of
  generalize hres : codeA P call region loops n rounds (.region id1 l1.toArray false) fr ⟨H, K, [], path, True⟩ = res at hr
  unfold pieceN at hr
  split at hr
  · rename_i r g
    obtain ⟨hre, hw, hh, hnx, hcs1⟩ := hr
    have hnx := Nat.le_of_ble_eq_true hnx
    unfold codeA at hres
    obtain ⟨fr1, g1, b1, b2⟩ := done_of hres
    obtain ⟨rfl, rfl⟩ := ret_done b2
    have b1' : opsA0 P call n l1 l1 fr ⟨H, K, [], path, True⟩ = .done fr1 g1 := by rw [← opsA_eq]; simpa using b1
    obtain ⟨_, hs⟩ := opsPre hcall (ops := ops) (Q := Q) (l2 := o :: l2) l1 _ _ _ _ hgd b1'
    refine hs hcs1 μ w a hg hf0 fun a1 w1 hk => ?_
    obtain ⟨μ1, k1, k2, k3, k4⟩ := hk
    have sub : ∀ i b, (hpL bl1).get i = some b → g1.H.get i = some b := fun i b hb => hh.get (hpL_get hb)
    have k1' : GOk K1 μ1 w1.heap (hpL bl1) := k1.up hnx sub
    have x1 : ExtB B H μ w (hpL bl1) μ1 w1 := ⟨k2.names.mono hBB, k2.os, k2.tape, k2.output, k2.size, k2.block, fun b hb hm => k2.may b hb (by
      obtain ⟨i, x, m1, m2, m3, m4⟩ := hm
      exact ⟨i, x, sub i x m1, m2, m3, m4⟩)⟩
    have k3' : FrOk K1 μ1 (frL fl1) a1.tmps n := ⟨k3.size, fun t v ht => (k3.val t v (hw.get (frL_get ht))).later (.refl _ _) hnx⟩
    have hKK : K ≤ K1 := Nat.le_trans k2.nx hnx
    refine wpList_plain hgo fun KK hKK' => ?_
    -- the call
    have hxv := k3'.eval fop
    rw [hfv] at hxv
    simp only [Rep] at hxv
    obtain ⟨fs, cs, e, h1, h2⟩ := hxv
    have hargs : Reps K1 μ1 (pre ++ cl.args.toList.map (evalA (frL fl1)) ++ cap) ((fs ++ cl.args.map a1.eval) ++ cs).toList := by
      simp only [Array.toList_append]
      exact (h1.append (k3'.evals _)).append h2
    have hcf := GoesB.call hf hb hname (V := fun v H' => ∃ u, AV.ge v u ∧ V u H') hcallee μ1 w1 k1' hargs
    have hrunop : (execOp a1.eval o).run P w1 = (callFunc f ((fs ++ cl.args.map a1.eval) ++ cs)).run P w1 := by
      simp only [execOp, ho, resolve, hcal, e, Deferred.ofValue, Sem.run_bind]
      rfl
    have fin : ∀ c w', (∃ v μ' H', (∃ u, AV.ge v u ∧ V u H') ∧ Rep K2 μ' v c ∧ GOk K2 μ' w'.heap H' ∧ ExtB B0 (hpL bl1) μ1 w1 H' μ' w') → KK (a1.put o.dst c) w' := by
      rintro c w' ⟨v0, μ2, H2, ⟨v, hge, hV⟩, r1, r2, r3⟩
      replace r1 := hge _ _ _ r1
      refine hKK' _ _ ?_
      obtain ⟨path2, fl2, bl2, hp2, hP⟩ := hpost v H2 hV
      have hr2 := hp2.of
      generalize hres2 : codeA P call region loops n rounds (.region id2 l2.toArray false) ((frL flk).upd d (some v)) ⟨H2, K2, [], path2, True⟩ = res2 at hr2
      unfold pieceN at hr2
      split at hr2
      · rename_i r' g'
        obtain ⟨hre', hw', hh', hnx', hcs2⟩ := hr2
        have hnx' := Nat.le_of_ble_eq_true hnx'
        unfold codeA at hres2
        obtain ⟨fr3, g3, b3, b4⟩ := done_of hres2
        obtain ⟨rfl, rfl⟩ := ret_done b4
        have b3' : opsA0 P call n l2 l2 ((frL flk).upd d (some v)) ⟨H2, K2, [], path2, True⟩ = .done fr3 g3 := by rw [← opsA_eq]; simpa using b3
        obtain ⟨_, hs2⟩ := opsPre hcall (ops := ops) (Q := Q) (l2 := []) l2 _ _ _ _ hg2 b3'
        rw [List.append_nil] at hs2
        have f1 : FrOk K2 μ2 ((frL flk).upd d (some v)) (a1.put o.dst c).tmps n := by
          rw [hdst]
          have hs : MM.upto B0 μ2 μ1 := ⟨fun g hg => (r3.names.blk g hg).symm, fun g hg => (r3.names.cap g hg).symm, fun g hg => (r3.names.sz g hg).symm, fun g hg => (r3.names.base g hg).symm⟩
          have kk : FrOk K2 μ2 (frL flk) a1.tmps n := ⟨k3'.size, fun t v ht => by
            have hm := frL_get ht
            obtain ⟨u, hu1, hu2⟩ := hk2.get _ hm
            exact (Rep.ofLow hs (List.all_eq_true.1 hk1 _ hm) (hu2 _ _ _ (k3'.val t u hu1))).later (.refl _ _) (Nat.le_trans hBK hKle)⟩
          exact kk.upd hd r1
        refine hs2 hcs2 μ2 w' _ r2 f1 fun a3 w3 hk3 => ?_
        obtain ⟨μ3, q1, q2, q3, q4⟩ := hk3
        have sub3 : ∀ i b, (hpL bl2).get i = some b → g3.H.get i = some b := fun i b hb => hh'.get (hpL_get hb)
        refine wpList_nil (hQ .normal _ _ _ _ hP ⟨μ3, q1.up hnx' sub3, ?_, ⟨q3.size, fun t v ht => (q3.val t v (hw'.get (frL_get ht))).later (.refl _ _) hnx'⟩, ?_⟩)
        · have x2 : ExtB B (hpL bl1) μ1 w1 H2 μ2 w' := ⟨r3.names.mono hB0, r3.os, r3.tape, r3.output, r3.size, r3.block, r3.may⟩
          have x3 : ExtB B H2 μ2 w' (hpL bl2) μ3 w3 := ⟨q2.names.mono (Nat.le_trans hB0 (Nat.le_trans hBK hKle)), q2.os, q2.tape, q2.output, q2.size, q2.block, fun b hb hm => q2.may b hb (by
            obtain ⟨i, x, m1, m2, m3, m4⟩ := hm
            exact ⟨i, x, sub3 i x m1, m2, m3, m4⟩)⟩
          exact (x1.trans x2).trans x3
        · rw [q4, Act.put_defers]; exact k4
      · exact hr2.elim
    unfold Oper.wp
    rw [hrunop]
    rcases hcf with ⟨c, w', e, ha⟩ | ⟨f', args', w', e, hcalls⟩
    · rw [e]; exact fin c w' ha
    · rw [e, Oper.upon_enter]
      refine hcalls.mono ?_
      rintro e1 w2 ⟨c, rfl, ha⟩
      exact fin c w2 ha
  · exact hr.elim
theorem GoesB.callL {call : Calls'} (hcall : CallOk P call) {region : List Oper → Fr → M Fr} {loops : Loops} {rounds : Nat} {c : Code} (i : Nat) (hc : c = .region (regId c) (regOps c).toArray false) {o : Oper} (hops : regOps c = (regOps c).take i ++ (o :: (regOps c).drop (i + 1))) (hgd : (regOps c).all (fun o => o.guard.isNone) = true)
    {cl : Call} (ho : o.op = .call cl) {fop : Operand} (hcal : cl.callee = .value fop) {d : Nat} (hdst : o.dst = some d) (hd : d < n)
    {K1 K2 : Nat} (hKle : K1 ≤ K2) {fr : Fr} {H : T ABk} {fl1 : List (Nat × AV)} {bl1 : List (Nat × ABk)} {path : List Bool}
    (hrun : PieceN K1 .normal fl1 bl1 (codeA P call region loops n rounds (regPre i c) fr ⟨H, K, [], path, True⟩))
    {f : FuncId} {fn : Func} {body : Code} (hf : P.funcs[f]? = some fn) (hb : fn.body = some body) (hname : (fn.name == "runtime.NumGoroutine") = false)
    {pre cap : List AV} (hfv : evalA (frL fl1) fop = .fn (.func f) pre cap) {B0 : Nat} (hB0 : B ≤ B0) (hBK : B0 ≤ K1) (hBB : B ≤ K) (flk : List (Nat × AV)) (hk1 : flk.all (fun p => p.2.low B0) = true) (hk2 : Ge (frL fl1) flk) {args : List AV} (hargs : pre ++ cl.args.toList.map (evalA (frL fl1)) ++ cap = args) {V : AV → T ABk → Prop}
    (hcallee : GoesB P body fn.ntmps B0 K1 K2 (frameOf args 0 .e) (hpL bl1) fun e fr' H' => (e = .ret ∨ e = .normal) ∧ ∃ vs g', resultsA P fr' fn.results.toList ⟨H', K2, [], [], True⟩ = .done vs g' ∧ g'.cs ∧ ∃ u, AV.ge (packA vs) u ∧ V u H')
    {Post : Po} (hpost : ∀ v H', V v H' → ∃ path2 fl2 bl2, PieceN K' .normal fl2 bl2 (codeA P call region loops n rounds (regPost (i + 1) c) ((frL flk).upd d (some v)) ⟨H', K2, [], path2, True⟩) ∧ Post .normal (frL fl2) (hpL bl2)) :
    GoesB P c n B K K' fr H Post := by
  have e1 : regPre i c = .region (regId c) ((regOps c).take i).toArray false := by
    rw [hc]; simp only [regPre, regId, regOps]
  have e2 : regPost (i + 1) c = .region (regId c) ((regOps c).drop (i + 1)).toArray false := by
    rw [hc]; simp only [regPost, regId, regOps]
  have gd := List.all_eq_true.1 hgd
  have g : ∀ o ∈ regOps c, o.guard = none := fun o ho => Option.isNone_iff_eq_none.1 (gd o ho)
  rw [e1] at hrun
  subst hargs
  rw [hc]
  refine GoesB.callRL hcall (id1 := regId c) (id2 := regId c) (l1 := (regOps c).take i) (l2 := (regOps c).drop (i + 1)) (o := o) (by simpa using hops) (fun o ho => g o (List.mem_of_mem_take ho)) (g o (by rw [hops]; simp)) (fun o ho => g o (List.mem_of_mem_drop ho)) ho hcal hdst hd hKle hrun hf hb hname hfv hB0 hBK hBB hk1 hk2 hcallee fun v H' hv => ?_
  obtain ⟨p, fl2, bl2, h1, h2⟩ := hpost v H' hv
  rw [e2] at h1
  exact ⟨p, fl2, bl2, h1, h2⟩
def SameM (b b' : ABk) : Prop := SameG b b' ∨ ∃ s s' l, b = .mSI s l ∧ b' = .mSI s' l
theorem SameM.owned {b b' : ABk} (h : SameM b b') : b.owned = b'.owned := by
  rcases h with h | ⟨s, s', l, rfl, rfl⟩
  · exact h.owned
  · rfl
theorem SameM.real {b b' : ABk} (h : SameM b b') (μ : MM) (g : Nat) : b.real μ g ↔ b'.real μ g := by
  rcases h with h | ⟨s, s', l, rfl, rfl⟩
  · exact h.real μ g
  · exact Iff.rfl
theorem SameM.ok {N : Nat} {μ : MM} {hp : Array Obj} {g : Nat} {b b' : ABk} (h : SameM b b') (k : BkOk N μ hp g b) : BkOk N μ hp g b' := by
  rcases h with h | ⟨s, s', l, rfl, rfl⟩
  · exact h.ok k
  · exact k
theorem GoesB.weakM {c : Code} {fr fr0 : Fr} {H H0 : T ABk} {Post : Po} (hf : ∀ t v, fr0.get t = some v → ∃ u, fr.get t = some u ∧ AV.ge u v) (hH : ∀ i b, H0.get i = some b → ∃ b', H.get i = some b' ∧ SameM b' b) (h : GoesB P c n B K K' fr0 H0 Post) : GoesB P c n B K K' fr H Post := by
  intro μ w a hg hfr Q hQ
  refine h μ w a ⟨fun i b hb => let ⟨b', h1, _⟩ := hH i b hb; hg.lt i b' h1, fun i b hb => let ⟨b', h1, h2⟩ := hH i b hb; h2.ok (hg.ok i b' h1), fun i b j b' hi hj ho hr hr' he => ?_⟩
    ⟨hfr.size, fun t v ht => let ⟨u, h1, h2⟩ := hf t v ht; h2 _ _ _ (hfr.val t u h1)⟩ Q fun e fr' H' a' w' hp ha => hQ e fr' H' a' w' hp ⟨?_⟩
  · obtain ⟨b1, h1, h2⟩ := hH i b hi
    obtain ⟨b2, k1, k2⟩ := hH j b' hj
    exact hg.sep i b1 j b2 h1 k1 (by rw [h2.owned]; exact ho) ((h2.real μ i).2 hr) ((k2.real μ j).2 hr') he
  · obtain ⟨μ', k1, k2, k3, k4⟩ := ha.of
    have may : ∀ b, May μ H0 b → May μ H b := fun b ⟨i, x, m1, m2, m3, m4⟩ => by
      obtain ⟨b', h1, h2⟩ := hH i x m1
      exact ⟨i, b', h1, by rw [h2.owned]; exact m2, (h2.real μ i).2 m3, m4⟩
    exact ⟨μ', k1, ⟨k2.names, k2.os, k2.tape, k2.output, k2.size, fun b hb hn => k2.block b hb fun hm => hn (may b hm), fun b hb hm => may b (k2.may b hb hm)⟩, k3, k4⟩
def GeM (H : T ABk) : List (Nat × ABk) → Prop
  | [] => True
  | p :: l => (∃ b, H.get p.1 = some b ∧ SameM b p.2) ∧ GeM H l
theorem GeM.get {H : T ABk} : ∀ {l : List (Nat × ABk)}, GeM H l → ∀ p ∈ l, ∃ b, H.get p.1 = some b ∧ SameM b p.2
  | q :: l, h, p, hp => by
    rcases List.mem_cons.1 hp with rfl | hp
    · exact h.1
    · exact GeM.get h.2 p hp
theorem GoesB.weakML {c : Code} {fr : Fr} {H : T ABk} {fl : List (Nat × AV)} {bl : List (Nat × ABk)} {Post : Po} (hf : Ge fr fl) (hH : GeM H bl) (h : GoesB P c n B K K' (frL fl) (hpL bl) Post) : GoesB P c n B K K' fr H Post :=
  h.weakM (fun t v ht => hf.get _ (frL_get ht)) fun i b hb => hH.get _ (hpL_get hb)
structure NewsG (N : Nat) (H' : T ABk) (nms : List Nat) (bs : List ABk) : Prop where
  len : nms.length = bs.length
  at' : ∀ (i : Nat) (b : ABk), bs[i]? = some b → ∃ nm b0, nms[i]? = some nm ∧ H'.get nm = some b0 ∧ SameC b0 (b.ren fun i => nms.getD (i - N) 0) ∧ b.owned = true ∧ b.lowR (N + bs.length) ∧ b.inS (fun i => N ≤ i)
  nodup : nms.Nodup
theorem newsG_ok {g : G} {μ : MM} {w w' : World} (hg : GOk g.nx μ w.heap g.H) {k K' : Nat} {Hc H' : T ABk} {μc μ' : MM} (hno : ∀ B, ¬ May μc Hc B) (hE : ExtB k Hc μc w H' μ' w') (hc : GOk K' μ' w'.heap H') {nms : List Nat} {bs : List ABk} (hn : NewsG g.nx H' nms bs)
    {g' : G} (h1 : g'.H = putNew g.H g.nx bs) (h2 : g'.nx = g.nx + bs.length) :
    GOk g'.nx (newMM μ μ' g.nx nms) w'.heap g'.H ∧ Ext g μ w g' (newMM μ μ' g.nx nms) w' := by
  have old : ∀ B, B < w.heap.size → w'.heap[B]? = w.heap[B]? := fun B hB => hE.block B hB (hno B)
  have case : ∀ i b, g'.H.get i = some b → (i < g.nx ∧ g.H.get i = some b) ∨ ∃ j nm b0, i = g.nx + j ∧ bs[j]? = some b ∧ nms[j]? = some nm ∧ H'.get nm = some b0 ∧ SameC b0 (b.ren fun i => nms.getD (i - g.nx) 0) ∧ b.owned = true ∧ b.lowR (g.nx + bs.length) ∧ b.inS (fun i => g.nx ≤ i) := fun i b hb => by
    rw [h1, putNew_get] at hb
    split at hb
    · rename_i hi
      obtain ⟨nm, b0, k1, k2, k3, k4, k5, k6⟩ := hn.at' _ _ hb
      exact .inr ⟨i - g.nx, nm, b0, by omega, hb, k1, k2, k3, k4, k5, k6⟩
    · exact .inl ⟨hg.lt _ _ hb, hb⟩
  have nmv : ∀ j nm, nms[j]? = some nm → nms.getD (g.nx + j - g.nx) 0 = nm := fun j nm h => by
    rw [show g.nx + j - g.nx = j by omega, List.getD_eq_getElem?_getD, h]; rfl
  have eqs : ∀ j nm, nms[j]? = some nm → (newMM μ μ' g.nx nms).blk (g.nx + j) = μ'.blk nm ∧ (newMM μ μ' g.nx nms).cap (g.nx + j) = μ'.cap nm ∧ (newMM μ μ' g.nx nms).sz (g.nx + j) = μ'.sz nm ∧ (newMM μ μ' g.nx nms).base (g.nx + j) = μ'.base nm := fun j nm h => by
    have hge : ¬ g.nx + j < g.nx := by omega
    refine ⟨?_, ?_, ?_, ?_⟩ <;> simp only [newMM, if_neg hge, nmv j nm h]
  have high : ∀ (j nm : Nat) (b0 b : ABk), nms[j]? = some nm → H'.get nm = some b0 → SameC b0 (b.ren fun i => nms.getD (i - g.nx) 0) → b.owned = true → b.real (newMM μ μ' g.nx nms) (g.nx + j) → w.heap.size ≤ (newMM μ μ' g.nx nms).blk (g.nx + j) := fun j nm b0 b e1 e2 e3 e4 e5 => by
    obtain ⟨q1, q2, q3, q4⟩ := eqs j nm e1
    rw [q1]
    refine Nat.le_of_not_lt fun hlt => hno _ (hE.may _ hlt ⟨nm, b0, e2, by rw [e3.owned, ABk.ren_owned]; exact e4, (e3.real _ _).2 ((ABk.ren_real _ _ _ _).2 ((ABk.real_eq q2 b).1 e5)), rfl⟩)
  constructor
  · refine ⟨fun i b hb => ?_, fun i b hb => ?_, fun i b j b' hi hj ho hr hr' he => ?_⟩
    · rw [h2]
      rcases case i b hb with ⟨h, _⟩ | ⟨j, nm, b0, rfl, h, _⟩
      · omega
      · have := (List.getElem?_eq_some_iff.1 h).1; omega
    · rcases case i b hb with ⟨h, hb'⟩ | ⟨j, nm, b0, rfl, e1, e2, e3, e4, e5, e6, e7⟩
      · have ok := hg.ok _ _ hb'
        exact ok.later newMM_lt (by omega) h fun hr => old _ (ok.lt_size hr)
      · obtain ⟨q1, q2, q3, q4⟩ := eqs j nm e2
        have r1 : BkOk g'.nx (μ'.via fun i => nms.getD (i - g.nx) 0) w'.heap (g.nx + j) b := by
          refine BkOk.unren (σ := fun i => nms.getD (i - g.nx) 0) (μ := μ') (g' := nm) (e4.ok (hc.ok _ _ e3)) (by rw [h2]; exact e6) (fun i _ => ⟨rfl, rfl, rfl, rfl⟩) ?_ ?_ ?_ ?_ <;> simp only [MM.via, nmv j nm e2]
        refine BkOk.on (S := fun i => g.nx ≤ i) (fun i hi hl => ⟨hl, ?_⟩) ?_ e7 (fun _ => rfl) r1
        · have hge : ¬ i < g.nx := by omega
          refine ⟨?_, ?_, ?_, ?_⟩ <;> simp only [newMM, if_neg hge, MM.via]
        · have hge : ¬ g.nx + j < g.nx := by omega
          refine ⟨?_, ?_, ?_, ?_⟩ <;> simp only [newMM, if_neg hge, MM.via]
    · rcases case i b hi with ⟨hlt, hb1⟩ | ⟨i1, nm, b0, rfl, e1, e2, e3, e4, e5, e6, e7⟩
      · rw [ABk.real_later newMM_lt hlt] at hr
        rw [newMM_lt.blk i hlt] at he
        rcases case j b' hj with ⟨hlt', hb2⟩ | ⟨j1, nm', b0', rfl, e1', e2', e3', e4', e5', e6', e7'⟩
        · rw [ABk.real_later newMM_lt hlt'] at hr'
          rw [newMM_lt.blk j hlt'] at he
          exact hg.sep _ _ _ _ hb1 hb2 ho hr hr' he
        · have := high j1 nm' b0' b' e2' e3' e4' e5' hr'
          have := (hg.ok _ _ hb1).lt_size hr
          omega
      · rcases case j b' hj with ⟨hlt', hb2⟩ | ⟨j1, nm', b0', rfl, e1', e2', e3', e4', e5', e6', e7'⟩
        · rw [ABk.real_later newMM_lt hlt'] at hr'
          rw [newMM_lt.blk j hlt'] at he
          have := high i1 nm b0 b e2 e3 e4 e5 hr
          have := (hg.ok _ _ hb2).lt_size hr'
          omega
        · obtain ⟨q1, q2, _⟩ := eqs i1 nm e2
          obtain ⟨q1', q2', _⟩ := eqs j1 nm' e2'
          have e : nm = nm' := hc.sep _ _ _ _ e3 e3' (by rw [e4.owned, ABk.ren_owned]; exact e5) ((e4.real _ _).2 ((ABk.ren_real _ _ _ _).2 ((ABk.real_eq q2 b).1 hr))) ((e4'.real _ _).2 ((ABk.ren_real _ _ _ _).2 ((ABk.real_eq q2' b').1 hr'))) (by rw [← q1, ← q1']; exact he)
          subst e
          have hi1 := (List.getElem?_eq_some_iff.1 e2).1
          have : i1 = j1 := (List.getElem?_inj hi1 hn.nodup).1 (e2.trans e2'.symm)
          rw [this]
  · refine ⟨by omega, newMM_lt, hE.os, hE.tape, hE.output, hE.size, fun B hB _ => old B hB, fun B hB hm => ?_⟩
    obtain ⟨i, b, m1, m2, m3, m4⟩ := hm
    rcases case i b m1 with ⟨hlt, hb1⟩ | ⟨j, nm, b0, rfl, e1, e2, e3, e4, e5, e6, e7⟩
    · rw [ABk.real_later newMM_lt hlt] at m3
      rw [newMM_lt.blk i hlt] at m4
      exact ⟨i, b, hb1, m2, m3, m4⟩
    · have := high j nm b0 b e2 e3 e4 e5 m3
      omega
theorem readsG {f : FuncId} {fn : Func} {c : Code} (hf : P.funcs[f]? = some fn) (hb : fn.body = some c) (hname : (fn.name == "runtime.NumGoroutine") = false) {K' : Nat} {args argsC : List AV} {g g1 g' : G} {p : Prop} (kp : Keep g g1 p)
    (l : List Vw) (hl : p → ∀ v ∈ l, v.Ok g) (hargs : p → ∀ N μ (cs : List Value), Reps N μ args cs → Reps l.length (vwMM μ l) argsC cs)
    {nms : List Nat} {bs : List ABk} {v : AV}
    (h : p → GoesB P c fn.ntmps l.length l.length K' (frameOf argsC 0 .e) (hpL (vwL l 0)) fun e fr' H' => (e = .ret ∨ e = .normal) ∧ ∃ vs gr, resultsA P fr' fn.results.toList ⟨H', K', [], [], True⟩ = .done vs gr ∧ gr.cs ∧ AV.ge (packA vs) (v.ren (fun i => nms.getD (i - g.nx) 0)) ∧ NewsG g.nx H' nms bs)
    (hv : v.low (g.nx + bs.length) = true) (hS : v.inS fun i => g.nx ≤ i) (h1 : g'.H = putNew g.H g.nx bs) (h2 : g'.nx = g.nx + bs.length) (h3 : g'.cs → g1.cs) : CallIs P f args v g g' := by
  refine ⟨fun hc => (kp.2.2 (h3 hc)).1, fun hcs μ w cargs hg ha => ?_⟩
  have hp := (kp.2.2 (h3 hcs)).2
  refine (GoesB.call hf hb hname (V := fun u H' => AV.ge u (v.ren (fun i => nms.getD (i - g.nx) 0)) ∧ NewsG g.nx H' nms bs) ((h hp).mono fun e fr' H' ⟨k1, vs, gr, k2, k3, k4, k5⟩ => ⟨k1, vs, gr, k2, k3, k4, k5⟩) (vwMM μ l) w (vw_gok (hl hp) hg) (hargs hp _ _ _ ha)).mono ?_
  rintro cv w' ⟨u, μ', H', ⟨hge, hN⟩, hrep, hgk, hE⟩
  obtain ⟨q1, q2⟩ := newsG_ok hg (fun B => vw_may) hE hgk hN h1 h2
  refine ⟨newMM μ μ' g.nx nms, ?_, q1, q2⟩
  rw [h2]
  exact news_rep (hge _ _ _ hrep) hv hS
end Go.Sx
