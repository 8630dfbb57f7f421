/- ROWS OF NUMBERS: pairs of words, complex numbers; what is asked of them. -/
import Derived.Test.YtehhljcjdiokjaaSyT
set_option linter.unusedSimpArgs false
set_option linter.unusedVariables false
noncomputable section
namespace Go.Sx
open M

def zre : List AV → Int
  | [.int _ .u64 a, .int _ .u64 _] => a
  | _ => 0
def zim : List AV → Int
  | [.int _ .u64 _, .int _ .u64 b] => b
  | _ => 0
def zrow (r : List AV) : List AV := [.int true .u64 (zre r), .int true .u64 (zim r)]
/-- two words -/
def ZRow (r : List AV) : Prop := (∃ s s', r = [.int s .u64 (zre r), .int s' .u64 (zim r)]) ∧ 0 ≤ zre r ∧ zre r < 18446744073709551616 ∧ 0 ≤ zim r ∧ zim r < 18446744073709551616
theorem ZRow.ge {r : List AV} (h : ZRow r) : RowGe r (zrow r) := by
  obtain ⟨⟨s, s', e⟩, _⟩ := h
  rw [e]
  exact ⟨AV.ge.int _ _ _ _, rfl, AV.ge.int _ _ _ _, rfl, trivial⟩
/-- the number that has these words -/
def cz (r : List AV) : List AV := [.cpx true (cn (zre r).toNat) (cn (zim r).toNat)]
def cre : List AV → Nat
  | [.cpx _ a _] => a
  | _ => 0
def cim : List AV → Nat
  | [.cpx _ _ b] => b
  | _ => 0
def crow (r : List AV) : List AV := [.cpx true (cre r) (cim r)]
/-- a float's canonical word -/
def Fw (x : Nat) : Prop := x < 18446744073709551616 ∧ cn x = x
/-- a complex number -/
def CRow (r : List AV) : Prop := (∃ s, r = [.cpx s (cre r) (cim r)]) ∧ Fw (cre r) ∧ Fw (cim r)
theorem CRow.ge {r : List AV} (h : CRow r) : RowGe r (crow r) := by
  obtain ⟨⟨s, e⟩, _⟩ := h
  rw [e]
  exact ⟨AV.ge.cpx' _ _ rfl rfl, rfl, trivial⟩
theorem Fw.cn {x : Nat} (h : x < 18446744073709551616) : Fw (cn x) := ⟨cn_lt h, cn_cn x⟩
theorem ZRow.cz {r : List AV} (h : ZRow r) : CRow (cz r) := ⟨⟨true, rfl⟩, Fw.cn (by have := h.2; omega), Fw.cn (by have := h.2; omega)⟩
theorem bare_int2 (sh : Nat → Int) (sh' : Nat → Int) (n : Nat) : (ABk.cells false 2 n (.fn fun j => [.int true .u64 (sh j), .int true .u64 (sh' j)])).bare := fun _ _ v hv => by
  simp [Cont.row] at hv; rcases hv with rfl | rfl <;> rfl
theorem bare_cpx (own : Bool) (sh : Nat → Nat) (sh' : Nat → Nat) (n : Nat) : (ABk.cells own 1 n (.fn fun j => [.cpx true (sh j) (sh' j)])).bare := fun _ _ v hv => by
  simp [Cont.row] at hv; subst hv; rfl
theorem cre_cpx (s : Bool) (a b : Nat) : cre [.cpx s a b] = a := rfl
theorem cim_cpx (s : Bool) (a b : Nat) : cim [.cpx s a b] = b := rfl
theorem zre_int (s s' : Bool) (a b : Int) : zre [.int s .u64 a, .int s' .u64 b] = a := rfl
theorem zim_int (s s' : Bool) (a b : Int) : zim [.int s .u64 a, .int s' .u64 b] = b := rfl
/-- is it so? -/
def cd (p : Prop) : Bool := @decide p (Classical.propDecidable p)
theorem cd_true {p : Prop} (h : p) : cd p = true := by unfold cd; exact @decide_eq_true p (Classical.propDecidable p) h
theorem cd_false {p : Prop} (h : ¬ p) : cd p = false := by unfold cd; exact @decide_eq_false p (Classical.propDecidable p) h
theorem cd_iff {p : Prop} : cd p = true ↔ p := by unfold cd; exact @decide_eq_true_iff p (Classical.propDecidable p)
/-- rows of two lists of numbers, the same? -/
def CSame (la lb : Nat) (ra rb : Nat → List AV) : Prop := la = lb ∧ ∀ j, j < la → cre (ra j) = cre (rb j) ∧ cim (ra j) = cim (rb j)
theorem CRow.bare {r : List AV} (h : CRow r) : ∀ u, u ∈ r → u.low 0 = true := by
  obtain ⟨⟨s, e⟩, _⟩ := h
  rw [e]
  intro u hu
  simp at hu
  subst hu; rfl
def CRows (len : Nat) (rows : Nat → List AV) : Prop := ∀ j, j < len → CRow (rows j)
end Go.Sx
