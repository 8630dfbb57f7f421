/- PivotOrders: a part: summaries of functions that the statement reaches, printed by program, checked by the kernel. -/
import Derived.ProofKit
import Derived.OpenShut
import Derived.KernelRfl
import Derived.SizedLaws
import Derived.Test.YtehhljcjdiokjaaProg
import Derived.Test.YtehhljcjdiokjaaSm3
namespace Go.Proofs.Ytehhljcjdiokjaa
open Go.ChangeShapes Go.WideShapes Go.ChangeAt Go.RowKit
set_option linter.unusedVariables false
set_option linter.unusedSimpArgs false
set_option maxRecDepth 100000

noncomputable def gam0 : Sx.Known := Sx.kc 54 Sx.toBits (Sx.kc 60 Sx.ofBits (Sx.kn))
theorem gam0_ok : Sx.KnownOk Try.prog gam0 := Sx.kc_ok ((Sx.toBits_is Try.prog).callIs Try.func54 (by kernel_rfl) (by kernel_rfl) (by kernel_rfl) (by kernel_rfl)) (Sx.kc_ok ((Sx.ofBits_is Try.prog).callIs Try.func60 (by kernel_rfl) (by kernel_rfl) (by kernel_rfl) (by kernel_rfl)) (Sx.kn_ok))
theorem gam0_tch : Sx.KnownT gam0 := Sx.kc_tch Sx.Tch.toBits (Sx.kc_tch Sx.Tch.ofBits (Sx.kn_tch))
noncomputable def call0 : Sx.Calls' := Sx.runN Try.prog gam0 (Sx.regionC Try.prog) 1000 50
theorem call0_ok : Sx.CallOk Try.prog call0 := Sx.engineC gam0_ok gam0_tch (by kernel_rfl) (by kernel_rfl) 1000 50
theorem call0_tch : Sx.CallT call0 := Sx.runA_tch gam0_tch (fun _ _ _ h => by cases h) (fun call hc n l fr => Sx.regionC_tch hc n l fr) 50
theorem call0_reg (n : Nat) : Sx.RegionOk Try.prog (Sx.regionC Try.prog call0 n) n := Sx.runN_regionC gam0_ok gam0_tch (by kernel_rfl) (by kernel_rfl) 1000 50 n
noncomputable abbrev piececall0 (f : Func) (c : Code) (fr : Sx.Fr) (H : Sx.T Sx.ABk) (K : Nat) (path : List Bool) : Sx.Res (Sx.Ex × Sx.Fr) :=
 Sx.codeA Try.prog call0 (Sx.regionC Try.prog call0 f.ntmps) Sx.noLoops f.ntmps 1000 c fr ⟨H, K, [], path, True⟩

/-- xor over what is below -/
def xs (f : Nat → Bool) : Nat → Bool
 | 0 => false
 | n + 1 => xor (xs f n) (f n)
theorem xs_congr {f g : Nat → Bool} : ∀ {n : Nat}, (∀ j, j < n → f j = g j) → xs f n = xs g n
 | 0, _ => rfl
 | n + 1, h => by
  show xor (xs f n) (f n) = xor (xs g n) (g n)
  rw [xs_congr fun j hj => h j (by omega), h n (by omega)]
/-- two neighbours exchanged -/
def nb (a j : Nat) : Nat := if j = a then a + 1 else if j = a + 1 then a else j
theorem nb_a (a : Nat) : nb a a = a + 1 := by simp [nb]
theorem nb_b (a : Nat) : nb a (a + 1) = a := by simp [nb]
theorem nb_o {a j : Nat} (h1 : j ≠ a) (h2 : j ≠ a + 1) : nb a j = j := by simp [nb, h1, h2]
theorem xs_nb (f : Nat → Bool) (a : Nat) : ∀ {n : Nat}, a + 1 < n → xs (fun j => f (nb a j)) n = xs f n
 | 0, h => by omega
 | n + 1, h => by
  by_cases e : n = a + 1
  ·subst e
   show xor (xor (xs (fun j => f (nb a j)) a) (f (nb a a))) (f (nb a (a + 1))) = xor (xor (xs f a) (f a)) (f (a + 1))
   rw [nb_a, nb_b, xs_congr (g := f) fun j hj => by rw [nb_o (by omega) (by omega)]]
   cases xs f a <;> cases f a <;> cases f (a + 1) <;> rfl
  ·show xor (xs (fun j => f (nb a j)) n) (f (nb a n)) = xor (xs f n) (f n)
   rw [xs_nb f a (by omega), nb_o (by omega) (by omega)]
/-- pairs that stand the wrong way round, odd? -/
def par (l : Nat → Int) (n : Nat) : Bool := xs (fun k => xs (fun i => decide (l k < l i)) k) n
theorem par_step (l : Nat → Int) (n : Nat) : par l (n + 1) = xor (par l n) (xs (fun i => decide (l n < l i)) n) := rfl
theorem par_congr {l m : Nat → Int} {n : Nat} (h : ∀ j, j < n → l j = m j) : par l n = par m n :=
 xs_congr fun k hk => xs_congr fun i hi => by rw [h k hk, h i (by omega)]
theorem par_nb (l : Nat → Int) (a : Nat) (hl : l a ≠ l (a + 1)) : ∀ {n : Nat}, a + 1 < n → par (fun j => l (nb a j)) n = !par l n
 | 0, h => by omega
 | n + 1, h => by
  by_cases e : n = a + 1
  ·subst e
   rw [par_step, par_step, par_step, par_step, par_congr (m := l) fun j hj => by rw [nb_o (by omega) (by omega)]]
   rw [nb_a, nb_b, xs_congr (f := fun i => decide (l (a + 1) < l (nb a i))) (g := fun i => decide (l (a + 1) < l i)) fun j hj => by rw [nb_o (by omega) (by omega)]]
   show xor (xor (par l a) (xs (fun i => decide (l (a + 1) < l i)) a)) (xor (xs (fun i => decide (l a < l (nb a i))) a) (decide (l a < l (nb a a)))) = !(xor (xor (par l a) (xs (fun i => decide (l a < l i)) a)) (xor (xs (fun i => decide (l (a + 1) < l i)) a) (decide (l (a + 1) < l a))))
   rw [nb_a, xs_congr (f := fun i => decide (l a < l (nb a i))) (g := fun i => decide (l a < l i)) fun j hj => by rw [nb_o (by omega) (by omega)]]
   have d : decide (l a < l (a + 1)) = !decide (l (a + 1) < l a) := by
    by_cases h : l a < l (a + 1)
    ·rw [decide_eq_true h, decide_eq_false (by omega)]; rfl
    ·rw [decide_eq_false h, decide_eq_true (by omega)]; rfl
   rw [d]
   cases par l a <;> cases xs (fun i => decide (l (a + 1) < l i)) a <;> cases xs (fun i => decide (l a < l i)) a <;> cases decide (l (a + 1) < l a) <;> rfl
  ·rw [par_step, par_step, par_nb l a hl (by omega)]
   rw [nb_o (by omega) (by omega), xs_nb (fun i => decide (l n < l i)) a (by omega)]
   cases par l n <;> cases xs (fun i => decide (l n < l i)) n <;> rfl
/-- two places exchanged -/
def sw (i j k : Nat) : Nat := if k = i then j else if k = j then i else k
theorem sw_via (i d k : Nat) : sw i (i + d + 2) k = nb (i + d + 1) (sw i (i + d + 1) (nb (i + d + 1) k)) := by
 unfold sw nb
 (repeat' split) <;> omega
theorem nb_lt {a k n : Nat} (h : a + 1 < n) (hk : k < n) : nb a k < n := by unfold nb; (repeat' split) <;> omega
theorem nb_inj {a k m : Nat} (h : nb a k = nb a m) : k = m := by
 unfold nb at h
 (repeat' split at h) <;> omega
theorem sw_lt {i j k n : Nat} (hi : i < n) (hj : j < n) (hk : k < n) : sw i j k < n := by unfold sw; (repeat' split) <;> omega
theorem sw_inj {i j k m : Nat} (h : sw i j k = sw i j m) : k = m := by
 unfold sw at h
 (repeat' split at h) <;> omega
theorem par_up (i : Nat) : ∀ (d : Nat) (l : Nat → Int) {n : Nat}, i + d + 1 < n → (∀ a b, a < n → b < n → l a = l b → a = b) → par (fun k => l (sw i (i + d + 1) k)) n = !par l n
 | 0, l, n, h, hl => by
  rw [← par_nb l i (fun e => by have := hl _ _ (by omega) (by omega) e; omega) (n := n) (by omega)]
  exact par_congr fun k hk => rfl
 | d + 1, l, n, h, hl => by
  have nbn : ∀ a, a < n → nb (i + d + 1) a < n := fun a ha => nb_lt (by omega) ha
  have nbi : ∀ a b, nb (i + d + 1) a = nb (i + d + 1) b → a = b := fun a b h => nb_inj h
  have sn : ∀ a, a < n → sw i (i + d + 1) a < n := fun a ha => sw_lt (by omega) (by omega) ha
  have si : ∀ a b, sw i (i + d + 1) a = sw i (i + d + 1) b → a = b := fun a b h => sw_inj h
  have e : par (fun k => l (sw i (i + (d + 1) + 1) k)) n = par (fun k => (fun y => (fun x => l (nb (i + d + 1) x)) (sw i (i + d + 1) y)) (nb (i + d + 1) k)) n :=
   par_congr fun k hk => congrArg l (sw_via i d k)
  rw [e, par_nb (fun y => l (nb (i + d + 1) (sw i (i + d + 1) y))) (i + d + 1) (fun e => by
   have := si _ _ (nbi _ _ (hl _ _ (nbn _ (sn _ (by omega))) (nbn _ (sn _ (by omega))) e)); omega) (by omega)]
  rw [par_up i d (fun x => l (nb (i + d + 1) x)) (by omega) fun a b ha hb e => nbi _ _ (hl _ _ (nbn _ ha) (nbn _ hb) e)]
  rw [par_nb l (i + d + 1) (fun e => by have := hl _ _ (by omega) (by omega) e; omega) (by omega)]
  cases par l n <;> rfl
theorem sw_comm (i j k : Nat) : sw i j k = sw j i k := by unfold sw; (repeat' split) <;> omega
/-- EXCHANGING TWO UNLIKE PLACES TURNS THE SIGN ABOUT -/
theorem par_sw {l : Nat → Int} {n i j : Nat} (hl : ∀ a b, a < n → b < n → l a = l b → a = b) (hi : i < n) (hj : j < n) (h : i ≠ j) : par (fun k => l (sw i j k)) n = !par l n := by
 rcases Nat.lt_or_gt_of_ne h with h | h
 ·obtain ⟨d, rfl⟩ : ∃ d, j = i + d + 1 := ⟨j - i - 1, by omega⟩
  exact par_up i d l (by omega) hl
 ·obtain ⟨d, rfl⟩ : ∃ d, i = j + d + 1 := ⟨i - j - 1, by omega⟩
  rw [par_congr fun k _ => congrArg l (sw_comm _ _ k)]
  exact par_up j d l (by omega) hl
theorem xs_false : ∀ n, xs (fun _ => false) n = false
 | 0 => rfl
 | n + 1 => by show xor (xs _ n) false = false; rw [xs_false n]; rfl
theorem par_id {l : Nat → Int} {n : Nat} (h : ∀ j, j < n → l j = (j : Nat)) : par l n = false := by
 unfold par
 rw [xs_congr (g := fun _ => false) fun k hk => ?_]
 ·exact xs_false n
 ·rw [xs_congr (g := fun _ => false) fun i hi => ?_]
  ·exact xs_false k
  ·rw [h k hk, h i (by omega)]
   exact decide_eq_false (by omega)

/-- how many below n -/
def cnt (p : Nat → Bool) : Nat → Nat
 | 0 => 0
 | n + 1 => cnt p n + (bif p n then 1 else 0)
theorem cnt_le {p q : Nat → Bool} : ∀ {n : Nat}, (∀ j, j < n → q j = true → p j = true) → cnt q n ≤ cnt p n
 | 0, _ => Nat.le_refl _
 | n + 1, h => by
  have h1 := cnt_le (n := n) fun j hj => h j (by omega)
  have h2 := h n (by omega)
  show cnt q n + (bif q n then 1 else 0) ≤ cnt p n + (bif p n then 1 else 0)
  cases e1 : q n <;> cases e2 : p n
  ·simp; exact h1
  ·simp; omega
  ·rw [h2 e1] at e2; cases e2
  ·simp; exact h1
theorem cnt_lt {p q : Nat → Bool} {k : Nat} (hp : p k = true) (hq : q k = false) : ∀ {n : Nat}, k < n → (∀ j, j < n → q j = true → p j = true) → cnt q n < cnt p n
 | 0, hk, _ => by omega
 | n + 1, hk, h => by
  show cnt q n + (bif q n then 1 else 0) < cnt p n + (bif p n then 1 else 0)
  by_cases e : k = n
  ·subst e
   have h1 := cnt_le (n := k) fun j hj => h j (by omega)
   rw [hp, hq]; simp; omega
  ·have h1 := cnt_lt hp hq (n := n) (by omega) fun j hj => h j (by omega)
   have h2 := h n (by omega)
   cases e1 : q n <;> cases e2 : p n
   ·simp; exact h1
   ·simp; omega
   ·rw [h2 e1] at e2; cases e2
   ·simp; exact h1
/-- what goes into as many places, never twice, reaches each -/
theorem inj_surj : ∀ (n : Nat) (f : Nat → Nat), (∀ a, a < n → f a < n) → (∀ a b, a < n → b < n → f a = f b → a = b) → ∀ b, b < n → ∃ a, a < n ∧ f a = b
 | 0, f, _, _, b, hb => by omega
 | n + 1, f, hf, hi, b, hb => by
  have gn : ∀ a, a < n → (if f a = n then f n else f a) < n := fun a ha => by
   have h1 := hf a (by omega)
   have h2 := hf n (by omega)
   split
   ·rename_i e
    by_cases c : f n = n
    ·have := hi a n (by omega) (by omega) (e.trans c.symm); omega
    ·omega
   ·omega
  have gi : ∀ a b, a < n → b < n → (if f a = n then f n else f a) = (if f b = n then f n else f b) → a = b := fun a b ha hb h => by
   split at h <;> split at h
   ·rename_i e1 e2; exact hi a b (by omega) (by omega) (e1.trans e2.symm)
   ·have := hi n b (by omega) (by omega) h; omega
   ·have := hi a n (by omega) (by omega) h; omega
   ·exact hi a b (by omega) (by omega) h
  have ih := inj_surj n (fun a => if f a = n then f n else f a) gn gi
  by_cases c : b = f n
  ·exact ⟨n, by omega, c.symm⟩
  ·by_cases c2 : b = n
   ·have hc : f n < n := by have := hf n (by omega); omega
    obtain ⟨a, ha, e⟩ := ih (f n) hc
    split at e
    ·rename_i e1; exact ⟨a, by omega, e1.trans c2.symm⟩
    ·have := hi a n (by omega) (by omega) e; omega
   ·obtain ⟨a, ha, e⟩ := ih b (by omega)
    split at e
    ·exact absurd e.symm c
    ·exact ⟨a, by omega, e⟩
/-- an order of n places -/
def Perm (m : Nat → Int) (n : Nat) : Prop := (∀ j, j < n → 0 ≤ m j ∧ m j < n) ∧ ∀ a b, a < n → b < n → m a = m b → a = b
theorem Perm.surj {m : Nat → Int} {n : Nat} (h : Perm m n) (i : Nat) (hi : i < n) : ∃ j, j < n ∧ m j = (i : Nat) := by
 obtain ⟨a, ha, e⟩ := inj_surj n (fun j => (m j).toNat) (fun a ha => by have := h.1 a ha; omega) (fun a b ha hb e => h.2 a b ha hb (by have := h.1 a ha; have := h.1 b hb; omega)) i hi
 exact ⟨a, ha, by have := h.1 a ha; omega⟩
theorem Perm.of {m : Nat → Int} {n : Nat} (h : ∀ i, i < n → ∃ j, j < n ∧ m j = (i : Nat)) : Perm m n := by
 have h' : ∀ i, ∃ j, i < n → j < n ∧ m j = (i : Nat) := fun i => by
  by_cases hi : i < n
  ·obtain ⟨j, e⟩ := h i hi; exact ⟨j, fun _ => e⟩
  ·exact ⟨0, fun c => absurd c hi⟩
 have hp : ∀ i, i < n → Classical.choose (h' i) < n ∧ m (Classical.choose (h' i)) = (i : Nat) := fun i => Classical.choose_spec (h' i)
 have hs := inj_surj n (fun i => Classical.choose (h' i)) (fun a ha => (hp a ha).1) (fun a b ha hb e => by
  have e1 := (hp a ha).2
  have e2 := (hp b hb).2
  rw [e] at e1
  omega)
 refine ⟨fun j hj => ?_, fun a b ha hb e => ?_⟩
 ·obtain ⟨i, hi, e⟩ := hs j hj
  have := (hp i hi).2
  rw [e] at this
  omega
 ·obtain ⟨i, hi, ei⟩ := hs a ha
  obtain ⟨k, hk, ek⟩ := hs b hb
  have h1 := (hp i hi).2
  have h2 := (hp k hk).2
  rw [ei] at h1
  rw [ek] at h2
  have : i = k := by omega
  subst this
  exact ei.symm.trans ek
theorem Perm.swp {m : Nat → Int} {n i k : Nat} (h : Perm m n) (hi : i < n) (hk : k < n) : Perm (fun j => m (sw i k j)) n :=
 ⟨fun j hj => h.1 _ (sw_lt hi hk hj), fun a b ha hb e => sw_inj (h.2 _ _ (sw_lt hi hk ha) (sw_lt hi hk hb) e)⟩
/-- a step of the sorting by exchanges: what stood right stands right, and one place more -/
theorem step_lt {m : Nat → Int} {n i k : Nat} (h : Perm m n) (hi : i < n) (hk : k < n) (e : m i = (k : Nat)) (hne : k ≠ i) : cnt (fun j => !decide (m (sw i k j) = (j : Nat))) n < cnt (fun j => !decide (m j = (j : Nat))) n := by
 have hkk : m k ≠ (k : Nat) := fun c => hne (h.2 k i hk hi (c.trans e.symm))
 refine cnt_lt (k := k) ?_ ?_ hk fun j hj t => ?_
 ·simp [hkk]
 ·have s : sw i k k = i := by unfold sw; rw [if_neg hne, if_pos rfl]
  rw [s, e]; simp
 ·by_cases c1 : j = i
  ·subst c1
   have : m j ≠ (j : Nat) := by rw [e]; omega
   simp [this]
  ·by_cases c2 : j = k
   ·subst c2; simp [hkk]
   ·have s : sw i k j = j := by unfold sw; rw [if_neg c1, if_neg c2]
    rw [s] at t
    exact t
theorem step_keeps {m : Nat → Int} {n i k : Nat} (h : Perm m n) (hi : i < n) (hk : k < n) (e : m i = (k : Nat)) (hne : k ≠ i) (hs : ∀ j, j < i → m j = (j : Nat)) (j : Nat) (hj : j < i) : m (sw i k j) = (j : Nat) := by
 have : j ≠ k := fun c => by subst c; exact hne (h.2 j i hk hi ((hs j hj).trans e.symm))
 have s : sw i k j = j := by unfold sw; rw [if_neg (by omega), if_neg this]
 rw [s]; exact hs j hj

def iof : List Sx.AV → Int
 | [.int _ _ x] => x
 | _ => 0
/-- a row of one int -/
def IRow (r : List Sx.AV) : Prop := ∃ s, r = [.int s .i64 (iof r)]
theorem IRow.ge {r : List Sx.AV} (h : IRow r) : Sx.RowGe r [.int true .i64 (iof r)] := by
 obtain ⟨s, e⟩ := h
 rw [e]
 exact ⟨Sx.AV.ge.int _ _ _ _, rfl, trivial⟩
theorem irow (s : Bool) (x : Int) : IRow [.int s .i64 x] := ⟨s, rfl⟩
/-- the first place of a number, or -1 -/
def idx (l : Nat → Int) (v : Int) : Nat → Int
 | 0 => -1
 | n + 1 => if 0 ≤ idx l v n then idx l v n else if l n = v then (n : Nat) else -1
theorem idx_none {l : Nat → Int} {v : Int} : ∀ {n : Nat}, (∀ j, j < n → l j ≠ v) → idx l v n = -1
 | 0, _ => rfl
 | n + 1, h => by
  unfold idx
  rw [idx_none fun j hj => h j (by omega), if_neg (by omega), if_neg (h n (by omega))]
theorem idx_some {l : Nat → Int} {v : Int} {i : Nat} (hv : l i = v) (hs : ∀ j, j < i → l j ≠ v) : ∀ {n : Nat}, i < n → idx l v n = (i : Nat)
 | 0, h => by omega
 | n + 1, h => by
  unfold idx
  by_cases e : i = n
  ·subst e
   rw [idx_none hs, if_neg (by omega), if_pos hv]
  ·rw [idx_some hv hs (n := n) (by omega), if_pos (by omega)]
theorem idx_mem {l : Nat → Int} {v : Int} : ∀ {n : Nat}, 0 ≤ idx l v n ↔ ∃ j, j < n ∧ l j = v
 | 0 => ⟨fun h => absurd h (by unfold idx; omega), fun ⟨j, h, _⟩ => by omega⟩
 | n + 1 => by
  unfold idx
  constructor
  ·intro h
   by_cases e : 0 ≤ idx l v n
   ·obtain ⟨j, h1, h2⟩ := idx_mem.1 e
    exact ⟨j, by omega, h2⟩
   ·rw [if_neg e] at h
    by_cases e2 : l n = v
    ·exact ⟨n, by omega, e2⟩
    ·rw [if_neg e2] at h; omega
  ·rintro ⟨j, h1, h2⟩
   by_cases e : 0 ≤ idx l v n
   ·rw [if_pos e]; exact e
   ·rw [if_neg e]
    have : j = n := by
     by_cases hj : j < n
     ·exact absurd (idx_mem.2 ⟨j, hj, h2⟩) e
     ·omega
    subst this
    rw [if_pos h2]; omega
theorem idA_r0 (len : Nat) (v : Int) (l : Nat → Int) : Sx.PieceN 1 (Sx.Ex.normal) [(0, .slc true false ⟨false, 0, 0, 0⟩ len), (1, .int true .i64 v)] [(0, .cells false 1 len (.fn fun j => [Sx.AV.int true .i64 (l j)]))] (piececall0 Try.f65 (Sx.nav [0] (Sx.bodyOf Try.f65)) (Sx.frameOf [Sx.slcV 0 len, .int true .i64 v] 0 .e) (Sx.hpL [(0, .cells false 1 len (.fn fun j => [.int true .i64 (l j)]))]) 1 []) := Sx.eqn (q := True) (by kernel_rfl) trivial
theorem idA (B : Nat) (hB : B ≤ 1) (len : Nat) (v : Int) (l : Nat → Int) : Sx.GoesB Try.prog (Sx.nav [0] (Sx.bodyOf Try.f65)) Try.f65.ntmps B 1 1 (Sx.frameOf [Sx.slcV 0 len, .int true .i64 v] 0 .e) (Sx.hpL [(0, .cells false 1 len (.fn fun j => [.int true .i64 (l j)]))]) fun e fr' H' => (e = .normal ∧ fr' = Sx.frL [(0, .slc true false ⟨false, 0, 0, 0⟩ len), (1, .int true .i64 v)] ∧ H' = Sx.hpL [(0, .cells false 1 len (.fn fun j => [Sx.AV.int true .i64 (l j)]))]) := by
 exact (Sx.GoesB.runN call0_ok (call0_reg _) (Sx.LoopsIn.none _ _ _) (idA_r0 len v l) hB).mono fun e fr' H' h => h
theorem idD_r0 (len : Nat) (v : Int) (l : Nat → Int) : Sx.PieceN 1 (Sx.Ex.normal) [(0, .slc true false ⟨false, 0, 0, 0⟩ len), (1, .int true .i64 v), (7, .int true .i64 (↑len : Int)), (8, .int false .i64 0)] [(0, .cells false 1 len (.fn fun j => [Sx.AV.int true .i64 (l j)]))] (piececall0 Try.f65 (Sx.nav [1,0,0] (Sx.bodyOf Try.f65)) (Sx.frL [(0, Sx.slcV 0 len), (1, .int true .i64 v)]) (Sx.hpL [(0, .cells false 1 len (.fn fun j => [.int true .i64 (l j)]))]) 1 []) := Sx.eqn (q := True) (by kernel_rfl) trivial
theorem idD (B : Nat) (hB : B ≤ 1) (len : Nat) (v : Int) (l : Nat → Int) : Sx.GoesB Try.prog (Sx.nav [1,0,0] (Sx.bodyOf Try.f65)) Try.f65.ntmps B 1 1 (Sx.frL [(0, Sx.slcV 0 len), (1, .int true .i64 v)]) (Sx.hpL [(0, .cells false 1 len (.fn fun j => [.int true .i64 (l j)]))]) fun e fr' H' => (e = .normal ∧ fr' = Sx.frL [(0, .slc true false ⟨false, 0, 0, 0⟩ len), (1, .int true .i64 v), (7, .int true .i64 (↑len : Int)), (8, .int false .i64 0)] ∧ H' = Sx.hpL [(0, .cells false 1 len (.fn fun j => [Sx.AV.int true .i64 (l j)]))]) := by
 exact (Sx.GoesB.runN call0_ok (call0_reg _) (Sx.LoopsIn.none _ _ _) (idD_r0 len v l) hB).mono fun e fr' H' h => h
theorem idB_r0 (len i : Nat) (v : Int) (l : Nat → Int) (c0 : decide ((↑i : Int) < (↑len : Int)) = true) (c1 : (0 : Int) ≤ (↑i : Int)) (c2 : (↑i : Int) < (↑len : Int)) (c3 : (0 : Nat) + i < len) (c4 : decide (v = l ((0 : Nat) + i)) = true) : Sx.PieceN 1 (Sx.Ex.ret) [(0, .slc true false ⟨false, 0, 0, 0⟩ len), (1, .int true .i64 v), (4, .int true .i64 (↑i : Int)), (7, .int true .i64 (↑len : Int)), (8, .int true .i64 (↑i : Int))] [(0, .cells false 1 len (.fn fun j => [Sx.AV.int true .i64 (l j)]))] (piececall0 Try.f65 (Sx.nav [1,0,1,0,0] (Sx.bodyOf Try.f65)) (Sx.frL [(0, Sx.slcV 0 len), (1, .int true .i64 v), (7, .int true .i64 len), (8, .int true .i64 i)]) (Sx.hpL [(0, .cells false 1 len (.fn fun j => [.int true .i64 (l j)]))]) 1 [true, true]) := Sx.eqn (q := ((((True ∧ (decide ((↑i : Int) < (↑len : Int)) = true)) ∧ (((0 : Int) ≤ (↑i : Int)) ∧ ((↑i : Int) < (↑len : Int)))) ∧ ((0 : Nat) + i < len)) ∧ (decide (v = l ((0 : Nat) + i)) = true))) (by kernel_rfl) ⟨⟨⟨⟨trivial, c0⟩, ⟨c1, c2⟩⟩, c3⟩, c4⟩
theorem idB_r1 (len i : Nat) (v : Int) (l : Nat → Int) (c0 : decide ((↑i : Int) < (↑len : Int)) = true) (c1 : (0 : Int) ≤ (↑i : Int)) (c2 : (↑i : Int) < (↑len : Int)) (c3 : (0 : Nat) + i < len) (c4 : decide (v = l ((0 : Nat) + i)) = false) (c5 : (-9223372036854775808 : Int) ≤ (↑i : Int) + (1 : Int)) (c6 : (↑i : Int) + (1 : Int) ≤ (9223372036854775807 : Int)) : Sx.PieceN 1 (Sx.Ex.normal) [(0, .slc true false ⟨false, 0, 0, 0⟩ len), (1, .int true .i64 v), (7, .int true .i64 (↑len : Int)), (8, .int true .i64 ((↑i : Int) + (1 : Int)))] [(0, .cells false 1 len (.fn fun j => [Sx.AV.int true .i64 (l j)]))] (piececall0 Try.f65 (Sx.nav [1,0,1,0,0] (Sx.bodyOf Try.f65)) (Sx.frL [(0, Sx.slcV 0 len), (1, .int true .i64 v), (7, .int true .i64 len), (8, .int true .i64 i)]) (Sx.hpL [(0, .cells false 1 len (.fn fun j => [.int true .i64 (l j)]))]) 1 [true, false]) := Sx.eqn (q := (((((True ∧ (decide ((↑i : Int) < (↑len : Int)) = true)) ∧ (((0 : Int) ≤ (↑i : Int)) ∧ ((↑i : Int) < (↑len : Int)))) ∧ ((0 : Nat) + i < len)) ∧ (decide (v = l ((0 : Nat) + i)) = false)) ∧ (((-9223372036854775808 : Int) ≤ (↑i : Int) + (1 : Int)) ∧ ((↑i : Int) + (1 : Int) ≤ (9223372036854775807 : Int))))) (by kernel_rfl) ⟨⟨⟨⟨⟨trivial, c0⟩, ⟨c1, c2⟩⟩, c3⟩, c4⟩, ⟨c5, c6⟩⟩
theorem idB_r2 (len i : Nat) (v : Int) (l : Nat → Int) (c0 : decide ((↑i : Int) < (↑len : Int)) = false) : Sx.PieceN 1 (Sx.Ex.exit (0 : Nat)) [(0, .slc true false ⟨false, 0, 0, 0⟩ len), (1, .int true .i64 v), (7, .int true .i64 (↑len : Int)), (8, .int true .i64 (↑i : Int))] [(0, .cells false 1 len (.fn fun j => [Sx.AV.int true .i64 (l j)]))] (piececall0 Try.f65 (Sx.nav [1,0,1,0,0] (Sx.bodyOf Try.f65)) (Sx.frL [(0, Sx.slcV 0 len), (1, .int true .i64 v), (7, .int true .i64 len), (8, .int true .i64 i)]) (Sx.hpL [(0, .cells false 1 len (.fn fun j => [.int true .i64 (l j)]))]) 1 [false]) := Sx.eqn (q := (True ∧ (decide ((↑i : Int) < (↑len : Int)) = false))) (by kernel_rfl) ⟨trivial, c0⟩
theorem idB (B : Nat) (hB : B ≤ 1) (len i : Nat) (v : Int) (l : Nat → Int) (x0 : ((decide ((↑i : Int) < (↑len : Int))) = true → ((decide (v = l ((0 : Nat) + i))) = false → ((↑i : Int) + (1 : Int) ≤ (9223372036854775807 : Int))))) : Sx.GoesB Try.prog (Sx.nav [1,0,1,0,0] (Sx.bodyOf Try.f65)) Try.f65.ntmps B 1 1 (Sx.frL [(0, Sx.slcV 0 len), (1, .int true .i64 v), (7, .int true .i64 len), (8, .int true .i64 i)]) (Sx.hpL [(0, .cells false 1 len (.fn fun j => [.int true .i64 (l j)]))]) fun e fr' H' => (cond (decide ((↑i : Int) < (↑len : Int))) (cond (decide (v = l ((0 : Nat) + i))) (e = .ret ∧ fr' = Sx.frL [(0, .slc true false ⟨false, 0, 0, 0⟩ len), (1, .int true .i64 v), (4, .int true .i64 (↑i : Int)), (7, .int true .i64 (↑len : Int)), (8, .int true .i64 (↑i : Int))] ∧ H' = Sx.hpL [(0, .cells false 1 len (.fn fun j => [Sx.AV.int true .i64 (l j)]))]) (e = .normal ∧ fr' = Sx.frL [(0, .slc true false ⟨false, 0, 0, 0⟩ len), (1, .int true .i64 v), (7, .int true .i64 (↑len : Int)), (8, .int true .i64 ((↑i : Int) + (1 : Int)))] ∧ H' = Sx.hpL [(0, .cells false 1 len (.fn fun j => [Sx.AV.int true .i64 (l j)]))])) (e = .exit 0 ∧ fr' = Sx.frL [(0, .slc true false ⟨false, 0, 0, 0⟩ len), (1, .int true .i64 v), (7, .int true .i64 (↑len : Int)), (8, .int true .i64 (↑i : Int))] ∧ H' = Sx.hpL [(0, .cells false 1 len (.fn fun j => [Sx.AV.int true .i64 (l j)]))])) := by
 cases t0 : decide ((↑i : Int) < (↑len : Int)) with
 | true =>
  cases t1 : decide (v = l ((0 : Nat) + i)) with
  | true =>
   exact (Sx.GoesB.runN call0_ok (call0_reg _) (Sx.LoopsIn.none _ _ _) (idB_r0 len i v l t0 (by first | decide | ((try simp only [decide_eq_true_eq, decide_eq_false_iff_not] at t0 t1); (try simp only [List.length_take, List.length_drop]); omega)) (by first | decide | ((try simp only [decide_eq_true_eq, decide_eq_false_iff_not] at t0 t1); (try simp only [List.length_take, List.length_drop]); omega)) (by first | decide | ((try simp only [decide_eq_true_eq, decide_eq_false_iff_not] at t0 t1); (try simp only [List.length_take, List.length_drop]); omega)) t1) hB).mono fun e fr' H' h => by simp only [t0, t1, cond_true, cond_false]; exact h
  | false =>
   exact (Sx.GoesB.runN call0_ok (call0_reg _) (Sx.LoopsIn.none _ _ _) (idB_r1 len i v l t0 (by first | decide | ((try simp only [decide_eq_true_eq, decide_eq_false_iff_not] at t0 t1); (try simp only [List.length_take, List.length_drop]); omega)) (by first | decide | ((try simp only [decide_eq_true_eq, decide_eq_false_iff_not] at t0 t1); (try simp only [List.length_take, List.length_drop]); omega)) (by first | decide | ((try simp only [decide_eq_true_eq, decide_eq_false_iff_not] at t0 t1); (try simp only [List.length_take, List.length_drop]); omega)) t1 (by first | decide | ((try simp only [decide_eq_true_eq, decide_eq_false_iff_not] at t0 t1); (try simp only [List.length_take, List.length_drop]); omega)) (x0 t0 t1)) hB).mono fun e fr' H' h => by simp only [t0, t1, cond_true, cond_false]; exact h
 | false =>
  exact (Sx.GoesB.runN call0_ok (call0_reg _) (Sx.LoopsIn.none _ _ _) (idB_r2 len i v l t0) hB).mono fun e fr' H' h => by simp only [t0, cond_true, cond_false]; exact h
theorem idZ_r0  : Sx.PieceN 1 (Sx.Ex.ret) [(4, .int false .i64 (-1 : Int))] [] (piececall0 Try.f65 (Sx.nav [1,1] (Sx.bodyOf Try.f65)) (Sx.frL []) (Sx.hpL []) 1 []) := Sx.eqn (q := True) (by kernel_rfl) trivial
theorem idZ (B : Nat) (hB : B ≤ 1)  : Sx.GoesB Try.prog (Sx.nav [1,1] (Sx.bodyOf Try.f65)) Try.f65.ntmps B 1 1 (Sx.frL []) (Sx.hpL []) fun e fr' H' => (e = .ret ∧ fr' = Sx.frL [(4, .int false .i64 (-1 : Int))] ∧ H' = Sx.hpL []) := by
 exact (Sx.GoesB.runN call0_ok (call0_reg _) (Sx.LoopsIn.none _ _ _) (idZ_r0 ) hB).mono fun e fr' H' h => h
def idI (len : Nat) (v : Int) (l : Nat → Int) (k : Nat) (fr : Sx.Fr) (H : Sx.T Sx.ABk) : Prop :=
 ∃ i : Nat, k = len - i ∧ i ≤ len ∧ (∀ j, j < i → l j ≠ v) ∧ fr = Sx.frL [(0, Sx.slcV 0 len), (1, .int true .i64 v), (7, .int true .i64 len), (8, .int true .i64 i)] ∧ H = Sx.hpL [(0, .cells false 1 len (.fn fun j => [.int true .i64 (l j)]))]
def idP (len : Nat) (v : Int) (l : Nat → Int) : Sx.Po := fun e fr H => (e = .exit 0 ∧ idx l v len = -1) ∨ (e = .ret ∧ fr.get 4 = some (.int true .i64 (idx l v len)))
theorem id_body (len : Nat) (v : Int) (l : Nat → Int) (hm : len ≤ 9223372036854775807) (k : Nat) (fr : Sx.Fr) (H : Sx.T Sx.ABk) (hI : idI len v l k fr H) :
  Sx.GoesB Try.prog (Sx.nav [1,0,1,0,0] (Sx.bodyOf Try.f65)) Try.f65.ntmps 1 1 1 fr H fun e fr' H' => match e with
   | .normal => ∃ k', k' < k ∧ idI len v l k' fr' H'
   | e => idP len v l e fr' H' := by
 obtain ⟨i, rfl, hi, hs, rfl, rfl⟩ := hI
 have hx : decide ((i : Int) < (len : Int)) = true → i < len := fun t => by have := of_decide_eq_true t; omega
 have hB := idB 1 (by omega) len i v l (fun t _ => by have := hx t; omega)
 simp only [Nat.zero_add] at hB
 refine hB.mono fun e fr' H' h => ?_
 refine Sx.cond_elim h (fun t h => ?_) (fun t h => ?_)
 ·have hlt := hx t
  refine Sx.cond_elim h (fun t1 h => ?_) (fun t1 h => ?_)
  ·obtain ⟨rfl, rfl, rfl⟩ := h
   exact .inr ⟨rfl, by rw [idx_some (of_decide_eq_true t1).symm hs hlt]; rfl⟩
  ·obtain ⟨rfl, rfl, rfl⟩ := h
   refine ⟨len - (i + 1), by omega, i + 1, rfl, by omega, fun j hj => ?_, rfl, rfl⟩
   by_cases hji : j < i
   ·exact hs j hji
   ·have e : j = i := by omega
    subst e
    exact fun h => of_decide_eq_false t1 h.symm
 ·obtain ⟨rfl, rfl, rfl⟩ := h
  exact .inl ⟨rfl, idx_none fun j hj => hs j (by have := of_decide_eq_false t; omega)⟩
theorem id_is : (Sx.bodyOf Try.f65) = .seq (Sx.nav [0] (Sx.bodyOf Try.f65)) (.seq (.seq (Sx.nav [1,0,0] (Sx.bodyOf Try.f65)) (.block 0 (.loop (Sx.nav [1,0,1,0,0] (Sx.bodyOf Try.f65))))) (Sx.nav [1,1] (Sx.bodyOf Try.f65))) := by kernel_rfl
theorem id_goes (len : Nat) (v : Int) (l : Nat → Int) (hm : len ≤ 9223372036854775807) :
  Sx.GoesB Try.prog (Sx.bodyOf Try.f65) Try.f65.ntmps 1 1 1 (Sx.frameOf [Sx.slcV 0 len, .int true .i64 v] 0 .e) (Sx.hpL [(0, .cells false 1 len (.fn fun j => [.int true .i64 (l j)]))]) fun e fr' H' => (e = .ret ∨ e = .normal) ∧ ∃ u, fr'.get 4 = some u ∧ Sx.AV.ge u (.int true .i64 (idx l v len)) := by
 rw [id_is]
 refine Sx.GoesB.seq (K1 := 1) (by omega) ((idA 1 (by omega) len v l).mono fun e fr' H' ⟨e1, e2, e3⟩ => ?_)
 subst e1 e2 e3
 refine Sx.GoesB.seq (K1 := 1) (by omega) (Sx.GoesB.seq (K1 := 1) (by omega) ((idD 1 (by omega) len v l).mono fun e fr' H' ⟨e1, e2, e3⟩ => ?_))
 subst e1 e2 e3
 refine Sx.GoesB.weakL (fl := [(0, Sx.slcV 0 len), (1, .int true .i64 v), (7, .int true .i64 len), (8, .int true .i64 (0 : Nat))]) (bl := [(0, .cells false 1 len (.fn fun j => [.int true .i64 (l j)]))]) ⟨⟨_, rfl, Sx.AV.ge.refl _⟩, ⟨_, rfl, Sx.AV.ge.refl _⟩, ⟨_, rfl, Sx.AV.ge.refl _⟩, ⟨_, rfl, Sx.AV.ge.int _ _ _ _⟩, trivial⟩ ⟨⟨_, rfl, Sx.SameC.refl _⟩, trivial⟩ ?_
 refine Sx.GoesB.block ((Sx.GoesB.loop (idI len v l) (Post := idP len v l) (id_body len v l hm) _ _ _ ⟨0, rfl, by omega, fun j hj => by omega, rfl, rfl⟩).mono fun e fr' H' hp => ?_)
 rcases hp with ⟨rfl, h1⟩ | ⟨rfl, h2⟩
 ·simp only [if_true]
  refine Sx.GoesB.weakL (fl := []) (bl := []) trivial trivial ((idZ 1 (by omega)).mono fun e fr' H' ⟨e1, e2, e3⟩ => ?_)
  subst e1 e2 e3
  exact ⟨.inl rfl, _, rfl, by rw [h1]; exact Sx.AV.ge.int _ _ _ _⟩
 ·exact ⟨.inl rfl, _, h2, Sx.AV.ge.refl _⟩
noncomputable def indexS : List Sx.AV → Sx.M Sx.AV
 | [x, .int s .i64 v] => (Sx.rd 1 x fun len rows => len ≤ 9223372036854775807 ∧ ∀ j, j < len → IRow (rows j)).andThen fun a => Sx.M.ret (.int true .i64 (idx (fun j => iof (a.2 j)) v a.1))
 | _ => Sx.M.no
theorem indexS_ok : ∀ args v g g', indexS args g = .done v g' → Sx.CallIs Try.prog 65 args v g g' := by
 intro args v g g' h
 unfold indexS at h
 split at h
 ·rename_i x s v
  obtain ⟨⟨la, ra⟩, g1, a1, h1⟩ := Sx.done_of h
  obtain ⟨rfl, rfl⟩ := Sx.ret_done h1
  obtain ⟨q1, k, f1⟩ := Sx.rd_done a1 (by omega)
  refine Sx.reads (c := (Sx.bodyOf Try.f65)) Try.func65 (by kernel_rfl) (by kernel_rfl) k [⟨x, 1, la, ra⟩] (fun hp v hv => ?_) (argsC := [Sx.slcV 0 la, .int true .i64 v]) (fun hp N μ cs hcs => ?_) (nms := []) (bs := []) (K' := 1) (fun hp => ?_) rfl trivial (by rw [k.1]; rfl) (by rw [k.2.1]; rfl) id
  ·rcases List.mem_cons.1 hv with rfl | hv
   ·exact (f1 hp).1
   ·cases hv
  ·simp only [Sx.Reps] at hcs
   obtain ⟨c, r, rfl, hc, c', r', rfl, hc', rfl⟩ := hcs
   simp only [Sx.Reps]
   exact ⟨c, _, rfl, Sx.vw_val (l := [⟨x, 1, la, ra⟩]) (i := 0) (f1 hp).1 rfl hc, c', _, rfl, by simp only [Sx.Rep] at hc' ⊢; exact hc', rfl⟩
  ·obtain ⟨_, hm, hz⟩ := f1 hp
   dsimp only at hm hz
   refine Sx.GoesB.weakGL (fl := [(0, Sx.slcV 0 la), (1, .int true .i64 v)]) (bl := [(0, .cells false 1 la (.fn fun j => [.int true .i64 (iof (ra j))]))]) ⟨⟨_, rfl, Sx.AV.ge.refl _⟩, ⟨_, rfl, Sx.AV.ge.refl _⟩, trivial⟩ ⟨⟨_, rfl, rfl, rfl, rfl, fun j hj => (hz j hj).ge⟩, trivial⟩ ?_
   refine (id_goes la v (fun j => iof (ra j)) hm).mono fun e fr' H' ⟨e1, u, e2, e3⟩ => ?_
   exact ⟨e1, _, _, Sx.res1 (t := 4) (by kernel_rfl) e2, trivial, e3, Sx.news0⟩
 ·exact (Sx.no_done h).elim
theorem indexS_tch : ∀ args, Sx.Tch (indexS args) := by
 intro args
 unfold indexS
 split
 ·exact (Sx.Tch.rd _ _ _).andThen fun _ => Sx.Tch.ret _
 ·exact Sx.Tch.no

noncomputable def gamTa : Sx.Known := Sx.kc 54 Sx.toBits (Sx.kc 60 Sx.ofBits (Sx.kc 65 indexS (Sx.kn)))
theorem gamTa_ok : Sx.KnownOk Try.prog gamTa := Sx.kc_ok ((Sx.toBits_is Try.prog).callIs Try.func54 (by kernel_rfl) (by kernel_rfl) (by kernel_rfl) (by kernel_rfl)) (Sx.kc_ok ((Sx.ofBits_is Try.prog).callIs Try.func60 (by kernel_rfl) (by kernel_rfl) (by kernel_rfl) (by kernel_rfl)) (Sx.kc_ok indexS_ok (Sx.kn_ok)))
theorem gamTa_tch : Sx.KnownT gamTa := Sx.kc_tch Sx.Tch.toBits (Sx.kc_tch Sx.Tch.ofBits (Sx.kc_tch indexS_tch (Sx.kn_tch)))
noncomputable def callTa : Sx.Calls' := Sx.runN Try.prog gamTa (Sx.regionC Try.prog) 1000 50
theorem callTa_ok : Sx.CallOk Try.prog callTa := Sx.engineC gamTa_ok gamTa_tch (by kernel_rfl) (by kernel_rfl) 1000 50
theorem callTa_reg (n : Nat) : Sx.RegionOk Try.prog (Sx.regionC Try.prog callTa n) n := Sx.runN_regionC gamTa_ok gamTa_tch (by kernel_rfl) (by kernel_rfl) 1000 50 n
noncomputable abbrev piececallTa (f : Func) (c : Code) (fr : Sx.Fr) (H : Sx.T Sx.ABk) (K : Nat) (path : List Bool) : Sx.Res (Sx.Ex × Sx.Fr) :=
 Sx.codeA Try.prog callTa (Sx.regionC Try.prog callTa f.ntmps) Sx.noLoops f.ntmps 1000 c fr ⟨H, K, [], path, True⟩
theorem coW_r0 (len : Nat) (v : Int) (l : Nat → Int) (c0 : (0 : Nat) + len ≤ len) (c1 : len ≤ (9223372036854775807 : Nat)) (c2 : ∀ (j : Nat), j < len → IRow [Sx.AV.int true .i64 (l ((0 : Nat) + j))]) (c3 : ∀ (j : Nat), j < len → ∀ (u : Sx.AV), u ∈ [Sx.AV.int true .i64 (l ((0 : Nat) + j))] → Sx.AV.low (0 : Nat) u = true) : Sx.PieceN 1 (Sx.Ex.ret) [(4, .sbool (decide ((0 : Int) ≤ idx (fun j => iof [Sx.AV.int true .i64 (l ((0 : Nat) + j))]) v len)))] [] (piececallTa Try.f63 ((Sx.bodyOf Try.f63)) (Sx.frameOf [Sx.slcV 0 len, .int true .i64 v] 0 .e) (Sx.hpL [(0, .cells false 1 len (.fn fun j => [.int true .i64 (l j)]))]) 1 []) := Sx.eqn (q := ((True ∧ ((0 : Nat) + len ≤ len)) ∧ (((len ≤ (9223372036854775807 : Nat)) ∧ (∀ (j : Nat), j < len → IRow [Sx.AV.int true .i64 (l ((0 : Nat) + j))])) ∧ (∀ (j : Nat), j < len → ∀ (u : Sx.AV), u ∈ [Sx.AV.int true .i64 (l ((0 : Nat) + j))] → Sx.AV.low (0 : Nat) u = true)))) (by kernel_rfl) ⟨⟨trivial, c0⟩, ⟨⟨c1, c2⟩, c3⟩⟩
theorem coW (B : Nat) (hB : B ≤ 1) (len : Nat) (v : Int) (l : Nat → Int) (x0 : (len ≤ (9223372036854775807 : Nat))) (x1 : (∀ (j : Nat), j < len → IRow [Sx.AV.int true .i64 (l ((0 : Nat) + j))])) (x2 : (∀ (j : Nat), j < len → ∀ (u : Sx.AV), u ∈ [Sx.AV.int true .i64 (l ((0 : Nat) + j))] → Sx.AV.low (0 : Nat) u = true)) : Sx.GoesB Try.prog ((Sx.bodyOf Try.f63)) Try.f63.ntmps B 1 1 (Sx.frameOf [Sx.slcV 0 len, .int true .i64 v] 0 .e) (Sx.hpL [(0, .cells false 1 len (.fn fun j => [.int true .i64 (l j)]))]) fun e fr' H' => (e = .ret ∧ fr' = Sx.frL [(4, .sbool (decide ((0 : Int) ≤ idx (fun j => iof [Sx.AV.int true .i64 (l ((0 : Nat) + j))]) v len)))] ∧ H' = Sx.hpL []) := by
 exact (Sx.GoesB.runN callTa_ok (callTa_reg _) (Sx.LoopsIn.none _ _ _) (coW_r0 len v l (by first | decide | omega) (x0) (x1) (x2)) hB).mono fun e fr' H' h => h
theorem low_i {s : Bool} {k : IntKind} {a : Int} {u : Sx.AV} (hu : u ∈ [Sx.AV.int s k a]) : u.low 0 = true := by simp at hu; subst hu; rfl
theorem co_goes (len : Nat) (v : Int) (l : Nat → Int) (hm : len ≤ 9223372036854775807) :
  Sx.GoesB Try.prog (Sx.bodyOf Try.f63) Try.f63.ntmps 1 1 1 (Sx.frameOf [Sx.slcV 0 len, .int true .i64 v] 0 .e) (Sx.hpL [(0, .cells false 1 len (.fn fun j => [.int true .i64 (l j)]))]) fun e fr' H' => (e = .ret ∨ e = .normal) ∧ ∃ u, fr'.get 4 = some u ∧ Sx.AV.ge u (.sbool (decide (0 ≤ idx l v len))) := by
 have h := coW 1 (by omega) len v l hm (fun j hj => irow _ _) (fun j hj u hu => low_i hu)
 simp only [Nat.zero_add, iof] at h
 refine h.mono fun e fr' H' ⟨e1, e2, e3⟩ => ?_
 subst e1 e2 e3
 exact ⟨.inl rfl, _, rfl, Sx.AV.ge.refl _⟩
noncomputable def containsS : List Sx.AV → Sx.M Sx.AV
 | [x, .int s0 .i64 v] => (Sx.rd 1 x fun len rows => len ≤ 9223372036854775807 ∧ ∀ j, j < len → IRow (rows j)).andThen fun a => Sx.M.ret (.sbool (decide (0 ≤ idx (fun j => iof (a.2 j)) v a.1)))
 | _ => Sx.M.no
theorem containsS_ok : ∀ args v g g', containsS args g = .done v g' → Sx.CallIs Try.prog 63 args v g g' := by
 intro args v g g' h
 unfold containsS at h
 split at h
 ·rename_i x s0 v
  obtain ⟨⟨la, ra⟩, g1, a1, h1⟩ := Sx.done_of h
  obtain ⟨rfl, rfl⟩ := Sx.ret_done h1
  obtain ⟨q1, k, f1⟩ := Sx.rd_done a1 (by omega)
  refine Sx.reads (c := (Sx.bodyOf Try.f63)) Try.func63 (by kernel_rfl) (by kernel_rfl) k [⟨x, 1, la, ra⟩] (fun hp v hv => ?_) (argsC := [Sx.slcV 0 la, .int true .i64 v]) (fun hp N μ cs hcs => ?_) (nms := []) (bs := []) (K' := 1) (fun hp => ?_) rfl trivial (by rw [k.1]; rfl) (by rw [k.2.1]; rfl) id
  ·rcases List.mem_cons.1 hv with rfl | hv
   ·exact (f1 hp).1
   ·cases hv
  ·simp only [Sx.Reps] at hcs
   obtain ⟨c, r, rfl, hc, c0, r0, rfl, hc0, rfl⟩ := hcs
   simp only [Sx.Reps]
   exact ⟨c, _, rfl, Sx.vw_val (l := [⟨x, 1, la, ra⟩]) (i := 0) (f1 hp).1 rfl hc, c0, _, rfl, by simp only [Sx.Rep] at hc0 ⊢; exact hc0, rfl⟩
  ·obtain ⟨_, hm, hz⟩ := f1 hp
   dsimp only at hm hz
   refine Sx.GoesB.weakGL (fl := [(0, Sx.slcV 0 la), (1, .int true .i64 v)]) (bl := [(0, .cells false 1 la (.fn fun j => [.int true .i64 (iof (ra j))]))]) ⟨⟨_, rfl, Sx.AV.ge.refl _⟩, ⟨_, rfl, Sx.AV.ge.refl _⟩, trivial⟩ ⟨⟨_, rfl, rfl, rfl, rfl, fun j hj => (hz j hj).ge⟩, trivial⟩ ?_
   refine (co_goes la v (fun j => iof (ra j)) hm).mono fun e fr' H' ⟨e1, u, e2, e3⟩ => ?_
   exact ⟨e1, _, _, Sx.res1 (t := 4) (by kernel_rfl) e2, trivial, e3, Sx.news0⟩
 ·exact (Sx.no_done h).elim
theorem containsS_tch : ∀ args, Sx.Tch (containsS args) := by
 intro args
 unfold containsS
 split
 ·exact (Sx.Tch.rd _ _ _).andThen fun _ => Sx.Tch.ret _
 ·exact Sx.Tch.no
noncomputable def gamTb : Sx.Known := Sx.kc 54 Sx.toBits (Sx.kc 60 Sx.ofBits (Sx.kc 65 indexS (Sx.kc 63 containsS (Sx.kn))))
theorem gamTb_ok : Sx.KnownOk Try.prog gamTb := Sx.kc_ok ((Sx.toBits_is Try.prog).callIs Try.func54 (by kernel_rfl) (by kernel_rfl) (by kernel_rfl) (by kernel_rfl)) (Sx.kc_ok ((Sx.ofBits_is Try.prog).callIs Try.func60 (by kernel_rfl) (by kernel_rfl) (by kernel_rfl) (by kernel_rfl)) (Sx.kc_ok indexS_ok (Sx.kc_ok containsS_ok (Sx.kn_ok))))
theorem gamTb_tch : Sx.KnownT gamTb := Sx.kc_tch Sx.Tch.toBits (Sx.kc_tch Sx.Tch.ofBits (Sx.kc_tch indexS_tch (Sx.kc_tch containsS_tch (Sx.kn_tch))))
noncomputable def callTb : Sx.Calls' := Sx.runN Try.prog gamTb (Sx.regionC Try.prog) 1000 50
theorem callTb_ok : Sx.CallOk Try.prog callTb := Sx.engineC gamTb_ok gamTb_tch (by kernel_rfl) (by kernel_rfl) 1000 50
theorem callTb_reg (n : Nat) : Sx.RegionOk Try.prog (Sx.regionC Try.prog callTb n) n := Sx.runN_regionC gamTb_ok gamTb_tch (by kernel_rfl) (by kernel_rfl) 1000 50 n
noncomputable abbrev piececallTb (f : Func) (c : Code) (fr : Sx.Fr) (H : Sx.T Sx.ABk) (K : Nat) (path : List Bool) : Sx.Res (Sx.Ex × Sx.Fr) :=
 Sx.codeA Try.prog callTb (Sx.regionC Try.prog callTb f.ntmps) Sx.noLoops f.ntmps 1000 c fr ⟨H, K, [], path, True⟩

theorem ckA_r0 (len : Nat) (l : Nat → Int) : Sx.PieceN 1 (Sx.Ex.normal) [(0, .slc true false ⟨false, 0, 0, 0⟩ len)] [(0, .cells false 1 len (.fn fun j => [Sx.AV.int true .i64 (l j)]))] (piececallTb Try.f57 (Sx.nav [0] (Sx.bodyOf Try.f57)) (Sx.frameOf [Sx.slcV 0 len] 0 .e) (Sx.hpL [(0, .cells false 1 len (.fn fun j => [.int true .i64 (l j)]))]) 1 []) := Sx.eqn (q := True) (by kernel_rfl) trivial
theorem ckA (B : Nat) (hB : B ≤ 1) (len : Nat) (l : Nat → Int) : Sx.GoesB Try.prog (Sx.nav [0] (Sx.bodyOf Try.f57)) Try.f57.ntmps B 1 1 (Sx.frameOf [Sx.slcV 0 len] 0 .e) (Sx.hpL [(0, .cells false 1 len (.fn fun j => [.int true .i64 (l j)]))]) fun e fr' H' => (e = .normal ∧ fr' = Sx.frL [(0, .slc true false ⟨false, 0, 0, 0⟩ len)] ∧ H' = Sx.hpL [(0, .cells false 1 len (.fn fun j => [Sx.AV.int true .i64 (l j)]))]) := by
 exact (Sx.GoesB.runN callTb_ok (callTb_reg _) (Sx.LoopsIn.none _ _ _) (ckA_r0 len l) hB).mono fun e fr' H' h => h
theorem ckC_r0 (len : Nat) (l : Nat → Int) (c0 : decide ((64 : Int) < (↑len : Int)) = true) : Sx.PieceN 1 (Sx.Ex.ret) [(0, .slc true false ⟨false, 0, 0, 0⟩ len), (2, .int false .i64 3)] [(0, .cells false 1 len (.fn fun j => [Sx.AV.int true .i64 (l j)]))] (piececallTb Try.f57 (Sx.nav [1,0] (Sx.bodyOf Try.f57)) (Sx.frL [(0, Sx.slcV 0 len)]) (Sx.hpL [(0, .cells false 1 len (.fn fun j => [.int true .i64 (l j)]))]) 1 [true]) := Sx.eqn (q := (True ∧ (decide ((64 : Int) < (↑len : Int)) = true))) (by kernel_rfl) ⟨trivial, c0⟩
theorem ckC_r1 (len : Nat) (l : Nat → Int) (c0 : decide ((64 : Int) < (↑len : Int)) = false) : Sx.PieceN 1 (Sx.Ex.normal) [(0, .slc true false ⟨false, 0, 0, 0⟩ len)] [(0, .cells false 1 len (.fn fun j => [Sx.AV.int true .i64 (l j)]))] (piececallTb Try.f57 (Sx.nav [1,0] (Sx.bodyOf Try.f57)) (Sx.frL [(0, Sx.slcV 0 len)]) (Sx.hpL [(0, .cells false 1 len (.fn fun j => [.int true .i64 (l j)]))]) 1 [false]) := Sx.eqn (q := (True ∧ (decide ((64 : Int) < (↑len : Int)) = false))) (by kernel_rfl) ⟨trivial, c0⟩
theorem ckC (B : Nat) (hB : B ≤ 1) (len : Nat) (l : Nat → Int) : Sx.GoesB Try.prog (Sx.nav [1,0] (Sx.bodyOf Try.f57)) Try.f57.ntmps B 1 1 (Sx.frL [(0, Sx.slcV 0 len)]) (Sx.hpL [(0, .cells false 1 len (.fn fun j => [.int true .i64 (l j)]))]) fun e fr' H' => (cond (decide ((64 : Int) < (↑len : Int))) (e = .ret ∧ fr' = Sx.frL [(0, .slc true false ⟨false, 0, 0, 0⟩ len), (2, .int false .i64 3)] ∧ H' = Sx.hpL [(0, .cells false 1 len (.fn fun j => [Sx.AV.int true .i64 (l j)]))]) (e = .normal ∧ fr' = Sx.frL [(0, .slc true false ⟨false, 0, 0, 0⟩ len)] ∧ H' = Sx.hpL [(0, .cells false 1 len (.fn fun j => [Sx.AV.int true .i64 (l j)]))])) := by
 cases t0 : decide ((64 : Int) < (↑len : Int)) with
 | true =>
  exact (Sx.GoesB.runN callTb_ok (callTb_reg _) (Sx.LoopsIn.none _ _ _) (ckC_r0 len l t0) hB).mono fun e fr' H' h => by simp only [t0, cond_true, cond_false]; exact h
 | false =>
  exact (Sx.GoesB.runN callTb_ok (callTb_reg _) (Sx.LoopsIn.none _ _ _) (ckC_r1 len l t0) hB).mono fun e fr' H' h => by simp only [t0, cond_true, cond_false]; exact h
theorem ckD_r0 (len : Nat) (l : Nat → Int) : Sx.PieceN 1 (Sx.Ex.normal) [(0, .slc true false ⟨false, 0, 0, 0⟩ len), (8, .int true .i64 (↑len : Int)), (9, .int false .i64 0)] [(0, .cells false 1 len (.fn fun j => [Sx.AV.int true .i64 (l j)]))] (piececallTb Try.f57 (Sx.nav [1,1,0,0] (Sx.bodyOf Try.f57)) (Sx.frL [(0, Sx.slcV 0 len)]) (Sx.hpL [(0, .cells false 1 len (.fn fun j => [.int true .i64 (l j)]))]) 1 []) := Sx.eqn (q := True) (by kernel_rfl) trivial
theorem ckD (B : Nat) (hB : B ≤ 1) (len : Nat) (l : Nat → Int) : Sx.GoesB Try.prog (Sx.nav [1,1,0,0] (Sx.bodyOf Try.f57)) Try.f57.ntmps B 1 1 (Sx.frL [(0, Sx.slcV 0 len)]) (Sx.hpL [(0, .cells false 1 len (.fn fun j => [.int true .i64 (l j)]))]) fun e fr' H' => (e = .normal ∧ fr' = Sx.frL [(0, .slc true false ⟨false, 0, 0, 0⟩ len), (8, .int true .i64 (↑len : Int)), (9, .int false .i64 0)] ∧ H' = Sx.hpL [(0, .cells false 1 len (.fn fun j => [Sx.AV.int true .i64 (l j)]))]) := by
 exact (Sx.GoesB.runN callTb_ok (callTb_reg _) (Sx.LoopsIn.none _ _ _) (ckD_r0 len l) hB).mono fun e fr' H' h => h
theorem ckB_r0 (len i : Nat) (l : Nat → Int) (c0 : decide ((↑i : Int) < (↑len : Int)) = true) (c1 : (0 : Nat) + len ≤ len) (c2 : len ≤ (9223372036854775807 : Nat)) (c3 : ∀ (j : Nat), j < len → IRow [Sx.AV.int true .i64 (l ((0 : Nat) + j))]) (c4 : ∀ (j : Nat), j < len → ∀ (u : Sx.AV), u ∈ [Sx.AV.int true .i64 (l ((0 : Nat) + j))] → Sx.AV.low (0 : Nat) u = true) (c5 : (!decide ((0 : Int) ≤ idx (fun j => iof [Sx.AV.int true .i64 (l ((0 : Nat) + j))]) (↑i : Int) len)) = false) (c6 : (-9223372036854775808 : Int) ≤ (↑i : Int) + (1 : Int)) (c7 : (↑i : Int) + (1 : Int) ≤ (9223372036854775807 : Int)) : Sx.PieceN 1 (Sx.Ex.normal) [(0, .slc true false ⟨false, 0, 0, 0⟩ len), (8, .int true .i64 (↑len : Int)), (9, .int true .i64 ((↑i : Int) + (1 : Int)))] [(0, .cells false 1 len (.fn fun j => [Sx.AV.int true .i64 (l j)]))] (piececallTb Try.f57 (Sx.nav [1,1,0,1,0,0] (Sx.bodyOf Try.f57)) (Sx.frL [(0, Sx.slcV 0 len), (8, .int true .i64 len), (9, .int true .i64 i)]) (Sx.hpL [(0, .cells false 1 len (.fn fun j => [.int true .i64 (l j)]))]) 1 [true, false]) := Sx.eqn (q := (((((True ∧ (decide ((↑i : Int) < (↑len : Int)) = true)) ∧ ((0 : Nat) + len ≤ len)) ∧ (((len ≤ (9223372036854775807 : Nat)) ∧ (∀ (j : Nat), j < len → IRow [Sx.AV.int true .i64 (l ((0 : Nat) + j))])) ∧ (∀ (j : Nat), j < len → ∀ (u : Sx.AV), u ∈ [Sx.AV.int true .i64 (l ((0 : Nat) + j))] → Sx.AV.low (0 : Nat) u = true))) ∧ ((!decide ((0 : Int) ≤ idx (fun j => iof [Sx.AV.int true .i64 (l ((0 : Nat) + j))]) (↑i : Int) len)) = false)) ∧ (((-9223372036854775808 : Int) ≤ (↑i : Int) + (1 : Int)) ∧ ((↑i : Int) + (1 : Int) ≤ (9223372036854775807 : Int))))) (by kernel_rfl) ⟨⟨⟨⟨⟨trivial, c0⟩, c1⟩, ⟨⟨c2, c3⟩, c4⟩⟩, c5⟩, ⟨c6, c7⟩⟩
theorem ckB_r1 (len i : Nat) (l : Nat → Int) (c0 : decide ((↑i : Int) < (↑len : Int)) = true) (c1 : (0 : Nat) + len ≤ len) (c2 : len ≤ (9223372036854775807 : Nat)) (c3 : ∀ (j : Nat), j < len → IRow [Sx.AV.int true .i64 (l ((0 : Nat) + j))]) (c4 : ∀ (j : Nat), j < len → ∀ (u : Sx.AV), u ∈ [Sx.AV.int true .i64 (l ((0 : Nat) + j))] → Sx.AV.low (0 : Nat) u = true) (c5 : (!decide ((0 : Int) ≤ idx (fun j => iof [Sx.AV.int true .i64 (l ((0 : Nat) + j))]) (↑i : Int) len)) = true) : Sx.PieceN 1 (Sx.Ex.ret) [(0, .slc true false ⟨false, 0, 0, 0⟩ len), (2, .int false .i64 2), (8, .int true .i64 (↑len : Int)), (9, .int true .i64 (↑i : Int))] [(0, .cells false 1 len (.fn fun j => [Sx.AV.int true .i64 (l j)]))] (piececallTb Try.f57 (Sx.nav [1,1,0,1,0,0] (Sx.bodyOf Try.f57)) (Sx.frL [(0, Sx.slcV 0 len), (8, .int true .i64 len), (9, .int true .i64 i)]) (Sx.hpL [(0, .cells false 1 len (.fn fun j => [.int true .i64 (l j)]))]) 1 [true, true]) := Sx.eqn (q := ((((True ∧ (decide ((↑i : Int) < (↑len : Int)) = true)) ∧ ((0 : Nat) + len ≤ len)) ∧ (((len ≤ (9223372036854775807 : Nat)) ∧ (∀ (j : Nat), j < len → IRow [Sx.AV.int true .i64 (l ((0 : Nat) + j))])) ∧ (∀ (j : Nat), j < len → ∀ (u : Sx.AV), u ∈ [Sx.AV.int true .i64 (l ((0 : Nat) + j))] → Sx.AV.low (0 : Nat) u = true))) ∧ ((!decide ((0 : Int) ≤ idx (fun j => iof [Sx.AV.int true .i64 (l ((0 : Nat) + j))]) (↑i : Int) len)) = true))) (by kernel_rfl) ⟨⟨⟨⟨trivial, c0⟩, c1⟩, ⟨⟨c2, c3⟩, c4⟩⟩, c5⟩
theorem ckB_r2 (len i : Nat) (l : Nat → Int) (c0 : decide ((↑i : Int) < (↑len : Int)) = false) : Sx.PieceN 1 (Sx.Ex.exit (0 : Nat)) [(0, .slc true false ⟨false, 0, 0, 0⟩ len), (8, .int true .i64 (↑len : Int)), (9, .int true .i64 (↑i : Int))] [(0, .cells false 1 len (.fn fun j => [Sx.AV.int true .i64 (l j)]))] (piececallTb Try.f57 (Sx.nav [1,1,0,1,0,0] (Sx.bodyOf Try.f57)) (Sx.frL [(0, Sx.slcV 0 len), (8, .int true .i64 len), (9, .int true .i64 i)]) (Sx.hpL [(0, .cells false 1 len (.fn fun j => [.int true .i64 (l j)]))]) 1 [false]) := Sx.eqn (q := (True ∧ (decide ((↑i : Int) < (↑len : Int)) = false))) (by kernel_rfl) ⟨trivial, c0⟩
theorem ckB (B : Nat) (hB : B ≤ 1) (len i : Nat) (l : Nat → Int) (x0 : ((decide ((↑i : Int) < (↑len : Int))) = true → (len ≤ (9223372036854775807 : Nat)))) (x1 : ((decide ((↑i : Int) < (↑len : Int))) = true → (∀ (j : Nat), j < len → IRow [Sx.AV.int true .i64 (l ((0 : Nat) + j))]))) (x2 : ((decide ((↑i : Int) < (↑len : Int))) = true → (∀ (j : Nat), j < len → ∀ (u : Sx.AV), u ∈ [Sx.AV.int true .i64 (l ((0 : Nat) + j))] → Sx.AV.low (0 : Nat) u = true))) (x3 : ((decide ((↑i : Int) < (↑len : Int))) = true → ((decide ((0 : Int) ≤ idx (fun j => iof [Sx.AV.int true .i64 (l ((0 : Nat) + j))]) (↑i : Int) len)) = true → ((↑i : Int) + (1 : Int) ≤ (9223372036854775807 : Int))))) : Sx.GoesB Try.prog (Sx.nav [1,1,0,1,0,0] (Sx.bodyOf Try.f57)) Try.f57.ntmps B 1 1 (Sx.frL [(0, Sx.slcV 0 len), (8, .int true .i64 len), (9, .int true .i64 i)]) (Sx.hpL [(0, .cells false 1 len (.fn fun j => [.int true .i64 (l j)]))]) fun e fr' H' => (cond (decide ((↑i : Int) < (↑len : Int))) (cond (decide ((0 : Int) ≤ idx (fun j => iof [Sx.AV.int true .i64 (l ((0 : Nat) + j))]) (↑i : Int) len)) (e = .normal ∧ fr' = Sx.frL [(0, .slc true false ⟨false, 0, 0, 0⟩ len), (8, .int true .i64 (↑len : Int)), (9, .int true .i64 ((↑i : Int) + (1 : Int)))] ∧ H' = Sx.hpL [(0, .cells false 1 len (.fn fun j => [Sx.AV.int true .i64 (l j)]))]) (e = .ret ∧ fr' = Sx.frL [(0, .slc true false ⟨false, 0, 0, 0⟩ len), (2, .int false .i64 2), (8, .int true .i64 (↑len : Int)), (9, .int true .i64 (↑i : Int))] ∧ H' = Sx.hpL [(0, .cells false 1 len (.fn fun j => [Sx.AV.int true .i64 (l j)]))])) (e = .exit 0 ∧ fr' = Sx.frL [(0, .slc true false ⟨false, 0, 0, 0⟩ len), (8, .int true .i64 (↑len : Int)), (9, .int true .i64 (↑i : Int))] ∧ H' = Sx.hpL [(0, .cells false 1 len (.fn fun j => [Sx.AV.int true .i64 (l j)]))])) := by
 cases t0 : decide ((↑i : Int) < (↑len : Int)) with
 | true =>
  cases t1 : decide ((0 : Int) ≤ idx (fun j => iof [Sx.AV.int true .i64 (l ((0 : Nat) + j))]) (↑i : Int) len) with
  | true =>
   exact (Sx.GoesB.runN callTb_ok (callTb_reg _) (Sx.LoopsIn.none _ _ _) (ckB_r0 len i l t0 (by first | decide | ((try simp only [decide_eq_true_eq, decide_eq_false_iff_not] at t0 t1); (try simp only [List.length_take, List.length_drop]); omega)) (x0 t0) (x1 t0) (x2 t0) (by rw [t1]; rfl) (by first | decide | ((try simp only [decide_eq_true_eq, decide_eq_false_iff_not] at t0 t1); (try simp only [List.length_take, List.length_drop]); omega)) (x3 t0 t1)) hB).mono fun e fr' H' h => by simp only [t0, t1, cond_true, cond_false]; exact h
  | false =>
   exact (Sx.GoesB.runN callTb_ok (callTb_reg _) (Sx.LoopsIn.none _ _ _) (ckB_r1 len i l t0 (by first | decide | ((try simp only [decide_eq_true_eq, decide_eq_false_iff_not] at t0 t1); (try simp only [List.length_take, List.length_drop]); omega)) (x0 t0) (x1 t0) (x2 t0) (by rw [t1]; rfl)) hB).mono fun e fr' H' h => by simp only [t0, t1, cond_true, cond_false]; exact h
 | false =>
  exact (Sx.GoesB.runN callTb_ok (callTb_reg _) (Sx.LoopsIn.none _ _ _) (ckB_r2 len i l t0) hB).mono fun e fr' H' h => by simp only [t0, cond_true, cond_false]; exact h
theorem ckZ_r0  : Sx.PieceN 1 (Sx.Ex.ret) [(2, .int false .i64 0)] [] (piececallTb Try.f57 (Sx.nav [1,1,1] (Sx.bodyOf Try.f57)) (Sx.frL []) (Sx.hpL []) 1 []) := Sx.eqn (q := True) (by kernel_rfl) trivial
theorem ckZ (B : Nat) (hB : B ≤ 1)  : Sx.GoesB Try.prog (Sx.nav [1,1,1] (Sx.bodyOf Try.f57)) Try.f57.ntmps B 1 1 (Sx.frL []) (Sx.hpL []) fun e fr' H' => (e = .ret ∧ fr' = Sx.frL [(2, .int false .i64 0)] ∧ H' = Sx.hpL []) := by
 exact (Sx.GoesB.runN callTb_ok (callTb_reg _) (Sx.LoopsIn.none _ _ _) (ckZ_r0 ) hB).mono fun e fr' H' h => h
/-- what pivot.check tells -/
noncomputable def ckR (l : Nat → Int) (len : Nat) : Int := bif decide (64 < len) then 3 else bif Sx.cd (∀ i, i < len → 0 ≤ idx l (i : Nat) len) then 0 else 2
def ckI (len : Nat) (l : Nat → Int) (k : Nat) (fr : Sx.Fr) (H : Sx.T Sx.ABk) : Prop :=
 ∃ i : Nat, k = len - i ∧ i ≤ len ∧ (∀ j, j < i → 0 ≤ idx l (j : Nat) len) ∧ fr = Sx.frL [(0, Sx.slcV 0 len), (8, .int true .i64 len), (9, .int true .i64 i)] ∧ H = Sx.hpL [(0, .cells false 1 len (.fn fun j => [.int true .i64 (l j)]))]
def ckP (len : Nat) (l : Nat → Int) : Sx.Po := fun e fr H => (e = .exit 0 ∧ ∀ i, i < len → 0 ≤ idx l (i : Nat) len) ∨ (e = .ret ∧ ¬ (∀ i, i < len → 0 ≤ idx l (i : Nat) len) ∧ ∃ u, fr.get 2 = some u ∧ Sx.AV.ge u (.int true .i64 2))
theorem ck_body (len : Nat) (l : Nat → Int) (hm : len ≤ 9223372036854775807) (k : Nat) (fr : Sx.Fr) (H : Sx.T Sx.ABk) (hI : ckI len l k fr H) :
  Sx.GoesB Try.prog (Sx.nav [1,1,0,1,0,0] (Sx.bodyOf Try.f57)) Try.f57.ntmps 1 1 1 fr H fun e fr' H' => match e with
   | .normal => ∃ k', k' < k ∧ ckI len l k' fr' H'
   | e => ckP len l e fr' H' := by
 obtain ⟨i, rfl, hi, hs, rfl, rfl⟩ := hI
 have hx : decide ((i : Int) < (len : Int)) = true → i < len := fun t => by have := of_decide_eq_true t; omega
 have hB := ckB 1 (by omega) len i l (fun _ => hm) (fun _ j hj => irow _ _) (fun _ j hj u hu => low_i hu) (fun t _ => by have := hx t; omega)
 simp only [Nat.zero_add, iof] at hB
 refine hB.mono fun e fr' H' h => ?_
 refine Sx.cond_elim h (fun t h => ?_) (fun t h => ?_)
 ·have hlt := hx t
  refine Sx.cond_elim h (fun t1 h => ?_) (fun t1 h => ?_)
  ·obtain ⟨rfl, rfl, rfl⟩ := h
   refine ⟨len - (i + 1), by omega, i + 1, rfl, by omega, fun j hj => ?_, rfl, rfl⟩
   by_cases hji : j < i
   ·exact hs j hji
   ·have e : j = i := by omega
    subst e
    exact of_decide_eq_true t1
  ·obtain ⟨rfl, rfl, rfl⟩ := h
   exact .inr ⟨rfl, fun hh => of_decide_eq_false t1 (hh i hlt), _, rfl, Sx.AV.ge.int _ _ _ _⟩
 ·obtain ⟨rfl, rfl, rfl⟩ := h
  exact .inl ⟨rfl, fun j hj => hs j (by have := of_decide_eq_false t; omega)⟩
theorem ck_is : (Sx.bodyOf Try.f57) = .seq (Sx.nav [0] (Sx.bodyOf Try.f57)) (.seq (Sx.nav [1,0] (Sx.bodyOf Try.f57)) (.seq (.seq (Sx.nav [1,1,0,0] (Sx.bodyOf Try.f57)) (.block 0 (.loop (Sx.nav [1,1,0,1,0,0] (Sx.bodyOf Try.f57))))) (Sx.nav [1,1,1] (Sx.bodyOf Try.f57)))) := by kernel_rfl
theorem ck_goes (len : Nat) (l : Nat → Int) (hm : len ≤ 9223372036854775807) :
  Sx.GoesB Try.prog (Sx.bodyOf Try.f57) Try.f57.ntmps 1 1 1 (Sx.frameOf [Sx.slcV 0 len] 0 .e) (Sx.hpL [(0, .cells false 1 len (.fn fun j => [.int true .i64 (l j)]))]) fun e fr' H' => (e = .ret ∨ e = .normal) ∧ ∃ u, fr'.get 2 = some u ∧ Sx.AV.ge u (.int true .i64 (ckR l len)) := by
 rw [ck_is]
 refine Sx.GoesB.seq (K1 := 1) (by omega) ((ckA 1 (by omega) len l).mono fun e fr' H' ⟨e1, e2, e3⟩ => ?_)
 subst e1 e2 e3
 refine Sx.GoesB.seq (K1 := 1) (by omega) ((ckC 1 (by omega) len l).mono fun e fr' H' h => ?_)
 refine Sx.cond_elim h (fun t h => ?_) (fun t h => ?_)
 ·obtain ⟨rfl, rfl, rfl⟩ := h
  have t' : 64 < len := by have := of_decide_eq_true t; omega
  exact ⟨.inl rfl, _, rfl, by rw [show ckR l len = 3 by unfold ckR; rw [decide_eq_true t']; rfl]; exact Sx.AV.ge.int _ _ _ _⟩
 obtain ⟨rfl, rfl, rfl⟩ := h
 have t' : ¬ 64 < len := by have := of_decide_eq_false t; omega
 refine Sx.GoesB.seq (K1 := 1) (by omega) (Sx.GoesB.seq (K1 := 1) (by omega) ((ckD 1 (by omega) len l).mono fun e fr' H' ⟨e1, e2, e3⟩ => ?_))
 subst e1 e2 e3
 refine Sx.GoesB.weakL (fl := [(0, Sx.slcV 0 len), (8, .int true .i64 len), (9, .int true .i64 (0 : Nat))]) (bl := [(0, .cells false 1 len (.fn fun j => [.int true .i64 (l j)]))]) ⟨⟨_, rfl, Sx.AV.ge.refl _⟩, ⟨_, rfl, Sx.AV.ge.refl _⟩, ⟨_, rfl, Sx.AV.ge.int _ _ _ _⟩, trivial⟩ ⟨⟨_, rfl, Sx.SameC.refl _⟩, trivial⟩ ?_
 refine Sx.GoesB.block ((Sx.GoesB.loop (ckI len l) (Post := ckP len l) (ck_body len l hm) _ _ _ ⟨0, rfl, by omega, fun j hj => by omega, rfl, rfl⟩).mono fun e fr' H' hp => ?_)
 rcases hp with ⟨rfl, h1⟩ | ⟨rfl, h1, u, h2, h3⟩
 ·simp only [if_true]
  refine Sx.GoesB.weakL (fl := []) (bl := []) trivial trivial ((ckZ 1 (by omega)).mono fun e fr' H' ⟨e1, e2, e3⟩ => ?_)
  subst e1 e2 e3
  exact ⟨.inl rfl, _, rfl, by rw [show ckR l len = 0 by unfold ckR; rw [decide_eq_false t', Sx.cd_true h1]; rfl]; exact Sx.AV.ge.int _ _ _ _⟩
 ·exact ⟨.inl rfl, _, h2, by rw [show ckR l len = 2 by unfold ckR; rw [decide_eq_false t', Sx.cd_false h1]; rfl]; exact h3⟩
noncomputable def checkS : List Sx.AV → Sx.M Sx.AV
 | [x] => (Sx.rd 1 x fun len rows => len ≤ 9223372036854775807 ∧ ∀ j, j < len → IRow (rows j)).andThen fun a => Sx.M.ret (.int true .i64 (ckR (fun j => iof (a.2 j)) a.1))
 | _ => Sx.M.no
theorem checkS_ok : ∀ args v g g', checkS args g = .done v g' → Sx.CallIs Try.prog 57 args v g g' := by
 intro args v g g' h
 unfold checkS at h
 split at h
 ·rename_i x
  obtain ⟨⟨la, ra⟩, g1, a1, h1⟩ := Sx.done_of h
  obtain ⟨rfl, rfl⟩ := Sx.ret_done h1
  obtain ⟨q1, k, f1⟩ := Sx.rd_done a1 (by omega)
  refine Sx.reads (c := (Sx.bodyOf Try.f57)) Try.func57 (by kernel_rfl) (by kernel_rfl) k [⟨x, 1, la, ra⟩] (fun hp v hv => ?_) (argsC := [Sx.slcV 0 la]) (fun hp N μ cs hcs => ?_) (nms := []) (bs := []) (K' := 1) (fun hp => ?_) rfl trivial (by rw [k.1]; rfl) (by rw [k.2.1]; rfl) id
  ·rcases List.mem_cons.1 hv with rfl | hv
   ·exact (f1 hp).1
   ·cases hv
  ·simp only [Sx.Reps] at hcs
   obtain ⟨c, r, rfl, hc, rfl⟩ := hcs
   simp only [Sx.Reps]
   exact ⟨c, _, rfl, Sx.vw_val (l := [⟨x, 1, la, ra⟩]) (i := 0) (f1 hp).1 rfl hc, rfl⟩
  ·obtain ⟨_, hm, hz⟩ := f1 hp
   dsimp only at hm hz
   refine Sx.GoesB.weakGL (fl := [(0, Sx.slcV 0 la)]) (bl := [(0, .cells false 1 la (.fn fun j => [.int true .i64 (iof (ra j))]))]) ⟨⟨_, rfl, Sx.AV.ge.refl _⟩, trivial⟩ ⟨⟨_, rfl, rfl, rfl, rfl, fun j hj => (hz j hj).ge⟩, trivial⟩ ?_
   refine (ck_goes la  (fun j => iof (ra j)) hm).mono fun e fr' H' ⟨e1, u, e2, e3⟩ => ?_
   exact ⟨e1, _, _, Sx.res1 (t := 2) (by kernel_rfl) e2, trivial, e3, Sx.news0⟩
 ·exact (Sx.no_done h).elim
theorem checkS_tch : ∀ args, Sx.Tch (checkS args) := by
 intro args
 unfold checkS
 split
 ·exact (Sx.Tch.rd _ _ _).andThen fun _ => Sx.Tch.ret _
 ·exact Sx.Tch.no

noncomputable def gamTc : Sx.Known := Sx.kc 54 Sx.toBits (Sx.kc 60 Sx.ofBits (Sx.kc 65 indexS (Sx.kc 63 containsS (Sx.kc 57 checkS (Sx.kn)))))
theorem gamTc_ok : Sx.KnownOk Try.prog gamTc := Sx.kc_ok ((Sx.toBits_is Try.prog).callIs Try.func54 (by kernel_rfl) (by kernel_rfl) (by kernel_rfl) (by kernel_rfl)) (Sx.kc_ok ((Sx.ofBits_is Try.prog).callIs Try.func60 (by kernel_rfl) (by kernel_rfl) (by kernel_rfl) (by kernel_rfl)) (Sx.kc_ok indexS_ok (Sx.kc_ok containsS_ok (Sx.kc_ok checkS_ok (Sx.kn_ok)))))
theorem gamTc_tch : Sx.KnownT gamTc := Sx.kc_tch Sx.Tch.toBits (Sx.kc_tch Sx.Tch.ofBits (Sx.kc_tch indexS_tch (Sx.kc_tch containsS_tch (Sx.kc_tch checkS_tch (Sx.kn_tch)))))
noncomputable def callTc : Sx.Calls' := Sx.runN Try.prog gamTc (Sx.regionC Try.prog) 1000 50
theorem callTc_ok : Sx.CallOk Try.prog callTc := Sx.engineC gamTc_ok gamTc_tch (by kernel_rfl) (by kernel_rfl) 1000 50
theorem callTc_tch : Sx.CallT callTc := Sx.runA_tch gamTc_tch (fun _ _ _ h => by cases h) (fun call hc n l fr => Sx.regionC_tch hc n l fr) 50
theorem callTc_reg (n : Nat) : Sx.RegionOk Try.prog (Sx.regionC Try.prog callTc n) n := Sx.runN_regionC gamTc_ok gamTc_tch (by kernel_rfl) (by kernel_rfl) 1000 50 n
noncomputable abbrev piececallTc (f : Func) (c : Code) (fr : Sx.Fr) (H : Sx.T Sx.ABk) (K : Nat) (path : List Bool) : Sx.Res (Sx.Ex × Sx.Fr) :=
 Sx.codeA Try.prog callTc (Sx.regionC Try.prog callTc f.ntmps) Sx.noLoops f.ntmps 1000 c fr ⟨H, K, [], path, True⟩

theorem paA_r0 (len : Nat) (l : Nat → Int) : Sx.PieceN 1 (Sx.Ex.normal) [(0, .slc true false ⟨false, 0, 0, 0⟩ len)] [(0, .cells false 1 len (.fn fun j => [Sx.AV.int true .i64 (l j)]))] (piececallTc Try.f31 (Sx.nav [0] (Sx.bodyOf Try.f31)) (Sx.frameOf [Sx.slcV 0 len] 0 .e) (Sx.hpL [(0, .cells false 1 len (.fn fun j => [.int true .i64 (l j)]))]) 1 []) := Sx.eqn (q := True) (by kernel_rfl) trivial
theorem paA (B : Nat) (hB : B ≤ 1) (len : Nat) (l : Nat → Int) : Sx.GoesB Try.prog (Sx.nav [0] (Sx.bodyOf Try.f31)) Try.f31.ntmps B 1 1 (Sx.frameOf [Sx.slcV 0 len] 0 .e) (Sx.hpL [(0, .cells false 1 len (.fn fun j => [.int true .i64 (l j)]))]) fun e fr' H' => (e = .normal ∧ fr' = Sx.frL [(0, .slc true false ⟨false, 0, 0, 0⟩ len)] ∧ H' = Sx.hpL [(0, .cells false 1 len (.fn fun j => [Sx.AV.int true .i64 (l j)]))]) := by
 exact (Sx.GoesB.runN callTc_ok (callTc_reg _) (Sx.LoopsIn.none _ _ _) (paA_r0 len l) hB).mono fun e fr' H' h => h
theorem paC_r0 (len : Nat) (l : Nat → Int) (c0 : (0 : Nat) + len ≤ len) (c1 : len ≤ (9223372036854775807 : Nat)) (c2 : ∀ (j : Nat), j < len → IRow [Sx.AV.int true .i64 (l ((0 : Nat) + j))]) (c3 : ∀ (j : Nat), j < len → ∀ (u : Sx.AV), u ∈ [Sx.AV.int true .i64 (l ((0 : Nat) + j))] → Sx.AV.low (0 : Nat) u = true) (c4 : (!decide (ckR (fun j => iof [Sx.AV.int true .i64 (l ((0 : Nat) + j))]) len = (0 : Int))) = false) : Sx.PieceN 1 (Sx.Ex.normal) [(0, .slc true false ⟨false, 0, 0, 0⟩ len)] [(0, .cells false 1 len (.fn fun j => [Sx.AV.int true .i64 (l j)]))] (piececallTc Try.f31 (Sx.nav [1,0] (Sx.bodyOf Try.f31)) (Sx.frL [(0, Sx.slcV 0 len)]) (Sx.hpL [(0, .cells false 1 len (.fn fun j => [.int true .i64 (l j)]))]) 1 [false]) := Sx.eqn (q := (((True ∧ ((0 : Nat) + len ≤ len)) ∧ (((len ≤ (9223372036854775807 : Nat)) ∧ (∀ (j : Nat), j < len → IRow [Sx.AV.int true .i64 (l ((0 : Nat) + j))])) ∧ (∀ (j : Nat), j < len → ∀ (u : Sx.AV), u ∈ [Sx.AV.int true .i64 (l ((0 : Nat) + j))] → Sx.AV.low (0 : Nat) u = true))) ∧ ((!decide (ckR (fun j => iof [Sx.AV.int true .i64 (l ((0 : Nat) + j))]) len = (0 : Int))) = false))) (by kernel_rfl) ⟨⟨⟨trivial, c0⟩, ⟨⟨c1, c2⟩, c3⟩⟩, c4⟩
theorem paC_r1 (len : Nat) (l : Nat → Int) (c0 : (0 : Nat) + len ≤ len) (c1 : len ≤ (9223372036854775807 : Nat)) (c2 : ∀ (j : Nat), j < len → IRow [Sx.AV.int true .i64 (l ((0 : Nat) + j))]) (c3 : ∀ (j : Nat), j < len → ∀ (u : Sx.AV), u ∈ [Sx.AV.int true .i64 (l ((0 : Nat) + j))] → Sx.AV.low (0 : Nat) u = true) (c4 : (!decide (ckR (fun j => iof [Sx.AV.int true .i64 (l ((0 : Nat) + j))]) len = (0 : Int))) = true) : Sx.PieceN 1 (Sx.Ex.ret) [(0, .slc true false ⟨false, 0, 0, 0⟩ len), (2, .int false .i64 0), (3, .int true .i64 (ckR (fun j => iof [Sx.AV.int true .i64 (l ((0 : Nat) + j))]) len))] [(0, .cells false 1 len (.fn fun j => [Sx.AV.int true .i64 (l j)]))] (piececallTc Try.f31 (Sx.nav [1,0] (Sx.bodyOf Try.f31)) (Sx.frL [(0, Sx.slcV 0 len)]) (Sx.hpL [(0, .cells false 1 len (.fn fun j => [.int true .i64 (l j)]))]) 1 [true]) := Sx.eqn (q := (((True ∧ ((0 : Nat) + len ≤ len)) ∧ (((len ≤ (9223372036854775807 : Nat)) ∧ (∀ (j : Nat), j < len → IRow [Sx.AV.int true .i64 (l ((0 : Nat) + j))])) ∧ (∀ (j : Nat), j < len → ∀ (u : Sx.AV), u ∈ [Sx.AV.int true .i64 (l ((0 : Nat) + j))] → Sx.AV.low (0 : Nat) u = true))) ∧ ((!decide (ckR (fun j => iof [Sx.AV.int true .i64 (l ((0 : Nat) + j))]) len = (0 : Int))) = true))) (by kernel_rfl) ⟨⟨⟨trivial, c0⟩, ⟨⟨c1, c2⟩, c3⟩⟩, c4⟩
theorem paC (B : Nat) (hB : B ≤ 1) (len : Nat) (l : Nat → Int) (x0 : (len ≤ (9223372036854775807 : Nat))) (x1 : (∀ (j : Nat), j < len → IRow [Sx.AV.int true .i64 (l ((0 : Nat) + j))])) (x2 : (∀ (j : Nat), j < len → ∀ (u : Sx.AV), u ∈ [Sx.AV.int true .i64 (l ((0 : Nat) + j))] → Sx.AV.low (0 : Nat) u = true)) : Sx.GoesB Try.prog (Sx.nav [1,0] (Sx.bodyOf Try.f31)) Try.f31.ntmps B 1 1 (Sx.frL [(0, Sx.slcV 0 len)]) (Sx.hpL [(0, .cells false 1 len (.fn fun j => [.int true .i64 (l j)]))]) fun e fr' H' => (cond (decide (ckR (fun j => iof [Sx.AV.int true .i64 (l ((0 : Nat) + j))]) len = (0 : Int))) (e = .normal ∧ fr' = Sx.frL [(0, .slc true false ⟨false, 0, 0, 0⟩ len)] ∧ H' = Sx.hpL [(0, .cells false 1 len (.fn fun j => [Sx.AV.int true .i64 (l j)]))]) (e = .ret ∧ fr' = Sx.frL [(0, .slc true false ⟨false, 0, 0, 0⟩ len), (2, .int false .i64 0), (3, .int true .i64 (ckR (fun j => iof [Sx.AV.int true .i64 (l ((0 : Nat) + j))]) len))] ∧ H' = Sx.hpL [(0, .cells false 1 len (.fn fun j => [Sx.AV.int true .i64 (l j)]))])) := by
 cases t0 : decide (ckR (fun j => iof [Sx.AV.int true .i64 (l ((0 : Nat) + j))]) len = (0 : Int)) with
 | true =>
  exact (Sx.GoesB.runN callTc_ok (callTc_reg _) (Sx.LoopsIn.none _ _ _) (paC_r0 len l (by first | decide | ((try simp only [decide_eq_true_eq, decide_eq_false_iff_not] at t0); (try simp only [List.length_take, List.length_drop]); omega)) (x0) (x1) (x2) (by rw [t0]; rfl)) hB).mono fun e fr' H' h => by simp only [t0, cond_true, cond_false]; exact h
 | false =>
  exact (Sx.GoesB.runN callTc_ok (callTc_reg _) (Sx.LoopsIn.none _ _ _) (paC_r1 len l (by first | decide | ((try simp only [decide_eq_true_eq, decide_eq_false_iff_not] at t0); (try simp only [List.length_take, List.length_drop]); omega)) (x0) (x1) (x2) (by rw [t0]; rfl)) hB).mono fun e fr' H' h => by simp only [t0, cond_true, cond_false]; exact h
theorem paD_r0 (len : Nat) (l : Nat → Int) (c0 : (0 : Nat) < len) (c1 : (0 : Nat) + len ≤ len) (c2 : (0 : Nat) ≤ (0 : Nat)) (c3 : ((0 : Nat) + len) * (8 : Nat) ≤ (140737488355328 : Nat)) (c4 : (0 : Nat) + len ≤ (9223372036854775807 : Nat)) : Sx.PieceN 3 (Sx.Ex.normal) [(5, .slc true true ⟨false, 2, 0, 0⟩ ((0 : Nat) + len))] [(2, .cells true 1 ((0 : Nat) + len) (.fn fun j => bif Nat.beq len (1 : Nat) then [Sx.AV.int true .i64 (l (0 : Nat))] else [Sx.AV.int true .i64 (l ((0 : Nat) + (j - (0 : Nat))))]))] (piececallTc Try.f31 (Sx.nav [1,1,0] (Sx.bodyOf Try.f31)) (Sx.frL [(0, Sx.slcV 0 len)]) (Sx.hpL [(0, .cells false 1 len (.fn fun j => [.int true .i64 (l j)]))]) 1 []) := Sx.eqn (q := (((True ∧ ((0 : Nat) < len)) ∧ ((0 : Nat) + len ≤ len)) ∧ (((0 : Nat) ≤ (0 : Nat)) ∧ ((((0 : Nat) + len) * (8 : Nat) ≤ (140737488355328 : Nat)) ∧ ((0 : Nat) + len ≤ (9223372036854775807 : Nat)))))) (by kernel_rfl) ⟨⟨⟨trivial, c0⟩, c1⟩, ⟨c2, ⟨c3, c4⟩⟩⟩
theorem paD (B : Nat) (hB : B ≤ 1) (len : Nat) (l : Nat → Int) (x0 : ((0 : Nat) < len)) (x1 : (((0 : Nat) + len) * (8 : Nat) ≤ (140737488355328 : Nat))) (x2 : ((0 : Nat) + len ≤ (9223372036854775807 : Nat))) : Sx.GoesB Try.prog (Sx.nav [1,1,0] (Sx.bodyOf Try.f31)) Try.f31.ntmps B 1 3 (Sx.frL [(0, Sx.slcV 0 len)]) (Sx.hpL [(0, .cells false 1 len (.fn fun j => [.int true .i64 (l j)]))]) fun e fr' H' => (e = .normal ∧ fr' = Sx.frL [(5, .slc true true ⟨false, 2, 0, 0⟩ ((0 : Nat) + len))] ∧ H' = Sx.hpL [(2, .cells true 1 ((0 : Nat) + len) (.fn fun j => bif Nat.beq len (1 : Nat) then [Sx.AV.int true .i64 (l (0 : Nat))] else [Sx.AV.int true .i64 (l ((0 : Nat) + (j - (0 : Nat))))]))]) := by
 exact (Sx.GoesB.runN callTc_ok (callTc_reg _) (Sx.LoopsIn.none _ _ _) (paD_r0 len l (x0) (by first | decide | omega) (by first | decide | omega) (x1) (x2)) hB).mono fun e fr' H' h => h
theorem paE_r0 (len : Nat) (l : Nat → Int) : Sx.PieceN 3 (Sx.Ex.normal) [(5, .slc true true ⟨false, 2, 0, 0⟩ len), (6, .int false .i64 1)] [(2, .cells true 1 len (.fn fun j => [Sx.AV.int true .i64 (l j)]))] (piececallTc Try.f31 (Sx.nav [1,1,1,0] (Sx.bodyOf Try.f31)) (Sx.frL [(5, .slc true true ⟨false, 2, 0, 0⟩ len)]) (Sx.hpL [(2, .cells true 1 len (.fn fun j => [.int true .i64 (l j)]))]) 3 []) := Sx.eqn (q := True) (by kernel_rfl) trivial
theorem paE (B : Nat) (hB : B ≤ 3) (len : Nat) (l : Nat → Int) : Sx.GoesB Try.prog (Sx.nav [1,1,1,0] (Sx.bodyOf Try.f31)) Try.f31.ntmps B 3 3 (Sx.frL [(5, .slc true true ⟨false, 2, 0, 0⟩ len)]) (Sx.hpL [(2, .cells true 1 len (.fn fun j => [.int true .i64 (l j)]))]) fun e fr' H' => (e = .normal ∧ fr' = Sx.frL [(5, .slc true true ⟨false, 2, 0, 0⟩ len), (6, .int false .i64 1)] ∧ H' = Sx.hpL [(2, .cells true 1 len (.fn fun j => [Sx.AV.int true .i64 (l j)]))]) := by
 exact (Sx.GoesB.runN callTc_ok (callTc_reg _) (Sx.LoopsIn.none _ _ _) (paE_r0 len l) hB).mono fun e fr' H' h => h
theorem paF_r0 (len : Nat) (l : Nat → Int) : Sx.PieceN 3 (Sx.Ex.normal) [(5, .slc true true ⟨false, 2, 0, 0⟩ len), (6, .int true .i64 1), (17, .int true .i64 (↑len : Int)), (18, .int false .i64 0)] [(2, .cells true 1 len (.fn fun j => [Sx.AV.int true .i64 (l j)]))] (piececallTc Try.f31 (Sx.nav [1,1,1,1,0,0] (Sx.bodyOf Try.f31)) (Sx.frL [(5, .slc true true ⟨false, 2, 0, 0⟩ len), (6, .int true .i64 1)]) (Sx.hpL [(2, .cells true 1 len (.fn fun j => [.int true .i64 (l j)]))]) 3 []) := Sx.eqn (q := True) (by kernel_rfl) trivial
theorem paF (B : Nat) (hB : B ≤ 3) (len : Nat) (l : Nat → Int) : Sx.GoesB Try.prog (Sx.nav [1,1,1,1,0,0] (Sx.bodyOf Try.f31)) Try.f31.ntmps B 3 3 (Sx.frL [(5, .slc true true ⟨false, 2, 0, 0⟩ len), (6, .int true .i64 1)]) (Sx.hpL [(2, .cells true 1 len (.fn fun j => [.int true .i64 (l j)]))]) fun e fr' H' => (e = .normal ∧ fr' = Sx.frL [(5, .slc true true ⟨false, 2, 0, 0⟩ len), (6, .int true .i64 1), (17, .int true .i64 (↑len : Int)), (18, .int false .i64 0)] ∧ H' = Sx.hpL [(2, .cells true 1 len (.fn fun j => [Sx.AV.int true .i64 (l j)]))]) := by
 exact (Sx.GoesB.runN callTc_ok (callTc_reg _) (Sx.LoopsIn.none _ _ _) (paF_r0 len l) hB).mono fun e fr' H' h => h
theorem paG_r0 (len i : Nat) (s : Int) (l : Nat → Int) : Sx.PieceN 3 (Sx.Ex.normal) [(5, .slc true true ⟨false, 2, 0, 0⟩ len), (6, .int true .i64 s), (17, .int true .i64 (↑len : Int)), (18, .int true .i64 (↑i : Int)), (19, .sbool (decide ((↑i : Int) < (↑len : Int))))] [(2, .cells true 1 len (.fn fun j => [Sx.AV.int true .i64 (l j)]))] (piececallTc Try.f31 (Sx.nav [1,1,1,1,0,1,0,0,0] (Sx.bodyOf Try.f31)) (Sx.frL [(5, .slc true true ⟨false, 2, 0, 0⟩ len), (6, .int true .i64 s), (17, .int true .i64 len), (18, .int true .i64 i)]) (Sx.hpL [(2, .cells true 1 len (.fn fun j => [.int true .i64 (l j)]))]) 3 []) := Sx.eqn (q := True) (by kernel_rfl) trivial
theorem paG (B : Nat) (hB : B ≤ 3) (len i : Nat) (s : Int) (l : Nat → Int) : Sx.GoesB Try.prog (Sx.nav [1,1,1,1,0,1,0,0,0] (Sx.bodyOf Try.f31)) Try.f31.ntmps B 3 3 (Sx.frL [(5, .slc true true ⟨false, 2, 0, 0⟩ len), (6, .int true .i64 s), (17, .int true .i64 len), (18, .int true .i64 i)]) (Sx.hpL [(2, .cells true 1 len (.fn fun j => [.int true .i64 (l j)]))]) fun e fr' H' => (e = .normal ∧ fr' = Sx.frL [(5, .slc true true ⟨false, 2, 0, 0⟩ len), (6, .int true .i64 s), (17, .int true .i64 (↑len : Int)), (18, .int true .i64 (↑i : Int)), (19, .sbool (decide ((↑i : Int) < (↑len : Int))))] ∧ H' = Sx.hpL [(2, .cells true 1 len (.fn fun j => [Sx.AV.int true .i64 (l j)]))]) := by
 exact (Sx.GoesB.runN callTc_ok (callTc_reg _) (Sx.LoopsIn.none _ _ _) (paG_r0 len i s l) hB).mono fun e fr' H' h => h
theorem paK_r0 (len i : Nat) (s : Int) (z : Bool) (l : Nat → Int) (c0 : z = true) : Sx.PieceN 3 (Sx.Ex.normal) [(5, .slc true true ⟨false, 2, 0, 0⟩ len), (6, .int true .i64 s), (17, .int true .i64 (↑len : Int)), (18, .int true .i64 (↑i : Int))] [(2, .cells true 1 len (.fn fun j => [Sx.AV.int true .i64 (l j)]))] (piececallTc Try.f31 (Sx.nav [1,1,1,1,0,1,0,0,1,0] (Sx.bodyOf Try.f31)) (Sx.frL [(5, .slc true true ⟨false, 2, 0, 0⟩ len), (6, .int true .i64 s), (17, .int true .i64 len), (18, .int true .i64 i), (19, .sbool z)]) (Sx.hpL [(2, .cells true 1 len (.fn fun j => [.int true .i64 (l j)]))]) 3 [true]) := Sx.eqn (q := (True ∧ (z = true))) (by kernel_rfl) ⟨trivial, c0⟩
theorem paK_r1 (len i : Nat) (s : Int) (z : Bool) (l : Nat → Int) (c0 : z = false) : Sx.PieceN 3 (Sx.Ex.exit (0 : Nat)) [(5, .slc true true ⟨false, 2, 0, 0⟩ len), (6, .int true .i64 s), (17, .int true .i64 (↑len : Int)), (18, .int true .i64 (↑i : Int))] [(2, .cells true 1 len (.fn fun j => [Sx.AV.int true .i64 (l j)]))] (piececallTc Try.f31 (Sx.nav [1,1,1,1,0,1,0,0,1,0] (Sx.bodyOf Try.f31)) (Sx.frL [(5, .slc true true ⟨false, 2, 0, 0⟩ len), (6, .int true .i64 s), (17, .int true .i64 len), (18, .int true .i64 i), (19, .sbool z)]) (Sx.hpL [(2, .cells true 1 len (.fn fun j => [.int true .i64 (l j)]))]) 3 [false]) := Sx.eqn (q := (True ∧ (z = false))) (by kernel_rfl) ⟨trivial, c0⟩
theorem paK (B : Nat) (hB : B ≤ 3) (len i : Nat) (s : Int) (z : Bool) (l : Nat → Int) : Sx.GoesB Try.prog (Sx.nav [1,1,1,1,0,1,0,0,1,0] (Sx.bodyOf Try.f31)) Try.f31.ntmps B 3 3 (Sx.frL [(5, .slc true true ⟨false, 2, 0, 0⟩ len), (6, .int true .i64 s), (17, .int true .i64 len), (18, .int true .i64 i), (19, .sbool z)]) (Sx.hpL [(2, .cells true 1 len (.fn fun j => [.int true .i64 (l j)]))]) fun e fr' H' => (cond (z) (e = .normal ∧ fr' = Sx.frL [(5, .slc true true ⟨false, 2, 0, 0⟩ len), (6, .int true .i64 s), (17, .int true .i64 (↑len : Int)), (18, .int true .i64 (↑i : Int))] ∧ H' = Sx.hpL [(2, .cells true 1 len (.fn fun j => [Sx.AV.int true .i64 (l j)]))]) (e = .exit 0 ∧ fr' = Sx.frL [(5, .slc true true ⟨false, 2, 0, 0⟩ len), (6, .int true .i64 s), (17, .int true .i64 (↑len : Int)), (18, .int true .i64 (↑i : Int))] ∧ H' = Sx.hpL [(2, .cells true 1 len (.fn fun j => [Sx.AV.int true .i64 (l j)]))])) := by
 rcases Bool.eq_false_or_eq_true (z) with t0 | t0
 ·
  exact (Sx.GoesB.runN callTc_ok (callTc_reg _) (Sx.LoopsIn.none _ _ _) (paK_r0 len i s z l t0) hB).mono fun e fr' H' h => by simp only [t0, cond_true, cond_false]; exact h
 ·
  exact (Sx.GoesB.runN callTc_ok (callTc_reg _) (Sx.LoopsIn.none _ _ _) (paK_r1 len i s z l t0) hB).mono fun e fr' H' h => by simp only [t0, cond_true, cond_false]; exact h
theorem paH_r0 (len i : Nat) (s : Int) (l : Nat → Int) : Sx.PieceN 3 (Sx.Ex.normal) [(5, .slc true true ⟨false, 2, 0, 0⟩ len), (6, .int true .i64 s), (7, .int true .i64 (↑i : Int)), (17, .int true .i64 (↑len : Int)), (18, .int true .i64 (↑i : Int))] [(2, .cells true 1 len (.fn fun j => [Sx.AV.int true .i64 (l j)]))] (piececallTc Try.f31 (Sx.nav [1,1,1,1,0,1,0,0,1,1,0,0,0] (Sx.bodyOf Try.f31)) (Sx.frL [(5, .slc true true ⟨false, 2, 0, 0⟩ len), (6, .int true .i64 s), (17, .int true .i64 len), (18, .int true .i64 i)]) (Sx.hpL [(2, .cells true 1 len (.fn fun j => [.int true .i64 (l j)]))]) 3 []) := Sx.eqn (q := True) (by kernel_rfl) trivial
theorem paH (B : Nat) (hB : B ≤ 3) (len i : Nat) (s : Int) (l : Nat → Int) : Sx.GoesB Try.prog (Sx.nav [1,1,1,1,0,1,0,0,1,1,0,0,0] (Sx.bodyOf Try.f31)) Try.f31.ntmps B 3 3 (Sx.frL [(5, .slc true true ⟨false, 2, 0, 0⟩ len), (6, .int true .i64 s), (17, .int true .i64 len), (18, .int true .i64 i)]) (Sx.hpL [(2, .cells true 1 len (.fn fun j => [.int true .i64 (l j)]))]) fun e fr' H' => (e = .normal ∧ fr' = Sx.frL [(5, .slc true true ⟨false, 2, 0, 0⟩ len), (6, .int true .i64 s), (7, .int true .i64 (↑i : Int)), (17, .int true .i64 (↑len : Int)), (18, .int true .i64 (↑i : Int))] ∧ H' = Sx.hpL [(2, .cells true 1 len (.fn fun j => [Sx.AV.int true .i64 (l j)]))]) := by
 exact (Sx.GoesB.runN callTc_ok (callTc_reg _) (Sx.LoopsIn.none _ _ _) (paH_r0 len i s l) hB).mono fun e fr' H' h => h
theorem paI_r0 (len i : Nat) (s : Int) (l : Nat → Int) (c0 : (0 : Int) ≤ (↑i : Int)) (c1 : (↑i : Int) < (↑len : Int)) (c2 : (0 : Nat) + i < len) (c3 : (!decide (l ((0 : Nat) + i) = (↑i : Int))) = false) : Sx.PieceN 3 (Sx.Ex.exit (2 : Nat)) [(5, .slc true true ⟨false, 2, 0, 0⟩ len), (6, .int true .i64 s), (7, .int true .i64 (↑i : Int)), (17, .int true .i64 (↑len : Int)), (18, .int true .i64 (↑i : Int))] [(2, .cells true 1 len (.fn fun j => [Sx.AV.int true .i64 (l j)]))] (piececallTc Try.f31 (Sx.nav [1,1,1,1,0,1,0,0,1,1,0,0,1,0,0,0] (Sx.bodyOf Try.f31)) (Sx.frL [(5, .slc true true ⟨false, 2, 0, 0⟩ len), (6, .int true .i64 s), (7, .int true .i64 i), (17, .int true .i64 len), (18, .int true .i64 i)]) (Sx.hpL [(2, .cells true 1 len (.fn fun j => [.int true .i64 (l j)]))]) 3 [false]) := Sx.eqn (q := (((True ∧ (((0 : Int) ≤ (↑i : Int)) ∧ ((↑i : Int) < (↑len : Int)))) ∧ ((0 : Nat) + i < len)) ∧ ((!decide (l ((0 : Nat) + i) = (↑i : Int))) = false))) (by kernel_rfl) ⟨⟨⟨trivial, ⟨c0, c1⟩⟩, c2⟩, c3⟩
theorem paI_r1 (len i : Nat) (s : Int) (l : Nat → Int) (c0 : (0 : Int) ≤ (↑i : Int)) (c1 : (↑i : Int) < (↑len : Int)) (c2 : (0 : Nat) + i < len) (c3 : (!decide (l ((0 : Nat) + i) = (↑i : Int))) = true) : Sx.PieceN 3 (Sx.Ex.normal) [(5, .slc true true ⟨false, 2, 0, 0⟩ len), (6, .int true .i64 s), (7, .int true .i64 (↑i : Int)), (17, .int true .i64 (↑len : Int)), (18, .int true .i64 (↑i : Int))] [(2, .cells true 1 len (.fn fun j => [Sx.AV.int true .i64 (l j)]))] (piececallTc Try.f31 (Sx.nav [1,1,1,1,0,1,0,0,1,1,0,0,1,0,0,0] (Sx.bodyOf Try.f31)) (Sx.frL [(5, .slc true true ⟨false, 2, 0, 0⟩ len), (6, .int true .i64 s), (7, .int true .i64 i), (17, .int true .i64 len), (18, .int true .i64 i)]) (Sx.hpL [(2, .cells true 1 len (.fn fun j => [.int true .i64 (l j)]))]) 3 [true]) := Sx.eqn (q := (((True ∧ (((0 : Int) ≤ (↑i : Int)) ∧ ((↑i : Int) < (↑len : Int)))) ∧ ((0 : Nat) + i < len)) ∧ ((!decide (l ((0 : Nat) + i) = (↑i : Int))) = true))) (by kernel_rfl) ⟨⟨⟨trivial, ⟨c0, c1⟩⟩, c2⟩, c3⟩
theorem paI (B : Nat) (hB : B ≤ 3) (len i : Nat) (s : Int) (l : Nat → Int) (x0 : ((↑i : Int) < (↑len : Int))) (x1 : ((0 : Nat) + i < len)) : Sx.GoesB Try.prog (Sx.nav [1,1,1,1,0,1,0,0,1,1,0,0,1,0,0,0] (Sx.bodyOf Try.f31)) Try.f31.ntmps B 3 3 (Sx.frL [(5, .slc true true ⟨false, 2, 0, 0⟩ len), (6, .int true .i64 s), (7, .int true .i64 i), (17, .int true .i64 len), (18, .int true .i64 i)]) (Sx.hpL [(2, .cells true 1 len (.fn fun j => [.int true .i64 (l j)]))]) fun e fr' H' => (cond (decide (l ((0 : Nat) + i) = (↑i : Int))) (e = .exit 2 ∧ fr' = Sx.frL [(5, .slc true true ⟨false, 2, 0, 0⟩ len), (6, .int true .i64 s), (7, .int true .i64 (↑i : Int)), (17, .int true .i64 (↑len : Int)), (18, .int true .i64 (↑i : Int))] ∧ H' = Sx.hpL [(2, .cells true 1 len (.fn fun j => [Sx.AV.int true .i64 (l j)]))]) (e = .normal ∧ fr' = Sx.frL [(5, .slc true true ⟨false, 2, 0, 0⟩ len), (6, .int true .i64 s), (7, .int true .i64 (↑i : Int)), (17, .int true .i64 (↑len : Int)), (18, .int true .i64 (↑i : Int))] ∧ H' = Sx.hpL [(2, .cells true 1 len (.fn fun j => [Sx.AV.int true .i64 (l j)]))])) := by
 cases t0 : decide (l ((0 : Nat) + i) = (↑i : Int)) with
 | true =>
  exact (Sx.GoesB.runN callTc_ok (callTc_reg _) (Sx.LoopsIn.none _ _ _) (paI_r0 len i s l (by first | decide | ((try simp only [decide_eq_true_eq, decide_eq_false_iff_not] at t0); (try simp only [List.length_take, List.length_drop]); omega)) (x0) (x1) (by rw [t0]; rfl)) hB).mono fun e fr' H' h => by simp only [t0, cond_true, cond_false]; exact h
 | false =>
  exact (Sx.GoesB.runN callTc_ok (callTc_reg _) (Sx.LoopsIn.none _ _ _) (paI_r1 len i s l (by first | decide | ((try simp only [decide_eq_true_eq, decide_eq_false_iff_not] at t0); (try simp only [List.length_take, List.length_drop]); omega)) (x0) (x1) (by rw [t0]; rfl)) hB).mono fun e fr' H' h => by simp only [t0, cond_true, cond_false]; exact h
theorem paL_r0 (len i : Nat) (s : Int) (l : Nat → Int) (c0 : (0 : Int) ≤ (↑i : Int)) (c1 : (↑i : Int) < (↑len : Int)) (c2 : (0 : Nat) + i < len) : Sx.PieceN 3 (Sx.Ex.normal) [(5, .slc true true ⟨false, 2, 0, 0⟩ len), (6, .int true .i64 s), (7, .int true .i64 (↑i : Int)), (8, .int true .i64 (l ((0 : Nat) + i))), (17, .int true .i64 (↑len : Int)), (18, .int true .i64 (↑i : Int))] [(2, .cells true 1 len (.fn fun j => [Sx.AV.int true .i64 (l j)]))] (piececallTc Try.f31 (Sx.nav [1,1,1,1,0,1,0,0,1,1,0,0,1,0,0,1,0,0] (Sx.bodyOf Try.f31)) (Sx.frL [(5, .slc true true ⟨false, 2, 0, 0⟩ len), (6, .int true .i64 s), (7, .int true .i64 i), (17, .int true .i64 len), (18, .int true .i64 i)]) (Sx.hpL [(2, .cells true 1 len (.fn fun j => [.int true .i64 (l j)]))]) 3 []) := Sx.eqn (q := ((True ∧ (((0 : Int) ≤ (↑i : Int)) ∧ ((↑i : Int) < (↑len : Int)))) ∧ ((0 : Nat) + i < len))) (by kernel_rfl) ⟨⟨trivial, ⟨c0, c1⟩⟩, c2⟩
theorem paL (B : Nat) (hB : B ≤ 3) (len i : Nat) (s : Int) (l : Nat → Int) (x0 : ((↑i : Int) < (↑len : Int))) (x1 : ((0 : Nat) + i < len)) : Sx.GoesB Try.prog (Sx.nav [1,1,1,1,0,1,0,0,1,1,0,0,1,0,0,1,0,0] (Sx.bodyOf Try.f31)) Try.f31.ntmps B 3 3 (Sx.frL [(5, .slc true true ⟨false, 2, 0, 0⟩ len), (6, .int true .i64 s), (7, .int true .i64 i), (17, .int true .i64 len), (18, .int true .i64 i)]) (Sx.hpL [(2, .cells true 1 len (.fn fun j => [.int true .i64 (l j)]))]) fun e fr' H' => (e = .normal ∧ fr' = Sx.frL [(5, .slc true true ⟨false, 2, 0, 0⟩ len), (6, .int true .i64 s), (7, .int true .i64 (↑i : Int)), (8, .int true .i64 (l ((0 : Nat) + i))), (17, .int true .i64 (↑len : Int)), (18, .int true .i64 (↑i : Int))] ∧ H' = Sx.hpL [(2, .cells true 1 len (.fn fun j => [Sx.AV.int true .i64 (l j)]))]) := by
 exact (Sx.GoesB.runN callTc_ok (callTc_reg _) (Sx.LoopsIn.none _ _ _) (paL_r0 len i s l (by first | decide | omega) (x0) (x1)) hB).mono fun e fr' H' h => h
theorem paM_r0 (len i k : Nat) (s : Int) (l : Nat → Int) (c0 : (0 : Int) ≤ (↑k : Int)) (c1 : (↑k : Int) < (↑len : Int)) (c2 : (0 : Nat) + k < len) (c3 : (0 : Int) ≤ (↑i : Int)) (c4 : (↑i : Int) < (↑len : Int)) (c5 : (0 : Nat) + i < len) (c6 : (1 : Nat) ≤ (1 : Nat)) (c7 : (0 : Nat) + k < len) (c8 : (1 : Nat) ≤ (1 : Nat)) : Sx.PieceN 3 (Sx.Ex.normal) [(5, .slc true true ⟨false, 2, 0, 0⟩ len), (6, .int true .i64 s), (7, .int true .i64 (↑i : Int)), (17, .int true .i64 (↑len : Int)), (18, .int true .i64 (↑i : Int))] [(2, .cells true 1 len (.fn fun j => bif Nat.beq j ((0 : Nat) + k) then [Sx.AV.int true .i64 (l ((0 : Nat) + i))] else bif Nat.beq j ((0 : Nat) + i) then [Sx.AV.int true .i64 (l ((0 : Nat) + k))] else [Sx.AV.int true .i64 (l j)]))] (piececallTc Try.f31 (Sx.nav [1,1,1,1,0,1,0,0,1,1,0,0,1,0,0,1,0,1,0] (Sx.bodyOf Try.f31)) (Sx.frL [(5, .slc true true ⟨false, 2, 0, 0⟩ len), (6, .int true .i64 s), (7, .int true .i64 i), (8, .int true .i64 k), (17, .int true .i64 len), (18, .int true .i64 i)]) (Sx.hpL [(2, .cells true 1 len (.fn fun j => [.int true .i64 (l j)]))]) 3 []) := Sx.eqn (q := ((((((((((True ∧ (((0 : Int) ≤ (↑k : Int)) ∧ ((↑k : Int) < (↑len : Int)))) ∧ ((0 : Nat) + k < len)) ∧ (((0 : Int) ≤ (↑i : Int)) ∧ ((↑i : Int) < (↑len : Int)))) ∧ ((0 : Nat) + i < len)) ∧ (((0 : Int) ≤ (↑i : Int)) ∧ ((↑i : Int) < (↑len : Int)))) ∧ ((0 : Nat) + i < len)) ∧ ((1 : Nat) ≤ (1 : Nat))) ∧ (((0 : Int) ≤ (↑k : Int)) ∧ ((↑k : Int) < (↑len : Int)))) ∧ ((0 : Nat) + k < len)) ∧ ((1 : Nat) ≤ (1 : Nat)))) (by kernel_rfl) ⟨⟨⟨⟨⟨⟨⟨⟨⟨⟨trivial, ⟨c0, c1⟩⟩, c2⟩, ⟨c3, c4⟩⟩, c5⟩, ⟨c3, c4⟩⟩, c5⟩, c6⟩, ⟨c0, c1⟩⟩, c7⟩, c8⟩
theorem paM (B : Nat) (hB : B ≤ 3) (len i k : Nat) (s : Int) (l : Nat → Int) (x0 : ((↑k : Int) < (↑len : Int))) (x1 : ((0 : Nat) + k < len)) (x2 : ((↑i : Int) < (↑len : Int))) (x3 : ((0 : Nat) + i < len)) (x4 : ((0 : Nat) + k < len)) : Sx.GoesB Try.prog (Sx.nav [1,1,1,1,0,1,0,0,1,1,0,0,1,0,0,1,0,1,0] (Sx.bodyOf Try.f31)) Try.f31.ntmps B 3 3 (Sx.frL [(5, .slc true true ⟨false, 2, 0, 0⟩ len), (6, .int true .i64 s), (7, .int true .i64 i), (8, .int true .i64 k), (17, .int true .i64 len), (18, .int true .i64 i)]) (Sx.hpL [(2, .cells true 1 len (.fn fun j => [.int true .i64 (l j)]))]) fun e fr' H' => (e = .normal ∧ fr' = Sx.frL [(5, .slc true true ⟨false, 2, 0, 0⟩ len), (6, .int true .i64 s), (7, .int true .i64 (↑i : Int)), (17, .int true .i64 (↑len : Int)), (18, .int true .i64 (↑i : Int))] ∧ H' = Sx.hpL [(2, .cells true 1 len (.fn fun j => bif Nat.beq j ((0 : Nat) + k) then [Sx.AV.int true .i64 (l ((0 : Nat) + i))] else bif Nat.beq j ((0 : Nat) + i) then [Sx.AV.int true .i64 (l ((0 : Nat) + k))] else [Sx.AV.int true .i64 (l j)]))]) := by
 exact (Sx.GoesB.runN callTc_ok (callTc_reg _) (Sx.LoopsIn.none _ _ _) (paM_r0 len i k s l (by first | decide | omega) (x0) (x1) (by first | decide | omega) (x2) (x3) (by first | decide | omega) (x4) (by first | decide | omega)) hB).mono fun e fr' H' h => h
theorem paN_r0 (len i : Nat) (s : Int) (l : Nat → Int) (c0 : (-9223372036854775808 : Int) ≤ (0 : Int) - s) (c1 : (0 : Int) - s ≤ (9223372036854775807 : Int)) : Sx.PieceN 3 (Sx.Ex.normal) [(5, .slc true true ⟨false, 2, 0, 0⟩ len), (6, .int true .i64 ((0 : Int) - s)), (7, .int true .i64 (↑i : Int)), (17, .int true .i64 (↑len : Int)), (18, .int true .i64 (↑i : Int))] [(2, .cells true 1 len (.fn fun j => [Sx.AV.int true .i64 (l j)]))] (piececallTc Try.f31 (Sx.nav [1,1,1,1,0,1,0,0,1,1,0,0,1,0,0,1,0,1,1] (Sx.bodyOf Try.f31)) (Sx.frL [(5, .slc true true ⟨false, 2, 0, 0⟩ len), (6, .int true .i64 s), (7, .int true .i64 i), (17, .int true .i64 len), (18, .int true .i64 i)]) (Sx.hpL [(2, .cells true 1 len (.fn fun j => [.int true .i64 (l j)]))]) 3 []) := Sx.eqn (q := (True ∧ (((-9223372036854775808 : Int) ≤ (0 : Int) - s) ∧ ((0 : Int) - s ≤ (9223372036854775807 : Int))))) (by kernel_rfl) ⟨trivial, ⟨c0, c1⟩⟩
theorem paN (B : Nat) (hB : B ≤ 3) (len i : Nat) (s : Int) (l : Nat → Int) (x0 : ((-9223372036854775808 : Int) ≤ (0 : Int) - s)) (x1 : ((0 : Int) - s ≤ (9223372036854775807 : Int))) : Sx.GoesB Try.prog (Sx.nav [1,1,1,1,0,1,0,0,1,1,0,0,1,0,0,1,0,1,1] (Sx.bodyOf Try.f31)) Try.f31.ntmps B 3 3 (Sx.frL [(5, .slc true true ⟨false, 2, 0, 0⟩ len), (6, .int true .i64 s), (7, .int true .i64 i), (17, .int true .i64 len), (18, .int true .i64 i)]) (Sx.hpL [(2, .cells true 1 len (.fn fun j => [.int true .i64 (l j)]))]) fun e fr' H' => (e = .normal ∧ fr' = Sx.frL [(5, .slc true true ⟨false, 2, 0, 0⟩ len), (6, .int true .i64 ((0 : Int) - s)), (7, .int true .i64 (↑i : Int)), (17, .int true .i64 (↑len : Int)), (18, .int true .i64 (↑i : Int))] ∧ H' = Sx.hpL [(2, .cells true 1 len (.fn fun j => [Sx.AV.int true .i64 (l j)]))]) := by
 exact (Sx.GoesB.runN callTc_ok (callTc_reg _) (Sx.LoopsIn.none _ _ _) (paN_r0 len i s l (x0) (x1)) hB).mono fun e fr' H' h => h
theorem paJ_r0 (len i : Nat) (s : Int) (l : Nat → Int) (c0 : (-9223372036854775808 : Int) ≤ (↑i : Int) + (1 : Int)) (c1 : (↑i : Int) + (1 : Int) ≤ (9223372036854775807 : Int)) : Sx.PieceN 3 (Sx.Ex.normal) [(5, .slc true true ⟨false, 2, 0, 0⟩ len), (6, .int true .i64 s), (17, .int true .i64 (↑len : Int)), (18, .int true .i64 ((↑i : Int) + (1 : Int)))] [(2, .cells true 1 len (.fn fun j => [Sx.AV.int true .i64 (l j)]))] (piececallTc Try.f31 (Sx.nav [1,1,1,1,0,1,0,0,1,1,1] (Sx.bodyOf Try.f31)) (Sx.frL [(5, .slc true true ⟨false, 2, 0, 0⟩ len), (6, .int true .i64 s), (17, .int true .i64 len), (18, .int true .i64 i)]) (Sx.hpL [(2, .cells true 1 len (.fn fun j => [.int true .i64 (l j)]))]) 3 []) := Sx.eqn (q := (True ∧ (((-9223372036854775808 : Int) ≤ (↑i : Int) + (1 : Int)) ∧ ((↑i : Int) + (1 : Int) ≤ (9223372036854775807 : Int))))) (by kernel_rfl) ⟨trivial, ⟨c0, c1⟩⟩
theorem paJ (B : Nat) (hB : B ≤ 3) (len i : Nat) (s : Int) (l : Nat → Int) (x0 : ((↑i : Int) + (1 : Int) ≤ (9223372036854775807 : Int))) : Sx.GoesB Try.prog (Sx.nav [1,1,1,1,0,1,0,0,1,1,1] (Sx.bodyOf Try.f31)) Try.f31.ntmps B 3 3 (Sx.frL [(5, .slc true true ⟨false, 2, 0, 0⟩ len), (6, .int true .i64 s), (17, .int true .i64 len), (18, .int true .i64 i)]) (Sx.hpL [(2, .cells true 1 len (.fn fun j => [.int true .i64 (l j)]))]) fun e fr' H' => (e = .normal ∧ fr' = Sx.frL [(5, .slc true true ⟨false, 2, 0, 0⟩ len), (6, .int true .i64 s), (17, .int true .i64 (↑len : Int)), (18, .int true .i64 ((↑i : Int) + (1 : Int)))] ∧ H' = Sx.hpL [(2, .cells true 1 len (.fn fun j => [Sx.AV.int true .i64 (l j)]))]) := by
 exact (Sx.GoesB.runN callTc_ok (callTc_reg _) (Sx.LoopsIn.none _ _ _) (paJ_r0 len i s l (by first | decide | omega) (x0)) hB).mono fun e fr' H' h => h
theorem paZ_r0 (s : Int) : Sx.PieceN 3 (Sx.Ex.ret) [(2, .int true .i64 s), (3, .int false .i64 0)] [] (piececallTc Try.f31 (Sx.nav [1,1,1,1,1] (Sx.bodyOf Try.f31)) (Sx.frL [(6, .int true .i64 s)]) (Sx.hpL []) 3 []) := Sx.eqn (q := True) (by kernel_rfl) trivial
theorem paZ (B : Nat) (hB : B ≤ 3) (s : Int) : Sx.GoesB Try.prog (Sx.nav [1,1,1,1,1] (Sx.bodyOf Try.f31)) Try.f31.ntmps B 3 3 (Sx.frL [(6, .int true .i64 s)]) (Sx.hpL []) fun e fr' H' => (e = .ret ∧ fr' = Sx.frL [(2, .int true .i64 s), (3, .int false .i64 0)] ∧ H' = Sx.hpL []) := by
 exact (Sx.GoesB.runN callTc_ok (callTc_reg _) (Sx.LoopsIn.none _ _ _) (paZ_r0 s) hB).mono fun e fr' H' h => h
/-- the sign -/
def sg (b : Bool) : Int := bif b then -1 else 1
theorem sg_not (b : Bool) : (0 : Int) - sg b = sg (!b) := by cases b <;> rfl
theorem sg_b (b : Bool) : -9223372036854775808 ≤ (0 : Int) - sg b ∧ (0 : Int) - sg b ≤ 9223372036854775807 := by cases b <;> decide
def piI (n i : Nat) (l : Nat → Int) (k : Nat) (fr : Sx.Fr) (H : Sx.T Sx.ABk) : Prop :=
 ∃ m : Nat → Int, k = cnt (fun j => !decide (m j = (j : Nat))) n ∧ Perm m n ∧ (∀ j, j < i → m j = (j : Nat)) ∧ fr = Sx.frL [(5, .slc true true ⟨false, 2, 0, 0⟩ n), (6, .int true .i64 (sg (xor (par l n) (par m n)))), (7, .int true .i64 (i : Nat)), (17, .int true .i64 (n : Nat)), (18, .int true .i64 (i : Nat))] ∧ H = Sx.hpL [(2, .cells true 1 n (.fn fun j => [.int true .i64 ((m) j)]))]
def piP (n i : Nat) (l : Nat → Int) : Sx.Po := fun e fr H => e = .exit 2 ∧ ∃ m : Nat → Int, Perm m n ∧ (∀ j, j < i + 1 → m j = (j : Nat)) ∧ fr = Sx.frL [(5, .slc true true ⟨false, 2, 0, 0⟩ n), (6, .int true .i64 (sg (xor (par l n) (par m n)))), (7, .int true .i64 (i : Nat)), (17, .int true .i64 (n : Nat)), (18, .int true .i64 (i : Nat))] ∧ H = Sx.hpL [(2, .cells true 1 n (.fn fun j => [.int true .i64 ((m) j)]))]
theorem sw_row (m : Nat → Int) (i k j : Nat) (hne : k ≠ i) : (bif Nat.beq j k then [Sx.AV.int true .i64 (m i)] else bif Nat.beq j i then [Sx.AV.int true .i64 (m k)] else [Sx.AV.int true .i64 (m j)]) = [Sx.AV.int true .i64 (m (sw i k j))] := by
 have q : ∀ a b, Nat.beq a b = decide (a = b) := fun a b => by
  cases h : Nat.beq a b
  ·simp [Nat.ne_of_beq_eq_false h]
  ·simp [Nat.eq_of_beq_eq_true h]
 rw [q, q]
 unfold sw
 by_cases c1 : j = i
 ·by_cases c2 : j = k
  ·omega
  ·rw [decide_eq_false c2, decide_eq_true c1, if_pos c1]; rfl
 ·by_cases c2 : j = k
  ·rw [decide_eq_true c2, if_neg c1, if_pos c2]; rfl
  ·rw [decide_eq_false c2, decide_eq_false c1, if_neg c1, if_neg c2]; rfl
theorem pi_is : Sx.nav [1,1,1,1,0,1,0,0,1,1,0,0,1,0,0] (Sx.bodyOf Try.f31) = .seq (Sx.nav [1,1,1,1,0,1,0,0,1,1,0,0,1,0,0,0] (Sx.bodyOf Try.f31)) (.block 3 (.seq (Sx.nav [1,1,1,1,0,1,0,0,1,1,0,0,1,0,0,1,0,0] (Sx.bodyOf Try.f31)) (.seq (Sx.nav [1,1,1,1,0,1,0,0,1,1,0,0,1,0,0,1,0,1,0] (Sx.bodyOf Try.f31)) (Sx.nav [1,1,1,1,0,1,0,0,1,1,0,0,1,0,0,1,0,1,1] (Sx.bodyOf Try.f31))))) := by kernel_rfl
theorem pi_body (n i : Nat) (l : Nat → Int) (hi : i < n) (k : Nat) (fr : Sx.Fr) (H : Sx.T Sx.ABk) (hI : piI n i l k fr H) :
  Sx.GoesB Try.prog (Sx.nav [1,1,1,1,0,1,0,0,1,1,0,0,1,0,0] (Sx.bodyOf Try.f31)) Try.f31.ntmps 1 3 3 fr H fun e fr' H' => match e with
   | .normal => ∃ k', k' < k ∧ piI n i l k' fr' H'
   | e => piP n i l e fr' H' := by
 obtain ⟨m, rfl, hp, hs, rfl, rfl⟩ := hI
 rw [pi_is]
 have hB := paI 1 (by omega) n i (sg (xor (par l n) (par m n))) m (by omega) (by omega)
 simp only [Nat.zero_add] at hB
 refine Sx.GoesB.seq (K1 := 3) (by omega) (hB.mono fun e fr' H' h => ?_)
 refine Sx.cond_elim h (fun t h => ?_) (fun t h => ?_)
 ·obtain ⟨rfl, rfl, rfl⟩ := h
  refine ⟨rfl, m, hp, fun j hj => ?_, rfl, rfl⟩
  by_cases hji : j < i
  ·exact hs j hji
  ·have e : j = i := by omega
   subst e
   exact of_decide_eq_true t
 ·obtain ⟨rfl, rfl, rfl⟩ := h
  obtain ⟨k, ek⟩ : ∃ k : Nat, m i = (k : Nat) := ⟨(m i).toNat, by have := hp.1 i hi; omega⟩
  have hk : k < n := by have := hp.1 i hi; omega
  have hne : k ≠ i := fun c => of_decide_eq_false t (by rw [ek, c])
  have hL := paL 1 (by omega) n i (sg (xor (par l n) (par m n))) m (by omega) (by omega)
  simp only [Nat.zero_add] at hL
  refine Sx.GoesB.block (Sx.GoesB.seq (K1 := 3) (by omega) (hL.mono fun e fr' H' ⟨e1, e2, e3⟩ => ?_))
  subst e1 e2 e3
  rw [ek]
  have hM := paM 1 (by omega) n i k (sg (xor (par l n) (par m n))) m (by omega) (by omega) (by omega) (by omega) (by omega)
  simp only [Nat.zero_add] at hM
  refine Sx.GoesB.seq (K1 := 3) (by omega) (hM.mono fun e fr' H' ⟨e1, e2, e3⟩ => ?_)
  subst e1 e2 e3
  refine Sx.GoesB.weakL (fl := [(5, .slc true true ⟨false, 2, 0, 0⟩ n), (6, .int true .i64 (sg (xor (par l n) (par m n)))), (7, .int true .i64 (i : Nat)), (17, .int true .i64 (n : Nat)), (18, .int true .i64 (i : Nat))]) (bl := [(2, .cells true 1 n (.fn fun j => [.int true .i64 ((fun j => m (sw i k j)) j)]))]) ⟨⟨_, rfl, Sx.AV.ge.refl _⟩, ⟨_, rfl, Sx.AV.ge.refl _⟩, ⟨_, rfl, Sx.AV.ge.refl _⟩, ⟨_, rfl, Sx.AV.ge.refl _⟩, ⟨_, rfl, Sx.AV.ge.refl _⟩, trivial⟩ ⟨⟨_, rfl, ⟨rfl, rfl, rfl, fun j hj => ?_⟩⟩, trivial⟩ ((paN 1 (by omega) n i (sg (xor (par l n) (par m n))) (fun j => m (sw i k j)) (sg_b _).1 (sg_b _).2).mono fun e fr' H' ⟨e1, e2, e3⟩ => ?_)
  ·exact sw_row m i k j hne
  ·subst e1 e2 e3
   have hp' := hp.swp hi hk
   refine ⟨_, step_lt hp hi hk ek hne, fun j => m (sw i k j), rfl, hp', step_keeps hp hi hk ek hne hs, ?_, rfl⟩
   rw [sg_not, par_sw hp.2 hi hk (fun c => hne c.symm)]
   try rw [show (!(xor (par l n) (par m n))) = xor (par l n) (!par m n) by cases par l n <;> cases par m n <;> rfl]
theorem po_is : Sx.nav [1,1,1,1,0,1,0,0] (Sx.bodyOf Try.f31) = .seq (Sx.nav [1,1,1,1,0,1,0,0,0] (Sx.bodyOf Try.f31)) (.seq (Sx.nav [1,1,1,1,0,1,0,0,1,0] (Sx.bodyOf Try.f31)) (.seq (.block 1 (.seq (Sx.nav [1,1,1,1,0,1,0,0,1,1,0,0,0] (Sx.bodyOf Try.f31)) (.block 2 (.loop (Sx.nav [1,1,1,1,0,1,0,0,1,1,0,0,1,0,0] (Sx.bodyOf Try.f31)))))) (Sx.nav [1,1,1,1,0,1,0,0,1,1,1] (Sx.bodyOf Try.f31)))) := by kernel_rfl
def poI (n : Nat) (l : Nat → Int) (k : Nat) (fr : Sx.Fr) (H : Sx.T Sx.ABk) : Prop :=
 ∃ (i : Nat) (m : Nat → Int), k = n - i ∧ i ≤ n ∧ Perm m n ∧ (∀ j, j < i → m j = (j : Nat)) ∧ fr = Sx.frL [(5, .slc true true ⟨false, 2, 0, 0⟩ n), (6, .int true .i64 (sg (xor (par l n) (par m n)))), (17, .int true .i64 (n : Nat)), (18, .int true .i64 (i : Nat))] ∧ H = Sx.hpL [(2, .cells true 1 n (.fn fun j => [.int true .i64 ((m) j)]))]
def poP (n : Nat) (l : Nat → Int) : Sx.Po := fun e fr H => e = .exit 0 ∧ fr.get 6 = some (.int true .i64 (sg (par l n)))
theorem po_body (n : Nat) (l : Nat → Int) (hn : n ≤ 64) (k : Nat) (fr : Sx.Fr) (H : Sx.T Sx.ABk) (hI : poI n l k fr H) :
  Sx.GoesB Try.prog (Sx.nav [1,1,1,1,0,1,0,0] (Sx.bodyOf Try.f31)) Try.f31.ntmps 1 3 3 fr H fun e fr' H' => match e with
   | .normal => ∃ k', k' < k ∧ poI n l k' fr' H'
   | e => poP n l e fr' H' := by
 obtain ⟨i, m, rfl, hi, hp, hs, rfl, rfl⟩ := hI
 rw [po_is]
 refine Sx.GoesB.seq (K1 := 3) (by omega) ((paG 1 (by omega) n i (sg (xor (par l n) (par m n))) m).mono fun e fr' H' ⟨e1, e2, e3⟩ => ?_)
 subst e1 e2 e3
 refine Sx.GoesB.seq (K1 := 3) (by omega) ((paK 1 (by omega) n i (sg (xor (par l n) (par m n))) (decide ((i : Int) < (n : Int))) m).mono fun e fr' H' h => ?_)
 refine Sx.cond_elim h (fun t h => ?_) (fun t h => ?_)
 ·have hlt : i < n := by have := of_decide_eq_true t; omega
  obtain ⟨rfl, rfl, rfl⟩ := h
  refine Sx.GoesB.seq (K1 := 3) (by omega) (Sx.GoesB.block (Sx.GoesB.seq (K1 := 3) (by omega) ((paH 1 (by omega) n i (sg (xor (par l n) (par m n))) m).mono fun e fr' H' ⟨e1, e2, e3⟩ => ?_)))
  subst e1 e2 e3
  refine Sx.GoesB.block ((Sx.GoesB.loop (piI n i l) (Post := piP n i l) (pi_body n i l hlt) _ _ _ ⟨m, rfl, hp, hs, rfl, rfl⟩).mono fun e fr' H' ⟨e1, m', hp', hs', e2, e3⟩ => ?_)
  subst e1 e2 e3
  simp only [if_true]
  refine Sx.GoesB.weakL (fl := [(5, .slc true true ⟨false, 2, 0, 0⟩ n), (6, .int true .i64 (sg (xor (par l n) (par m' n)))), (17, .int true .i64 (n : Nat)), (18, .int true .i64 (i : Nat))]) (bl := [(2, .cells true 1 n (.fn fun j => [.int true .i64 ((m') j)]))]) ⟨⟨_, rfl, Sx.AV.ge.refl _⟩, ⟨_, rfl, Sx.AV.ge.refl _⟩, ⟨_, rfl, Sx.AV.ge.refl _⟩, ⟨_, rfl, Sx.AV.ge.refl _⟩, trivial⟩ ⟨⟨_, rfl, Sx.SameC.refl _⟩, trivial⟩ ((paJ 1 (by omega) n i (sg (xor (par l n) (par m' n))) m' (by omega)).mono fun e fr' H' ⟨e1, e2, e3⟩ => ?_)
  subst e1 e2 e3
  exact ⟨n - (i + 1), by omega, i + 1, m', rfl, by omega, hp', hs', rfl, rfl⟩
 ·obtain ⟨rfl, rfl, rfl⟩ := h
  have e : i = n := by have := of_decide_eq_false t; omega
  subst e
  refine ⟨rfl, ?_⟩
  rw [par_id hs, Bool.xor_false]
  rfl
theorem ck_ok {l : Nat → Int} {n : Nat} (h : ckR l n = 0) : n ≤ 64 ∧ Perm l n := by
 unfold ckR at h
 cases t : decide (64 < n) with
 | true => rw [t] at h; cases h
 | false =>
  rw [t, cond_false] at h
  refine ⟨by have := of_decide_eq_false t; omega, Perm.of fun i hi => ?_⟩
  by_cases hc : ∀ i, i < n → 0 ≤ idx l (i : Nat) n
  ·exact idx_mem.1 (hc i hi)
  ·rw [Sx.cd_false hc] at h; cases h
theorem ck_of {l : Nat → Int} {n : Nat} (hn : n ≤ 64) (h : Perm l n) : ckR l n = 0 := by
 unfold ckR
 rw [decide_eq_false (by omega), Sx.cd_true fun i hi => idx_mem.2 (h.surj i hi)]; try rfl
/-- what pivot.Parity tells -/
noncomputable def prR (l : Nat → Int) (n : Nat) : Int × Int := bif decide (ckR l n = 0) then (sg (par l n), 0) else (0, ckR l n)
theorem pa_is : (Sx.bodyOf Try.f31) = .seq (Sx.nav [0] (Sx.bodyOf Try.f31)) (.seq (Sx.nav [1,0] (Sx.bodyOf Try.f31)) (.seq (Sx.nav [1,1,0] (Sx.bodyOf Try.f31)) (.seq (Sx.nav [1,1,1,0] (Sx.bodyOf Try.f31)) (.seq (.seq (Sx.nav [1,1,1,1,0,0] (Sx.bodyOf Try.f31)) (.block 0 (.loop (Sx.nav [1,1,1,1,0,1,0,0] (Sx.bodyOf Try.f31))))) (Sx.nav [1,1,1,1,1] (Sx.bodyOf Try.f31)))))) := by kernel_rfl
theorem pr_q {u v : Sx.AV} {p : Int × Int} {l : Nat → Int} {n : Nat} (e : prR l n = p) (h1 : Sx.AV.ge u (.int true .i64 p.1)) (h2 : Sx.AV.ge v (.int true .i64 p.2)) : Sx.AV.ge u (.int true .i64 (prR l n).1) ∧ Sx.AV.ge v (.int true .i64 (prR l n).2) := by rw [e]; exact ⟨h1, h2⟩
theorem pa_goes (n : Nat) (l : Nat → Int) (h0 : 0 < n) (hm : n * 8 ≤ 140737488355328) :
  Sx.GoesB Try.prog (Sx.bodyOf Try.f31) Try.f31.ntmps 1 1 3 (Sx.frameOf [Sx.slcV 0 n] 0 .e) (Sx.hpL [(0, .cells false 1 n (.fn fun j => [.int true .i64 (l j)]))]) fun e fr' H' => (e = .ret ∨ e = .normal) ∧ ∃ u v, fr'.get 2 = some u ∧ fr'.get 3 = some v ∧ Sx.AV.ge u (.int true .i64 (prR l n).1) ∧ Sx.AV.ge v (.int true .i64 (prR l n).2) := by
 rw [pa_is]
 refine Sx.GoesB.seq (K1 := 1) (by omega) ((paA 1 (by omega) n l).mono fun e fr' H' ⟨e1, e2, e3⟩ => ?_)
 subst e1 e2 e3
 have hC := paC 1 (by omega) n l (by omega) (fun j hj => irow _ _) (fun j hj u hu => low_i hu)
 simp only [Nat.zero_add, iof] at hC
 refine Sx.GoesB.seq (K1 := 1) (by omega) (hC.mono fun e fr' H' h => ?_)
 refine Sx.cond_elim h (fun t h => ?_) (fun t h => ?_)
 case refine_2 =>
  obtain ⟨rfl, rfl, rfl⟩ := h
  exact ⟨.inl rfl, _, _, rfl, rfl, pr_q (by unfold prR; rw [t]; try rfl) (Sx.AV.ge.int _ _ _ _) (Sx.AV.ge.refl _)⟩
 obtain ⟨rfl, rfl, rfl⟩ := h
 obtain ⟨hn, hp⟩ := ck_ok (of_decide_eq_true t)
 refine Sx.GoesB.seq (K1 := 3) (by omega) ((paD 1 (by omega) n l h0 (by omega) (by omega)).mono fun e fr' H' ⟨e1, e2, e3⟩ => ?_)
 subst e1 e2 e3
 refine Sx.GoesB.weakL (fl := [(5, .slc true true ⟨false, 2, 0, 0⟩ n)]) (bl := [(2, .cells true 1 n (.fn fun j => [.int true .i64 ((l) j)]))]) ⟨⟨_, rfl, by rw [Nat.zero_add]; exact Sx.AV.ge.refl _⟩, trivial⟩ ⟨⟨_, rfl, ⟨rfl, rfl, by omega, fun j hj => ?_⟩⟩, trivial⟩ ?_
 ·simp only [Sx.Cont.row]
  cases e : Nat.beq n 1 with
  | false => simp
  | true =>
   have := Nat.eq_of_beq_eq_true e
   rw [cond_true, show j = 0 by omega]
 refine Sx.GoesB.seq (K1 := 3) (by omega) ((paE 1 (by omega) n l).mono fun e fr' H' ⟨e1, e2, e3⟩ => ?_)
 subst e1 e2 e3
 refine Sx.GoesB.weakL (fl := [(5, .slc true true ⟨false, 2, 0, 0⟩ n), (6, .int true .i64 1)]) (bl := [(2, .cells true 1 n (.fn fun j => [.int true .i64 ((l) j)]))]) ⟨⟨_, rfl, Sx.AV.ge.refl _⟩, ⟨_, rfl, Sx.AV.ge.int _ _ _ _⟩, trivial⟩ ⟨⟨_, rfl, Sx.SameC.refl _⟩, trivial⟩ ?_
 refine Sx.GoesB.seq (K1 := 3) (by omega) (Sx.GoesB.seq (K1 := 3) (by omega) ((paF 1 (by omega) n l).mono fun e fr' H' ⟨e1, e2, e3⟩ => ?_))
 subst e1 e2 e3
 refine Sx.GoesB.weakL (fl := [(5, .slc true true ⟨false, 2, 0, 0⟩ n), (6, .int true .i64 (sg (xor (par l n) (par l n)))), (17, .int true .i64 (n : Nat)), (18, .int true .i64 (0 : Nat))]) (bl := [(2, .cells true 1 n (.fn fun j => [.int true .i64 ((l) j)]))]) ⟨⟨_, rfl, Sx.AV.ge.refl _⟩, ⟨_, rfl, by rw [Bool.xor_self]; first | done | exact Sx.AV.ge.refl _⟩, ⟨_, rfl, Sx.AV.ge.refl _⟩, ⟨_, rfl, Sx.AV.ge.int _ _ _ _⟩, trivial⟩ ⟨⟨_, rfl, Sx.SameC.refl _⟩, trivial⟩ ?_
 refine Sx.GoesB.block ((Sx.GoesB.loop (poI n l) (Post := poP n l) (po_body n l hn) _ _ _ ⟨0, l, rfl, by omega, hp, fun j hj => by omega, rfl, rfl⟩).mono fun e fr' H' ⟨e1, e2⟩ => ?_)
 subst e1
 simp only [if_true]
 refine Sx.GoesB.weakL (fl := [(6, .int true .i64 (sg (par l n)))]) (bl := []) ⟨⟨_, e2, Sx.AV.ge.refl _⟩, trivial⟩ trivial ((paZ 1 (by omega) (sg (par l n))).mono fun e fr' H' ⟨e1, e2, e3⟩ => ?_)
 subst e1 e2 e3
 exact ⟨.inl rfl, _, _, rfl, rfl, pr_q (by unfold prR; rw [t]; try rfl) (Sx.AV.ge.refl _) (Sx.AV.ge.int _ _ _ _)⟩

theorem siA_r0 (la lb : Nat) (ra rb : Nat → Int) : Sx.PieceN 2 (Sx.Ex.normal) [(0, .slc true false ⟨false, 0, 0, 0⟩ la), (1, .slc true false ⟨false, 1, 0, 0⟩ lb)] [(0, .cells false 1 la (.fn fun j => [Sx.AV.int true .i64 (ra j)])), (1, .cells false 1 lb (.fn fun j => [Sx.AV.int true .i64 (rb j)]))] (piececallTc Try.f37 (Sx.nav [0] (Sx.bodyOf Try.f37)) (Sx.frameOf [Sx.slcV 0 la, Sx.slcV 1 lb] 0 .e) (Sx.hpL [(0, .cells false 1 la (.fn fun j => [.int true .i64 (ra j)])), (1, .cells false 1 lb (.fn fun j => [.int true .i64 (rb j)]))]) 2 []) := Sx.eqn (q := True) (by kernel_rfl) trivial
theorem siA (B : Nat) (hB : B ≤ 2) (la lb : Nat) (ra rb : Nat → Int) : Sx.GoesB Try.prog (Sx.nav [0] (Sx.bodyOf Try.f37)) Try.f37.ntmps B 2 2 (Sx.frameOf [Sx.slcV 0 la, Sx.slcV 1 lb] 0 .e) (Sx.hpL [(0, .cells false 1 la (.fn fun j => [.int true .i64 (ra j)])), (1, .cells false 1 lb (.fn fun j => [.int true .i64 (rb j)]))]) fun e fr' H' => (e = .normal ∧ fr' = Sx.frL [(0, .slc true false ⟨false, 0, 0, 0⟩ la), (1, .slc true false ⟨false, 1, 0, 0⟩ lb)] ∧ H' = Sx.hpL [(0, .cells false 1 la (.fn fun j => [Sx.AV.int true .i64 (ra j)])), (1, .cells false 1 lb (.fn fun j => [Sx.AV.int true .i64 (rb j)]))]) := by
 exact (Sx.GoesB.runN callTc_ok (callTc_reg _) (Sx.LoopsIn.none _ _ _) (siA_r0 la lb ra rb) hB).mono fun e fr' H' h => h
theorem siC_r0 (la lb : Nat) (ra rb : Nat → Int) (c0 : (!decide ((↑la : Int) = (↑lb : Int))) = false) : Sx.PieceN 2 (Sx.Ex.normal) [(0, .slc true false ⟨false, 0, 0, 0⟩ la), (1, .slc true false ⟨false, 1, 0, 0⟩ lb)] [(0, .cells false 1 la (.fn fun j => [Sx.AV.int true .i64 (ra j)])), (1, .cells false 1 lb (.fn fun j => [Sx.AV.int true .i64 (rb j)]))] (piececallTc Try.f37 (Sx.nav [1,0] (Sx.bodyOf Try.f37)) (Sx.frL [(0, Sx.slcV 0 la), (1, Sx.slcV 1 lb)]) (Sx.hpL [(0, .cells false 1 la (.fn fun j => [.int true .i64 (ra j)])), (1, .cells false 1 lb (.fn fun j => [.int true .i64 (rb j)]))]) 2 [false]) := Sx.eqn (q := (True ∧ ((!decide ((↑la : Int) = (↑lb : Int))) = false))) (by kernel_rfl) ⟨trivial, c0⟩
theorem siC_r1 (la lb : Nat) (ra rb : Nat → Int) (c0 : (!decide ((↑la : Int) = (↑lb : Int))) = true) : Sx.PieceN 2 (Sx.Ex.ret) [(0, .slc true false ⟨false, 0, 0, 0⟩ la), (1, .slc true false ⟨false, 1, 0, 0⟩ lb), (4, .bool false)] [(0, .cells false 1 la (.fn fun j => [Sx.AV.int true .i64 (ra j)])), (1, .cells false 1 lb (.fn fun j => [Sx.AV.int true .i64 (rb j)]))] (piececallTc Try.f37 (Sx.nav [1,0] (Sx.bodyOf Try.f37)) (Sx.frL [(0, Sx.slcV 0 la), (1, Sx.slcV 1 lb)]) (Sx.hpL [(0, .cells false 1 la (.fn fun j => [.int true .i64 (ra j)])), (1, .cells false 1 lb (.fn fun j => [.int true .i64 (rb j)]))]) 2 [true]) := Sx.eqn (q := (True ∧ ((!decide ((↑la : Int) = (↑lb : Int))) = true))) (by kernel_rfl) ⟨trivial, c0⟩
theorem siC (B : Nat) (hB : B ≤ 2) (la lb : Nat) (ra rb : Nat → Int) : Sx.GoesB Try.prog (Sx.nav [1,0] (Sx.bodyOf Try.f37)) Try.f37.ntmps B 2 2 (Sx.frL [(0, Sx.slcV 0 la), (1, Sx.slcV 1 lb)]) (Sx.hpL [(0, .cells false 1 la (.fn fun j => [.int true .i64 (ra j)])), (1, .cells false 1 lb (.fn fun j => [.int true .i64 (rb j)]))]) fun e fr' H' => (cond (decide ((↑la : Int) = (↑lb : Int))) (e = .normal ∧ fr' = Sx.frL [(0, .slc true false ⟨false, 0, 0, 0⟩ la), (1, .slc true false ⟨false, 1, 0, 0⟩ lb)] ∧ H' = Sx.hpL [(0, .cells false 1 la (.fn fun j => [Sx.AV.int true .i64 (ra j)])), (1, .cells false 1 lb (.fn fun j => [Sx.AV.int true .i64 (rb j)]))]) (e = .ret ∧ fr' = Sx.frL [(0, .slc true false ⟨false, 0, 0, 0⟩ la), (1, .slc true false ⟨false, 1, 0, 0⟩ lb), (4, .bool false)] ∧ H' = Sx.hpL [(0, .cells false 1 la (.fn fun j => [Sx.AV.int true .i64 (ra j)])), (1, .cells false 1 lb (.fn fun j => [Sx.AV.int true .i64 (rb j)]))])) := by
 cases t0 : decide ((↑la : Int) = (↑lb : Int)) with
 | true =>
  exact (Sx.GoesB.runN callTc_ok (callTc_reg _) (Sx.LoopsIn.none _ _ _) (siC_r0 la lb ra rb (by rw [t0]; rfl)) hB).mono fun e fr' H' h => by simp only [t0, cond_true, cond_false]; exact h
 | false =>
  exact (Sx.GoesB.runN callTc_ok (callTc_reg _) (Sx.LoopsIn.none _ _ _) (siC_r1 la lb ra rb (by rw [t0]; rfl)) hB).mono fun e fr' H' h => by simp only [t0, cond_true, cond_false]; exact h
theorem siD_r0 (la lb : Nat) (ra rb : Nat → Int) : Sx.PieceN 2 (Sx.Ex.normal) [(0, .slc true false ⟨false, 0, 0, 0⟩ la), (1, .slc true false ⟨false, 1, 0, 0⟩ lb), (5, .int false .i64 0)] [(0, .cells false 1 la (.fn fun j => [Sx.AV.int true .i64 (ra j)])), (1, .cells false 1 lb (.fn fun j => [Sx.AV.int true .i64 (rb j)]))] (piececallTc Try.f37 (Sx.nav [1,1,0,0] (Sx.bodyOf Try.f37)) (Sx.frL [(0, Sx.slcV 0 la), (1, Sx.slcV 1 lb)]) (Sx.hpL [(0, .cells false 1 la (.fn fun j => [.int true .i64 (ra j)])), (1, .cells false 1 lb (.fn fun j => [.int true .i64 (rb j)]))]) 2 []) := Sx.eqn (q := True) (by kernel_rfl) trivial
theorem siD (B : Nat) (hB : B ≤ 2) (la lb : Nat) (ra rb : Nat → Int) : Sx.GoesB Try.prog (Sx.nav [1,1,0,0] (Sx.bodyOf Try.f37)) Try.f37.ntmps B 2 2 (Sx.frL [(0, Sx.slcV 0 la), (1, Sx.slcV 1 lb)]) (Sx.hpL [(0, .cells false 1 la (.fn fun j => [.int true .i64 (ra j)])), (1, .cells false 1 lb (.fn fun j => [.int true .i64 (rb j)]))]) fun e fr' H' => (e = .normal ∧ fr' = Sx.frL [(0, .slc true false ⟨false, 0, 0, 0⟩ la), (1, .slc true false ⟨false, 1, 0, 0⟩ lb), (5, .int false .i64 0)] ∧ H' = Sx.hpL [(0, .cells false 1 la (.fn fun j => [Sx.AV.int true .i64 (ra j)])), (1, .cells false 1 lb (.fn fun j => [Sx.AV.int true .i64 (rb j)]))]) := by
 exact (Sx.GoesB.runN callTc_ok (callTc_reg _) (Sx.LoopsIn.none _ _ _) (siD_r0 la lb ra rb) hB).mono fun e fr' H' h => h
theorem siB_r0 (la lb i : Nat) (ra rb : Nat → Int) (c0 : decide ((↑i : Int) < (↑la : Int)) = true) (c1 : (0 : Int) ≤ (↑i : Int)) (c2 : (↑i : Int) < (↑la : Int)) (c3 : (0 : Nat) + i < la) (c4 : (↑i : Int) < (↑lb : Int)) (c5 : (0 : Nat) + i < lb) (c6 : (!decide (ra ((0 : Nat) + i) = rb ((0 : Nat) + i))) = false) (c7 : (-9223372036854775808 : Int) ≤ (↑i : Int) + (1 : Int)) (c8 : (↑i : Int) + (1 : Int) ≤ (9223372036854775807 : Int)) : Sx.PieceN 2 (Sx.Ex.normal) [(0, .slc true false ⟨false, 0, 0, 0⟩ la), (1, .slc true false ⟨false, 1, 0, 0⟩ lb), (5, .int true .i64 ((↑i : Int) + (1 : Int)))] [(0, .cells false 1 la (.fn fun j => [Sx.AV.int true .i64 (ra j)])), (1, .cells false 1 lb (.fn fun j => [Sx.AV.int true .i64 (rb j)]))] (piececallTc Try.f37 (Sx.nav [1,1,0,1,0,0] (Sx.bodyOf Try.f37)) (Sx.frL [(0, Sx.slcV 0 la), (1, Sx.slcV 1 lb), (5, .int true .i64 i)]) (Sx.hpL [(0, .cells false 1 la (.fn fun j => [.int true .i64 (ra j)])), (1, .cells false 1 lb (.fn fun j => [.int true .i64 (rb j)]))]) 2 [true, false]) := Sx.eqn (q := (((((((True ∧ (decide ((↑i : Int) < (↑la : Int)) = true)) ∧ (((0 : Int) ≤ (↑i : Int)) ∧ ((↑i : Int) < (↑la : Int)))) ∧ ((0 : Nat) + i < la)) ∧ (((0 : Int) ≤ (↑i : Int)) ∧ ((↑i : Int) < (↑lb : Int)))) ∧ ((0 : Nat) + i < lb)) ∧ ((!decide (ra ((0 : Nat) + i) = rb ((0 : Nat) + i))) = false)) ∧ (((-9223372036854775808 : Int) ≤ (↑i : Int) + (1 : Int)) ∧ ((↑i : Int) + (1 : Int) ≤ (9223372036854775807 : Int))))) (by kernel_rfl) ⟨⟨⟨⟨⟨⟨⟨trivial, c0⟩, ⟨c1, c2⟩⟩, c3⟩, ⟨c1, c4⟩⟩, c5⟩, c6⟩, ⟨c7, c8⟩⟩
theorem siB_r1 (la lb i : Nat) (ra rb : Nat → Int) (c0 : decide ((↑i : Int) < (↑la : Int)) = true) (c1 : (0 : Int) ≤ (↑i : Int)) (c2 : (↑i : Int) < (↑la : Int)) (c3 : (0 : Nat) + i < la) (c4 : (↑i : Int) < (↑lb : Int)) (c5 : (0 : Nat) + i < lb) (c6 : (!decide (ra ((0 : Nat) + i) = rb ((0 : Nat) + i))) = true) : Sx.PieceN 2 (Sx.Ex.ret) [(0, .slc true false ⟨false, 0, 0, 0⟩ la), (1, .slc true false ⟨false, 1, 0, 0⟩ lb), (4, .bool false), (5, .int true .i64 (↑i : Int))] [(0, .cells false 1 la (.fn fun j => [Sx.AV.int true .i64 (ra j)])), (1, .cells false 1 lb (.fn fun j => [Sx.AV.int true .i64 (rb j)]))] (piececallTc Try.f37 (Sx.nav [1,1,0,1,0,0] (Sx.bodyOf Try.f37)) (Sx.frL [(0, Sx.slcV 0 la), (1, Sx.slcV 1 lb), (5, .int true .i64 i)]) (Sx.hpL [(0, .cells false 1 la (.fn fun j => [.int true .i64 (ra j)])), (1, .cells false 1 lb (.fn fun j => [.int true .i64 (rb j)]))]) 2 [true, true]) := Sx.eqn (q := ((((((True ∧ (decide ((↑i : Int) < (↑la : Int)) = true)) ∧ (((0 : Int) ≤ (↑i : Int)) ∧ ((↑i : Int) < (↑la : Int)))) ∧ ((0 : Nat) + i < la)) ∧ (((0 : Int) ≤ (↑i : Int)) ∧ ((↑i : Int) < (↑lb : Int)))) ∧ ((0 : Nat) + i < lb)) ∧ ((!decide (ra ((0 : Nat) + i) = rb ((0 : Nat) + i))) = true))) (by kernel_rfl) ⟨⟨⟨⟨⟨⟨trivial, c0⟩, ⟨c1, c2⟩⟩, c3⟩, ⟨c1, c4⟩⟩, c5⟩, c6⟩
theorem siB_r2 (la lb i : Nat) (ra rb : Nat → Int) (c0 : decide ((↑i : Int) < (↑la : Int)) = false) : Sx.PieceN 2 (Sx.Ex.exit (0 : Nat)) [(0, .slc true false ⟨false, 0, 0, 0⟩ la), (1, .slc true false ⟨false, 1, 0, 0⟩ lb), (5, .int true .i64 (↑i : Int))] [(0, .cells false 1 la (.fn fun j => [Sx.AV.int true .i64 (ra j)])), (1, .cells false 1 lb (.fn fun j => [Sx.AV.int true .i64 (rb j)]))] (piececallTc Try.f37 (Sx.nav [1,1,0,1,0,0] (Sx.bodyOf Try.f37)) (Sx.frL [(0, Sx.slcV 0 la), (1, Sx.slcV 1 lb), (5, .int true .i64 i)]) (Sx.hpL [(0, .cells false 1 la (.fn fun j => [.int true .i64 (ra j)])), (1, .cells false 1 lb (.fn fun j => [.int true .i64 (rb j)]))]) 2 [false]) := Sx.eqn (q := (True ∧ (decide ((↑i : Int) < (↑la : Int)) = false))) (by kernel_rfl) ⟨trivial, c0⟩
theorem siB (B : Nat) (hB : B ≤ 2) (la lb i : Nat) (ra rb : Nat → Int) (x0 : ((decide ((↑i : Int) < (↑la : Int))) = true → ((↑i : Int) < (↑lb : Int)))) (x1 : ((decide ((↑i : Int) < (↑la : Int))) = true → ((0 : Nat) + i < lb))) (x2 : ((decide ((↑i : Int) < (↑la : Int))) = true → ((decide (ra ((0 : Nat) + i) = rb ((0 : Nat) + i))) = true → ((↑i : Int) + (1 : Int) ≤ (9223372036854775807 : Int))))) : Sx.GoesB Try.prog (Sx.nav [1,1,0,1,0,0] (Sx.bodyOf Try.f37)) Try.f37.ntmps B 2 2 (Sx.frL [(0, Sx.slcV 0 la), (1, Sx.slcV 1 lb), (5, .int true .i64 i)]) (Sx.hpL [(0, .cells false 1 la (.fn fun j => [.int true .i64 (ra j)])), (1, .cells false 1 lb (.fn fun j => [.int true .i64 (rb j)]))]) fun e fr' H' => (cond (decide ((↑i : Int) < (↑la : Int))) (cond (decide (ra ((0 : Nat) + i) = rb ((0 : Nat) + i))) (e = .normal ∧ fr' = Sx.frL [(0, .slc true false ⟨false, 0, 0, 0⟩ la), (1, .slc true false ⟨false, 1, 0, 0⟩ lb), (5, .int true .i64 ((↑i : Int) + (1 : Int)))] ∧ H' = Sx.hpL [(0, .cells false 1 la (.fn fun j => [Sx.AV.int true .i64 (ra j)])), (1, .cells false 1 lb (.fn fun j => [Sx.AV.int true .i64 (rb j)]))]) (e = .ret ∧ fr' = Sx.frL [(0, .slc true false ⟨false, 0, 0, 0⟩ la), (1, .slc true false ⟨false, 1, 0, 0⟩ lb), (4, .bool false), (5, .int true .i64 (↑i : Int))] ∧ H' = Sx.hpL [(0, .cells false 1 la (.fn fun j => [Sx.AV.int true .i64 (ra j)])), (1, .cells false 1 lb (.fn fun j => [Sx.AV.int true .i64 (rb j)]))])) (e = .exit 0 ∧ fr' = Sx.frL [(0, .slc true false ⟨false, 0, 0, 0⟩ la), (1, .slc true false ⟨false, 1, 0, 0⟩ lb), (5, .int true .i64 (↑i : Int))] ∧ H' = Sx.hpL [(0, .cells false 1 la (.fn fun j => [Sx.AV.int true .i64 (ra j)])), (1, .cells false 1 lb (.fn fun j => [Sx.AV.int true .i64 (rb j)]))])) := by
 cases t0 : decide ((↑i : Int) < (↑la : Int)) with
 | true =>
  cases t1 : decide (ra ((0 : Nat) + i) = rb ((0 : Nat) + i)) with
  | true =>
   exact (Sx.GoesB.runN callTc_ok (callTc_reg _) (Sx.LoopsIn.none _ _ _) (siB_r0 la lb i ra rb t0 (by first | decide | ((try simp only [decide_eq_true_eq, decide_eq_false_iff_not] at t0 t1); (try simp only [List.length_take, List.length_drop]); omega)) (by first | decide | ((try simp only [decide_eq_true_eq, decide_eq_false_iff_not] at t0 t1); (try simp only [List.length_take, List.length_drop]); omega)) (by first | decide | ((try simp only [decide_eq_true_eq, decide_eq_false_iff_not] at t0 t1); (try simp only [List.length_take, List.length_drop]); omega)) (x0 t0) (x1 t0) (by rw [t1]; rfl) (by first | decide | ((try simp only [decide_eq_true_eq, decide_eq_false_iff_not] at t0 t1); (try simp only [List.length_take, List.length_drop]); omega)) (x2 t0 t1)) hB).mono fun e fr' H' h => by simp only [t0, t1, cond_true, cond_false]; exact h
  | false =>
   exact (Sx.GoesB.runN callTc_ok (callTc_reg _) (Sx.LoopsIn.none _ _ _) (siB_r1 la lb i ra rb t0 (by first | decide | ((try simp only [decide_eq_true_eq, decide_eq_false_iff_not] at t0 t1); (try simp only [List.length_take, List.length_drop]); omega)) (by first | decide | ((try simp only [decide_eq_true_eq, decide_eq_false_iff_not] at t0 t1); (try simp only [List.length_take, List.length_drop]); omega)) (by first | decide | ((try simp only [decide_eq_true_eq, decide_eq_false_iff_not] at t0 t1); (try simp only [List.length_take, List.length_drop]); omega)) (x0 t0) (x1 t0) (by rw [t1]; rfl)) hB).mono fun e fr' H' h => by simp only [t0, t1, cond_true, cond_false]; exact h
 | false =>
  exact (Sx.GoesB.runN callTc_ok (callTc_reg _) (Sx.LoopsIn.none _ _ _) (siB_r2 la lb i ra rb t0) hB).mono fun e fr' H' h => by simp only [t0, cond_true, cond_false]; exact h
theorem siZ_r0  : Sx.PieceN 2 (Sx.Ex.ret) [(4, .bool true)] [] (piececallTc Try.f37 (Sx.nav [1,1,1] (Sx.bodyOf Try.f37)) (Sx.frL []) (Sx.hpL []) 2 []) := Sx.eqn (q := True) (by kernel_rfl) trivial
theorem siZ (B : Nat) (hB : B ≤ 2)  : Sx.GoesB Try.prog (Sx.nav [1,1,1] (Sx.bodyOf Try.f37)) Try.f37.ntmps B 2 2 (Sx.frL []) (Sx.hpL []) fun e fr' H' => (e = .ret ∧ fr' = Sx.frL [(4, .bool true)] ∧ H' = Sx.hpL []) := by
 exact (Sx.GoesB.runN callTc_ok (callTc_reg _) (Sx.LoopsIn.none _ _ _) (siZ_r0 ) hB).mono fun e fr' H' h => h
def siI (la lb : Nat) (ra rb : Nat → Int) (k : Nat) (fr : Sx.Fr) (H : Sx.T Sx.ABk) : Prop :=
 ∃ i : Nat, k = la - i ∧ i ≤ la ∧ (∀ j, j < i → ra j = rb j) ∧ fr = Sx.frL [(0, Sx.slcV 0 la), (1, Sx.slcV 1 lb), (5, .int true .i64 i)] ∧ H = Sx.hpL [(0, .cells false 1 la (.fn fun j => [.int true .i64 (ra j)])), (1, .cells false 1 lb (.fn fun j => [.int true .i64 (rb j)]))]
def siP (la lb : Nat) (ra rb : Nat → Int) : Sx.Po := fun e fr H => (e = .exit 0 ∧ ∀ j, j < la → ra j = rb j) ∨ (e = .ret ∧ ¬ (∀ j, j < la → ra j = rb j) ∧ fr.get 4 = some (.bool false))
theorem si_body (la lb : Nat) (ra rb : Nat → Int) (hl : la = lb) (hm : la ≤ 9223372036854775807) (k : Nat) (fr : Sx.Fr) (H : Sx.T Sx.ABk) (hI : siI la lb ra rb k fr H) :
  Sx.GoesB Try.prog (Sx.nav [1,1,0,1,0,0] (Sx.bodyOf Try.f37)) Try.f37.ntmps 2 2 2 fr H fun e fr' H' => match e with
   | .normal => ∃ k', k' < k ∧ siI la lb ra rb k' fr' H'
   | e => siP la lb ra rb e fr' H' := by
 obtain ⟨i, rfl, hi, hs, rfl, rfl⟩ := hI
 have hx : decide ((i : Int) < (la : Int)) = true → i < la := fun t => by have := of_decide_eq_true t; omega
 have hB := siB 2 (by omega) la lb i ra rb (fun t => by have := hx t; omega) (fun t => by have := hx t; omega) (fun t _ => by have := hx t; omega)
 simp only [Nat.zero_add] at hB
 refine hB.mono fun e fr' H' h => ?_
 refine Sx.cond_elim h (fun t h => ?_) (fun t h => ?_)
 ·have hlt := hx t
  refine Sx.cond_elim h (fun t1 h => ?_) (fun t1 h => ?_)
  ·obtain ⟨rfl, rfl, rfl⟩ := h
   refine ⟨la - (i + 1), by omega, i + 1, rfl, by omega, fun j hj => ?_, rfl, rfl⟩
   by_cases hji : j < i
   ·exact hs j hji
   ·have e : j = i := by omega
    subst e
    exact of_decide_eq_true t1
  ·obtain ⟨rfl, rfl, rfl⟩ := h
   exact .inr ⟨rfl, fun hh => absurd (hh i hlt) (of_decide_eq_false t1), rfl⟩
 ·obtain ⟨rfl, rfl, rfl⟩ := h
  exact .inl ⟨rfl, fun j hj => hs j (by have := of_decide_eq_false t; omega)⟩
theorem si_is : (Sx.bodyOf Try.f37) = .seq (Sx.nav [0] (Sx.bodyOf Try.f37)) (.seq (Sx.nav [1,0] (Sx.bodyOf Try.f37)) (.seq (.seq (Sx.nav [1,1,0,0] (Sx.bodyOf Try.f37)) (.block 0 (.loop (Sx.nav [1,1,0,1,0,0] (Sx.bodyOf Try.f37))))) (Sx.nav [1,1,1] (Sx.bodyOf Try.f37)))) := by kernel_rfl
theorem si_goes (la lb : Nat) (ra rb : Nat → Int) (hm : la ≤ 9223372036854775807) :
  Sx.GoesB Try.prog (Sx.bodyOf Try.f37) Try.f37.ntmps 2 2 2 (Sx.frameOf [Sx.slcV 0 la, Sx.slcV 1 lb] 0 .e) (Sx.hpL [(0, .cells false 1 la (.fn fun j => [.int true .i64 (ra j)])), (1, .cells false 1 lb (.fn fun j => [.int true .i64 (rb j)]))]) fun e fr' H' => (e = .ret ∨ e = .normal) ∧ fr'.get 4 = some (.bool (Sx.cd (la = lb ∧ ∀ j, j < la → ra j = rb j))) := by
 rw [si_is]
 refine Sx.GoesB.seq (K1 := 2) (by omega) ((siA 2 (by omega) la lb ra rb).mono fun e fr' H' ⟨e1, e2, e3⟩ => ?_)
 subst e1 e2 e3
 refine Sx.GoesB.seq (K1 := 2) (by omega) ((siC 2 (by omega) la lb ra rb).mono fun e fr' H' h => ?_)
 refine Sx.cond_elim h (fun t h => ?_) (fun t h => ?_)
 case refine_2 =>
  obtain ⟨rfl, rfl, rfl⟩ := h
  exact ⟨.inl rfl, by rw [Sx.cd_false (fun hh => by have h1 := hh.1; subst h1; simp at t)]; rfl⟩
 obtain ⟨rfl, rfl, rfl⟩ := h
 have hl : la = lb := by have := of_decide_eq_true t; omega
 refine Sx.GoesB.seq (K1 := 2) (by omega) (Sx.GoesB.seq (K1 := 2) (by omega) (Sx.GoesB.weakL (fl := [(0, Sx.slcV 0 la), (1, Sx.slcV 1 lb)]) (bl := [(0, .cells false 1 la (.fn fun j => [.int true .i64 (ra j)])), (1, .cells false 1 lb (.fn fun j => [.int true .i64 (rb j)]))]) ⟨⟨_, rfl, Sx.AV.ge.refl _⟩, ⟨_, rfl, Sx.AV.ge.refl _⟩, trivial⟩ ⟨⟨_, rfl, Sx.SameC.refl _⟩, ⟨_, rfl, Sx.SameC.refl _⟩, trivial⟩ ((siD 2 (by omega) la lb ra rb).mono fun e fr' H' ⟨e1, e2, e3⟩ => ?_)))
 subst e1 e2 e3
 refine Sx.GoesB.weakL (fl := [(0, Sx.slcV 0 la), (1, Sx.slcV 1 lb), (5, .int true .i64 (0 : Nat))]) (bl := [(0, .cells false 1 la (.fn fun j => [.int true .i64 (ra j)])), (1, .cells false 1 lb (.fn fun j => [.int true .i64 (rb j)]))]) ⟨⟨_, rfl, Sx.AV.ge.refl _⟩, ⟨_, rfl, Sx.AV.ge.refl _⟩, ⟨_, rfl, Sx.AV.ge.int _ _ _ _⟩, trivial⟩ ⟨⟨_, rfl, Sx.SameC.refl _⟩, ⟨_, rfl, Sx.SameC.refl _⟩, trivial⟩ ?_
 refine Sx.GoesB.block ((Sx.GoesB.loop (siI la lb ra rb) (Post := siP la lb ra rb) (si_body la lb ra rb hl hm) _ _ _ ⟨0, rfl, by omega, fun j hj => by omega, rfl, rfl⟩).mono fun e fr' H' hp => ?_)
 rcases hp with ⟨rfl, h1⟩ | ⟨rfl, h1, h2⟩
 ·simp only [if_true]
  refine Sx.GoesB.weakL (fl := []) (bl := []) trivial trivial ((siZ 2 (by omega)).mono fun e fr' H' ⟨e1, e2, e3⟩ => ?_)
  subst e1 e2 e3
  exact ⟨.inl rfl, by rw [Sx.cd_true ⟨hl, h1⟩]; rfl⟩
 ·exact ⟨.inl rfl, by rw [Sx.cd_false (fun hh => h1 hh.2)]; exact h2⟩
noncomputable def sameIS : List Sx.AV → Sx.M Sx.AV
 | [x, y] => (Sx.rd 1 x fun len rows => len ≤ 9223372036854775807 ∧ ∀ j, j < len → IRow (rows j)).andThen fun a => (Sx.rd 1 y fun len rows => ∀ j, j < len → IRow (rows j)).andThen fun b => Sx.M.ret (.sbool (Sx.cd (a.1 = b.1 ∧ ∀ j, j < a.1 → iof (a.2 j) = iof (b.2 j))))
 | _ => Sx.M.no
theorem sameIS_ok : ∀ args v g g', sameIS args g = .done v g' → Sx.CallIs Try.prog 37 args v g g' := by
 intro args v g g' h
 unfold sameIS at h
 split at h
 ·rename_i x y
  obtain ⟨⟨la, ra⟩, g1, a1, h1⟩ := Sx.done_of h
  obtain ⟨⟨lb, rb⟩, g2, a2, h2⟩ := Sx.done_of h1
  obtain ⟨rfl, rfl⟩ := Sx.ret_done h2
  obtain ⟨q1, k1, f1⟩ := Sx.rd_done a1 (by omega)
  obtain ⟨q2, k2, f2⟩ := Sx.rd_done a2 (by omega)
  have k := k1.trans k2
  have ok2 : q1 ∧ q2 → Sx.Vw.Ok ⟨y, 1, lb, rb⟩ g := fun hp => (f2 hp.2).1.same k1
  refine Sx.reads (c := (Sx.bodyOf Try.f37)) Try.func37 (by kernel_rfl) (by kernel_rfl) k [⟨x, 1, la, ra⟩, ⟨y, 1, lb, rb⟩] (fun hp v hv => ?_) (argsC := [Sx.slcV 0 la, Sx.slcV 1 lb]) (fun hp N μ cs hcs => ?_) (nms := []) (bs := []) (K' := 2) (fun hp => ?_) rfl trivial (by rw [k.1]; rfl) (by rw [k.2.1]; rfl) id
  ·rcases List.mem_cons.1 hv with rfl | hv
   ·exact (f1 hp.1).1
   ·rcases List.mem_cons.1 hv with rfl | hv
    ·exact ok2 hp
    ·cases hv
  ·simp only [Sx.Reps] at hcs
   obtain ⟨c, r, rfl, hc, c', r', rfl, hc', rfl⟩ := hcs
   simp only [Sx.Reps]
   exact ⟨c, _, rfl, Sx.vw_val (l := [⟨x, 1, la, ra⟩, ⟨y, 1, lb, rb⟩]) (i := 0) (f1 hp.1).1 rfl hc, c', _, rfl, Sx.vw_val (l := [⟨x, 1, la, ra⟩, ⟨y, 1, lb, rb⟩]) (i := 1) (ok2 hp) rfl hc', rfl⟩
  ·obtain ⟨_, hm, hz⟩ := f1 hp.1
   obtain ⟨_, hz'⟩ := f2 hp.2
   dsimp only at hm hz hz'
   refine Sx.GoesB.weakGL (fl := [(0, Sx.slcV 0 la), (1, Sx.slcV 1 lb)]) (bl := [(0, .cells false 1 la (.fn fun j => [.int true .i64 (iof (ra j))])), (1, .cells false 1 lb (.fn fun j => [.int true .i64 (iof (rb j))]))]) ⟨⟨_, rfl, Sx.AV.ge.refl _⟩, ⟨_, rfl, Sx.AV.ge.refl _⟩, trivial⟩ ⟨⟨_, rfl, rfl, rfl, rfl, fun j hj => (hz j hj).ge⟩, ⟨_, rfl, rfl, rfl, rfl, fun j hj => (hz' j hj).ge⟩, trivial⟩ ?_
   refine (si_goes la lb (fun j => iof (ra j)) (fun j => iof (rb j)) hm).mono fun e fr' H' ⟨e1, e2⟩ => ?_
   exact ⟨e1, _, _, Sx.res1 (t := 4) (by kernel_rfl) e2, trivial, Sx.AV.ge.bool _, Sx.news0⟩
 ·exact (Sx.no_done h).elim
theorem sameIS_tch : ∀ args, Sx.Tch (sameIS args) := by
 intro args
 unfold sameIS
 split
 ·exact (Sx.Tch.rd _ _ _).andThen fun _ => (Sx.Tch.rd _ _ _).andThen fun _ => Sx.Tch.ret _
 ·exact Sx.Tch.no

theorem swA_r0 (len a b : Nat) (l : Nat → Int) : Sx.PieceN 1 (Sx.Ex.normal) [(0, .slc true false ⟨false, 0, 0, 0⟩ len), (1, .int true .i64 (↑a : Int)), (2, .int true .i64 (↑b : Int))] [(0, .cells false 1 len (.fn fun j => [Sx.AV.int true .i64 (l j)]))] (piececallTc Try.f33 (Sx.nav [0] (Sx.bodyOf Try.f33)) (Sx.frameOf [Sx.slcV 0 len, .int true .i64 (a : Nat), .int true .i64 (b : Nat)] 0 .e) (Sx.hpL [(0, .cells false 1 len (.fn fun j => [.int true .i64 (l j)]))]) 1 []) := Sx.eqn (q := True) (by kernel_rfl) trivial
theorem swA (B : Nat) (hB : B ≤ 1) (len a b : Nat) (l : Nat → Int) : Sx.GoesB Try.prog (Sx.nav [0] (Sx.bodyOf Try.f33)) Try.f33.ntmps B 1 1 (Sx.frameOf [Sx.slcV 0 len, .int true .i64 (a : Nat), .int true .i64 (b : Nat)] 0 .e) (Sx.hpL [(0, .cells false 1 len (.fn fun j => [.int true .i64 (l j)]))]) fun e fr' H' => (e = .normal ∧ fr' = Sx.frL [(0, .slc true false ⟨false, 0, 0, 0⟩ len), (1, .int true .i64 (↑a : Int)), (2, .int true .i64 (↑b : Int))] ∧ H' = Sx.hpL [(0, .cells false 1 len (.fn fun j => [Sx.AV.int true .i64 (l j)]))]) := by
 exact (Sx.GoesB.runN callTc_ok (callTc_reg _) (Sx.LoopsIn.none _ _ _) (swA_r0 len a b l) hB).mono fun e fr' H' h => h
theorem swC_r0 (len a b : Nat) (l : Nat → Int) (c0 : (0 : Nat) + len ≤ len) (c1 : len ≤ (9223372036854775807 : Nat)) (c2 : ∀ (j : Nat), j < len → IRow [Sx.AV.int true .i64 (l ((0 : Nat) + j))]) (c3 : ∀ (j : Nat), j < len → ∀ (u : Sx.AV), u ∈ [Sx.AV.int true .i64 (l ((0 : Nat) + j))] → Sx.AV.low (0 : Nat) u = true) (c4 : (!decide (ckR (fun j => iof [Sx.AV.int true .i64 (l ((0 : Nat) + j))]) len = (0 : Int))) = false) : Sx.PieceN 1 (Sx.Ex.normal) [(0, .slc true false ⟨false, 0, 0, 0⟩ len), (1, .int true .i64 (↑a : Int)), (2, .int true .i64 (↑b : Int))] [(0, .cells false 1 len (.fn fun j => [Sx.AV.int true .i64 (l j)]))] (piececallTc Try.f33 (Sx.nav [1,0] (Sx.bodyOf Try.f33)) (Sx.frL [(0, Sx.slcV 0 len), (1, .int true .i64 (a : Nat)), (2, .int true .i64 (b : Nat))]) (Sx.hpL [(0, .cells false 1 len (.fn fun j => [.int true .i64 (l j)]))]) 1 [false]) := Sx.eqn (q := (((True ∧ ((0 : Nat) + len ≤ len)) ∧ (((len ≤ (9223372036854775807 : Nat)) ∧ (∀ (j : Nat), j < len → IRow [Sx.AV.int true .i64 (l ((0 : Nat) + j))])) ∧ (∀ (j : Nat), j < len → ∀ (u : Sx.AV), u ∈ [Sx.AV.int true .i64 (l ((0 : Nat) + j))] → Sx.AV.low (0 : Nat) u = true))) ∧ ((!decide (ckR (fun j => iof [Sx.AV.int true .i64 (l ((0 : Nat) + j))]) len = (0 : Int))) = false))) (by kernel_rfl) ⟨⟨⟨trivial, c0⟩, ⟨⟨c1, c2⟩, c3⟩⟩, c4⟩
theorem swC_r1 (len a b : Nat) (l : Nat → Int) (c0 : (0 : Nat) + len ≤ len) (c1 : len ≤ (9223372036854775807 : Nat)) (c2 : ∀ (j : Nat), j < len → IRow [Sx.AV.int true .i64 (l ((0 : Nat) + j))]) (c3 : ∀ (j : Nat), j < len → ∀ (u : Sx.AV), u ∈ [Sx.AV.int true .i64 (l ((0 : Nat) + j))] → Sx.AV.low (0 : Nat) u = true) (c4 : (!decide (ckR (fun j => iof [Sx.AV.int true .i64 (l ((0 : Nat) + j))]) len = (0 : Int))) = true) : Sx.PieceN 1 (Sx.Ex.ret) [(0, .slc true false ⟨false, 0, 0, 0⟩ len), (1, .int true .i64 (↑a : Int)), (2, .int true .i64 (↑b : Int)), (6, .nils), (7, .int true .i64 (ckR (fun j => iof [Sx.AV.int true .i64 (l ((0 : Nat) + j))]) len))] [(0, .cells false 1 len (.fn fun j => [Sx.AV.int true .i64 (l j)]))] (piececallTc Try.f33 (Sx.nav [1,0] (Sx.bodyOf Try.f33)) (Sx.frL [(0, Sx.slcV 0 len), (1, .int true .i64 (a : Nat)), (2, .int true .i64 (b : Nat))]) (Sx.hpL [(0, .cells false 1 len (.fn fun j => [.int true .i64 (l j)]))]) 1 [true]) := Sx.eqn (q := (((True ∧ ((0 : Nat) + len ≤ len)) ∧ (((len ≤ (9223372036854775807 : Nat)) ∧ (∀ (j : Nat), j < len → IRow [Sx.AV.int true .i64 (l ((0 : Nat) + j))])) ∧ (∀ (j : Nat), j < len → ∀ (u : Sx.AV), u ∈ [Sx.AV.int true .i64 (l ((0 : Nat) + j))] → Sx.AV.low (0 : Nat) u = true))) ∧ ((!decide (ckR (fun j => iof [Sx.AV.int true .i64 (l ((0 : Nat) + j))]) len = (0 : Int))) = true))) (by kernel_rfl) ⟨⟨⟨trivial, c0⟩, ⟨⟨c1, c2⟩, c3⟩⟩, c4⟩
theorem swC (B : Nat) (hB : B ≤ 1) (len a b : Nat) (l : Nat → Int) (x0 : (len ≤ (9223372036854775807 : Nat))) (x1 : (∀ (j : Nat), j < len → IRow [Sx.AV.int true .i64 (l ((0 : Nat) + j))])) (x2 : (∀ (j : Nat), j < len → ∀ (u : Sx.AV), u ∈ [Sx.AV.int true .i64 (l ((0 : Nat) + j))] → Sx.AV.low (0 : Nat) u = true)) : Sx.GoesB Try.prog (Sx.nav [1,0] (Sx.bodyOf Try.f33)) Try.f33.ntmps B 1 1 (Sx.frL [(0, Sx.slcV 0 len), (1, .int true .i64 (a : Nat)), (2, .int true .i64 (b : Nat))]) (Sx.hpL [(0, .cells false 1 len (.fn fun j => [.int true .i64 (l j)]))]) fun e fr' H' => (cond (decide (ckR (fun j => iof [Sx.AV.int true .i64 (l ((0 : Nat) + j))]) len = (0 : Int))) (e = .normal ∧ fr' = Sx.frL [(0, .slc true false ⟨false, 0, 0, 0⟩ len), (1, .int true .i64 (↑a : Int)), (2, .int true .i64 (↑b : Int))] ∧ H' = Sx.hpL [(0, .cells false 1 len (.fn fun j => [Sx.AV.int true .i64 (l j)]))]) (e = .ret ∧ fr' = Sx.frL [(0, .slc true false ⟨false, 0, 0, 0⟩ len), (1, .int true .i64 (↑a : Int)), (2, .int true .i64 (↑b : Int)), (6, .nils), (7, .int true .i64 (ckR (fun j => iof [Sx.AV.int true .i64 (l ((0 : Nat) + j))]) len))] ∧ H' = Sx.hpL [(0, .cells false 1 len (.fn fun j => [Sx.AV.int true .i64 (l j)]))])) := by
 cases t0 : decide (ckR (fun j => iof [Sx.AV.int true .i64 (l ((0 : Nat) + j))]) len = (0 : Int)) with
 | true =>
  exact (Sx.GoesB.runN callTc_ok (callTc_reg _) (Sx.LoopsIn.none _ _ _) (swC_r0 len a b l (by first | decide | ((try simp only [decide_eq_true_eq, decide_eq_false_iff_not] at t0); (try simp only [List.length_take, List.length_drop]); omega)) (x0) (x1) (x2) (by rw [t0]; rfl)) hB).mono fun e fr' H' h => by simp only [t0, cond_true, cond_false]; exact h
 | false =>
  exact (Sx.GoesB.runN callTc_ok (callTc_reg _) (Sx.LoopsIn.none _ _ _) (swC_r1 len a b l (by first | decide | ((try simp only [decide_eq_true_eq, decide_eq_false_iff_not] at t0); (try simp only [List.length_take, List.length_drop]); omega)) (x0) (x1) (x2) (by rw [t0]; rfl)) hB).mono fun e fr' H' h => by simp only [t0, cond_true, cond_false]; exact h
theorem swD_r0 (len a b : Nat) (l : Nat → Int) (c0 : decide ((↑a : Int) < (0 : Int)) = false) (c1 : decide ((↑len : Int) ≤ (↑a : Int)) = true) : Sx.PieceN 1 (Sx.Ex.ret) [(0, .slc true false ⟨false, 0, 0, 0⟩ len), (1, .int true .i64 (↑a : Int)), (2, .int true .i64 (↑b : Int)), (6, .nils), (7, .int false .i64 2)] [(0, .cells false 1 len (.fn fun j => [Sx.AV.int true .i64 (l j)]))] (piececallTc Try.f33 (Sx.nav [1,1,0] (Sx.bodyOf Try.f33)) (Sx.frL [(0, Sx.slcV 0 len), (1, .int true .i64 (a : Nat)), (2, .int true .i64 (b : Nat))]) (Sx.hpL [(0, .cells false 1 len (.fn fun j => [.int true .i64 (l j)]))]) 1 [false, true]) := Sx.eqn (q := ((True ∧ (decide ((↑a : Int) < (0 : Int)) = false)) ∧ (decide ((↑len : Int) ≤ (↑a : Int)) = true))) (by kernel_rfl) ⟨⟨trivial, c0⟩, c1⟩
theorem swD_r1 (len a b : Nat) (l : Nat → Int) (c0 : decide ((↑a : Int) < (0 : Int)) = false) (c1 : decide ((↑len : Int) ≤ (↑a : Int)) = false) (c2 : decide ((↑b : Int) < (0 : Int)) = false) (c3 : decide ((↑len : Int) ≤ (↑b : Int)) = true) : Sx.PieceN 1 (Sx.Ex.ret) [(0, .slc true false ⟨false, 0, 0, 0⟩ len), (1, .int true .i64 (↑a : Int)), (2, .int true .i64 (↑b : Int)), (6, .nils), (7, .int false .i64 2)] [(0, .cells false 1 len (.fn fun j => [Sx.AV.int true .i64 (l j)]))] (piececallTc Try.f33 (Sx.nav [1,1,0] (Sx.bodyOf Try.f33)) (Sx.frL [(0, Sx.slcV 0 len), (1, .int true .i64 (a : Nat)), (2, .int true .i64 (b : Nat))]) (Sx.hpL [(0, .cells false 1 len (.fn fun j => [.int true .i64 (l j)]))]) 1 [false, false, false, true]) := Sx.eqn (q := ((((True ∧ (decide ((↑a : Int) < (0 : Int)) = false)) ∧ (decide ((↑len : Int) ≤ (↑a : Int)) = false)) ∧ (decide ((↑b : Int) < (0 : Int)) = false)) ∧ (decide ((↑len : Int) ≤ (↑b : Int)) = true))) (by kernel_rfl) ⟨⟨⟨⟨trivial, c0⟩, c1⟩, c2⟩, c3⟩
theorem swD_r2 (len a b : Nat) (l : Nat → Int) (c0 : decide ((↑a : Int) < (0 : Int)) = false) (c1 : decide ((↑len : Int) ≤ (↑a : Int)) = false) (c2 : decide ((↑b : Int) < (0 : Int)) = false) (c3 : decide ((↑len : Int) ≤ (↑b : Int)) = false) : Sx.PieceN 1 (Sx.Ex.normal) [(0, .slc true false ⟨false, 0, 0, 0⟩ len), (1, .int true .i64 (↑a : Int)), (2, .int true .i64 (↑b : Int))] [(0, .cells false 1 len (.fn fun j => [Sx.AV.int true .i64 (l j)]))] (piececallTc Try.f33 (Sx.nav [1,1,0] (Sx.bodyOf Try.f33)) (Sx.frL [(0, Sx.slcV 0 len), (1, .int true .i64 (a : Nat)), (2, .int true .i64 (b : Nat))]) (Sx.hpL [(0, .cells false 1 len (.fn fun j => [.int true .i64 (l j)]))]) 1 [false, false, false, false]) := Sx.eqn (q := ((((True ∧ (decide ((↑a : Int) < (0 : Int)) = false)) ∧ (decide ((↑len : Int) ≤ (↑a : Int)) = false)) ∧ (decide ((↑b : Int) < (0 : Int)) = false)) ∧ (decide ((↑len : Int) ≤ (↑b : Int)) = false))) (by kernel_rfl) ⟨⟨⟨⟨trivial, c0⟩, c1⟩, c2⟩, c3⟩
theorem swD (B : Nat) (hB : B ≤ 1) (len a b : Nat) (l : Nat → Int) : Sx.GoesB Try.prog (Sx.nav [1,1,0] (Sx.bodyOf Try.f33)) Try.f33.ntmps B 1 1 (Sx.frL [(0, Sx.slcV 0 len), (1, .int true .i64 (a : Nat)), (2, .int true .i64 (b : Nat))]) (Sx.hpL [(0, .cells false 1 len (.fn fun j => [.int true .i64 (l j)]))]) fun e fr' H' => (cond (decide ((↑len : Int) ≤ (↑a : Int))) (e = .ret ∧ fr' = Sx.frL [(0, .slc true false ⟨false, 0, 0, 0⟩ len), (1, .int true .i64 (↑a : Int)), (2, .int true .i64 (↑b : Int)), (6, .nils), (7, .int false .i64 2)] ∧ H' = Sx.hpL [(0, .cells false 1 len (.fn fun j => [Sx.AV.int true .i64 (l j)]))]) (cond (decide ((↑len : Int) ≤ (↑b : Int))) (e = .ret ∧ fr' = Sx.frL [(0, .slc true false ⟨false, 0, 0, 0⟩ len), (1, .int true .i64 (↑a : Int)), (2, .int true .i64 (↑b : Int)), (6, .nils), (7, .int false .i64 2)] ∧ H' = Sx.hpL [(0, .cells false 1 len (.fn fun j => [Sx.AV.int true .i64 (l j)]))]) (e = .normal ∧ fr' = Sx.frL [(0, .slc true false ⟨false, 0, 0, 0⟩ len), (1, .int true .i64 (↑a : Int)), (2, .int true .i64 (↑b : Int))] ∧ H' = Sx.hpL [(0, .cells false 1 len (.fn fun j => [Sx.AV.int true .i64 (l j)]))]))) := by
 cases t0 : decide ((↑len : Int) ≤ (↑a : Int)) with
 | true =>
  exact (Sx.GoesB.runN callTc_ok (callTc_reg _) (Sx.LoopsIn.none _ _ _) (swD_r0 len a b l rfl t0) hB).mono fun e fr' H' h => by simp only [t0, cond_true, cond_false]; exact h
 | false =>
  cases t1 : decide ((↑len : Int) ≤ (↑b : Int)) with
  | true =>
   exact (Sx.GoesB.runN callTc_ok (callTc_reg _) (Sx.LoopsIn.none _ _ _) (swD_r1 len a b l rfl t0 rfl t1) hB).mono fun e fr' H' h => by simp only [t0, t1, cond_true, cond_false]; exact h
  | false =>
   exact (Sx.GoesB.runN callTc_ok (callTc_reg _) (Sx.LoopsIn.none _ _ _) (swD_r2 len a b l rfl t0 rfl t1) hB).mono fun e fr' H' h => by simp only [t0, t1, cond_true, cond_false]; exact h
theorem swE_r0 (len a b : Nat) (l : Nat → Int) (c0 : (0 : Nat) + len ≤ len) (c1 : (0 : Nat) ≤ (0 : Nat)) (c2 : ((0 : Nat) + len) * (8 : Nat) ≤ (140737488355328 : Nat)) (c3 : (0 : Nat) + len ≤ (9223372036854775807 : Nat)) : Sx.PieceN 3 (Sx.Ex.normal) [(1, .int true .i64 (↑a : Int)), (2, .int true .i64 (↑b : Int)), (9, .slc true true ⟨false, 2, 0, 0⟩ ((0 : Nat) + len))] [(2, .cells true 1 ((0 : Nat) + len) (.fn fun j => bif Nat.beq len (1 : Nat) then [Sx.AV.int true .i64 (l (0 : Nat))] else [Sx.AV.int true .i64 (l ((0 : Nat) + (j - (0 : Nat))))]))] (piececallTc Try.f33 (Sx.nav [1,1,1,0] (Sx.bodyOf Try.f33)) (Sx.frL [(0, Sx.slcV 0 len), (1, .int true .i64 (a : Nat)), (2, .int true .i64 (b : Nat))]) (Sx.hpL [(0, .cells false 1 len (.fn fun j => [.int true .i64 (l j)]))]) 1 []) := Sx.eqn (q := ((True ∧ ((0 : Nat) + len ≤ len)) ∧ (((0 : Nat) ≤ (0 : Nat)) ∧ ((((0 : Nat) + len) * (8 : Nat) ≤ (140737488355328 : Nat)) ∧ ((0 : Nat) + len ≤ (9223372036854775807 : Nat)))))) (by kernel_rfl) ⟨⟨trivial, c0⟩, ⟨c1, ⟨c2, c3⟩⟩⟩
theorem swE (B : Nat) (hB : B ≤ 1) (len a b : Nat) (l : Nat → Int) (x0 : (((0 : Nat) + len) * (8 : Nat) ≤ (140737488355328 : Nat))) (x1 : ((0 : Nat) + len ≤ (9223372036854775807 : Nat))) : Sx.GoesB Try.prog (Sx.nav [1,1,1,0] (Sx.bodyOf Try.f33)) Try.f33.ntmps B 1 3 (Sx.frL [(0, Sx.slcV 0 len), (1, .int true .i64 (a : Nat)), (2, .int true .i64 (b : Nat))]) (Sx.hpL [(0, .cells false 1 len (.fn fun j => [.int true .i64 (l j)]))]) fun e fr' H' => (e = .normal ∧ fr' = Sx.frL [(1, .int true .i64 (↑a : Int)), (2, .int true .i64 (↑b : Int)), (9, .slc true true ⟨false, 2, 0, 0⟩ ((0 : Nat) + len))] ∧ H' = Sx.hpL [(2, .cells true 1 ((0 : Nat) + len) (.fn fun j => bif Nat.beq len (1 : Nat) then [Sx.AV.int true .i64 (l (0 : Nat))] else [Sx.AV.int true .i64 (l ((0 : Nat) + (j - (0 : Nat))))]))]) := by
 exact (Sx.GoesB.runN callTc_ok (callTc_reg _) (Sx.LoopsIn.none _ _ _) (swE_r0 len a b l (by first | decide | omega) (by first | decide | omega) (x0) (x1)) hB).mono fun e fr' H' h => h
theorem swF_r0 (len a b : Nat) (l : Nat → Int) (c0 : (0 : Int) ≤ (↑b : Int)) (c1 : (↑b : Int) < (↑len : Int)) (c2 : (0 : Nat) + b < len) (c3 : (0 : Int) ≤ (↑a : Int)) (c4 : (↑a : Int) < (↑len : Int)) (c5 : (0 : Nat) + a < len) (c6 : (1 : Nat) ≤ (1 : Nat)) (c7 : (0 : Nat) + b < len) (c8 : (1 : Nat) ≤ (1 : Nat)) : Sx.PieceN 3 (Sx.Ex.normal) [(9, .slc true true ⟨false, 2, 0, 0⟩ len)] [(2, .cells true 1 len (.fn fun j => bif Nat.beq j ((0 : Nat) + b) then [Sx.AV.int true .i64 (l ((0 : Nat) + a))] else bif Nat.beq j ((0 : Nat) + a) then [Sx.AV.int true .i64 (l ((0 : Nat) + b))] else [Sx.AV.int true .i64 (l j)]))] (piececallTc Try.f33 (Sx.nav [1,1,1,1,0] (Sx.bodyOf Try.f33)) (Sx.frL [(1, .int true .i64 (a : Nat)), (2, .int true .i64 (b : Nat)), (9, .slc true true ⟨false, 2, 0, 0⟩ len)]) (Sx.hpL [(2, .cells true 1 len (.fn fun j => [.int true .i64 (l j)]))]) 3 []) := Sx.eqn (q := ((((((((((True ∧ (((0 : Int) ≤ (↑b : Int)) ∧ ((↑b : Int) < (↑len : Int)))) ∧ ((0 : Nat) + b < len)) ∧ (((0 : Int) ≤ (↑a : Int)) ∧ ((↑a : Int) < (↑len : Int)))) ∧ ((0 : Nat) + a < len)) ∧ (((0 : Int) ≤ (↑a : Int)) ∧ ((↑a : Int) < (↑len : Int)))) ∧ ((0 : Nat) + a < len)) ∧ ((1 : Nat) ≤ (1 : Nat))) ∧ (((0 : Int) ≤ (↑b : Int)) ∧ ((↑b : Int) < (↑len : Int)))) ∧ ((0 : Nat) + b < len)) ∧ ((1 : Nat) ≤ (1 : Nat)))) (by kernel_rfl) ⟨⟨⟨⟨⟨⟨⟨⟨⟨⟨trivial, ⟨c0, c1⟩⟩, c2⟩, ⟨c3, c4⟩⟩, c5⟩, ⟨c3, c4⟩⟩, c5⟩, c6⟩, ⟨c0, c1⟩⟩, c7⟩, c8⟩
theorem swF (B : Nat) (hB : B ≤ 3) (len a b : Nat) (l : Nat → Int) (x0 : ((↑b : Int) < (↑len : Int))) (x1 : ((0 : Nat) + b < len)) (x2 : ((↑a : Int) < (↑len : Int))) (x3 : ((0 : Nat) + a < len)) (x4 : ((0 : Nat) + b < len)) : Sx.GoesB Try.prog (Sx.nav [1,1,1,1,0] (Sx.bodyOf Try.f33)) Try.f33.ntmps B 3 3 (Sx.frL [(1, .int true .i64 (a : Nat)), (2, .int true .i64 (b : Nat)), (9, .slc true true ⟨false, 2, 0, 0⟩ len)]) (Sx.hpL [(2, .cells true 1 len (.fn fun j => [.int true .i64 (l j)]))]) fun e fr' H' => (e = .normal ∧ fr' = Sx.frL [(9, .slc true true ⟨false, 2, 0, 0⟩ len)] ∧ H' = Sx.hpL [(2, .cells true 1 len (.fn fun j => bif Nat.beq j ((0 : Nat) + b) then [Sx.AV.int true .i64 (l ((0 : Nat) + a))] else bif Nat.beq j ((0 : Nat) + a) then [Sx.AV.int true .i64 (l ((0 : Nat) + b))] else [Sx.AV.int true .i64 (l j)]))]) := by
 exact (Sx.GoesB.runN callTc_ok (callTc_reg _) (Sx.LoopsIn.none _ _ _) (swF_r0 len a b l (by first | decide | omega) (x0) (x1) (by first | decide | omega) (x2) (x3) (by first | decide | omega) (x4) (by first | decide | omega)) hB).mono fun e fr' H' h => h
theorem swG_r0 (len a b : Nat) (l : Nat → Int) : Sx.PieceN 3 (Sx.Ex.ret) [(6, .slc true true ⟨false, 2, 0, 0⟩ len), (7, .int false .i64 0)] [(2, .cells true 1 len (.fn fun j => [Sx.AV.int true .i64 (l j)]))] (piececallTc Try.f33 (Sx.nav [1,1,1,1,1] (Sx.bodyOf Try.f33)) (Sx.frL [(9, .slc true true ⟨false, 2, 0, 0⟩ len)]) (Sx.hpL [(2, .cells true 1 len (.fn fun j => [.int true .i64 (l j)]))]) 3 []) := Sx.eqn (q := True) (by kernel_rfl) trivial
theorem swG (B : Nat) (hB : B ≤ 3) (len a b : Nat) (l : Nat → Int) : Sx.GoesB Try.prog (Sx.nav [1,1,1,1,1] (Sx.bodyOf Try.f33)) Try.f33.ntmps B 3 3 (Sx.frL [(9, .slc true true ⟨false, 2, 0, 0⟩ len)]) (Sx.hpL [(2, .cells true 1 len (.fn fun j => [.int true .i64 (l j)]))]) fun e fr' H' => (e = .ret ∧ fr' = Sx.frL [(6, .slc true true ⟨false, 2, 0, 0⟩ len), (7, .int false .i64 0)] ∧ H' = Sx.hpL [(2, .cells true 1 len (.fn fun j => [Sx.AV.int true .i64 (l j)]))]) := by
 exact (Sx.GoesB.runN callTc_ok (callTc_reg _) (Sx.LoopsIn.none _ _ _) (swG_r0 len a b l) hB).mono fun e fr' H' h => h
theorem sw_is : (Sx.bodyOf Try.f33) = .seq (Sx.nav [0] (Sx.bodyOf Try.f33)) (.seq (Sx.nav [1,0] (Sx.bodyOf Try.f33)) (.seq (Sx.nav [1,1,0] (Sx.bodyOf Try.f33)) (.seq (Sx.nav [1,1,1,0] (Sx.bodyOf Try.f33)) (.seq (Sx.nav [1,1,1,1,0] (Sx.bodyOf Try.f33)) (Sx.nav [1,1,1,1,1] (Sx.bodyOf Try.f33)))))) := by kernel_rfl
theorem sw_row2 (m : Nat → Int) (a b j : Nat) : (bif Nat.beq j b then [Sx.AV.int true .i64 (m a)] else bif Nat.beq j a then [Sx.AV.int true .i64 (m b)] else [Sx.AV.int true .i64 (m j)]) = [Sx.AV.int true .i64 (m (sw a b j))] := by
 by_cases h : b = a
 ·subst h
  have q : ∀ a b, Nat.beq a b = decide (a = b) := fun a b => by
   cases h : Nat.beq a b
   ·simp [Nat.ne_of_beq_eq_false h]
   ·simp [Nat.eq_of_beq_eq_true h]
  rw [q]
  unfold sw
  by_cases c : j = b
  ·rw [decide_eq_true c, if_pos c]; rfl
  ·rw [decide_eq_false c, if_neg c, if_neg c]; rfl
 ·exact sw_row m a b j h
theorem sw_goes (n a b : Nat) (l : Nat → Int) (hn : n ≤ 64) (hp : Perm l n) (ha : a < n) (hb : b < n) :
  Sx.GoesB Try.prog (Sx.bodyOf Try.f33) Try.f33.ntmps 1 1 3 (Sx.frameOf [Sx.slcV 0 n, .int true .i64 (a : Nat), .int true .i64 (b : Nat)] 0 .e) (Sx.hpL [(0, .cells false 1 n (.fn fun j => [.int true .i64 (l j)]))]) fun e fr' H' => e = .ret ∧ fr' = Sx.frL [(6, .slc true true ⟨false, 2, 0, 0⟩ n), (7, .int false .i64 0)] ∧ H' = Sx.hpL [(2, .cells true 1 n (.fn fun j => [.int true .i64 ((fun j => l (sw a b j)) j)]))] := by
 rw [sw_is]
 refine Sx.GoesB.seq (K1 := 1) (by omega) ((swA 1 (by omega) n a b l).mono fun e fr' H' ⟨e1, e2, e3⟩ => ?_)
 subst e1 e2 e3
 have hC := swC 1 (by omega) n a b l (by omega) (fun j hj => irow _ _) (fun j hj u hu => low_i hu)
 simp only [Nat.zero_add, iof] at hC
 refine Sx.GoesB.seq (K1 := 1) (by omega) (hC.mono fun e fr' H' h => ?_)
 rw [decide_eq_true (ck_of hn hp), cond_true] at h
 obtain ⟨rfl, rfl, rfl⟩ := h
 refine Sx.GoesB.seq (K1 := 1) (by omega) ((swD 1 (by omega) n a b l).mono fun e fr' H' h => ?_)
 rw [decide_eq_false (show ¬ ((n : Int) ≤ (a : Int)) by omega), decide_eq_false (show ¬ ((n : Int) ≤ (b : Int)) by omega), cond_false, cond_false] at h
 obtain ⟨rfl, rfl, rfl⟩ := h
 refine Sx.GoesB.seq (K1 := 3) (by omega) ((swE 1 (by omega) n a b l (by omega) (by omega)).mono fun e fr' H' ⟨e1, e2, e3⟩ => ?_)
 subst e1 e2 e3
 refine Sx.GoesB.weakL (fl := [(1, .int true .i64 (a : Nat)), (2, .int true .i64 (b : Nat)), (9, .slc true true ⟨false, 2, 0, 0⟩ n)]) (bl := [(2, .cells true 1 n (.fn fun j => [.int true .i64 ((l) j)]))]) ⟨⟨_, rfl, Sx.AV.ge.refl _⟩, ⟨_, rfl, Sx.AV.ge.refl _⟩, ⟨_, rfl, by rw [Nat.zero_add]; exact Sx.AV.ge.refl _⟩, trivial⟩ ⟨⟨_, rfl, ⟨rfl, rfl, by omega, fun j hj => ?_⟩⟩, trivial⟩ ?_
 ·simp only [Sx.Cont.row]
  cases e : Nat.beq n 1 with
  | false => simp
  | true =>
   have := Nat.eq_of_beq_eq_true e
   rw [cond_true, show j = 0 by omega]
 have hF := swF 1 (by omega) n a b l (by omega) (by omega) (by omega) (by omega) (by omega)
 simp only [Nat.zero_add] at hF
 refine Sx.GoesB.seq (K1 := 3) (by omega) (hF.mono fun e fr' H' ⟨e1, e2, e3⟩ => ?_)
 subst e1 e2 e3
 exact Sx.GoesB.weakL (fl := [(9, .slc true true ⟨false, 2, 0, 0⟩ n)]) (bl := [(2, .cells true 1 n (.fn fun j => [.int true .i64 ((fun j => l (sw a b j)) j)]))]) ⟨⟨_, rfl, Sx.AV.ge.refl _⟩, trivial⟩ ⟨⟨_, rfl, ⟨rfl, rfl, rfl, fun j hj => sw_row2 l a b j⟩⟩, trivial⟩ (swG 1 (by omega) n a b (fun j => l (sw a b j)))

theorem xs_and {f g : Nat → Bool} : ∀ n, xs (fun k => xor (f k) (g k)) n = xor (xs f n) (xs g n)
 | 0 => rfl
 | n + 1 => by
  show xor (xs (fun k => xor (f k) (g k)) n) (xor (f n) (g n)) = xor (xor (xs f n) (f n)) (xor (xs g n) (g n))
  rw [xs_and n]
  cases xs f n <;> cases xs g n <;> cases f n <;> cases g n <;> rfl
theorem xs_comm (f : Nat → Nat → Bool) (m : Nat) : ∀ n, xs (fun i => xs (fun k => f i k) m) n = xs (fun k => xs (fun i => f i k) n) m
 | 0 => (xs_false m).symm
 | n + 1 => by
  show xor (xs (fun i => xs (fun k => f i k) m) n) (xs (fun k => f n k) m) = xs (fun k => xor (xs (fun i => f i k) n) (f n k)) m
  rw [xs_and m, xs_comm f m n]
/-- the wrong pairs of one place with those behind it, up to m -/
def inv (l : Nat → Int) (i m : Nat) : Bool := xs (fun k => decide (i < k) && decide (l k < l i)) m
theorem xs_cut (f : Nat → Bool) (n k : Nat) (h : k ≤ n) : xs (fun i => decide (i < k) && f i) n = xs f k := by
 obtain ⟨d, rfl⟩ := Nat.exists_eq_add_of_le h
 clear h
 induction d with
 | zero => exact xs_congr fun i hi => by rw [decide_eq_true (by omega), Bool.true_and]
 | succ d ih =>
  show xor (xs (fun i => decide (i < k) && f i) (k + d)) (decide (k + d < k) && f (k + d)) = _
  rw [ih, decide_eq_false (by omega), Bool.false_and, Bool.xor_false]
theorem par_inv (l : Nat → Int) (n : Nat) : xs (fun i => inv l i n) n = par l n := by
 unfold inv
 rw [xs_comm (fun i k => decide (i < k) && decide (l k < l i)) n n]
 exact xs_congr fun k hk => xs_cut (fun i => decide (l k < l i)) n k (by omega)
theorem inv_0 (l : Nat → Int) (i : Nat) : inv l i (i + 1) = false := by
 unfold inv
 rw [xs_congr (g := fun _ => false) fun k hk => by rw [decide_eq_false (by omega), Bool.false_and]]
 exact xs_false _
theorem inv_s (l : Nat → Int) (i k : Nat) (h : i < k) : inv l i (k + 1) = xor (inv l i k) (decide (l k < l i)) := by
 show xor (xs (fun k => decide (i < k) && decide (l k < l i)) k) (decide (i < k) && decide (l k < l i)) = _
 rw [decide_eq_true h, Bool.true_and]; rfl
/-- how often a number stands in a list -/
def tm (l : Nat → Int) (v : Int) (n : Nat) : Nat := cnt (fun j => decide (l j = v)) n
theorem cnt_n {p : Nat → Bool} : ∀ {n : Nat}, cnt p n ≤ n
 | 0 => Nat.le_refl _
 | n + 1 => by
  have := cnt_n (p := p) (n := n)
  show cnt p n + (bif p n then 1 else 0) ≤ n + 1
  cases p n <;> simp <;> omega
theorem cnt_0 {p : Nat → Bool} : ∀ {n : Nat}, (∀ j, j < n → p j = false) → cnt p n = 0
 | 0, _ => rfl
 | n + 1, h => by
  show cnt p n + (bif p n then 1 else 0) = 0
  rw [cnt_0 fun j hj => h j (by omega), h n (by omega)]; rfl
theorem cnt_pos {p : Nat → Bool} : ∀ {n : Nat}, 0 < cnt p n → ∃ j, j < n ∧ p j = true
 | 0, h => absurd h (Nat.lt_irrefl 0)
 | n + 1, h => by
  cases e : p n with
  | true => exact ⟨n, by omega, e⟩
  | false =>
   have h' : 0 < cnt p n + (bif p n then 1 else 0) := h
   rw [e] at h'
   obtain ⟨j, h1, h2⟩ := cnt_pos (n := n) (by simpa using h')
   exact ⟨j, by omega, h2⟩
theorem cnt_1 {p : Nat → Bool} {i : Nat} (hp : p i = true) : ∀ {n : Nat}, i < n → (∀ j, j < n → p j = true → j = i) → cnt p n = 1
 | 0, h, _ => by omega
 | n + 1, h, hs => by
  show cnt p n + (bif p n then 1 else 0) = 1
  by_cases e : i = n
  ·subst e
   rw [cnt_0 fun j hj => by
    cases c : p j with
    | false => rfl
    | true => have := hs j (by omega) c; omega, hp]; rfl
  ·rw [cnt_1 hp (n := n) (by omega) fun j hj c => hs j (by omega) c]
   cases c : p n with
   | false => rfl
   | true => have := hs n (by omega) c; omega
theorem tm_one {l : Nat → Int} {n : Nat} (h : ∀ i, i < n → 0 ≤ idx l (i : Nat) n) (i : Nat) (hi : i < n) : tm l (i : Nat) n = 1 := by
 have hp : Perm l n := Perm.of fun i hi => idx_mem.1 (h i hi)
 obtain ⟨j, hj, e⟩ := idx_mem.1 (h i hi)
 exact cnt_1 (i := j) (by exact decide_eq_true e) hj fun k hk c => hp.2 k j hk hj ((of_decide_eq_true c).trans e.symm)
theorem tm_mem {l : Nat → Int} {n i : Nat} (h : tm l (i : Nat) n = 1) : 0 ≤ idx l (i : Nat) n := by
 obtain ⟨j, h1, h2⟩ := cnt_pos (p := fun j => decide (l j = (i : Int))) (n := n) (by unfold tm at h; omega)
 exact idx_mem.2 ⟨j, h1, of_decide_eq_true h2⟩
theorem roA_r0 (n : Nat) (l : Nat → Int) : Sx.PieceN 1 (Sx.Ex.normal) [(0, .slc true false ⟨false, 0, 0, 0⟩ n)] [(0, .cells false 1 n (.fn fun j => [Sx.AV.int true .i64 (l j)]))] (piececallTc Try.f59 (Sx.nav [0] (Sx.bodyOf Try.f59)) (Sx.frameOf [Sx.slcV 0 n] 0 .e) (Sx.hpL [(0, .cells false 1 (n) (.fn fun j => [.int true .i64 (l j)]))]) 1 []) := Sx.eqn (q := True) (by kernel_rfl) trivial
theorem roA (B : Nat) (hB : B ≤ 1) (n : Nat) (l : Nat → Int) : Sx.GoesB Try.prog (Sx.nav [0] (Sx.bodyOf Try.f59)) Try.f59.ntmps B 1 1 (Sx.frameOf [Sx.slcV 0 n] 0 .e) (Sx.hpL [(0, .cells false 1 (n) (.fn fun j => [.int true .i64 (l j)]))]) fun e fr' H' => (e = .normal ∧ fr' = Sx.frL [(0, .slc true false ⟨false, 0, 0, 0⟩ n)] ∧ H' = Sx.hpL [(0, .cells false 1 n (.fn fun j => [Sx.AV.int true .i64 (l j)]))]) := by
 exact (Sx.GoesB.runN callTc_ok (callTc_reg _) (Sx.LoopsIn.none _ _ _) (roA_r0 n l) hB).mono fun e fr' H' h => h
theorem roB_r0 (n : Nat) (l : Nat → Int) : Sx.PieceN 1 (Sx.Ex.normal) [(0, .slc true false ⟨false, 0, 0, 0⟩ n), (3, .int false .i64 0)] [(0, .cells false 1 n (.fn fun j => [Sx.AV.int true .i64 (l j)]))] (piececallTc Try.f59 (Sx.nav [1,0,0] (Sx.bodyOf Try.f59)) (Sx.frL [(0, Sx.slcV 0 n)]) (Sx.hpL [(0, .cells false 1 (n) (.fn fun j => [.int true .i64 (l j)]))]) 1 []) := Sx.eqn (q := True) (by kernel_rfl) trivial
theorem roB (B : Nat) (hB : B ≤ 1) (n : Nat) (l : Nat → Int) : Sx.GoesB Try.prog (Sx.nav [1,0,0] (Sx.bodyOf Try.f59)) Try.f59.ntmps B 1 1 (Sx.frL [(0, Sx.slcV 0 n)]) (Sx.hpL [(0, .cells false 1 (n) (.fn fun j => [.int true .i64 (l j)]))]) fun e fr' H' => (e = .normal ∧ fr' = Sx.frL [(0, .slc true false ⟨false, 0, 0, 0⟩ n), (3, .int false .i64 0)] ∧ H' = Sx.hpL [(0, .cells false 1 n (.fn fun j => [Sx.AV.int true .i64 (l j)]))]) := by
 exact (Sx.GoesB.runN callTc_ok (callTc_reg _) (Sx.LoopsIn.none _ _ _) (roB_r0 n l) hB).mono fun e fr' H' h => h
theorem roC_r0 (n i m t : Nat) (l : Nat → Int) (c0 : decide ((↑m : Int) < (↑n : Int)) = true) : Sx.PieceN 1 (Sx.Ex.normal) [(0, .slc true false ⟨false, 0, 0, 0⟩ n), (3, .int true .i64 (↑m : Int))] [(0, .cells false 1 n (.fn fun j => [Sx.AV.int true .i64 (l j)]))] (piececallTc Try.f59 (Sx.nav [1,0,1,0,0,0] (Sx.bodyOf Try.f59)) (Sx.frL [(0, Sx.slcV 0 n), (3, .int true .i64 m)]) (Sx.hpL [(0, .cells false 1 (n) (.fn fun j => [.int true .i64 (l j)]))]) 1 [true]) := Sx.eqn (q := (True ∧ (decide ((↑m : Int) < (↑n : Int)) = true))) (by kernel_rfl) ⟨trivial, c0⟩
theorem roC_r1 (n i m t : Nat) (l : Nat → Int) (c0 : decide ((↑m : Int) < (↑n : Int)) = false) : Sx.PieceN 1 (Sx.Ex.exit (0 : Nat)) [(0, .slc true false ⟨false, 0, 0, 0⟩ n), (3, .int true .i64 (↑m : Int))] [(0, .cells false 1 n (.fn fun j => [Sx.AV.int true .i64 (l j)]))] (piececallTc Try.f59 (Sx.nav [1,0,1,0,0,0] (Sx.bodyOf Try.f59)) (Sx.frL [(0, Sx.slcV 0 n), (3, .int true .i64 m)]) (Sx.hpL [(0, .cells false 1 (n) (.fn fun j => [.int true .i64 (l j)]))]) 1 [false]) := Sx.eqn (q := (True ∧ (decide ((↑m : Int) < (↑n : Int)) = false))) (by kernel_rfl) ⟨trivial, c0⟩
theorem roC (B : Nat) (hB : B ≤ 1) (n i m t : Nat) (l : Nat → Int) : Sx.GoesB Try.prog (Sx.nav [1,0,1,0,0,0] (Sx.bodyOf Try.f59)) Try.f59.ntmps B 1 1 (Sx.frL [(0, Sx.slcV 0 n), (3, .int true .i64 m)]) (Sx.hpL [(0, .cells false 1 (n) (.fn fun j => [.int true .i64 (l j)]))]) fun e fr' H' => (cond (decide ((↑m : Int) < (↑n : Int))) (e = .normal ∧ fr' = Sx.frL [(0, .slc true false ⟨false, 0, 0, 0⟩ n), (3, .int true .i64 (↑m : Int))] ∧ H' = Sx.hpL [(0, .cells false 1 n (.fn fun j => [Sx.AV.int true .i64 (l j)]))]) (e = .exit 0 ∧ fr' = Sx.frL [(0, .slc true false ⟨false, 0, 0, 0⟩ n), (3, .int true .i64 (↑m : Int))] ∧ H' = Sx.hpL [(0, .cells false 1 n (.fn fun j => [Sx.AV.int true .i64 (l j)]))])) := by
 cases t0 : decide ((↑m : Int) < (↑n : Int)) with
 | true =>
  exact (Sx.GoesB.runN callTc_ok (callTc_reg _) (Sx.LoopsIn.none _ _ _) (roC_r0 n i m t l t0) hB).mono fun e fr' H' h => by first | (simp only [t0, cond_true, cond_false]; exact h) | (simp only [t0, cond_true, cond_false] at h ⊢; exact h)
 | false =>
  exact (Sx.GoesB.runN callTc_ok (callTc_reg _) (Sx.LoopsIn.none _ _ _) (roC_r1 n i m t l t0) hB).mono fun e fr' H' h => by first | (simp only [t0, cond_true, cond_false]; exact h) | (simp only [t0, cond_true, cond_false] at h ⊢; exact h)
theorem roD_r0 (n i m t : Nat) (l : Nat → Int) : Sx.PieceN 1 (Sx.Ex.normal) [(0, .slc true false ⟨false, 0, 0, 0⟩ n), (3, .int true .i64 (↑m : Int)), (4, .int false .i64 0)] [(0, .cells false 1 n (.fn fun j => [Sx.AV.int true .i64 (l j)]))] (piececallTc Try.f59 (Sx.nav [1,0,1,0,0,1,0,0,0] (Sx.bodyOf Try.f59)) (Sx.frL [(0, Sx.slcV 0 n), (3, .int true .i64 m)]) (Sx.hpL [(0, .cells false 1 (n) (.fn fun j => [.int true .i64 (l j)]))]) 1 []) := Sx.eqn (q := True) (by kernel_rfl) trivial
theorem roD (B : Nat) (hB : B ≤ 1) (n i m t : Nat) (l : Nat → Int) : Sx.GoesB Try.prog (Sx.nav [1,0,1,0,0,1,0,0,0] (Sx.bodyOf Try.f59)) Try.f59.ntmps B 1 1 (Sx.frL [(0, Sx.slcV 0 n), (3, .int true .i64 m)]) (Sx.hpL [(0, .cells false 1 (n) (.fn fun j => [.int true .i64 (l j)]))]) fun e fr' H' => (e = .normal ∧ fr' = Sx.frL [(0, .slc true false ⟨false, 0, 0, 0⟩ n), (3, .int true .i64 (↑m : Int)), (4, .int false .i64 0)] ∧ H' = Sx.hpL [(0, .cells false 1 n (.fn fun j => [Sx.AV.int true .i64 (l j)]))]) := by
 exact (Sx.GoesB.runN callTc_ok (callTc_reg _) (Sx.LoopsIn.none _ _ _) (roD_r0 n i m t l) hB).mono fun e fr' H' h => h
theorem roE_r0 (n i m t : Nat) (l : Nat → Int) : Sx.PieceN 1 (Sx.Ex.normal) [(0, .slc true false ⟨false, 0, 0, 0⟩ n), (3, .int true .i64 (↑m : Int)), (4, .int true .i64 (↑t : Int)), (5, .int false .i64 0)] [(0, .cells false 1 n (.fn fun j => [Sx.AV.int true .i64 (l j)]))] (piececallTc Try.f59 (Sx.nav [1,0,1,0,0,1,0,0,1,0,0] (Sx.bodyOf Try.f59)) (Sx.frL [(0, Sx.slcV 0 n), (3, .int true .i64 m), (4, .int true .i64 t)]) (Sx.hpL [(0, .cells false 1 (n) (.fn fun j => [.int true .i64 (l j)]))]) 1 []) := Sx.eqn (q := True) (by kernel_rfl) trivial
theorem roE (B : Nat) (hB : B ≤ 1) (n i m t : Nat) (l : Nat → Int) : Sx.GoesB Try.prog (Sx.nav [1,0,1,0,0,1,0,0,1,0,0] (Sx.bodyOf Try.f59)) Try.f59.ntmps B 1 1 (Sx.frL [(0, Sx.slcV 0 n), (3, .int true .i64 m), (4, .int true .i64 t)]) (Sx.hpL [(0, .cells false 1 (n) (.fn fun j => [.int true .i64 (l j)]))]) fun e fr' H' => (e = .normal ∧ fr' = Sx.frL [(0, .slc true false ⟨false, 0, 0, 0⟩ n), (3, .int true .i64 (↑m : Int)), (4, .int true .i64 (↑t : Int)), (5, .int false .i64 0)] ∧ H' = Sx.hpL [(0, .cells false 1 n (.fn fun j => [Sx.AV.int true .i64 (l j)]))]) := by
 exact (Sx.GoesB.runN callTc_ok (callTc_reg _) (Sx.LoopsIn.none _ _ _) (roE_r0 n i m t l) hB).mono fun e fr' H' h => h
theorem roL_r0 (n i m t : Nat) (l : Nat → Int) (c0 : decide ((↑i : Int) < (↑n : Int)) = true) (c1 : (0 : Int) ≤ (↑i : Int)) (c2 : (↑i : Int) < (↑n : Int)) (c3 : (0 : Nat) + i < n) (c4 : decide (l ((0 : Nat) + i) = (↑m : Int)) = true) (c5 : (-9223372036854775808 : Int) ≤ (↑t : Int) + (1 : Int)) (c6 : (↑t : Int) + (1 : Int) ≤ (9223372036854775807 : Int)) (c7 : (-9223372036854775808 : Int) ≤ (↑i : Int) + (1 : Int)) (c8 : (↑i : Int) + (1 : Int) ≤ (9223372036854775807 : Int)) : Sx.PieceN 1 (Sx.Ex.normal) [(0, .slc true false ⟨false, 0, 0, 0⟩ n), (3, .int true .i64 (↑m : Int)), (4, .int true .i64 ((↑t : Int) + (1 : Int))), (5, .int true .i64 ((↑i : Int) + (1 : Int)))] [(0, .cells false 1 n (.fn fun j => [Sx.AV.int true .i64 (l j)]))] (piececallTc Try.f59 (Sx.nav [1,0,1,0,0,1,0,0,1,0,1,0,0] (Sx.bodyOf Try.f59)) (Sx.frL [(0, Sx.slcV 0 n), (3, .int true .i64 m), (4, .int true .i64 t), (5, .int true .i64 i)]) (Sx.hpL [(0, .cells false 1 (n) (.fn fun j => [.int true .i64 (l j)]))]) 1 [true, true]) := Sx.eqn (q := ((((((True ∧ (decide ((↑i : Int) < (↑n : Int)) = true)) ∧ (((0 : Int) ≤ (↑i : Int)) ∧ ((↑i : Int) < (↑n : Int)))) ∧ ((0 : Nat) + i < n)) ∧ (decide (l ((0 : Nat) + i) = (↑m : Int)) = true)) ∧ (((-9223372036854775808 : Int) ≤ (↑t : Int) + (1 : Int)) ∧ ((↑t : Int) + (1 : Int) ≤ (9223372036854775807 : Int)))) ∧ (((-9223372036854775808 : Int) ≤ (↑i : Int) + (1 : Int)) ∧ ((↑i : Int) + (1 : Int) ≤ (9223372036854775807 : Int))))) (by kernel_rfl) ⟨⟨⟨⟨⟨⟨trivial, c0⟩, ⟨c1, c2⟩⟩, c3⟩, c4⟩, ⟨c5, c6⟩⟩, ⟨c7, c8⟩⟩
theorem roL_r1 (n i m t : Nat) (l : Nat → Int) (c0 : decide ((↑i : Int) < (↑n : Int)) = true) (c1 : (0 : Int) ≤ (↑i : Int)) (c2 : (↑i : Int) < (↑n : Int)) (c3 : (0 : Nat) + i < n) (c4 : decide (l ((0 : Nat) + i) = (↑m : Int)) = false) (c5 : (-9223372036854775808 : Int) ≤ (↑i : Int) + (1 : Int)) (c6 : (↑i : Int) + (1 : Int) ≤ (9223372036854775807 : Int)) : Sx.PieceN 1 (Sx.Ex.normal) [(0, .slc true false ⟨false, 0, 0, 0⟩ n), (3, .int true .i64 (↑m : Int)), (4, .int true .i64 (↑t : Int)), (5, .int true .i64 ((↑i : Int) + (1 : Int)))] [(0, .cells false 1 n (.fn fun j => [Sx.AV.int true .i64 (l j)]))] (piececallTc Try.f59 (Sx.nav [1,0,1,0,0,1,0,0,1,0,1,0,0] (Sx.bodyOf Try.f59)) (Sx.frL [(0, Sx.slcV 0 n), (3, .int true .i64 m), (4, .int true .i64 t), (5, .int true .i64 i)]) (Sx.hpL [(0, .cells false 1 (n) (.fn fun j => [.int true .i64 (l j)]))]) 1 [true, false]) := Sx.eqn (q := (((((True ∧ (decide ((↑i : Int) < (↑n : Int)) = true)) ∧ (((0 : Int) ≤ (↑i : Int)) ∧ ((↑i : Int) < (↑n : Int)))) ∧ ((0 : Nat) + i < n)) ∧ (decide (l ((0 : Nat) + i) = (↑m : Int)) = false)) ∧ (((-9223372036854775808 : Int) ≤ (↑i : Int) + (1 : Int)) ∧ ((↑i : Int) + (1 : Int) ≤ (9223372036854775807 : Int))))) (by kernel_rfl) ⟨⟨⟨⟨⟨trivial, c0⟩, ⟨c1, c2⟩⟩, c3⟩, c4⟩, ⟨c5, c6⟩⟩
theorem roL_r2 (n i m t : Nat) (l : Nat → Int) (c0 : decide ((↑i : Int) < (↑n : Int)) = false) : Sx.PieceN 1 (Sx.Ex.exit (2 : Nat)) [(0, .slc true false ⟨false, 0, 0, 0⟩ n), (3, .int true .i64 (↑m : Int)), (4, .int true .i64 (↑t : Int)), (5, .int true .i64 (↑i : Int))] [(0, .cells false 1 n (.fn fun j => [Sx.AV.int true .i64 (l j)]))] (piececallTc Try.f59 (Sx.nav [1,0,1,0,0,1,0,0,1,0,1,0,0] (Sx.bodyOf Try.f59)) (Sx.frL [(0, Sx.slcV 0 n), (3, .int true .i64 m), (4, .int true .i64 t), (5, .int true .i64 i)]) (Sx.hpL [(0, .cells false 1 (n) (.fn fun j => [.int true .i64 (l j)]))]) 1 [false]) := Sx.eqn (q := (True ∧ (decide ((↑i : Int) < (↑n : Int)) = false))) (by kernel_rfl) ⟨trivial, c0⟩
theorem roL (B : Nat) (hB : B ≤ 1) (n i m t : Nat) (l : Nat → Int) (x0 : ((decide ((↑i : Int) < (↑n : Int))) = true → ((decide (l ((0 : Nat) + i) = (↑m : Int))) = true → ((↑t : Int) + (1 : Int) ≤ (9223372036854775807 : Int))))) (x1 : ((decide ((↑i : Int) < (↑n : Int))) = true → ((↑i : Int) + (1 : Int) ≤ (9223372036854775807 : Int)))) : Sx.GoesB Try.prog (Sx.nav [1,0,1,0,0,1,0,0,1,0,1,0,0] (Sx.bodyOf Try.f59)) Try.f59.ntmps B 1 1 (Sx.frL [(0, Sx.slcV 0 n), (3, .int true .i64 m), (4, .int true .i64 t), (5, .int true .i64 i)]) (Sx.hpL [(0, .cells false 1 (n) (.fn fun j => [.int true .i64 (l j)]))]) fun e fr' H' => (cond (decide ((↑i : Int) < (↑n : Int))) (cond (decide (l ((0 : Nat) + i) = (↑m : Int))) (e = .normal ∧ fr' = Sx.frL [(0, .slc true false ⟨false, 0, 0, 0⟩ n), (3, .int true .i64 (↑m : Int)), (4, .int true .i64 ((↑t : Int) + (1 : Int))), (5, .int true .i64 ((↑i : Int) + (1 : Int)))] ∧ H' = Sx.hpL [(0, .cells false 1 n (.fn fun j => [Sx.AV.int true .i64 (l j)]))]) (e = .normal ∧ fr' = Sx.frL [(0, .slc true false ⟨false, 0, 0, 0⟩ n), (3, .int true .i64 (↑m : Int)), (4, .int true .i64 (↑t : Int)), (5, .int true .i64 ((↑i : Int) + (1 : Int)))] ∧ H' = Sx.hpL [(0, .cells false 1 n (.fn fun j => [Sx.AV.int true .i64 (l j)]))])) (e = .exit 2 ∧ fr' = Sx.frL [(0, .slc true false ⟨false, 0, 0, 0⟩ n), (3, .int true .i64 (↑m : Int)), (4, .int true .i64 (↑t : Int)), (5, .int true .i64 (↑i : Int))] ∧ H' = Sx.hpL [(0, .cells false 1 n (.fn fun j => [Sx.AV.int true .i64 (l j)]))])) := by
 cases t0 : decide ((↑i : Int) < (↑n : Int)) with
 | true =>
  cases t1 : decide (l ((0 : Nat) + i) = (↑m : Int)) with
  | true =>
   exact (Sx.GoesB.runN callTc_ok (callTc_reg _) (Sx.LoopsIn.none _ _ _) (roL_r0 n i m t l t0 (by first | decide | ((try simp only [decide_eq_true_eq, decide_eq_false_iff_not] at t0 t1); (try simp only [List.length_take, List.length_drop]); omega)) (by first | decide | ((try simp only [decide_eq_true_eq, decide_eq_false_iff_not] at t0 t1); (try simp only [List.length_take, List.length_drop]); omega)) (by first | decide | ((try simp only [decide_eq_true_eq, decide_eq_false_iff_not] at t0 t1); (try simp only [List.length_take, List.length_drop]); omega)) t1 (by first | decide | ((try simp only [decide_eq_true_eq, decide_eq_false_iff_not] at t0 t1); (try simp only [List.length_take, List.length_drop]); omega)) (x0 t0 t1) (by first | decide | ((try simp only [decide_eq_true_eq, decide_eq_false_iff_not] at t0 t1); (try simp only [List.length_take, List.length_drop]); omega)) (x1 t0)) hB).mono fun e fr' H' h => by first | (simp only [t0, t1, cond_true, cond_false]; exact h) | (simp only [t0, t1, cond_true, cond_false] at h ⊢; exact h)
  | false =>
   exact (Sx.GoesB.runN callTc_ok (callTc_reg _) (Sx.LoopsIn.none _ _ _) (roL_r1 n i m t l t0 (by first | decide | ((try simp only [decide_eq_true_eq, decide_eq_false_iff_not] at t0 t1); (try simp only [List.length_take, List.length_drop]); omega)) (by first | decide | ((try simp only [decide_eq_true_eq, decide_eq_false_iff_not] at t0 t1); (try simp only [List.length_take, List.length_drop]); omega)) (by first | decide | ((try simp only [decide_eq_true_eq, decide_eq_false_iff_not] at t0 t1); (try simp only [List.length_take, List.length_drop]); omega)) t1 (by first | decide | ((try simp only [decide_eq_true_eq, decide_eq_false_iff_not] at t0 t1); (try simp only [List.length_take, List.length_drop]); omega)) (x1 t0)) hB).mono fun e fr' H' h => by first | (simp only [t0, t1, cond_true, cond_false]; exact h) | (simp only [t0, t1, cond_true, cond_false] at h ⊢; exact h)
 | false =>
  exact (Sx.GoesB.runN callTc_ok (callTc_reg _) (Sx.LoopsIn.none _ _ _) (roL_r2 n i m t l t0) hB).mono fun e fr' H' h => by first | (simp only [t0, cond_true, cond_false]; exact h) | (simp only [t0, cond_true, cond_false] at h ⊢; exact h)
theorem roF_r0 (n i m t : Nat) (l : Nat → Int) (c0 : (!decide ((↑t : Int) = (1 : Int))) = false) : Sx.PieceN 1 (Sx.Ex.normal) [(0, .slc true false ⟨false, 0, 0, 0⟩ n), (3, .int true .i64 (↑m : Int))] [(0, .cells false 1 n (.fn fun j => [Sx.AV.int true .i64 (l j)]))] (piececallTc Try.f59 (Sx.nav [1,0,1,0,0,1,0,0,1,1] (Sx.bodyOf Try.f59)) (Sx.frL [(0, Sx.slcV 0 n), (3, .int true .i64 m), (4, .int true .i64 t)]) (Sx.hpL [(0, .cells false 1 (n) (.fn fun j => [.int true .i64 (l j)]))]) 1 [false]) := Sx.eqn (q := (True ∧ ((!decide ((↑t : Int) = (1 : Int))) = false))) (by kernel_rfl) ⟨trivial, c0⟩
theorem roF_r1 (n i m t : Nat) (l : Nat → Int) (c0 : (!decide ((↑t : Int) = (1 : Int))) = true) : Sx.PieceN 1 (Sx.Ex.ret) [(0, .slc true false ⟨false, 0, 0, 0⟩ n), (2, .bool false), (3, .int true .i64 (↑m : Int))] [(0, .cells false 1 n (.fn fun j => [Sx.AV.int true .i64 (l j)]))] (piececallTc Try.f59 (Sx.nav [1,0,1,0,0,1,0,0,1,1] (Sx.bodyOf Try.f59)) (Sx.frL [(0, Sx.slcV 0 n), (3, .int true .i64 m), (4, .int true .i64 t)]) (Sx.hpL [(0, .cells false 1 (n) (.fn fun j => [.int true .i64 (l j)]))]) 1 [true]) := Sx.eqn (q := (True ∧ ((!decide ((↑t : Int) = (1 : Int))) = true))) (by kernel_rfl) ⟨trivial, c0⟩
theorem roF (B : Nat) (hB : B ≤ 1) (n i m t : Nat) (l : Nat → Int) : Sx.GoesB Try.prog (Sx.nav [1,0,1,0,0,1,0,0,1,1] (Sx.bodyOf Try.f59)) Try.f59.ntmps B 1 1 (Sx.frL [(0, Sx.slcV 0 n), (3, .int true .i64 m), (4, .int true .i64 t)]) (Sx.hpL [(0, .cells false 1 (n) (.fn fun j => [.int true .i64 (l j)]))]) fun e fr' H' => (cond (decide ((↑t : Int) = (1 : Int))) (e = .normal ∧ fr' = Sx.frL [(0, .slc true false ⟨false, 0, 0, 0⟩ n), (3, .int true .i64 (↑m : Int))] ∧ H' = Sx.hpL [(0, .cells false 1 n (.fn fun j => [Sx.AV.int true .i64 (l j)]))]) (e = .ret ∧ fr' = Sx.frL [(0, .slc true false ⟨false, 0, 0, 0⟩ n), (2, .bool false), (3, .int true .i64 (↑m : Int))] ∧ H' = Sx.hpL [(0, .cells false 1 n (.fn fun j => [Sx.AV.int true .i64 (l j)]))])) := by
 cases t0 : decide ((↑t : Int) = (1 : Int)) with
 | true =>
  exact (Sx.GoesB.runN callTc_ok (callTc_reg _) (Sx.LoopsIn.none _ _ _) (roF_r0 n i m t l (by rw [t0]; rfl)) hB).mono fun e fr' H' h => by first | (simp only [t0, cond_true, cond_false]; exact h) | (simp only [t0, cond_true, cond_false] at h ⊢; exact h)
 | false =>
  exact (Sx.GoesB.runN callTc_ok (callTc_reg _) (Sx.LoopsIn.none _ _ _) (roF_r1 n i m t l (by rw [t0]; rfl)) hB).mono fun e fr' H' h => by first | (simp only [t0, cond_true, cond_false]; exact h) | (simp only [t0, cond_true, cond_false] at h ⊢; exact h)
theorem roG_r0 (n i m t : Nat) (l : Nat → Int) (c0 : (-9223372036854775808 : Int) ≤ (↑m : Int) + (1 : Int)) (c1 : (↑m : Int) + (1 : Int) ≤ (9223372036854775807 : Int)) : Sx.PieceN 1 (Sx.Ex.normal) [(0, .slc true false ⟨false, 0, 0, 0⟩ n), (3, .int true .i64 ((↑m : Int) + (1 : Int)))] [(0, .cells false 1 n (.fn fun j => [Sx.AV.int true .i64 (l j)]))] (piececallTc Try.f59 (Sx.nav [1,0,1,0,0,1,1] (Sx.bodyOf Try.f59)) (Sx.frL [(0, Sx.slcV 0 n), (3, .int true .i64 m)]) (Sx.hpL [(0, .cells false 1 (n) (.fn fun j => [.int true .i64 (l j)]))]) 1 []) := Sx.eqn (q := (True ∧ (((-9223372036854775808 : Int) ≤ (↑m : Int) + (1 : Int)) ∧ ((↑m : Int) + (1 : Int) ≤ (9223372036854775807 : Int))))) (by kernel_rfl) ⟨trivial, ⟨c0, c1⟩⟩
theorem roG (B : Nat) (hB : B ≤ 1) (n i m t : Nat) (l : Nat → Int) (x0 : ((↑m : Int) + (1 : Int) ≤ (9223372036854775807 : Int))) : Sx.GoesB Try.prog (Sx.nav [1,0,1,0,0,1,1] (Sx.bodyOf Try.f59)) Try.f59.ntmps B 1 1 (Sx.frL [(0, Sx.slcV 0 n), (3, .int true .i64 m)]) (Sx.hpL [(0, .cells false 1 (n) (.fn fun j => [.int true .i64 (l j)]))]) fun e fr' H' => (e = .normal ∧ fr' = Sx.frL [(0, .slc true false ⟨false, 0, 0, 0⟩ n), (3, .int true .i64 ((↑m : Int) + (1 : Int)))] ∧ H' = Sx.hpL [(0, .cells false 1 n (.fn fun j => [Sx.AV.int true .i64 (l j)]))]) := by
 exact (Sx.GoesB.runN callTc_ok (callTc_reg _) (Sx.LoopsIn.none _ _ _) (roG_r0 n i m t l (by first | decide | omega) (x0)) hB).mono fun e fr' H' h => h
theorem roZ_r0  : Sx.PieceN 1 (Sx.Ex.ret) [(2, .bool true)] [] (piececallTc Try.f59 (Sx.nav [1,1] (Sx.bodyOf Try.f59)) (Sx.frL []) (Sx.hpL []) 1 []) := Sx.eqn (q := True) (by kernel_rfl) trivial
theorem roZ (B : Nat) (hB : B ≤ 1)  : Sx.GoesB Try.prog (Sx.nav [1,1] (Sx.bodyOf Try.f59)) Try.f59.ntmps B 1 1 (Sx.frL []) (Sx.hpL []) fun e fr' H' => (e = .ret ∧ fr' = Sx.frL [(2, .bool true)] ∧ H' = Sx.hpL []) := by
 exact (Sx.GoesB.runN callTc_ok (callTc_reg _) (Sx.LoopsIn.none _ _ _) (roZ_r0 ) hB).mono fun e fr' H' h => h
theorem ro_is : (Sx.bodyOf Try.f59) = .seq (Sx.nav [0] (Sx.bodyOf Try.f59)) (.seq (.seq (Sx.nav [1,0,0] (Sx.bodyOf Try.f59)) (.block 0 (.loop (Sx.nav [1,0,1,0,0] (Sx.bodyOf Try.f59))))) (Sx.nav [1,1] (Sx.bodyOf Try.f59))) := by kernel_rfl
theorem ro_o : Sx.nav [1,0,1,0,0] (Sx.bodyOf Try.f59) = .seq (Sx.nav [1,0,1,0,0,0] (Sx.bodyOf Try.f59)) (.seq (.block 1 (.seq (Sx.nav [1,0,1,0,0,1,0,0,0] (Sx.bodyOf Try.f59)) (.seq (.seq (Sx.nav [1,0,1,0,0,1,0,0,1,0,0] (Sx.bodyOf Try.f59)) (.block 2 (.loop (Sx.nav [1,0,1,0,0,1,0,0,1,0,1,0,0] (Sx.bodyOf Try.f59))))) (Sx.nav [1,0,1,0,0,1,0,0,1,1] (Sx.bodyOf Try.f59))))) (Sx.nav [1,0,1,0,0,1,1] (Sx.bodyOf Try.f59))) := by kernel_rfl
theorem ro_in (n m : Nat) (l : Nat → Int) (hm : n ≤ 9223372036854775807) : Sx.GoesB Try.prog (.block 2 (.loop (Sx.nav [1,0,1,0,0,1,0,0,1,0,1,0,0] (Sx.bodyOf Try.f59)))) Try.f59.ntmps 1 1 1 (Sx.frL [(0, Sx.slcV 0 n), (3, .int true .i64 ((m : Nat) : Int)), (4, .int true .i64 ((0 : Nat) : Int)), (5, .int false .i64 0)]) (Sx.hpL [(0, .cells false 1 (n) (.fn fun j => [.int true .i64 (l j)]))]) (Sx.Nm [(0, Sx.slcV 0 n), (3, .int true .i64 ((m : Nat) : Int)), (4, .int true .i64 ((tm l (m : Nat) n : Nat) : Int))] [(0, .cells false 1 (n) (.fn fun j => [.int true .i64 (l j)]))]) := by
 refine Sx.GoesB.weakL (fl := [(0, Sx.slcV 0 n), (3, .int true .i64 ((m : Nat) : Int)), (4, .int true .i64 ((tm l (m : Nat) 0 : Nat) : Int)), (5, .int true .i64 ((0 : Nat) : Int))]) (bl := [(0, .cells false 1 (n) (.fn fun j => [.int true .i64 (l j)]))]) ⟨(Sx.re rfl), (Sx.re rfl), (Sx.ri rfl), (Sx.ri rfl), trivial⟩ ⟨(Sx.hs rfl), trivial⟩ ?_
 refine (Sx.GoesB.count n (fun i => [(0, Sx.slcV 0 n), (3, .int true .i64 ((m : Nat) : Int)), (4, .int true .i64 ((tm l (m : Nat) i : Nat) : Int)), (5, .int true .i64 ((i : Nat) : Int))]) (fun _ => [(0, .cells false 1 (n) (.fn fun j => [.int true .i64 (l j)]))]) [(0, Sx.slcV 0 n), (3, .int true .i64 ((m : Nat) : Int)), (4, .int true .i64 ((tm l (m : Nat) n : Nat) : Int))] [(0, .cells false 1 (n) (.fn fun j => [.int true .i64 (l j)]))] (fun _ => True) (fun _ _ => False) trivial (fun i hi _ => ?_)).mono fun e fr' H' h => ?_
 ·have ht : tm l (m : Nat) i ≤ i := cnt_n
  refine (roL 1 (by omega) n i m (tm l (m : Nat) i) l (fun t => by have := of_decide_eq_true t; omega) (fun t => by have := of_decide_eq_true t; omega)).post fun e fr' H' h => ?_
  refine Sx.cond_elim h (fun t h => ?_) (fun t h => ?_)
  ·have hlt : i < n := by have := of_decide_eq_true t; omega
   have es : tm l (m : Nat) (i + 1) = tm l (m : Nat) i + (bif decide (l i = (m : Nat)) then 1 else 0) := rfl
   rw [Nat.zero_add] at h
   refine Sx.cond_elim h (fun t2 h => ?_) (fun t2 h => ?_)
   ·obtain ⟨rfl, rfl, rfl⟩ := h
    exact ⟨[(0, Sx.slcV 0 n), (3, .int true .i64 ((m : Nat) : Int)), (4, .int true .i64 ((tm l (m : Nat) (i + 1) : Nat) : Int)), (5, .int true .i64 ((i + 1 : Nat) : Int))], [(0, .cells false 1 (n) (.fn fun j => [.int true .i64 (l j)]))], ⟨(Sx.re rfl), (Sx.re rfl), ⟨_, rfl, Sx.AV.ge.int' _ _ _ (by rw [es, t2]; rfl)⟩, (Sx.ri rfl), trivial⟩, ⟨(Sx.hs rfl), trivial⟩, .inl ⟨rfl, hlt, trivial, rfl, rfl⟩⟩
   ·obtain ⟨rfl, rfl, rfl⟩ := h
    exact ⟨[(0, Sx.slcV 0 n), (3, .int true .i64 ((m : Nat) : Int)), (4, .int true .i64 ((tm l (m : Nat) (i + 1) : Nat) : Int)), (5, .int true .i64 ((i + 1 : Nat) : Int))], [(0, .cells false 1 (n) (.fn fun j => [.int true .i64 (l j)]))], ⟨(Sx.re rfl), (Sx.re rfl), ⟨_, rfl, Sx.AV.ge.int' _ _ _ (by rw [es, t2]; rfl)⟩, (Sx.ri rfl), trivial⟩, ⟨(Sx.hs rfl), trivial⟩, .inl ⟨rfl, hlt, trivial, rfl, rfl⟩⟩
  ·obtain rfl : n = i := by have := of_decide_eq_false t; omega
   obtain ⟨rfl, rfl, rfl⟩ := h
   exact ⟨[(0, Sx.slcV 0 n), (3, .int true .i64 ((m : Nat) : Int)), (4, .int true .i64 ((tm l (m : Nat) n : Nat) : Int))], [(0, .cells false 1 (n) (.fn fun j => [.int true .i64 (l j)]))], ⟨(Sx.re rfl), (Sx.re rfl), (Sx.re rfl), trivial⟩, ⟨(Sx.hs rfl), trivial⟩, .inr (.inl ⟨rfl, trivial, rfl, rfl⟩)⟩
 ·rcases h with ⟨e1, _, e2, e3⟩ | ⟨_, h⟩
  ·exact ⟨e1, e2, e3⟩
  ·exact h.elim
theorem ro_goes (n : Nat) (l : Nat → Int) (hm : n ≤ 9223372036854775807) :
  Sx.GoesB Try.prog (Sx.bodyOf Try.f59) Try.f59.ntmps 1 1 1 (Sx.frameOf [Sx.slcV 0 n] 0 .e) (Sx.hpL [(0, .cells false 1 (n) (.fn fun j => [.int true .i64 (l j)]))]) fun e fr' H' => (e = .ret ∨ e = .normal) ∧ ∃ u, fr'.get 2 = some u ∧ Sx.AV.ge u (.sbool (Sx.cd (∀ i, i < n → 0 ≤ idx l (i : Nat) n))) := by
 rw [ro_is]
 refine Sx.GoesB.seqN (K1 := 1) (roA 1 (by omega) n l) (by omega) ?_
 refine Sx.GoesB.seq (K1 := 1) (by omega) (Sx.GoesB.seqN (K1 := 1) (roB 1 (by omega) n l) (by omega) ?_)
 refine Sx.GoesB.weakL (fl := [(0, Sx.slcV 0 n), (3, .int true .i64 ((0 : Nat) : Int))]) (bl := [(0, .cells false 1 (n) (.fn fun j => [.int true .i64 (l j)]))]) ⟨(Sx.re rfl), (Sx.ri rfl), trivial⟩ ⟨(Sx.hs rfl), trivial⟩ ?_
 refine (Sx.GoesB.count n (fun m => [(0, Sx.slcV 0 n), (3, .int true .i64 ((m : Nat) : Int))]) (fun _ => [(0, .cells false 1 (n) (.fn fun j => [.int true .i64 (l j)]))]) [] [] (fun m => ∀ i, i < m → 0 ≤ idx l (i : Nat) n) (fun fr _ => (¬ ∀ i, i < n → 0 ≤ idx l (i : Nat) n) ∧ fr.get 2 = some (.bool false)) (fun i hi => absurd hi (Nat.not_lt_zero i)) (fun m hi hg => ?_)).mono fun e fr' H' h => ?_
 ·rw [ro_o]
  refine Sx.GoesB.seq (K1 := 1) (by omega) ((roC 1 (by omega) n 0 m 0 l).post fun e fr' H' h => ?_)
  refine Sx.cond_elim h (fun t h => ?_) (fun t h => ?_)
  case refine_2 =>
   obtain rfl : m = n := by have := of_decide_eq_false t; omega
   obtain ⟨rfl, rfl, rfl⟩ := h
   exact ⟨[], [], trivial, trivial, .inr (.inl ⟨rfl, hg, rfl, rfl⟩)⟩
  have hlt : m < n := by have := of_decide_eq_true t; omega
  obtain ⟨rfl, rfl, rfl⟩ := h
  refine ⟨[(0, Sx.slcV 0 n), (3, .int true .i64 ((m : Nat) : Int))], [(0, .cells false 1 (n) (.fn fun j => [.int true .i64 (l j)]))], ⟨(Sx.re rfl), (Sx.re rfl), trivial⟩, ⟨(Sx.hs rfl), trivial⟩, ?_⟩
  refine Sx.GoesB.seq (K1 := 1) (by omega) (Sx.GoesB.block (Sx.GoesB.seqN (K1 := 1) (Sx.GoesB.toN (F' := [(0, Sx.slcV 0 n), (3, .int true .i64 ((m : Nat) : Int)), (4, .int true .i64 ((0 : Nat) : Int))]) (H1' := [(0, .cells false 1 (n) (.fn fun j => [.int true .i64 (l j)]))]) (roD 1 (by omega) n 0 m 0 l) ⟨(Sx.re rfl), (Sx.re rfl), (Sx.ri rfl), trivial⟩ ⟨(Sx.hs rfl), trivial⟩) (by omega) (Sx.GoesB.seq (K1 := 1) (by omega) (Sx.GoesB.seqN (K1 := 1) (roE 1 (by omega) n 0 m 0 l) (by omega) ((ro_in n m l hm).mono fun e fr' H' h => ?_)))))
  obtain ⟨rfl, rfl, rfl⟩ := h
  refine (roF 1 (by omega) n 0 m (tm l (m : Nat) n) l).mono fun e fr' H' h => ?_
  refine Sx.cond_elim h (fun t h => ?_) (fun t h => ?_)
  ·have e1 : tm l (m : Nat) n = 1 := by have := of_decide_eq_true t; omega
   obtain ⟨rfl, rfl, rfl⟩ := h
   refine (roG 1 (by omega) n 0 m 0 l (by omega)).post fun e fr' H' ⟨e2, e3, e4⟩ => ?_
   subst e2 e3 e4
   exact ⟨[(0, Sx.slcV 0 n), (3, .int true .i64 ((m + 1 : Nat) : Int))], [(0, .cells false 1 (n) (.fn fun j => [.int true .i64 (l j)]))], ⟨(Sx.re rfl), (Sx.ri rfl), trivial⟩, ⟨(Sx.hs rfl), trivial⟩, .inl ⟨rfl, hlt, fun i hi => by
    by_cases c : i < m
    ·exact hg i c
    ·obtain rfl : i = m := by omega
     exact tm_mem e1, rfl, rfl⟩⟩
  ·obtain ⟨rfl, rfl, rfl⟩ := h
   exact .inr (.inr ⟨rfl, fun c => of_decide_eq_false t (by rw [tm_one c m hlt]; rfl), rfl⟩)
 ·rcases h with ⟨rfl, hg, rfl, rfl⟩ | ⟨rfl, h1, h2⟩
  ·refine Sx.GoesB.mono (roZ 1 (by omega)) fun e fr' H' ⟨e1, e2, e3⟩ => ?_
   subst e1 e2 e3
   exact ⟨.inl rfl, _, rfl, by rw [Sx.cd_true hg]; exact fun N μ c h => by simpa only [Sx.Rep] using h⟩
  ·exact ⟨.inl rfl, _, h2, by rw [Sx.cd_false h1]; exact fun N μ c h => by simpa only [Sx.Rep] using h⟩
noncomputable def orderS : List Sx.AV → Sx.M Sx.AV
 | [x] => (Sx.rd 1 x fun len rows => len ≤ 9223372036854775807 ∧ ∀ j, j < len → IRow (rows j)).andThen fun a => Sx.M.ret (.sbool (Sx.cd (∀ i, i < a.1 → 0 ≤ idx (fun j => iof (a.2 j)) (i : Nat) a.1)))
 | _ => Sx.M.no
theorem orderS_ok : ∀ args v g g', orderS args g = .done v g' → Sx.CallIs Try.prog 59 args v g g' := by
 intro args v g g' h
 unfold orderS at h
 split at h
 ·rename_i x
  obtain ⟨⟨la, ra⟩, g1, a1, h1⟩ := Sx.done_of h
  obtain ⟨rfl, rfl⟩ := Sx.ret_done h1
  obtain ⟨q1, k, f1⟩ := Sx.rd_done a1 (by omega)
  refine Sx.reads (c := (Sx.bodyOf Try.f59)) Try.func59 (by kernel_rfl) (by kernel_rfl) k [⟨x, 1, la, ra⟩] (fun hp v hv => ?_) (argsC := [Sx.slcV 0 la]) (fun hp N μ cs hcs => ?_) (nms := []) (bs := []) (K' := 1) (fun hp => ?_) rfl trivial (by rw [k.1]; rfl) (by rw [k.2.1]; rfl) id
  ·rcases List.mem_cons.1 hv with rfl | hv
   ·exact (f1 hp).1
   ·cases hv
  ·simp only [Sx.Reps] at hcs
   obtain ⟨c, r, rfl, hc, rfl⟩ := hcs
   simp only [Sx.Reps]
   exact ⟨c, _, rfl, Sx.vw_val (l := [⟨x, 1, la, ra⟩]) (i := 0) (f1 hp).1 rfl hc, rfl⟩
  ·obtain ⟨_, hm, hz⟩ := f1 hp
   dsimp only at hm hz
   refine Sx.GoesB.weakGL (fl := [(0, Sx.slcV 0 la)]) (bl := [(0, .cells false 1 la (.fn fun j => [.int true .i64 (iof (ra j))]))]) ⟨⟨_, rfl, Sx.AV.ge.refl _⟩, trivial⟩ ⟨⟨_, rfl, rfl, rfl, rfl, fun j hj => (hz j hj).ge⟩, trivial⟩ ?_
   refine (ro_goes la  (fun j => iof (ra j)) hm).mono fun e fr' H' ⟨e1, u, e2, e3⟩ => ?_
   exact ⟨e1, _, _, Sx.res1 (t := 2) (by kernel_rfl) e2, trivial, e3, Sx.news0⟩
 ·exact (Sx.no_done h).elim
theorem orderS_tch : ∀ args, Sx.Tch (orderS args) := by
 intro args
 unfold orderS
 split
 ·exact (Sx.Tch.rd _ _ _).andThen fun _ => Sx.Tch.ret _
 ·exact Sx.Tch.no
noncomputable def gamU : Sx.Known := Sx.kc 54 Sx.toBits (Sx.kc 60 Sx.ofBits (Sx.kc 57 checkS (Sx.kc 59 orderS (Sx.kn))))
theorem gamU_ok : Sx.KnownOk Try.prog gamU := Sx.kc_ok ((Sx.toBits_is Try.prog).callIs Try.func54 (by kernel_rfl) (by kernel_rfl) (by kernel_rfl) (by kernel_rfl)) (Sx.kc_ok ((Sx.ofBits_is Try.prog).callIs Try.func60 (by kernel_rfl) (by kernel_rfl) (by kernel_rfl) (by kernel_rfl)) (Sx.kc_ok checkS_ok (Sx.kc_ok orderS_ok (Sx.kn_ok))))
theorem gamU_tch : Sx.KnownT gamU := Sx.kc_tch Sx.Tch.toBits (Sx.kc_tch Sx.Tch.ofBits (Sx.kc_tch checkS_tch (Sx.kc_tch orderS_tch (Sx.kn_tch))))
noncomputable def callU : Sx.Calls' := Sx.runN Try.prog gamU (Sx.regionC Try.prog) 1000 50
theorem callU_ok : Sx.CallOk Try.prog callU := Sx.engineC gamU_ok gamU_tch (by kernel_rfl) (by kernel_rfl) 1000 50
theorem callU_reg (n : Nat) : Sx.RegionOk Try.prog (Sx.regionC Try.prog callU n) n := Sx.runN_regionC gamU_ok gamU_tch (by kernel_rfl) (by kernel_rfl) 1000 50 n
noncomputable abbrev piececallU (f : Func) (c : Code) (fr : Sx.Fr) (H : Sx.T Sx.ABk) (K : Nat) (path : List Bool) : Sx.Res (Sx.Ex × Sx.Fr) :=
 Sx.codeA Try.prog callU (Sx.regionC Try.prog callU f.ntmps) Sx.noLoops f.ntmps 1000 c fr ⟨H, K, [], path, True⟩

theorem rpA_r0 (n : Nat) (l : Nat → Int) : Sx.PieceN 1 (Sx.Ex.normal) [(0, .slc true false ⟨false, 0, 0, 0⟩ n)] [(0, .cells false 1 n (.fn fun j => [Sx.AV.int true .i64 (l j)]))] (piececallU Try.f32 (Sx.nav [0] (Sx.bodyOf Try.f32)) (Sx.frameOf [Sx.slcV 0 n] 0 .e) (Sx.hpL [(0, .cells false 1 (n) (.fn fun j => [.int true .i64 (l j)]))]) 1 []) := Sx.eqn (q := True) (by kernel_rfl) trivial
theorem rpA (B : Nat) (hB : B ≤ 1) (n : Nat) (l : Nat → Int) : Sx.GoesB Try.prog (Sx.nav [0] (Sx.bodyOf Try.f32)) Try.f32.ntmps B 1 1 (Sx.frameOf [Sx.slcV 0 n] 0 .e) (Sx.hpL [(0, .cells false 1 (n) (.fn fun j => [.int true .i64 (l j)]))]) fun e fr' H' => (e = .normal ∧ fr' = Sx.frL [(0, .slc true false ⟨false, 0, 0, 0⟩ n)] ∧ H' = Sx.hpL [(0, .cells false 1 n (.fn fun j => [Sx.AV.int true .i64 (l j)]))]) := by
 exact (Sx.GoesB.runN callU_ok (callU_reg _) (Sx.LoopsIn.none _ _ _) (rpA_r0 n l) hB).mono fun e fr' H' h => h
theorem rpB_r0 (n : Nat) (l : Nat → Int) (c0 : decide ((64 : Int) < (↑n : Int)) = true) : Sx.PieceN 1 (Sx.Ex.ret) [(0, .slc true false ⟨false, 0, 0, 0⟩ n), (2, .int false .i64 0), (3, .int false .i64 3)] [(0, .cells false 1 n (.fn fun j => [Sx.AV.int true .i64 (l j)]))] (piececallU Try.f32 (Sx.nav [1,0] (Sx.bodyOf Try.f32)) (Sx.frL [(0, Sx.slcV 0 n)]) (Sx.hpL [(0, .cells false 1 (n) (.fn fun j => [.int true .i64 (l j)]))]) 1 [true]) := Sx.eqn (q := (True ∧ (decide ((64 : Int) < (↑n : Int)) = true))) (by kernel_rfl) ⟨trivial, c0⟩
theorem rpB_r1 (n : Nat) (l : Nat → Int) (c0 : decide ((64 : Int) < (↑n : Int)) = false) : Sx.PieceN 1 (Sx.Ex.normal) [(0, .slc true false ⟨false, 0, 0, 0⟩ n)] [(0, .cells false 1 n (.fn fun j => [Sx.AV.int true .i64 (l j)]))] (piececallU Try.f32 (Sx.nav [1,0] (Sx.bodyOf Try.f32)) (Sx.frL [(0, Sx.slcV 0 n)]) (Sx.hpL [(0, .cells false 1 (n) (.fn fun j => [.int true .i64 (l j)]))]) 1 [false]) := Sx.eqn (q := (True ∧ (decide ((64 : Int) < (↑n : Int)) = false))) (by kernel_rfl) ⟨trivial, c0⟩
theorem rpB (B : Nat) (hB : B ≤ 1) (n : Nat) (l : Nat → Int) : Sx.GoesB Try.prog (Sx.nav [1,0] (Sx.bodyOf Try.f32)) Try.f32.ntmps B 1 1 (Sx.frL [(0, Sx.slcV 0 n)]) (Sx.hpL [(0, .cells false 1 (n) (.fn fun j => [.int true .i64 (l j)]))]) fun e fr' H' => (cond (decide ((64 : Int) < (↑n : Int))) (e = .ret ∧ fr' = Sx.frL [(0, .slc true false ⟨false, 0, 0, 0⟩ n), (2, .int false .i64 0), (3, .int false .i64 3)] ∧ H' = Sx.hpL [(0, .cells false 1 n (.fn fun j => [Sx.AV.int true .i64 (l j)]))]) (e = .normal ∧ fr' = Sx.frL [(0, .slc true false ⟨false, 0, 0, 0⟩ n)] ∧ H' = Sx.hpL [(0, .cells false 1 n (.fn fun j => [Sx.AV.int true .i64 (l j)]))])) := by
 cases t0 : decide ((64 : Int) < (↑n : Int)) with
 | true =>
  exact (Sx.GoesB.runN callU_ok (callU_reg _) (Sx.LoopsIn.none _ _ _) (rpB_r0 n l t0) hB).mono fun e fr' H' h => by first | (simp only [t0, cond_true, cond_false]; exact h) | (simp only [t0, cond_true, cond_false] at h ⊢; exact h)
 | false =>
  exact (Sx.GoesB.runN callU_ok (callU_reg _) (Sx.LoopsIn.none _ _ _) (rpB_r1 n l t0) hB).mono fun e fr' H' h => by first | (simp only [t0, cond_true, cond_false]; exact h) | (simp only [t0, cond_true, cond_false] at h ⊢; exact h)
theorem rpC_r0 (n : Nat) (l : Nat → Int) (c0 : (0 : Nat) + n ≤ n) (c1 : n ≤ (9223372036854775807 : Nat)) (c2 : ∀ (j : Nat), j < n → IRow [Sx.AV.int true .i64 (l ((0 : Nat) + j))]) (c3 : ∀ (j : Nat), j < n → ∀ (u : Sx.AV), u ∈ [Sx.AV.int true .i64 (l ((0 : Nat) + j))] → Sx.AV.low (0 : Nat) u = true) (c4 : (!Sx.cd (∀ (i : Nat), i < n → (0 : Int) ≤ idx (fun j => iof [Sx.AV.int true .i64 (l ((0 : Nat) + j))]) (↑i : Int) n)) = false) : Sx.PieceN 1 (Sx.Ex.normal) [(0, .slc true false ⟨false, 0, 0, 0⟩ n)] [(0, .cells false 1 n (.fn fun j => [Sx.AV.int true .i64 (l j)]))] (piececallU Try.f32 (Sx.nav [1,1,0] (Sx.bodyOf Try.f32)) (Sx.frL [(0, Sx.slcV 0 n)]) (Sx.hpL [(0, .cells false 1 (n) (.fn fun j => [.int true .i64 (l j)]))]) 1 [false]) := Sx.eqn (q := (((True ∧ ((0 : Nat) + n ≤ n)) ∧ (((n ≤ (9223372036854775807 : Nat)) ∧ (∀ (j : Nat), j < n → IRow [Sx.AV.int true .i64 (l ((0 : Nat) + j))])) ∧ (∀ (j : Nat), j < n → ∀ (u : Sx.AV), u ∈ [Sx.AV.int true .i64 (l ((0 : Nat) + j))] → Sx.AV.low (0 : Nat) u = true))) ∧ ((!Sx.cd (∀ (i : Nat), i < n → (0 : Int) ≤ idx (fun j => iof [Sx.AV.int true .i64 (l ((0 : Nat) + j))]) (↑i : Int) n)) = false))) (by kernel_rfl) ⟨⟨⟨trivial, c0⟩, ⟨⟨c1, c2⟩, c3⟩⟩, c4⟩
theorem rpC_r1 (n : Nat) (l : Nat → Int) (c0 : (0 : Nat) + n ≤ n) (c1 : n ≤ (9223372036854775807 : Nat)) (c2 : ∀ (j : Nat), j < n → IRow [Sx.AV.int true .i64 (l ((0 : Nat) + j))]) (c3 : ∀ (j : Nat), j < n → ∀ (u : Sx.AV), u ∈ [Sx.AV.int true .i64 (l ((0 : Nat) + j))] → Sx.AV.low (0 : Nat) u = true) (c4 : (!Sx.cd (∀ (i : Nat), i < n → (0 : Int) ≤ idx (fun j => iof [Sx.AV.int true .i64 (l ((0 : Nat) + j))]) (↑i : Int) n)) = true) : Sx.PieceN 1 (Sx.Ex.ret) [(0, .slc true false ⟨false, 0, 0, 0⟩ n), (2, .int false .i64 0), (3, .int false .i64 2)] [(0, .cells false 1 n (.fn fun j => [Sx.AV.int true .i64 (l j)]))] (piececallU Try.f32 (Sx.nav [1,1,0] (Sx.bodyOf Try.f32)) (Sx.frL [(0, Sx.slcV 0 n)]) (Sx.hpL [(0, .cells false 1 (n) (.fn fun j => [.int true .i64 (l j)]))]) 1 [true]) := Sx.eqn (q := (((True ∧ ((0 : Nat) + n ≤ n)) ∧ (((n ≤ (9223372036854775807 : Nat)) ∧ (∀ (j : Nat), j < n → IRow [Sx.AV.int true .i64 (l ((0 : Nat) + j))])) ∧ (∀ (j : Nat), j < n → ∀ (u : Sx.AV), u ∈ [Sx.AV.int true .i64 (l ((0 : Nat) + j))] → Sx.AV.low (0 : Nat) u = true))) ∧ ((!Sx.cd (∀ (i : Nat), i < n → (0 : Int) ≤ idx (fun j => iof [Sx.AV.int true .i64 (l ((0 : Nat) + j))]) (↑i : Int) n)) = true))) (by kernel_rfl) ⟨⟨⟨trivial, c0⟩, ⟨⟨c1, c2⟩, c3⟩⟩, c4⟩
theorem rpC (B : Nat) (hB : B ≤ 1) (n : Nat) (l : Nat → Int) (x0 : (n ≤ (9223372036854775807 : Nat))) (x1 : (∀ (j : Nat), j < n → IRow [Sx.AV.int true .i64 (l ((0 : Nat) + j))])) (x2 : (∀ (j : Nat), j < n → ∀ (u : Sx.AV), u ∈ [Sx.AV.int true .i64 (l ((0 : Nat) + j))] → Sx.AV.low (0 : Nat) u = true)) : Sx.GoesB Try.prog (Sx.nav [1,1,0] (Sx.bodyOf Try.f32)) Try.f32.ntmps B 1 1 (Sx.frL [(0, Sx.slcV 0 n)]) (Sx.hpL [(0, .cells false 1 (n) (.fn fun j => [.int true .i64 (l j)]))]) fun e fr' H' => (cond (Sx.cd (∀ (i : Nat), i < n → (0 : Int) ≤ idx (fun j => iof [Sx.AV.int true .i64 (l ((0 : Nat) + j))]) (↑i : Int) n)) (e = .normal ∧ fr' = Sx.frL [(0, .slc true false ⟨false, 0, 0, 0⟩ n)] ∧ H' = Sx.hpL [(0, .cells false 1 n (.fn fun j => [Sx.AV.int true .i64 (l j)]))]) (e = .ret ∧ fr' = Sx.frL [(0, .slc true false ⟨false, 0, 0, 0⟩ n), (2, .int false .i64 0), (3, .int false .i64 2)] ∧ H' = Sx.hpL [(0, .cells false 1 n (.fn fun j => [Sx.AV.int true .i64 (l j)]))])) := by
 cases t0 : Sx.cd (∀ (i : Nat), i < n → (0 : Int) ≤ idx (fun j => iof [Sx.AV.int true .i64 (l ((0 : Nat) + j))]) (↑i : Int) n) with
 | true =>
  exact (Sx.GoesB.runN callU_ok (callU_reg _) (Sx.LoopsIn.none _ _ _) (rpC_r0 n l (by first | decide | ((try simp only [decide_eq_true_eq, decide_eq_false_iff_not] at t0); (try simp only [List.length_take, List.length_drop]); omega)) (x0) (x1) (x2) (by rw [t0]; rfl)) hB).mono fun e fr' H' h => by first | (simp only [t0, cond_true, cond_false]; exact h) | (simp only [t0, cond_true, cond_false] at h ⊢; exact h)
 | false =>
  exact (Sx.GoesB.runN callU_ok (callU_reg _) (Sx.LoopsIn.none _ _ _) (rpC_r1 n l (by first | decide | ((try simp only [decide_eq_true_eq, decide_eq_false_iff_not] at t0); (try simp only [List.length_take, List.length_drop]); omega)) (x0) (x1) (x2) (by rw [t0]; rfl)) hB).mono fun e fr' H' h => by first | (simp only [t0, cond_true, cond_false]; exact h) | (simp only [t0, cond_true, cond_false] at h ⊢; exact h)
theorem rpD_r0 (n : Nat) (l : Nat → Int) : Sx.PieceN 1 (Sx.Ex.normal) [(0, .slc true false ⟨false, 0, 0, 0⟩ n), (4, .int false .i64 1)] [(0, .cells false 1 n (.fn fun j => [Sx.AV.int true .i64 (l j)]))] (piececallU Try.f32 (Sx.nav [1,1,1,0] (Sx.bodyOf Try.f32)) (Sx.frL [(0, Sx.slcV 0 n)]) (Sx.hpL [(0, .cells false 1 (n) (.fn fun j => [.int true .i64 (l j)]))]) 1 []) := Sx.eqn (q := True) (by kernel_rfl) trivial
theorem rpD (B : Nat) (hB : B ≤ 1) (n : Nat) (l : Nat → Int) : Sx.GoesB Try.prog (Sx.nav [1,1,1,0] (Sx.bodyOf Try.f32)) Try.f32.ntmps B 1 1 (Sx.frL [(0, Sx.slcV 0 n)]) (Sx.hpL [(0, .cells false 1 (n) (.fn fun j => [.int true .i64 (l j)]))]) fun e fr' H' => (e = .normal ∧ fr' = Sx.frL [(0, .slc true false ⟨false, 0, 0, 0⟩ n), (4, .int false .i64 1)] ∧ H' = Sx.hpL [(0, .cells false 1 n (.fn fun j => [Sx.AV.int true .i64 (l j)]))]) := by
 exact (Sx.GoesB.runN callU_ok (callU_reg _) (Sx.LoopsIn.none _ _ _) (rpD_r0 n l) hB).mono fun e fr' H' h => h
theorem rpE_r0 (n i k : Nat) (s : Int) (l : Nat → Int) : Sx.PieceN 1 (Sx.Ex.normal) [(0, .slc true false ⟨false, 0, 0, 0⟩ n), (4, .int true .i64 s), (5, .int false .i64 0)] [(0, .cells false 1 n (.fn fun j => [Sx.AV.int true .i64 (l j)]))] (piececallU Try.f32 (Sx.nav [1,1,1,1,0,0] (Sx.bodyOf Try.f32)) (Sx.frL [(0, Sx.slcV 0 n), (4, .int true .i64 s)]) (Sx.hpL [(0, .cells false 1 (n) (.fn fun j => [.int true .i64 (l j)]))]) 1 []) := Sx.eqn (q := True) (by kernel_rfl) trivial
theorem rpE (B : Nat) (hB : B ≤ 1) (n i k : Nat) (s : Int) (l : Nat → Int) : Sx.GoesB Try.prog (Sx.nav [1,1,1,1,0,0] (Sx.bodyOf Try.f32)) Try.f32.ntmps B 1 1 (Sx.frL [(0, Sx.slcV 0 n), (4, .int true .i64 s)]) (Sx.hpL [(0, .cells false 1 (n) (.fn fun j => [.int true .i64 (l j)]))]) fun e fr' H' => (e = .normal ∧ fr' = Sx.frL [(0, .slc true false ⟨false, 0, 0, 0⟩ n), (4, .int true .i64 s), (5, .int false .i64 0)] ∧ H' = Sx.hpL [(0, .cells false 1 n (.fn fun j => [Sx.AV.int true .i64 (l j)]))]) := by
 exact (Sx.GoesB.runN callU_ok (callU_reg _) (Sx.LoopsIn.none _ _ _) (rpE_r0 n i k s l) hB).mono fun e fr' H' h => h
theorem rpF_r0 (n i k : Nat) (s : Int) (l : Nat → Int) (c0 : decide ((↑i : Int) < (↑n : Int)) = true) : Sx.PieceN 1 (Sx.Ex.normal) [(0, .slc true false ⟨false, 0, 0, 0⟩ n), (4, .int true .i64 s), (5, .int true .i64 (↑i : Int))] [(0, .cells false 1 n (.fn fun j => [Sx.AV.int true .i64 (l j)]))] (piececallU Try.f32 (Sx.nav [1,1,1,1,0,1,0,0,0] (Sx.bodyOf Try.f32)) (Sx.frL [(0, Sx.slcV 0 n), (4, .int true .i64 s), (5, .int true .i64 i)]) (Sx.hpL [(0, .cells false 1 (n) (.fn fun j => [.int true .i64 (l j)]))]) 1 [true]) := Sx.eqn (q := (True ∧ (decide ((↑i : Int) < (↑n : Int)) = true))) (by kernel_rfl) ⟨trivial, c0⟩
theorem rpF_r1 (n i k : Nat) (s : Int) (l : Nat → Int) (c0 : decide ((↑i : Int) < (↑n : Int)) = false) : Sx.PieceN 1 (Sx.Ex.exit (0 : Nat)) [(0, .slc true false ⟨false, 0, 0, 0⟩ n), (4, .int true .i64 s), (5, .int true .i64 (↑i : Int))] [(0, .cells false 1 n (.fn fun j => [Sx.AV.int true .i64 (l j)]))] (piececallU Try.f32 (Sx.nav [1,1,1,1,0,1,0,0,0] (Sx.bodyOf Try.f32)) (Sx.frL [(0, Sx.slcV 0 n), (4, .int true .i64 s), (5, .int true .i64 i)]) (Sx.hpL [(0, .cells false 1 (n) (.fn fun j => [.int true .i64 (l j)]))]) 1 [false]) := Sx.eqn (q := (True ∧ (decide ((↑i : Int) < (↑n : Int)) = false))) (by kernel_rfl) ⟨trivial, c0⟩
theorem rpF (B : Nat) (hB : B ≤ 1) (n i k : Nat) (s : Int) (l : Nat → Int) : Sx.GoesB Try.prog (Sx.nav [1,1,1,1,0,1,0,0,0] (Sx.bodyOf Try.f32)) Try.f32.ntmps B 1 1 (Sx.frL [(0, Sx.slcV 0 n), (4, .int true .i64 s), (5, .int true .i64 i)]) (Sx.hpL [(0, .cells false 1 (n) (.fn fun j => [.int true .i64 (l j)]))]) fun e fr' H' => (cond (decide ((↑i : Int) < (↑n : Int))) (e = .normal ∧ fr' = Sx.frL [(0, .slc true false ⟨false, 0, 0, 0⟩ n), (4, .int true .i64 s), (5, .int true .i64 (↑i : Int))] ∧ H' = Sx.hpL [(0, .cells false 1 n (.fn fun j => [Sx.AV.int true .i64 (l j)]))]) (e = .exit 0 ∧ fr' = Sx.frL [(0, .slc true false ⟨false, 0, 0, 0⟩ n), (4, .int true .i64 s), (5, .int true .i64 (↑i : Int))] ∧ H' = Sx.hpL [(0, .cells false 1 n (.fn fun j => [Sx.AV.int true .i64 (l j)]))])) := by
 cases t0 : decide ((↑i : Int) < (↑n : Int)) with
 | true =>
  exact (Sx.GoesB.runN callU_ok (callU_reg _) (Sx.LoopsIn.none _ _ _) (rpF_r0 n i k s l t0) hB).mono fun e fr' H' h => by first | (simp only [t0, cond_true, cond_false]; exact h) | (simp only [t0, cond_true, cond_false] at h ⊢; exact h)
 | false =>
  exact (Sx.GoesB.runN callU_ok (callU_reg _) (Sx.LoopsIn.none _ _ _) (rpF_r1 n i k s l t0) hB).mono fun e fr' H' h => by first | (simp only [t0, cond_true, cond_false]; exact h) | (simp only [t0, cond_true, cond_false] at h ⊢; exact h)
theorem rpG_r0 (n i k : Nat) (s : Int) (l : Nat → Int) (c0 : (-9223372036854775808 : Int) ≤ (↑i : Int) + (1 : Int)) (c1 : (↑i : Int) + (1 : Int) ≤ (9223372036854775807 : Int)) : Sx.PieceN 1 (Sx.Ex.normal) [(0, .slc true false ⟨false, 0, 0, 0⟩ n), (4, .int true .i64 s), (5, .int true .i64 (↑i : Int)), (6, .int true .i64 ((↑i : Int) + (1 : Int)))] [(0, .cells false 1 n (.fn fun j => [Sx.AV.int true .i64 (l j)]))] (piececallU Try.f32 (Sx.nav [1,1,1,1,0,1,0,0,1,0,0,0] (Sx.bodyOf Try.f32)) (Sx.frL [(0, Sx.slcV 0 n), (4, .int true .i64 s), (5, .int true .i64 i)]) (Sx.hpL [(0, .cells false 1 (n) (.fn fun j => [.int true .i64 (l j)]))]) 1 []) := Sx.eqn (q := (True ∧ (((-9223372036854775808 : Int) ≤ (↑i : Int) + (1 : Int)) ∧ ((↑i : Int) + (1 : Int) ≤ (9223372036854775807 : Int))))) (by kernel_rfl) ⟨trivial, ⟨c0, c1⟩⟩
theorem rpG (B : Nat) (hB : B ≤ 1) (n i k : Nat) (s : Int) (l : Nat → Int) (x0 : ((↑i : Int) + (1 : Int) ≤ (9223372036854775807 : Int))) : Sx.GoesB Try.prog (Sx.nav [1,1,1,1,0,1,0,0,1,0,0,0] (Sx.bodyOf Try.f32)) Try.f32.ntmps B 1 1 (Sx.frL [(0, Sx.slcV 0 n), (4, .int true .i64 s), (5, .int true .i64 i)]) (Sx.hpL [(0, .cells false 1 (n) (.fn fun j => [.int true .i64 (l j)]))]) fun e fr' H' => (e = .normal ∧ fr' = Sx.frL [(0, .slc true false ⟨false, 0, 0, 0⟩ n), (4, .int true .i64 s), (5, .int true .i64 (↑i : Int)), (6, .int true .i64 ((↑i : Int) + (1 : Int)))] ∧ H' = Sx.hpL [(0, .cells false 1 n (.fn fun j => [Sx.AV.int true .i64 (l j)]))]) := by
 exact (Sx.GoesB.runN callU_ok (callU_reg _) (Sx.LoopsIn.none _ _ _) (rpG_r0 n i k s l (by first | decide | omega) (x0)) hB).mono fun e fr' H' h => h
theorem rpL_r0 (n i k : Nat) (s : Int) (l : Nat → Int) (c0 : decide ((↑k : Int) < (↑n : Int)) = true) (c1 : (0 : Int) ≤ (↑i : Int)) (c2 : (↑i : Int) < (↑n : Int)) (c3 : (0 : Nat) + i < n) (c4 : (0 : Int) ≤ (↑k : Int)) (c5 : (↑k : Int) < (↑n : Int)) (c6 : (0 : Nat) + k < n) (c7 : decide (l ((0 : Nat) + k) < l ((0 : Nat) + i)) = true) (c8 : (-9223372036854775808 : Int) ≤ (0 : Int) - s) (c9 : (0 : Int) - s ≤ (9223372036854775807 : Int)) (c10 : (-9223372036854775808 : Int) ≤ (↑k : Int) + (1 : Int)) (c11 : (↑k : Int) + (1 : Int) ≤ (9223372036854775807 : Int)) : Sx.PieceN 1 (Sx.Ex.normal) [(0, .slc true false ⟨false, 0, 0, 0⟩ n), (4, .int true .i64 ((0 : Int) - s)), (5, .int true .i64 (↑i : Int)), (6, .int true .i64 ((↑k : Int) + (1 : Int)))] [(0, .cells false 1 n (.fn fun j => [Sx.AV.int true .i64 (l j)]))] (piececallU Try.f32 (Sx.nav [1,1,1,1,0,1,0,0,1,0,0,1,0,0] (Sx.bodyOf Try.f32)) (Sx.frL [(0, Sx.slcV 0 n), (4, .int true .i64 s), (5, .int true .i64 i), (6, .int true .i64 k)]) (Sx.hpL [(0, .cells false 1 (n) (.fn fun j => [.int true .i64 (l j)]))]) 1 [true, true]) := Sx.eqn (q := ((((((((True ∧ (decide ((↑k : Int) < (↑n : Int)) = true)) ∧ (((0 : Int) ≤ (↑i : Int)) ∧ ((↑i : Int) < (↑n : Int)))) ∧ ((0 : Nat) + i < n)) ∧ (((0 : Int) ≤ (↑k : Int)) ∧ ((↑k : Int) < (↑n : Int)))) ∧ ((0 : Nat) + k < n)) ∧ (decide (l ((0 : Nat) + k) < l ((0 : Nat) + i)) = true)) ∧ (((-9223372036854775808 : Int) ≤ (0 : Int) - s) ∧ ((0 : Int) - s ≤ (9223372036854775807 : Int)))) ∧ (((-9223372036854775808 : Int) ≤ (↑k : Int) + (1 : Int)) ∧ ((↑k : Int) + (1 : Int) ≤ (9223372036854775807 : Int))))) (by kernel_rfl) ⟨⟨⟨⟨⟨⟨⟨⟨trivial, c0⟩, ⟨c1, c2⟩⟩, c3⟩, ⟨c4, c5⟩⟩, c6⟩, c7⟩, ⟨c8, c9⟩⟩, ⟨c10, c11⟩⟩
theorem rpL_r1 (n i k : Nat) (s : Int) (l : Nat → Int) (c0 : decide ((↑k : Int) < (↑n : Int)) = true) (c1 : (0 : Int) ≤ (↑i : Int)) (c2 : (↑i : Int) < (↑n : Int)) (c3 : (0 : Nat) + i < n) (c4 : (0 : Int) ≤ (↑k : Int)) (c5 : (↑k : Int) < (↑n : Int)) (c6 : (0 : Nat) + k < n) (c7 : decide (l ((0 : Nat) + k) < l ((0 : Nat) + i)) = false) (c8 : (-9223372036854775808 : Int) ≤ (↑k : Int) + (1 : Int)) (c9 : (↑k : Int) + (1 : Int) ≤ (9223372036854775807 : Int)) : Sx.PieceN 1 (Sx.Ex.normal) [(0, .slc true false ⟨false, 0, 0, 0⟩ n), (4, .int true .i64 s), (5, .int true .i64 (↑i : Int)), (6, .int true .i64 ((↑k : Int) + (1 : Int)))] [(0, .cells false 1 n (.fn fun j => [Sx.AV.int true .i64 (l j)]))] (piececallU Try.f32 (Sx.nav [1,1,1,1,0,1,0,0,1,0,0,1,0,0] (Sx.bodyOf Try.f32)) (Sx.frL [(0, Sx.slcV 0 n), (4, .int true .i64 s), (5, .int true .i64 i), (6, .int true .i64 k)]) (Sx.hpL [(0, .cells false 1 (n) (.fn fun j => [.int true .i64 (l j)]))]) 1 [true, false]) := Sx.eqn (q := (((((((True ∧ (decide ((↑k : Int) < (↑n : Int)) = true)) ∧ (((0 : Int) ≤ (↑i : Int)) ∧ ((↑i : Int) < (↑n : Int)))) ∧ ((0 : Nat) + i < n)) ∧ (((0 : Int) ≤ (↑k : Int)) ∧ ((↑k : Int) < (↑n : Int)))) ∧ ((0 : Nat) + k < n)) ∧ (decide (l ((0 : Nat) + k) < l ((0 : Nat) + i)) = false)) ∧ (((-9223372036854775808 : Int) ≤ (↑k : Int) + (1 : Int)) ∧ ((↑k : Int) + (1 : Int) ≤ (9223372036854775807 : Int))))) (by kernel_rfl) ⟨⟨⟨⟨⟨⟨⟨trivial, c0⟩, ⟨c1, c2⟩⟩, c3⟩, ⟨c4, c5⟩⟩, c6⟩, c7⟩, ⟨c8, c9⟩⟩
theorem rpL_r2 (n i k : Nat) (s : Int) (l : Nat → Int) (c0 : decide ((↑k : Int) < (↑n : Int)) = false) : Sx.PieceN 1 (Sx.Ex.exit (2 : Nat)) [(0, .slc true false ⟨false, 0, 0, 0⟩ n), (4, .int true .i64 s), (5, .int true .i64 (↑i : Int)), (6, .int true .i64 (↑k : Int))] [(0, .cells false 1 n (.fn fun j => [Sx.AV.int true .i64 (l j)]))] (piececallU Try.f32 (Sx.nav [1,1,1,1,0,1,0,0,1,0,0,1,0,0] (Sx.bodyOf Try.f32)) (Sx.frL [(0, Sx.slcV 0 n), (4, .int true .i64 s), (5, .int true .i64 i), (6, .int true .i64 k)]) (Sx.hpL [(0, .cells false 1 (n) (.fn fun j => [.int true .i64 (l j)]))]) 1 [false]) := Sx.eqn (q := (True ∧ (decide ((↑k : Int) < (↑n : Int)) = false))) (by kernel_rfl) ⟨trivial, c0⟩
theorem rpL (B : Nat) (hB : B ≤ 1) (n i k : Nat) (s : Int) (l : Nat → Int) (x0 : ((decide ((↑k : Int) < (↑n : Int))) = true → ((↑i : Int) < (↑n : Int)))) (x1 : ((decide ((↑k : Int) < (↑n : Int))) = true → ((0 : Nat) + i < n))) (x2 : ((decide ((↑k : Int) < (↑n : Int))) = true → ((decide (l ((0 : Nat) + k) < l ((0 : Nat) + i))) = true → ((-9223372036854775808 : Int) ≤ (0 : Int) - s)))) (x3 : ((decide ((↑k : Int) < (↑n : Int))) = true → ((decide (l ((0 : Nat) + k) < l ((0 : Nat) + i))) = true → ((0 : Int) - s ≤ (9223372036854775807 : Int))))) (x4 : ((decide ((↑k : Int) < (↑n : Int))) = true → ((↑k : Int) + (1 : Int) ≤ (9223372036854775807 : Int)))) : Sx.GoesB Try.prog (Sx.nav [1,1,1,1,0,1,0,0,1,0,0,1,0,0] (Sx.bodyOf Try.f32)) Try.f32.ntmps B 1 1 (Sx.frL [(0, Sx.slcV 0 n), (4, .int true .i64 s), (5, .int true .i64 i), (6, .int true .i64 k)]) (Sx.hpL [(0, .cells false 1 (n) (.fn fun j => [.int true .i64 (l j)]))]) fun e fr' H' => (cond (decide ((↑k : Int) < (↑n : Int))) (cond (decide (l ((0 : Nat) + k) < l ((0 : Nat) + i))) (e = .normal ∧ fr' = Sx.frL [(0, .slc true false ⟨false, 0, 0, 0⟩ n), (4, .int true .i64 ((0 : Int) - s)), (5, .int true .i64 (↑i : Int)), (6, .int true .i64 ((↑k : Int) + (1 : Int)))] ∧ H' = Sx.hpL [(0, .cells false 1 n (.fn fun j => [Sx.AV.int true .i64 (l j)]))]) (e = .normal ∧ fr' = Sx.frL [(0, .slc true false ⟨false, 0, 0, 0⟩ n), (4, .int true .i64 s), (5, .int true .i64 (↑i : Int)), (6, .int true .i64 ((↑k : Int) + (1 : Int)))] ∧ H' = Sx.hpL [(0, .cells false 1 n (.fn fun j => [Sx.AV.int true .i64 (l j)]))])) (e = .exit 2 ∧ fr' = Sx.frL [(0, .slc true false ⟨false, 0, 0, 0⟩ n), (4, .int true .i64 s), (5, .int true .i64 (↑i : Int)), (6, .int true .i64 (↑k : Int))] ∧ H' = Sx.hpL [(0, .cells false 1 n (.fn fun j => [Sx.AV.int true .i64 (l j)]))])) := by
 cases t0 : decide ((↑k : Int) < (↑n : Int)) with
 | true =>
  cases t1 : decide (l ((0 : Nat) + k) < l ((0 : Nat) + i)) with
  | true =>
   exact (Sx.GoesB.runN callU_ok (callU_reg _) (Sx.LoopsIn.none _ _ _) (rpL_r0 n i k s l t0 (by first | decide | ((try simp only [decide_eq_true_eq, decide_eq_false_iff_not] at t0 t1); (try simp only [List.length_take, List.length_drop]); omega)) (x0 t0) (x1 t0) (by first | decide | ((try simp only [decide_eq_true_eq, decide_eq_false_iff_not] at t0 t1); (try simp only [List.length_take, List.length_drop]); omega)) (by first | decide | ((try simp only [decide_eq_true_eq, decide_eq_false_iff_not] at t0 t1); (try simp only [List.length_take, List.length_drop]); omega)) (by first | decide | ((try simp only [decide_eq_true_eq, decide_eq_false_iff_not] at t0 t1); (try simp only [List.length_take, List.length_drop]); omega)) t1 (x2 t0 t1) (x3 t0 t1) (by first | decide | ((try simp only [decide_eq_true_eq, decide_eq_false_iff_not] at t0 t1); (try simp only [List.length_take, List.length_drop]); omega)) (x4 t0)) hB).mono fun e fr' H' h => by first | (simp only [t0, t1, cond_true, cond_false]; exact h) | (simp only [t0, t1, cond_true, cond_false] at h ⊢; exact h)
  | false =>
   exact (Sx.GoesB.runN callU_ok (callU_reg _) (Sx.LoopsIn.none _ _ _) (rpL_r1 n i k s l t0 (by first | decide | ((try simp only [decide_eq_true_eq, decide_eq_false_iff_not] at t0 t1); (try simp only [List.length_take, List.length_drop]); omega)) (x0 t0) (x1 t0) (by first | decide | ((try simp only [decide_eq_true_eq, decide_eq_false_iff_not] at t0 t1); (try simp only [List.length_take, List.length_drop]); omega)) (by first | decide | ((try simp only [decide_eq_true_eq, decide_eq_false_iff_not] at t0 t1); (try simp only [List.length_take, List.length_drop]); omega)) (by first | decide | ((try simp only [decide_eq_true_eq, decide_eq_false_iff_not] at t0 t1); (try simp only [List.length_take, List.length_drop]); omega)) t1 (by first | decide | ((try simp only [decide_eq_true_eq, decide_eq_false_iff_not] at t0 t1); (try simp only [List.length_take, List.length_drop]); omega)) (x4 t0)) hB).mono fun e fr' H' h => by first | (simp only [t0, t1, cond_true, cond_false]; exact h) | (simp only [t0, t1, cond_true, cond_false] at h ⊢; exact h)
 | false =>
  exact (Sx.GoesB.runN callU_ok (callU_reg _) (Sx.LoopsIn.none _ _ _) (rpL_r2 n i k s l t0) hB).mono fun e fr' H' h => by first | (simp only [t0, cond_true, cond_false]; exact h) | (simp only [t0, cond_true, cond_false] at h ⊢; exact h)
theorem rpH_r0 (n i k : Nat) (s : Int) (l : Nat → Int) (c0 : (-9223372036854775808 : Int) ≤ (↑i : Int) + (1 : Int)) (c1 : (↑i : Int) + (1 : Int) ≤ (9223372036854775807 : Int)) : Sx.PieceN 1 (Sx.Ex.normal) [(0, .slc true false ⟨false, 0, 0, 0⟩ n), (4, .int true .i64 s), (5, .int true .i64 ((↑i : Int) + (1 : Int)))] [(0, .cells false 1 n (.fn fun j => [Sx.AV.int true .i64 (l j)]))] (piececallU Try.f32 (Sx.nav [1,1,1,1,0,1,0,0,1,1] (Sx.bodyOf Try.f32)) (Sx.frL [(0, Sx.slcV 0 n), (4, .int true .i64 s), (5, .int true .i64 i)]) (Sx.hpL [(0, .cells false 1 (n) (.fn fun j => [.int true .i64 (l j)]))]) 1 []) := Sx.eqn (q := (True ∧ (((-9223372036854775808 : Int) ≤ (↑i : Int) + (1 : Int)) ∧ ((↑i : Int) + (1 : Int) ≤ (9223372036854775807 : Int))))) (by kernel_rfl) ⟨trivial, ⟨c0, c1⟩⟩
end Go.Proofs.Ytehhljcjdiokjaa
