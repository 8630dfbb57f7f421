/- GraphRounds: a part: summaries of functions that the statement reaches, printed by program, checked by the kernel. -/
import Derived.ProofKit
import Derived.OpenShut
import Derived.KernelRfl
import Derived.SizedLaws
import Derived.Test.YtgjdeclenlgaeaaProg
import Derived.Test.YtgjdeclenlgaeaaGraphRoundsPA
namespace Go.Proofs.Ytgjdeclenlgaeaa
open Go.ChangeShapes Go.WideShapes Go.ChangeAt Go.RowKit Go.Sx
set_option linter.unusedVariables false
set_option linter.unusedSimpArgs false
set_option maxRecDepth 100000

noncomputable abbrev ZDK (v0 : Tx) (v1 : Int) (v2 v3 : Nat) := ([(0, .str true v0), (1, iT v1), (2, ZA 2), (3, ZA 1), (4, ZA 3), (5, ZA 4), (15, ZF v2 0), (16, iT (v2 : Int)), (17, iT (v3 : Int))] : tF)
noncomputable abbrev ZEd (v0 : Tx) (v1 : Int) (v2 v3 : Nat) (v4 : Tx) := frL [(0, .str true v0), (1, iT v1), (2, ZA 2), (3, ZA 1), (4, ZA 3), (5, ZA 4), (15, ZF v2 0), (16, iT (v2 : Int)), (17, iT (v3 : Int)), (9, iT (v3 : Int)), (11, .str true v4)]
theorem wk_call (i k : Nat) (E : tE) (f : tX) (x y z : Tx) (cm : Int) (L m : Nat) (q : Bool × List Tx)
  (ih : GoesB Try.prog (bodyOf Try.f67) Try.f67.ntmps 5 6 6 (frameOf [.str true z, iT (i : Int), ZA 2, ZA 1, ZA 3, ZA 4] 0 .e) (hpL [(0, ZB k E), (1, ZDF k), (2, ZU y), (3, Z0 L), (4, ZDE), (5, ZV m f)]) (WPo k q y E)) :
  GoesB Try.prog ZBT Try.f67.ntmps 5 6 6 (ZEd x cm k i z) (hpL [(0, ZB k E), (1, ZDF k), (2, ZU y), (3, Z0 L), (4, ZDE), (5, ZV m f)]) (fun e fr' H' => e = .normal ∧ ∃ (m' : Nat) (f' : tX), fr' = frL [(53, .sbool q.1), (0, .str true x), (1, iT cm), (2, ZA 2), (3, ZA 1), (4, ZA 3), (5, ZA 4), (15, ZF k 0), (16, iT (k : Int)), (17, iT (i : Int))] ∧ H' = hpL [(0, ZB k E), (1, ZDF k), (2, ZU y), (3, ZC9 q), (4, ZDE), (5, ZBN m' f')] ∧ PsO q.2 m' f') := by
 refine GoesB.callL (o := opW) (cl := clW) (fop := .tmp 50) (f := 67) (fn := Try.f67) (body := (bodyOf Try.f67)) (pre := []) (cap := [ZA 2, ZA 1, ZA 3, ZA 4]) (args := [.str true z, iT (i : Int), ZA 2, ZA 1, ZA 3, ZA 4]) callE_ok 3 (by kernel_rfl) (by kernel_rfl) (by kernel_rfl) (by kernel_rfl) rfl (d := 53) (by kernel_rfl) (Nat.le_of_ble_eq_true (by kernel_rfl)) (K1 := 6) (K2 := 6) (by omega) (waK_r0 i k L m E f x y z cm) Try.func67 (by kernel_rfl) (by kernel_rfl) rfl (B0 := 5) (by omega) (by omega) (by omega) (ZDK x cm k i) rfl (eGg rfl) rfl
  (V := fun v H' => ∃ (m' : Nat) (f' : tX), v = .sbool q.1 ∧ H' = hpL [(0, ZB k E), (1, ZDF k), (2, ZU y), (3, ZC9 q), (4, ZDE), (5, ZBN m' f')] ∧ PsO q.2 m' f') ?_ (fun v H' hv => by
   obtain ⟨m', f', rfl, rfl, h1⟩ := hv
   exact ⟨[], _, _, waQ_r0 i k q.2.length m' E f' x y cm q.1, rfl, m', f', rfl, rfl, h1⟩)
 refine ih.mono fun e fr' H' h => ?_
 obtain ⟨he, m', f', hb, hH, h1, h2⟩ := h
 have hres : Try.f67.results.toList = [.tmp 8] := by kernel_rfl
 refine ⟨.inl he, [.bool q.1], ⟨H', 6, [], [], True⟩, ?_, trivial, .sbool q.1, fun N μ c h => by simpa only [Rep, packA] using h, m', f', rfl, hH, h2, h1⟩
 rw [hres]
 show M.andThen (M.ret ((fr'.get 8).getD .top)) _ _ = _
 rw [hb]
 rfl
noncomputable abbrev Zk (v0 : List Tx) := (.cells true 1 1 (.fn fun _ => [sL 5 v0.length]) : ABk)
noncomputable abbrev ZCq (v0 : List Tx) := (.cells true 1 1 (.fn fun _ => [sL 5 (v0.length + 1)]) : ABk)
noncomputable abbrev ZEm (v0 : Nat) (v1 : tE) (v2 : Tx) (v3 : List Tx) (v4 v5) := ([(0, ZB v0 v1), (1, ZDF v0), (2, ZU v2), (3, Zk v3), (4, ZDE), (5, ZBN v4 v5)] : tH)
theorem wk_tail (i k m : Nat) (E : tE) (f : tX) (x y z : Tx) (cm : Int) (hk : k ≤ 256) (ps : List Tx) (nm : Tx) (hl : ps.length ≤ 1024) (q : Bool × List Tx) (hq : q.1 = false → q.2 = ps ++ [nm])
  (ih : GoesB Try.prog (bodyOf Try.f67) Try.f67.ntmps 5 6 6 (frameOf [.str true z, iT (i : Int), ZA 2, ZA 1, ZA 3, ZA 4] 0 .e) (hpL [(0, ZB k E), (1, ZDF k), (2, ZU y), (3, ZCq ps), (4, ZDE), (5, ZV m f)]) (WPo k q y E)) :
  GoesB Try.prog (.seq (.seq ZBT ZCC) ZCD) Try.f67.ntmps 5 6 6 (ZEd x cm k i z) (hpL [(0, ZB k E), (1, ZDF k), (2, ZU y), (3, ZCq ps), (4, ZDE), (5, ZV m f)]) (RPo k i ps q x y cm E) := by
 refine GoesB.seq (K1 := 6) (by omega) (GoesB.seq (K1 := 6) (by omega) ((wk_call i k E f x y z cm (ps.length + 1) m q ih).mono fun e fr' H' h => ?_))
 obtain ⟨rfl, m', f', rfl, rfl, h1, h2⟩ := h
 obtain ⟨b, qs⟩ := q
 cases b with
 | true =>
  refine (waL 5 (by omega) i k qs.length m' E f' x y cm true).mono fun e fr' H' h => ?_
  rw [cond_true] at h
  obtain ⟨rfl, rfl, rfl⟩ := h
  exact .inr ⟨rfl, rfl, m', f', rfl, rfl, h2, h1⟩
 | false =>
  obtain rfl := hq rfl
  refine (waL 5 (by omega) i k (ps ++ [nm]).length m' E f' x y cm false).mono fun e fr' H' h => ?_
  rw [cond_false] at h
  obtain ⟨rfl, rfl, rfl⟩ := h
  have e1 : (ps ++ [nm]).length = ps.length + 1 := by simp
  simp only [e1] at h1 h2 ⊢
  refine (waM 5 (by omega) i k (ps.length + 1) m' E f' x y cm (by omega) (by omega)).post fun e fr' H' h => ?_
  obtain ⟨rfl, rfl, rfl⟩ := h
  refine ⟨(ZDK x cm k i), (ZEm k E y ps m' f'), (eGg rfl), ⟨hs rfl, hs rfl, hs rfl, ⟨_, rfl, rfl, rfl, rfl, fun j hj => ?_⟩, eHh rfl⟩, .inl ⟨rfl, rfl, m', f', ⟨by omega, fun j hj => ?_⟩, rfl, rfl⟩⟩
  ·obtain rfl : j = 0 := by omega
   show [sL 5 (Int.toNat (((ps.length + 1 : Nat) : Int) - 1))] = [sL 5 ps.length]
   rw [show Int.toNat (((ps.length + 1 : Nat) : Int) - 1) = ps.length by omega]
  ·rw [h2 j (by omega)]
   simp [List.getElem?_append_left hj]


theorem nxt_goes {E : tE} {k i : Nat} {x : Tx} (hi : i < k) (h : ((E i).a == x) = true ∨ ((E i).b == x) = true) : Goes1 (edT E k) i x (nxt E i x) := by
 refine ⟨_, edT_get E hi, ?_⟩
 unfold nxt
 cases e : (E i).a == x with
 | true => rw [cond_true]; exact .inl ⟨(eq_of_beq e).symm, rfl⟩
 | false =>
  rw [cond_false]
  rcases h with h | h
  ·rw [e] at h; cases h
  ·exact .inr ⟨(eq_of_beq h).symm, rfl⟩
/-- in the block of a round: what is asked behind it -/
def BPo (k i : Nat) (ps : List Tx) (o : Bool) (q : Bool × List Tx) (x y : Tx) (cm : Int) (E : tE) : Po := fun e fr' H' => ((e = .exit 1 ∨ e = .normal) ∧ (o = true ∨ q.1 = false) ∧ ∃ (m' : Nat) (f' : tX), PsO ps m' f' ∧ Ge fr' [(0, .str true x), (1, iT cm), (2, .ptr ⟨false, 2, 0, 0⟩), (3, .ptr ⟨false, 1, 0, 0⟩), (4, .ptr ⟨false, 3, 0, 0⟩), (5, .ptr ⟨false, 4, 0, 0⟩), (15, .slc true false ⟨false, 0, 0, 0⟩ k), (16, iT (k : Int)), (17, iT (i : Int))] ∧ GeH H' [(0, .cells false 8 k (.fn fun j => elR (E j))), (1, .cells true 1 1 (.fn fun _ => [.slc true false ⟨false, 0, 0, 0⟩ k])), (2, .cells true 1 1 (.fn fun _ => [.str true y])), (3, .cells true 1 1 (.fn fun _ => [sL 5 ps.length])), (4, .cells true 1 1 (.fn fun _ => [.fn (.func 67) [] [.ptr ⟨false, 2, 0, 0⟩, .ptr ⟨false, 1, 0, 0⟩, .ptr ⟨false, 3, 0, 0⟩, .ptr ⟨false, 4, 0, 0⟩]])), (5, .cells true 1 m' (.fn (txR f')))]) ∨ (o = false ∧ q.1 = true ∧ WPo k q y E e fr' H')
abbrev IHo (k i : Nat) (E : tE) (ps : List Tx) (q : Bool × List Tx) (x y : Tx) (cm : Int) : Prop := Goes1 (edT E k) i x (nxt E i x) → (i : Int) ≠ cm → ∀ (m' : Nat) (f' : tX), PsO (ps ++ [(E i).n]) m' f' → GoesB Try.prog (bodyOf Try.f67) Try.f67.ntmps 5 6 6 (frameOf [.str true (nxt E i x), iT (i : Int), .ptr ⟨false, 2, 0, 0⟩, .ptr ⟨false, 1, 0, 0⟩, .ptr ⟨false, 3, 0, 0⟩, .ptr ⟨false, 4, 0, 0⟩] 0 .e) (hpL [(0, .cells false 8 k (.fn fun j => elR (E j))), (1, .cells true 1 1 (.fn fun _ => [.slc true false ⟨false, 0, 0, 0⟩ k])), (2, .cells true 1 1 (.fn fun _ => [.str true y])), (3, .cells true 1 1 (.fn fun _ => [sL 5 (ps.length + 1)])), (4, .cells true 1 1 (.fn fun _ => [.fn (.func 67) [] [.ptr ⟨false, 2, 0, 0⟩, .ptr ⟨false, 1, 0, 0⟩, .ptr ⟨false, 3, 0, 0⟩, .ptr ⟨false, 4, 0, 0⟩]])), (5, .cells true 1 m' (.fn (txR f')))]) (WPo k q y E)
theorem skp_false {E : tE} {i : Nat} {x : Tx} {cm : Int} (h : skp E i x cm = false) : (i : Int) ≠ cm ∧ (((E i).a == x) = true ∨ ((E i).b == x) = true) := by
 unfold skp at h
 rw [Bool.or_eq_false_iff] at h
 refine ⟨of_decide_eq_false h.1, ?_⟩
 have := h.2
 revert this
 cases ((E i).a == x) <;> cases ((E i).b == x) <;> simp
noncomputable abbrev ZDq (v0 : Tx) (v1 : Int) (v2 v3 : Nat) (v4 : tE) := ([(0, .str true v0), (1, iT v1), (2, ZA 2), (3, ZA 1), (4, ZA 3), (5, ZA 4), (15, ZF v2 0), (16, iT (v2 : Int)), (17, iT (v3 : Int)), (9, iT (v3 : Int)), (10, ZA 6), (11, .str true (nxt v4 v3 v0))] : tF)
noncomputable abbrev ZDr (v0 : Tx) (v1 : Int) (v2 : Nat) (v3 : tE) (v4 : Nat) := ([(0, .str true v0), (1, iT v1), (2, ZA 2), (3, ZA 1), (4, ZA 3), (5, ZA 4), (9, iT (v2 : Int)), (10, ZA 6), (11, .str true (nxt v3 v2 v0)), (15, ZF v4 0), (16, iT (v4 : Int)), (17, iT (v2 : Int))] : tF)
noncomputable abbrev ZEi (v0 : Tx) (v1 : Int) (v2 v3 : Nat) (v4 : tE) := ([(0, .str true v0), (1, iT v1), (2, ZA 2), (3, ZA 1), (4, ZA 3), (5, ZA 4), (15, ZF v2 0), (16, iT (v2 : Int)), (17, iT (v3 : Int)), (9, iT (v3 : Int)), (11, .str true (nxt v4 v3 v0))] : tF)
noncomputable abbrev ZEn (v0 : Nat) (v1 : tE) (v2 : Tx) (v3 : List Tx) (v4 : Nat) (v5 : tX) (v6 : Nat) := ([(0, ZB v0 v1), (1, ZDF v0), (2, ZU v2), (3, Zk v3), (4, ZDE), (5, ZV v4 v5), (6, Zg v1 v6)] : tH)
noncomputable abbrev ZEo (v0 : Nat) (v1 : tE) (v2 : Tx) (v3 : List Tx) (v4 : Nat) (v5 : tX) := ([(0, ZB v0 v1), (1, ZDF v0), (2, ZU v2), (3, Zk v3), (4, ZDE), (5, ZV v4 v5)] : tH)
theorem wk_in (i k m : Nat) (E : tE) (f : tX) (x y : Tx) (cm : Int) (hk : k ≤ 256) (hi : i < k) (ps : List Tx) (hl : ps.length ≤ 1024) (hm : PsO ps m f) (q : Bool × List Tx) (hq : q.1 = false → q.2 = ps ++ [(E i).n]) (ih : IHo k i E ps q x y cm) :
  GoesB Try.prog ZCA Try.f67.ntmps 5 6 7 (frL [(0, .str true x), (1, iT cm), (2, .ptr ⟨false, 2, 0, 0⟩), (3, .ptr ⟨false, 1, 0, 0⟩), (4, .ptr ⟨false, 3, 0, 0⟩), (5, .ptr ⟨false, 4, 0, 0⟩), (15, .slc true false ⟨false, 0, 0, 0⟩ k), (16, iT (k : Int)), (17, iT (i : Int))]) (hpL [(0, .cells false 8 k (.fn fun j => elR (E j))), (1, .cells true 1 1 (.fn fun _ => [.slc true false ⟨false, 0, 0, 0⟩ k])), (2, .cells true 1 1 (.fn fun _ => [.str true y])), (3, .cells true 1 1 (.fn fun _ => [sL 5 ps.length])), (4, .cells true 1 1 (.fn fun _ => [.fn (.func 67) [] [.ptr ⟨false, 2, 0, 0⟩, .ptr ⟨false, 1, 0, 0⟩, .ptr ⟨false, 3, 0, 0⟩, .ptr ⟨false, 4, 0, 0⟩]])), (5, .cells true 1 m (.fn (txR f)))]) (BPo k i ps (skp E i x cm) q x y cm E) := by
 rw [wk_ins]
 refine GoesB.seqN (K1 := 7) (F1 := [(0, .str true x), (1, iT cm), (2, .ptr ⟨false, 2, 0, 0⟩), (3, .ptr ⟨false, 1, 0, 0⟩), (4, .ptr ⟨false, 3, 0, 0⟩), (5, .ptr ⟨false, 4, 0, 0⟩), (15, .slc true false ⟨false, 0, 0, 0⟩ k), (16, iT (k : Int)), (17, iT (i : Int)), (9, iT (i : Int)), (10, .ptr ⟨false, 6, 0, 0⟩)]) (H1 := [(0, .cells false 8 k (.fn fun j => elR (E j))), (1, .cells true 1 1 (.fn fun _ => [.slc true false ⟨false, 0, 0, 0⟩ k])), (2, .cells true 1 1 (.fn fun _ => [.str true y])), (3, .cells true 1 1 (.fn fun _ => [sL 5 ps.length])), (4, .cells true 1 1 (.fn fun _ => [.fn (.func 67) [] [.ptr ⟨false, 2, 0, 0⟩, .ptr ⟨false, 1, 0, 0⟩, .ptr ⟨false, 3, 0, 0⟩, .ptr ⟨false, 4, 0, 0⟩]])), (5, .cells true 1 m (.fn (txR f))), (6, .cells true 8 1 (.fn fun _ => elR (E i)))]) (GoesB.toN (waF 5 (by omega) i k ps.length m E f x y cm (by omega) (by omega)) (eGg rfl) ⟨(Sx.hs rfl), (Sx.hs rfl), (Sx.hs rfl), (Sx.hs rfl), (Sx.hs rfl), (Sx.hs rfl), wk_hb rfl (by show elR (E (0 + i)) = elR (E i); rw [Nat.zero_add]), trivial⟩) (by omega) ?_
 refine GoesB.seqN (K1 := 7) (F1 := [(0, .str true x), (1, iT cm), (2, .ptr ⟨false, 2, 0, 0⟩), (3, .ptr ⟨false, 1, 0, 0⟩), (4, .ptr ⟨false, 3, 0, 0⟩), (5, .ptr ⟨false, 4, 0, 0⟩), (15, .slc true false ⟨false, 0, 0, 0⟩ k), (16, iT (k : Int)), (17, iT (i : Int)), (9, iT (i : Int)), (10, .ptr ⟨false, 6, 0, 0⟩), (11, .str true (E i).a)]) (H1 := [(0, .cells false 8 k (.fn fun j => elR (E j))), (1, .cells true 1 1 (.fn fun _ => [.slc true false ⟨false, 0, 0, 0⟩ k])), (2, .cells true 1 1 (.fn fun _ => [.str true y])), (3, .cells true 1 1 (.fn fun _ => [sL 5 ps.length])), (4, .cells true 1 1 (.fn fun _ => [.fn (.func 67) [] [.ptr ⟨false, 2, 0, 0⟩, .ptr ⟨false, 1, 0, 0⟩, .ptr ⟨false, 3, 0, 0⟩, .ptr ⟨false, 4, 0, 0⟩]])), (5, .cells true 1 m (.fn (txR f))), (6, .cells true 8 1 (.fn fun _ => elR (E i)))]) (GoesB.toN (waG 5 (by omega) i k ps.length m E f x y cm) (eGg rfl) (eHh rfl)) (by omega) ?_
 refine GoesB.seqN (K1 := 7) (F1 := [(0, .str true x), (1, iT cm), (2, .ptr ⟨false, 2, 0, 0⟩), (3, .ptr ⟨false, 1, 0, 0⟩), (4, .ptr ⟨false, 3, 0, 0⟩), (5, .ptr ⟨false, 4, 0, 0⟩), (15, .slc true false ⟨false, 0, 0, 0⟩ k), (16, iT (k : Int)), (17, iT (i : Int)), (9, iT (i : Int)), (10, .ptr ⟨false, 6, 0, 0⟩), (11, .str true (nxt E i x))]) (H1 := [(0, .cells false 8 k (.fn fun j => elR (E j))), (1, .cells true 1 1 (.fn fun _ => [.slc true false ⟨false, 0, 0, 0⟩ k])), (2, .cells true 1 1 (.fn fun _ => [.str true y])), (3, .cells true 1 1 (.fn fun _ => [sL 5 ps.length])), (4, .cells true 1 1 (.fn fun _ => [.fn (.func 67) [] [.ptr ⟨false, 2, 0, 0⟩, .ptr ⟨false, 1, 0, 0⟩, .ptr ⟨false, 3, 0, 0⟩, .ptr ⟨false, 4, 0, 0⟩]])), (5, .cells true 1 m (.fn (txR f))), (6, .cells true 8 1 (.fn fun _ => elR (E i)))]) ((waH 5 (by omega) i k ps.length m E f x y cm).post fun e fr' H' h => ?_) (by omega) ?_
 ·have key : e = .normal ∧ fr' = frL [(0, .str true x), (1, iT cm), (2, .ptr ⟨false, 2, 0, 0⟩), (3, .ptr ⟨false, 1, 0, 0⟩), (4, .ptr ⟨false, 3, 0, 0⟩), (5, .ptr ⟨false, 4, 0, 0⟩), (9, iT (i : Int)), (10, .ptr ⟨false, 6, 0, 0⟩), (11, .str true (nxt E i x)), (15, .slc true false ⟨false, 0, 0, 0⟩ k), (16, iT (k : Int)), (17, iT (i : Int))] ∧ H' = hpL [(0, .cells false 8 k (.fn fun j => elR (E j))), (1, .cells true 1 1 (.fn fun _ => [.slc true false ⟨false, 0, 0, 0⟩ k])), (2, .cells true 1 1 (.fn fun _ => [.str true y])), (3, .cells true 1 1 (.fn fun _ => [sL 5 ps.length])), (4, .cells true 1 1 (.fn fun _ => [.fn (.func 67) [] [.ptr ⟨false, 2, 0, 0⟩, .ptr ⟨false, 1, 0, 0⟩, .ptr ⟨false, 3, 0, 0⟩, .ptr ⟨false, 4, 0, 0⟩]])), (5, .cells true 1 m (.fn (txR f))), (6, .cells true 8 1 (.fn fun _ => elR (E i)))] := by
   unfold nxt
   cases q : (E i).a == x with
   | true => rw [q, cond_true] at h; rw [cond_true]; exact h
   | false => rw [q, cond_false] at h; rw [cond_false]; exact h
  obtain ⟨rfl, rfl, rfl⟩ := key
  exact ⟨[(0, .str true x), (1, iT cm), (2, .ptr ⟨false, 2, 0, 0⟩), (3, .ptr ⟨false, 1, 0, 0⟩), (4, .ptr ⟨false, 3, 0, 0⟩), (5, .ptr ⟨false, 4, 0, 0⟩), (15, .slc true false ⟨false, 0, 0, 0⟩ k), (16, iT (k : Int)), (17, iT (i : Int)), (9, iT (i : Int)), (10, .ptr ⟨false, 6, 0, 0⟩), (11, .str true (nxt E i x))], [(0, .cells false 8 k (.fn fun j => elR (E j))), (1, .cells true 1 1 (.fn fun _ => [.slc true false ⟨false, 0, 0, 0⟩ k])), (2, .cells true 1 1 (.fn fun _ => [.str true y])), (3, .cells true 1 1 (.fn fun _ => [sL 5 ps.length])), (4, .cells true 1 1 (.fn fun _ => [.fn (.func 67) [] [.ptr ⟨false, 2, 0, 0⟩, .ptr ⟨false, 1, 0, 0⟩, .ptr ⟨false, 3, 0, 0⟩, .ptr ⟨false, 4, 0, 0⟩]])), (5, .cells true 1 m (.fn (txR f))), (6, .cells true 8 1 (.fn fun _ => elR (E i)))], (eGg rfl), (eHh rfl), rfl, rfl, rfl⟩
 have out : skp E i x cm = true → ∀ (e : Ex) (fr' : Fr) (H' : T ABk), (e = .exit 1) → fr' = frL [(0, .str true x), (1, iT cm), (2, .ptr ⟨false, 2, 0, 0⟩), (3, .ptr ⟨false, 1, 0, 0⟩), (4, .ptr ⟨false, 3, 0, 0⟩), (5, .ptr ⟨false, 4, 0, 0⟩), (9, iT (i : Int)), (10, .ptr ⟨false, 6, 0, 0⟩), (11, .str true (nxt E i x)), (15, .slc true false ⟨false, 0, 0, 0⟩ k), (16, iT (k : Int)), (17, iT (i : Int))] → H' = hpL [(0, .cells false 8 k (.fn fun j => elR (E j))), (1, .cells true 1 1 (.fn fun _ => [.slc true false ⟨false, 0, 0, 0⟩ k])), (2, .cells true 1 1 (.fn fun _ => [.str true y])), (3, .cells true 1 1 (.fn fun _ => [sL 5 ps.length])), (4, .cells true 1 1 (.fn fun _ => [.fn (.func 67) [] [.ptr ⟨false, 2, 0, 0⟩, .ptr ⟨false, 1, 0, 0⟩, .ptr ⟨false, 3, 0, 0⟩, .ptr ⟨false, 4, 0, 0⟩]])), (5, .cells true 1 m (.fn (txR f))), (6, .cells true 8 1 (.fn fun _ => elR (E i)))] → BPo k i ps (skp E i x cm) q x y cm E e fr' H' := fun hs e fr' H' h1 h2 h3 => by
  subst h1 h2 h3
  exact .inl ⟨.inl rfl, .inl hs, m, f, hm, (eGg rfl), (eHh rfl)⟩
 refine GoesB.seq (K1 := 7) (by omega) ((waI 5 (by omega) i k ps.length m E f x y (nxt E i x) cm).mono fun e fr' H' h => ?_)
 cases q1 : decide ((i : Int) = cm) with
 | true =>
  rw [q1, cond_true] at h
  obtain ⟨rfl, h2, h3⟩ := h
  exact out (by unfold skp; rw [q1]; rfl) _ _ _ rfl h2 h3
 | false =>
  rw [q1, cond_false] at h
  have rest : skp E i x cm = false → GoesB Try.prog (.seq ZC0 (.seq (.seq ZBT ZCC) ZCD)) Try.f67.ntmps 5 7 7 (frL [(0, .str true x), (1, iT cm), (2, .ptr ⟨false, 2, 0, 0⟩), (3, .ptr ⟨false, 1, 0, 0⟩), (4, .ptr ⟨false, 3, 0, 0⟩), (5, .ptr ⟨false, 4, 0, 0⟩), (9, iT (i : Int)), (10, .ptr ⟨false, 6, 0, 0⟩), (11, .str true (nxt E i x)), (15, .slc true false ⟨false, 0, 0, 0⟩ k), (16, iT (k : Int)), (17, iT (i : Int))]) (hpL [(0, .cells false 8 k (.fn fun j => elR (E j))), (1, .cells true 1 1 (.fn fun _ => [.slc true false ⟨false, 0, 0, 0⟩ k])), (2, .cells true 1 1 (.fn fun _ => [.str true y])), (3, .cells true 1 1 (.fn fun _ => [sL 5 ps.length])), (4, .cells true 1 1 (.fn fun _ => [.fn (.func 67) [] [.ptr ⟨false, 2, 0, 0⟩, .ptr ⟨false, 1, 0, 0⟩, .ptr ⟨false, 3, 0, 0⟩, .ptr ⟨false, 4, 0, 0⟩]])), (5, .cells true 1 m (.fn (txR f))), (6, .cells true 8 1 (.fn fun _ => elR (E i)))]) (BPo k i ps (skp E i x cm) q x y cm E) := fun hs => by
   obtain ⟨s1, s2⟩ := skp_false hs
   refine GoesB.weakL (fl := [(0, .str true x), (1, iT cm), (2, .ptr ⟨false, 2, 0, 0⟩), (3, .ptr ⟨false, 1, 0, 0⟩), (4, .ptr ⟨false, 3, 0, 0⟩), (5, .ptr ⟨false, 4, 0, 0⟩), (15, .slc true false ⟨false, 0, 0, 0⟩ k), (16, iT (k : Int)), (17, iT (i : Int)), (9, iT (i : Int)), (10, .ptr ⟨false, 6, 0, 0⟩), (11, .str true (nxt E i x))]) (bl := [(0, .cells false 8 k (.fn fun j => elR (E j))), (1, .cells true 1 1 (.fn fun _ => [.slc true false ⟨false, 0, 0, 0⟩ k])), (2, .cells true 1 1 (.fn fun _ => [.str true y])), (3, .cells true 1 1 (.fn fun _ => [sL 5 ps.length])), (4, .cells true 1 1 (.fn fun _ => [.fn (.func 67) [] [.ptr ⟨false, 2, 0, 0⟩, .ptr ⟨false, 1, 0, 0⟩, .ptr ⟨false, 3, 0, 0⟩, .ptr ⟨false, 4, 0, 0⟩]])), (5, .cells true 1 m (.fn (txR f))), (6, .cells true 8 1 (.fn fun _ => elR (E i)))]) (eGg rfl) (eHh rfl) ?_
   refine GoesB.seqN (K1 := 6) (F1 := [(0, .str true x), (1, iT cm), (2, .ptr ⟨false, 2, 0, 0⟩), (3, .ptr ⟨false, 1, 0, 0⟩), (4, .ptr ⟨false, 3, 0, 0⟩), (5, .ptr ⟨false, 4, 0, 0⟩), (15, .slc true false ⟨false, 0, 0, 0⟩ k), (16, iT (k : Int)), (17, iT (i : Int)), (9, iT (i : Int)), (11, .str true (nxt E i x))]) (H1 := [(0, .cells false 8 k (.fn fun j => elR (E j))), (1, .cells true 1 1 (.fn fun _ => [.slc true false ⟨false, 0, 0, 0⟩ k])), (2, .cells true 1 1 (.fn fun _ => [.str true y])), (3, .cells true 1 1 (.fn fun _ => [sL 5 (ps.length + 1)])), (4, .cells true 1 1 (.fn fun _ => [.fn (.func 67) [] [.ptr ⟨false, 2, 0, 0⟩, .ptr ⟨false, 1, 0, 0⟩, .ptr ⟨false, 3, 0, 0⟩, .ptr ⟨false, 4, 0, 0⟩]])), (5, .cells true 1 (ps.length + 1) (.fn (txR (fun j => bif decide (j < ps.length) then f j else (E i).n))))]) ((waJ 5 (by omega) i k ps.length m E f x y (nxt E i x) cm hm.1 (by omega) (by omega)).renG fun e fr' H' h => ?_) (by omega) ?_
   ·obtain ⟨rfl, rfl, rfl⟩ := h
    refine ⟨sg 5 8, [(0, .str true x), (1, iT cm), (2, .ptr ⟨false, 2, 0, 0⟩), (3, .ptr ⟨false, 1, 0, 0⟩), (4, .ptr ⟨false, 3, 0, 0⟩), (5, .ptr ⟨false, 4, 0, 0⟩), (15, .slc true false ⟨false, 0, 0, 0⟩ k), (16, iT (k : Int)), (17, iT (i : Int)), (9, iT (i : Int)), (11, .str true (nxt E i x))], [(0, .cells false 8 k (.fn fun j => elR (E j))), (1, .cells true 1 1 (.fn fun _ => [.slc true false ⟨false, 0, 0, 0⟩ k])), (2, .cells true 1 1 (.fn fun _ => [.str true y])), (3, .cells true 1 1 (.fn fun _ => [sL 5 (ps.length + 1)])), (4, .cells true 1 1 (.fn fun _ => [.fn (.func 67) [] [.ptr ⟨false, 2, 0, 0⟩, .ptr ⟨false, 1, 0, 0⟩, .ptr ⟨false, 3, 0, 0⟩, .ptr ⟨false, 4, 0, 0⟩]])), (5, .cells true 1 (ps.length + 1) (.fn (txR (fun j => bif decide (j < ps.length) then f j else (E i).n))))], sg_low (by omega), (eRr rfl), ⟨rgR rfl rfl (fun j _ => rfl) (fun j _ => rfl) (by omega), rgR rfl rfl (fun j _ => rfl) (fun j _ => rfl) (by omega), rgR rfl rfl (fun j _ => rfl) (fun j _ => rfl) (by omega), rgR rfl rfl (fun j hj => by
     obtain rfl : j = 0 := by omega
     rfl) (fun j _ => rfl) (by omega), rgR rfl rfl (fun j _ => rfl) (fun j _ => rfl) (by omega), rgR rfl rfl (fun j hj => by
     show (bif decide (j < ps.length) then txR f j else [AV.str true (E i).n]) = [AV.str true (bif decide (j < ps.length) then f j else (E i).n)]
     cases decide (j < ps.length) <;> rfl) (fun j _ => rfl) (by omega), trivial⟩, sg_inj (by omega), rfl, rfl, rfl⟩
   have hps : PsO (ps ++ [(E i).n]) (ps.length + 1) (fun j => bif decide (j < ps.length) then f j else (E i).n) := by
    refine ⟨by simp, fun j hj => ?_⟩
    by_cases c : j < ps.length
    ·show (bif decide (j < ps.length) then f j else (E i).n) = _
     rw [decide_eq_true c, cond_true, hm.2 j c]
     simp [List.getElem?_append_left c]
    ·show (bif decide (j < ps.length) then f j else (E i).n) = _
     have : j = ps.length := by simp at hj; omega
     rw [decide_eq_false c, cond_false, this]
     simp
   refine ((wk_tail i k (ps.length + 1) E _ x y (nxt E i x) cm hk ps (E i).n hl q hq (ih (nxt_goes hi s2) s1 _ _ hps)).up (by omega)).mono fun e fr' H' h => ?_
   rcases h with ⟨rfl, h0, m', f', h1, rfl, rfl⟩ | ⟨h0, h⟩
   ·exact .inl ⟨.inr rfl, .inr h0, m', f', h1, (eGg rfl), (eHh rfl)⟩
   ·exact .inr ⟨hs, h0, h⟩
  cases q2 : (E i).a == x with
  | true =>
   rw [q2, cond_true] at h
   obtain ⟨rfl, rfl, rfl⟩ := h
   exact rest (by unfold skp; rw [q1, q2]; rfl)
  | false =>
   rw [q2, cond_false] at h
   cases q3 : (E i).b == x with
   | true =>
    rw [q3, cond_true] at h
    obtain ⟨rfl, rfl, rfl⟩ := h
    exact rest (by unfold skp; rw [q1, q2, q3]; rfl)
   | false =>
    rw [q3, cond_false] at h
    obtain ⟨rfl, h2, h3⟩ := h
    exact out (by unfold skp; rw [q1, q2, q3]; rfl) _ _ _ rfl h2 h3
theorem wk_blk (i k m : Nat) (E : tE) (f : tX) (x y : Tx) (cm : Int) (hk : k ≤ 256) (hi : i < k) (ps : List Tx) (hl : ps.length ≤ 1024) (hm : PsO ps m f) (q : Bool × List Tx) (hq : q.1 = false → q.2 = ps ++ [(E i).n]) (ih : IHo k i E ps q x y cm) :
  GoesB Try.prog (.block 1 ZCA) Try.f67.ntmps 5 6 6 (frL (ZDK x cm k i)) (hpL (ZEo k E y ps m f)) (fun e fr' H' => (e = .normal ∧ (skp E i x cm = true ∨ q.1 = false) ∧ ∃ (m' : Nat) (f' : tX), PsO ps m' f' ∧ fr' = frL (ZDK x cm k i) ∧ H' = hpL (ZEm k E y ps m' f')) ∨ (skp E i x cm = false ∧ q.1 = true ∧ WPo k q y E e fr' H')) := by
 have h1 : GoesB Try.prog (.block 1 ZCA) Try.f67.ntmps 5 6 7 (frL (ZDK x cm k i)) (hpL (ZEo k E y ps m f)) (fun e fr' H' => (e = .normal ∧ (skp E i x cm = true ∨ q.1 = false) ∧ ∃ (m' : Nat) (f' : tX), PsO ps m' f' ∧ Ge fr' (ZDK x cm k i) ∧ GeH H' (ZEm k E y ps m' f')) ∨ (skp E i x cm = false ∧ q.1 = true ∧ WPo k q y E e fr' H')) :=
  GoesB.block ((wk_in i k m E f x y cm hk hi ps hl hm q hq ih).mono fun e fr' H' h => by
   rcases h with ⟨rfl | rfl, h⟩ | ⟨h0, h1, h⟩
   ·simp only [if_true]; exact .inl ⟨trivial, h⟩
   ·exact .inl ⟨rfl, h⟩
   ·have := h.1
    subst this
    exact .inr ⟨h0, h1, h⟩)
 refine (h1.post (Post' := fun e fr' H' => (e = .normal ∧ (skp E i x cm = true ∨ q.1 = false) ∧ ∃ (m' : Nat) (f' : tX), PsO ps m' f' ∧ fr' = frL (ZDK x cm k i) ∧ H' = hpL (ZEm k E y ps m' f')) ∨ (skp E i x cm = false ∧ q.1 = true ∧ WPo k q y E e fr' H')) fun e fr' H' h => ?_).renG fun e fr' H' h => ?_
 ·rcases h with ⟨rfl, h0, m', f', h2, h3, h4⟩ | ⟨h0, h1, rfl, m', f', h2, rfl, h4, h5⟩
  ·exact ⟨_, _, h3, h4, .inl ⟨rfl, h0, m', f', h2, rfl, rfl⟩⟩
  ·exact ⟨[(8, .bool q.1)], [(0, ZB k E), (1, ZDF k), (2, ZU y), (3, ZC9 q), (4, ZDE), (5, ZBN m' f')], ⟨⟨_, h2, AV.ge.refl _⟩, trivial⟩, (eHh rfl), .inr ⟨h0, h1, rfl, m', f', rfl, rfl, h4, h5⟩⟩
 ·rcases h with ⟨rfl, h0, m', f', h2, rfl, rfl⟩ | ⟨h0, h1, rfl, m', f', h2, rfl, h4, h5⟩
  ·exact ⟨id, (ZDK x cm k i), (ZEm k E y ps m' f'), fun g hg => rfl, (eRr rfl), ⟨rgR rfl rfl (fun j _ => rfl) (fun j _ => rfl) (by omega), rgR rfl rfl (fun j _ => rfl) (fun j _ => rfl) (by omega), rgR rfl rfl (fun j _ => rfl) (fun j _ => rfl) (by omega), rgR rfl rfl (fun j _ => rfl) (fun j _ => rfl) (by omega), rgR rfl rfl (fun j _ => rfl) (fun j _ => rfl) (by omega), rgR rfl rfl (fun j _ => rfl) (fun j _ => rfl) (by omega), trivial⟩, fun i j _ _ h => h, .inl ⟨rfl, h0, m', f', h2, rfl, rfl⟩⟩
  ·exact ⟨id, [(8, .bool q.1)], [(0, ZB k E), (1, ZDF k), (2, ZU y), (3, ZC9 q), (4, ZDE), (5, ZBN m' f')], fun g hg => rfl, ⟨⟨_, h2, AV.ge.refl _, rfl⟩, trivial⟩, ⟨rgR rfl rfl (fun j _ => rfl) (fun j _ => rfl) (by omega), rgR rfl rfl (fun j _ => rfl) (fun j _ => rfl) (by omega), rgR rfl rfl (fun j _ => rfl) (fun j _ => rfl) (by omega), rgR rfl rfl (fun j _ => rfl) (fun j _ => rfl) (by omega), rgR rfl rfl (fun j _ => rfl) (fun j _ => rfl) (by omega), rgR rfl rfl (fun j _ => rfl) (fun j _ => rfl) (by omega), trivial⟩, fun i j _ _ h => h, .inr ⟨h0, h1, rfl, m', f', rfl, rfl, h4, h5⟩⟩
theorem wlp_succ (E : tE) (k : Nat) (rec : List Tx → Tx → Int → Bool × List Tx) (ps : List Tx) (x : Tx) (cm : Int) (r : Nat) : wlp E k rec ps x cm (r + 1) = bif skp E (k - (r + 1)) x cm then wlp E k rec ps x cm r else bif (rec (ps ++ [(E (k - (r + 1))).n]) (nxt E (k - (r + 1)) x) ((k - (r + 1) : Nat) : Int)).1 then rec (ps ++ [(E (k - (r + 1))).n]) (nxt E (k - (r + 1)) x) ((k - (r + 1) : Nat) : Int) else wlp E k rec ps x cm r := rfl
theorem wk_round (i k d m : Nat) (E : tE) (f : tX) (x y : Tx) (cm : Int) (hk : k ≤ 256) (hi : i ≤ k) (ps : List Tx) (hl : ps.length ≤ 1024) (hm : PsO ps m f) (ih : ∀ (i : Nat), i < k → IHo k i E ps (wks E k y d (ps ++ [(E i).n]) (nxt E i x) (i : Int)) x y cm) :
  GoesB Try.prog ZCw Try.f67.ntmps 5 6 6 (frL (ZDK x cm k i)) (hpL (ZEo k E y ps m f)) (fun e fr' H' => (e = .normal ∧ i < k ∧ (wlp E k (wks E k y d) ps x cm (k - i)) = (wlp E k (wks E k y d) ps x cm (k - (i + 1))) ∧ ∃ (m' : Nat) (f' : tX), PsO ps m' f' ∧ fr' = frL [(0, .str true x), (1, iT cm), (2, ZA 2), (3, ZA 1), (4, ZA 3), (5, ZA 4), (15, ZF k 0), (16, iT (k : Int)), (17, ZCR i)] ∧ H' = hpL (ZEm k E y ps m' f')) ∨ (e = .exit 0 ∧ i = k ∧ fr' = frL (ZDK x cm k i) ∧ H' = hpL (ZEo k E y ps m f)) ∨ WPo k (wlp E k (wks E k y d) ps x cm (k - i)) y E e fr' H') := by
 rw [wk_body]
 refine GoesB.seqN (K1 := 6) (F1 := [(0, .str true x), (1, iT cm), (2, ZA 2), (3, ZA 1), (4, ZA 3), (5, ZA 4), (15, ZF k 0), (16, iT (k : Int)), (17, iT (i : Int)), (18, .sbool (decide ((i : Int) < (k : Int))))]) (H1 := (ZEo k E y ps m f)) (waD 5 (by omega) i k ps.length m E f x y cm) (by omega) ?_
 refine GoesB.seq (K1 := 6) (by omega) ((waE 5 (by omega) i k ps.length m E f x y cm (decide ((i : Int) < (k : Int)))).mono fun e fr' H' h => ?_)
 by_cases c : i < k
 ·rw [decide_eq_true (by omega), cond_true] at h
  obtain ⟨rfl, rfl, rfl⟩ := h
  have hstep : (wlp E k (wks E k y d) ps x cm (k - i)) = bif skp E i x cm then (wlp E k (wks E k y d) ps x cm (k - (i + 1))) else bif (wks E k y d (ps ++ [(E i).n]) (nxt E i x) (i : Int)).1 then wks E k y d (ps ++ [(E i).n]) (nxt E i x) (i : Int) else (wlp E k (wks E k y d) ps x cm (k - (i + 1))) := by
   rw [show k - i = (k - (i + 1)) + 1 by omega, wlp_succ, show k - (k - (i + 1) + 1) = i by omega]
  refine GoesB.seq (K1 := 6) (by omega) ((wk_blk i k m E f x y cm hk c ps hl hm (wks E k y d (ps ++ [(E i).n]) (nxt E i x) (i : Int)) wks_false (ih i c)).mono fun e fr' H' h => ?_)
  rcases h with ⟨rfl, h0, m', f', h1, rfl, rfl⟩ | ⟨h0, h1, h⟩
  ·refine (waN 5 (by omega) i k ps.length m' E f' x y cm (by omega)).post fun e fr' H' h => ?_
   obtain ⟨rfl, rfl, rfl⟩ := h
   refine ⟨[(0, .str true x), (1, iT cm), (2, ZA 2), (3, ZA 1), (4, ZA 3), (5, ZA 4), (15, ZF k 0), (16, iT (k : Int)), (17, ZCR i)], (ZEm k E y ps m' f'), ⟨re rfl, re rfl, re rfl, re rfl, re rfl, re rfl, re rfl, re rfl, ⟨_, rfl, AV.ge.int' _ _ _ (by omega)⟩, trivial⟩, (eHh rfl), .inl ⟨rfl, c, ?_, m', f', h1, rfl, rfl⟩⟩
   rw [hstep]
   rcases h0 with h0 | h0
   ·rw [h0, cond_true]
   ·rw [h0, cond_false]; cases skp E i x cm <;> rfl
  ·have := h.1
   subst this
   refine .inr (.inr ?_)
   rw [hstep, h0, cond_false, h1, cond_true]
   exact h
 ·rw [decide_eq_false (by omega), cond_false] at h
  obtain ⟨rfl, rfl, rfl⟩ := h
  exact .inr (.inl ⟨rfl, by omega, rfl, rfl⟩)
noncomputable abbrev ZEF (v0 : Tx) (v1 : Int) (v2 : Nat) (v3) := ([(0, .str true v0), (1, iT v1), (2, ZA 2), (3, ZA 1), (4, ZA 3), (5, ZA 4), (15, ZF v2 0), (16, iT (v2 : Int)), (17, iT (v3 : Int))] : tF)
theorem wk_loop (k d m : Nat) (E : tE) (f : tX) (x y : Tx) (cm : Int) (hk : k ≤ 256) (ps : List Tx) (hl : ps.length ≤ 1024) (hm : PsO ps m f) (ih : ∀ (i : Nat), i < k → IHo k i E ps (wks E k y d (ps ++ [(E i).n]) (nxt E i x) (i : Int)) x y cm) :
  GoesB Try.prog (.block 0 (.loop ZCw)) Try.f67.ntmps 5 6 6 (frL [(0, .str true x), (1, iT cm), (2, ZA 2), (3, ZA 1), (4, ZA 3), (5, ZA 4), (15, ZF k 0), (16, iT (k : Int)), (17, ZBn)]) (hpL (ZEo k E y ps m f)) (fun e fr' H' => (e = .normal ∧ (wlp E k (wks E k y d) ps x cm (k)) = (false, ps) ∧ ∃ (i m' : Nat) (f' : tX), PsO ps m' f' ∧ fr' = frL (ZEF x cm k i) ∧ H' = hpL (ZEm k E y ps m' f')) ∨ WPo k (wlp E k (wks E k y d) ps x cm (k)) y E e fr' H') := by
 refine GoesB.block ((GoesB.loop (Post := fun e fr' H' => (e = .exit 0 ∧ (wlp E k (wks E k y d) ps x cm (k)) = (false, ps) ∧ ∃ (i m' : Nat) (f' : tX), PsO ps m' f' ∧ fr' = frL (ZEF x cm k i) ∧ H' = hpL (ZEm k E y ps m' f')) ∨ WPo k (wlp E k (wks E k y d) ps x cm (k)) y E e fr' H') (fun r fr' H' => ∃ (i m' : Nat) (f' : tX), r = k - i ∧ i ≤ k ∧ (wlp E k (wks E k y d) ps x cm (k)) = (wlp E k (wks E k y d) ps x cm (k - i)) ∧ PsO ps m' f' ∧ fr' = frL (ZEF x cm k i) ∧ H' = hpL (ZEm k E y ps m' f')) ?_ k _ _ ⟨0, m, f, by omega, by omega, rfl, hm, rfl, rfl⟩).mono fun e fr' H' h => ?_)
 ·rintro r fr' H' ⟨i, m', f', rfl, hi, hq, h1, rfl, rfl⟩
  refine (wk_round i k d m' E f' x y cm hk hi ps hl h1 ih).mono fun e fr' H' h => ?_
  rcases h with ⟨rfl, h2, hq2, m'', f'', h3, rfl, rfl⟩ | ⟨rfl, rfl, rfl, rfl⟩ | h
  ·exact ⟨k - (i + 1), by omega, i + 1, m'', f'', rfl, by omega, hq.trans hq2, h3, rfl, rfl⟩
  ·exact .inl ⟨rfl, by rw [hq, Nat.sub_self]; rfl, i, m', f', h1, rfl, rfl⟩
  ·have := h.1
   subst this
   refine .inr ?_
   rw [hq]; exact h
 ·rcases h with ⟨rfl, h⟩ | h
  ·simp only [if_true]; exact .inl ⟨trivial, h⟩
  ·have := h.1
   subst this
   exact .inr h
theorem walk_goes (k : Nat) (hk : k ≤ 256) (E : tE) {cl : Nat → Tx → Nat} (FR : Forest (edT E k) cl) (st y : Tx) : ∀ (d : Nat) (l : List Nat) (x : Tx) (m : Nat) (f : tX) (ps : List Tx), Way (edT E k) st l x → l.length + d = k + 1 → ps.length = l.length → PsO ps m f →
  GoesB Try.prog (bodyOf Try.f67) Try.f67.ntmps 5 6 6 (frameOf [.str true x, iT (cmOf l), ZA 2, ZA 1, ZA 3, ZA 4] 0 .e) (hpL [(0, ZB k E), (1, ZDF k), (2, ZU y), (3, .cells true 1 1 (.fn fun _ => [sL 5 ps.length])), (4, ZDE), (5, ZBN m f)]) (WPo k (wks E k y d ps x (cmOf l)) y E)
 | 0, l, x, m, f, ps, hw, hd, hp, hm => by
  have := FR.short hw
  rw [edT_len] at this
  omega
 | d + 1, l, x, m, f, ps, hw, hd, hp, hm => by
  have hl := FR.short hw
  rw [edT_len] at hl
  have ih : ∀ (i : Nat), i < k → IHo k i E ps (wks E k y d (ps ++ [(E i).n]) (nxt E i x) (i : Int)) x y (cmOf l) := fun i hi hg hc m' f' hm' => by
   have := walk_goes k hk E FR st y d (l ++ [i]) (nxt E i x) m' f' (ps ++ [(E i).n]) (hw.snoc hg (cmOf_ne hc)) (by simp; omega) (by simp; omega) hm'
   rw [cmOf_snoc, show (ps ++ [(E i).n]).length = ps.length + 1 by simp] at this
   exact this
  rw [wk_is]
  refine GoesB.weakL (fl := [(0, .str true x), (1, iT (cmOf l)), (2, ZA 2), (3, ZA 1), (4, ZA 3), (5, ZA 4)]) (bl := [(0, ZB k E), (1, ZDF k), (2, ZU y), (3, .cells true 1 1 (.fn fun _ => [sL 5 ps.length])), (4, ZDE), (5, ZBN m f)]) (eGg rfl) (eHh rfl) ?_
  refine GoesB.seqN (K1 := 6) (waA 5 (by omega) k ps.length m E f x y (cmOf l)) (by omega) ?_
  refine GoesB.seq (K1 := 6) (by omega) ((waB 5 (by omega) k ps.length m E f x y (cmOf l)).mono fun e fr' H' h => ?_)
  cases hxy : x == y with
  | true =>
   rw [hxy, cond_true] at h
   obtain ⟨rfl, rfl, rfl⟩ := h
   have e1 : wks E k y (d + 1) ps x (cmOf l) = (true, ps) := by unfold wks; rw [hxy, cond_true]
   rw [e1]
   exact ⟨rfl, m, f, rfl, rfl, hm.2, hm.1⟩
  | false =>
   rw [hxy, cond_false] at h
   obtain ⟨rfl, rfl, rfl⟩ := h
   have e1 : wks E k y (d + 1) ps x (cmOf l) = wlp E k (wks E k y d) ps x (cmOf l) k := by conv => lhs; unfold wks; rw [hxy, cond_false]
   rw [e1]
   refine GoesB.seq (K1 := 6) (by omega) (GoesB.seqN (K1 := 6) (F1 := [(0, .str true x), (1, iT (cmOf l)), (2, ZA 2), (3, ZA 1), (4, ZA 3), (5, ZA 4), (15, ZF k 0), (16, iT (k : Int)), (17, ZBn)]) (H1 := [(0, ZB k E), (1, ZDF k), (2, ZU y), (3, .cells true 1 1 (.fn fun _ => [sL 5 ps.length])), (4, ZDE), (5, ZBN m f)]) (GoesB.toN (waC 5 (by omega) k ps.length m E f x y (cmOf l)) ⟨re rfl, re rfl, re rfl, re rfl, re rfl, re rfl, re rfl, re rfl, ⟨_, rfl, AV.ge.int _ _ _ _⟩, trivial⟩ (eHh rfl)) (by omega) ((wk_loop k d m E f x y (cmOf l) hk ps (by omega) hm ih).mono fun e fr' H' h => ?_))
   rcases h with ⟨rfl, hq, i, m', f', h1, rfl, rfl⟩ | h
   ·refine (waO 5 (by omega) i k ps.length m' E f' x y (cmOf l)).mono fun e fr' H' h => ?_
    obtain ⟨rfl, rfl, rfl⟩ := h
    rw [hq]
    exact ⟨rfl, m', f', rfl, rfl, h1.2, h1.1⟩
   ·have := h.1
    subst this
    exact h


theorem boA (B : Nat) (hB : B ≤ 1) (k : Nat) (E : tE) (f : Nat → List UInt8) (z y : List UInt8) : GoesB Try.prog ((nav [0] (bodyOf Try.f46))) Try.f46.ntmps B 1 3 (frameOf [ZF k 0, .str true z, .str true y] 0 .e) (hpL [(0, ZB k E)]) (pP .normal [(0, ZF k 0), (1, .str true z), (3, ZA 1), (5, ZA 2)] [(0, ZQ k E), (1, .cells true 1 1 (.lit [] (.n .e (some [ZF k 0]) .e))), (2, .cells true 1 1 (.lit [] (.n .e (some [.str true y]) .e)))]) := rdE [] trivial hB
theorem boB (B : Nat) (hB : B ≤ 3) (k : Nat) (E : tE) (f : Nat → List UInt8) (z y : List UInt8) : GoesB Try.prog ((nav [1,0] (bodyOf Try.f46))) Try.f46.ntmps B 3 4 (frL [(0, ZF k 0), (1, .str true z), (3, ZA 1), (5, ZA 2)]) (hpL [(0, ZB k E), (1, ZDF k), (2, Zo y)]) (pP .normal [(0, ZF k 0), (1, .str true z), (3, ZA 1), (5, ZA 2), (7, ZA 3)] [(0, ZQ k E), (1, ZDN k), (2, Zh y), (3, .cells true 1 1 (.lit [] (.n .e (some [.nils]) .e)))]) := rdE [] trivial hB
noncomputable abbrev ZCe := (.cells true 1 1 (.fn fun _ => [.nils]) : ABk)
theorem boC (B : Nat) (hB : B ≤ 4) (k : Nat) (E : tE) (f : Nat → List UInt8) (z y : List UInt8) : GoesB Try.prog ((nav [1,1,0] (bodyOf Try.f46))) Try.f46.ntmps B 4 5 (frL [(0, ZF k 0), (1, .str true z), (3, ZA 1), (5, ZA 2), (7, ZA 3)]) (hpL [(0, ZB k E), (1, ZDF k), (2, Zo y), (3, ZCe)]) (pP .normal [(0, ZF k 0), (1, .str true z), (3, ZA 1), (5, ZA 2), (7, ZA 3), (8, ZA 4)] [(0, ZQ k E), (1, ZDN k), (2, Zh y), (3, .cells true 1 1 (.fn fun x => [.nils])), (4, .cells true 1 1 (.lit [] (.n .e (some [.nilf]) .e)))]) := rdE [] trivial hB
theorem boD (B : Nat) (hB : B ≤ 5) (k : Nat) (E : tE) (f : Nat → List UInt8) (z y : List UInt8) : GoesB Try.prog ((nav [1,1,1,0] (bodyOf Try.f46))) Try.f46.ntmps B 5 5 (frL [(0, ZF k 0), (1, .str true z), (3, ZA 1), (5, ZA 2), (7, ZA 3), (8, ZA 4)]) (hpL [(0, ZB k E), (1, ZDF k), (2, Zo y), (3, ZCe), (4, .cells true 1 1 (.fn fun _ => [.nilf]))]) (pP .normal [(0, ZF k 0), (1, .str true z), (7, ZA 3), (8, ZA 4)] [(0, ZQ k E), (1, ZDN k), (2, Zh y), (3, .cells true 1 1 (.fn fun x => [.nils])), (4, .cells true 1 1 (.fn fun j => bif Nat.beq j 0 then [.fn (Go.Fn.func 67) [] [ZA 2, ZA 1, ZA 3, ZA 4]] else [.nilf]))]) := rdE [] trivial hB
noncomputable abbrev ZCX := nav [1,1,1,1,0] (bodyOf Try.f46)
theorem boE_r0 (k L m : Nat) (E : tE) (f : Nat → List UInt8) (z y : List UInt8) : PieceN 6 (Ex.normal) [(7, ZA 3), (10, .fn (Go.Fn.func (67 : Go.FuncId)) [] [ZA 2, ZA 1, ZA 3, ZA 4]), (11, .str true z)] [(0, ZQ k E), (1, ZDN k), (2, Zh y), (3, Zs L), (4, .cells true 1 1 (.fn fun x => [.fn (Go.Fn.func (67 : Go.FuncId)) [] [ZA 2, ZA 1, ZA 3, ZA 4]])), (5, ZP m f)] (piececallE Try.f46 ((regPre 2 ZCX)) (frL [(0, ZF k 0), (1, .str true z), (7, ZA 3), (8, ZA 4)]) (ZEl k E y L m f) 6 []) := eN trivial
theorem boQ_r0 (k L m : Nat) (E : tE) (f : Nat → List UInt8) (y : List UInt8) (b : Bool) : PieceN 6 (Ex.normal) [(7, ZA 3)] [(0, ZQ k E), (1, ZDN k), (2, Zh y), (3, Zs L), (4, .cells true 1 1 (.fn fun x => [.fn (Go.Fn.func (67 : Go.FuncId)) [] [ZA 2, ZA 1, ZA 3, ZA 4]])), (5, ZP m f)] (piececallE Try.f46 ((regPost 3 ZCX)) (frL [(12, .sbool b), (7, ZA 3)]) (ZEl k E y L m f) 6 []) := eN trivial
theorem boF (B : Nat) (hB : B ≤ 6) (k L m : Nat) (E : tE) (f : Nat → List UInt8) (y : List UInt8) : GoesB Try.prog ((nav [1,1,1,1,1] (bodyOf Try.f46))) Try.f46.ntmps B 6 6 (ZDy 7 3) (ZEl k E y L m f) (pP .ret [(6, sL 5 L)] [(5, ZP m f)]) := rdE [] trivial hB
theorem ao_is : (bodyOf Try.f46) = .seq (nav [0] (bodyOf Try.f46)) (.seq (nav [1,0] (bodyOf Try.f46)) (.seq (nav [1,1,0] (bodyOf Try.f46)) (.seq (nav [1,1,1,0] (bodyOf Try.f46)) (.seq ZCX (nav [1,1,1,1,1] (bodyOf Try.f46)))))) := by kernel_rfl
noncomputable def opA : Oper := ((regOps ZCX).drop 2).headD ⟨none, .move (.tmp 0), 0, "", #[], none⟩
def clA : Call := ⟨.value (.tmp 10), #[.tmp 11, .const (.int .i64 (-1))], #[9, 3]⟩
noncomputable abbrev ZEp (v0 : Nat) (v1 : tE) (v2 : Tx) := ([(0, ZB v0 v1), (1, ZDF v0), (2, ZU v2), (3, .cells true 1 1 (.fn fun _ => [sL 5 0])), (4, ZDE), (5, .cells true 1 0 (.fn (txR (fun _ => []))))] : tH)
noncomputable abbrev ZEq (v0 : Nat) (v1 : tE) (v2 v3 : Tx) (v4 v5) := ([(0, ZB v0 v1), (1, ZDF v0), (2, ZU v2), (3, .cells true 1 1 (.fn fun _ => [sL 5 (wks v1 v0 v2 (v0 + 1) [] v3 (-1)).2.length])), (4, ZDE), (5, ZBN v4 v5)] : tH)
theorem ao_call (k : Nat) (hk : k ≤ 256) (E : tE) {cl : Nat → Tx → Nat} (FR : Forest (edT E k) cl) (z y : Tx) :
  GoesB Try.prog ZCX Try.f46.ntmps 1 6 6 (frL [(0, ZF k 0), (1, .str true z), (7, ZA 3), (8, ZA 4)]) (hpL (ZEp k E y)) (fun e fr' H' => e = .normal ∧ ∃ (m' : Nat) (f' : tX), fr' = frL [(7, ZA 3)] ∧ H' = hpL (ZEq k E y z m' f') ∧ PsO (wks E k y (k + 1) [] z (-1)).2 m' f') := by
 refine GoesB.callL (o := opA) (cl := clA) (fop := .tmp 10) (f := 67) (fn := Try.f67) (body := (bodyOf Try.f67)) (pre := []) (cap := [ZA 2, ZA 1, ZA 3, ZA 4]) (args := [.str true z, .int false .i64 (-1), ZA 2, ZA 1, ZA 3, ZA 4]) callE_ok 2 (by kernel_rfl) (by kernel_rfl) (by kernel_rfl) (by kernel_rfl) rfl (d := 12) (by kernel_rfl) (Nat.le_of_ble_eq_true (by kernel_rfl)) (K1 := 6) (K2 := 6) (by omega) (boE_r0 k 0 0 E (fun _ => []) z y) Try.func67 (by kernel_rfl) (by kernel_rfl) rfl (B0 := 5) (by omega) (by omega) (by omega) [(7, ZA 3)] rfl ⟨re rfl, trivial⟩ rfl
  (V := fun v H' => ∃ (m' : Nat) (f' : tX), v = .sbool (wks E k y (k + 1) [] z (-1)).1 ∧ H' = hpL (ZEq k E y z m' f') ∧ PsO (wks E k y (k + 1) [] z (-1)).2 m' f') ?_ (fun v H' hv => by
   obtain ⟨m', f', rfl, rfl, h1⟩ := hv
   exact ⟨[], _, _, boQ_r0 k _ m' E f' y (wks E k y (k + 1) [] z (-1)).1, rfl, m', f', rfl, rfl, h1⟩)
 refine GoesB.weakL (fl := [(5, ZA 4), (4, ZA 3), (3, ZA 1), (2, ZA 2), (1, iT (-1)), (0, .str true z)]) (bl := (ZEp k E y)) ⟨re rfl, re rfl, re rfl, re rfl, ⟨_, rfl, AV.ge.int _ _ _ _⟩, re rfl, trivial⟩ (eHh rfl) ?_
 refine (walk_goes k hk E FR z y (k + 1) [] z 0 (fun _ => []) [] (.nil _) (by simp) rfl ⟨Nat.le_refl _, fun j hj => by simp at hj⟩).mono fun e fr' H' h => ?_
 obtain ⟨he, m', f', hb, hH, h1, h2⟩ := h
 have hres : Try.f67.results.toList = [.tmp 8] := by kernel_rfl
 refine ⟨.inl he, [.bool (wks E k y (k + 1) [] z (-1)).1], ⟨H', 6, [], [], True⟩, ?_, trivial, .sbool (wks E k y (k + 1) [] z (-1)).1, fun N μ c h => by simpa only [Rep, packA] using h, m', f', rfl, hH, h2, h1⟩
 rw [hres]
 show M.andThen (M.ret ((fr'.get 8).getD .top)) _ _ = _
 rw [hb]
 rfl
theorem along_goes (k : Nat) (hk : k ≤ 256) (E : tE) {cl : Nat → Tx → Nat} (FR : Forest (edT E k) cl) (z y : Tx) :
  GoesB Try.prog (bodyOf Try.f46) Try.f46.ntmps 1 1 6 (frameOf [ZF k 0, .str true z, .str true y] 0 .e) (hpL [(0, ZB k E)]) (fun e fr' H' => e = .ret ∧ fr' = frL [(6, sL 5 (wks E k y (k + 1) [] z (-1)).2.length)] ∧ H' = hpL [(5, .cells true 1 (wks E k y (k + 1) [] z (-1)).2.length (.fn (txR (fun j => (wks E k y (k + 1) [] z (-1)).2.getD j []))))]) := by
 rw [ao_is]
 refine GoesB.seqN (K1 := 3) (F1 := [(0, ZF k 0), (1, .str true z), (3, ZA 1), (5, ZA 2)]) (H1 := [(0, ZB k E), (1, ZDF k), (2, ZU y)]) (GoesB.toN (boA 1 (by omega) k E (fun _ => []) z y) (eGg rfl) ⟨hs rfl, wk_hb rfl rfl, wk_hb rfl rfl, trivial⟩) (by omega) ?_
 refine GoesB.seqN (K1 := 4) (F1 := [(0, ZF k 0), (1, .str true z), (3, ZA 1), (5, ZA 2), (7, ZA 3)]) (H1 := [(0, ZB k E), (1, ZDF k), (2, ZU y), (3, ZCe)]) (GoesB.toN (boB 1 (by omega) k E (fun _ => []) z y) (eGg rfl) ⟨hs rfl, hs rfl, hs rfl, wk_hb rfl rfl, trivial⟩) (by omega) ?_
 refine GoesB.seqN (K1 := 5) (F1 := [(0, ZF k 0), (1, .str true z), (3, ZA 1), (5, ZA 2), (7, ZA 3), (8, ZA 4)]) (H1 := [(0, ZB k E), (1, ZDF k), (2, ZU y), (3, ZCe), (4, .cells true 1 1 (.fn fun _ => [.nilf]))]) (GoesB.toN (boC 1 (by omega) k E (fun _ => []) z y) (eGg rfl) ⟨hs rfl, hs rfl, hs rfl, hs rfl, wk_hb rfl rfl, trivial⟩) (by omega) ?_
 refine GoesB.seqN (K1 := 5) (F1 := [(0, ZF k 0), (1, .str true z), (7, ZA 3), (8, ZA 4)]) (H1 := [(0, ZB k E), (1, ZDF k), (2, ZU y), (3, ZCe), (4, ZDE)]) (GoesB.toN (boD 1 (by omega) k E (fun _ => []) z y) (eGg rfl) ⟨hs rfl, hs rfl, hs rfl, hs rfl, ⟨_, rfl, rfl, rfl, rfl, fun j hj => by
  obtain rfl : j = 0 := by omega
  rfl⟩, trivial⟩) (by omega) ?_
 refine GoesB.phantomB (c0 := .fn fun _ => [.nils]) (own := true) 3 1 (txR (fun _ => [])) rfl rfl (by omega) (by omega) ?_
 refine GoesB.weakL (fl := [(0, ZF k 0), (1, .str true z), (7, ZA 3), (8, ZA 4)]) (bl := (ZEp k E y)) (eGg rfl) (eHh rfl) ?_
 refine GoesB.seq (K1 := 6) (by omega) ((ao_call k hk E FR z y).mono fun e fr' H' h => ?_)
 obtain ⟨rfl, m', f', rfl, rfl, h1, h2⟩ := h
 refine GoesB.weakL (fl := [(7, ZA 3)]) (bl := (ZEq k E y z m' f')) ⟨re rfl, trivial⟩ (eHh rfl) ?_
 refine (boF 1 (by omega) k _ m' E f' y).less fun e fr' H' h => ?_
 obtain ⟨rfl, rfl, rfl⟩ := h
 refine ⟨[(5, .cells true 1 (wks E k y (k + 1) [] z (-1)).2.length (.fn (txR (fun j => (wks E k y (k + 1) [] z (-1)).2.getD j []))))], ⟨⟨_, rfl, .inr ⟨true, 1, m', _, _, _, rfl, rfl, rfl, h1, fun i hi => ?_⟩⟩, trivial⟩, rfl, rfl, rfl⟩
 show [AV.str true (f' i)] = [AV.str true ((wks E k y (k + 1) [] z (-1)).2.getD i [])]
 rw [h2 i hi]
def PEs (n : Nat) (f : Nat → List AV) : Prop := n ≤ 256 ∧ (∀ j, j < n → RowGe (f j) (elR (rowsE f j))) ∧ ∃ cl : Nat → Tx → Nat, Forest (edT (rowsE f) n) cl
/-- along's names, kept from unfolding -/
noncomputable def alX (E : tE) (k : Nat) (z y : Tx) : List Tx := Classical.choose (⟨_, rfl⟩ : ∃ l : List Tx, l = (wks E k y (k + 1) [] z (-1)).2)
theorem alX_is (E : tE) (k : Nat) (z y : Tx) : alX E k z y = (wks E k y (k + 1) [] z (-1)).2 := Classical.choose_spec (⟨_, rfl⟩ : ∃ l : List Tx, l = (wks E k y (k + 1) [] z (-1)).2)
theorem alX_len (E : tE) (k : Nat) (z y : Tx) : (alX E k z y).length ≤ k + 1 := by
 rw [alX_is]
 have := wks_len E k y (k + 1) [] z (-1)
 simpa using this
noncomputable def alN (E : tE) (k : Nat) (z y : Tx) : Nat := Classical.choose (⟨_, rfl⟩ : ∃ m : Nat, m = (alX E k z y).length)
theorem alN_is (E : tE) (k : Nat) (z y : Tx) : alN E k z y = (alX E k z y).length := Classical.choose_spec (⟨_, rfl⟩ : ∃ m : Nat, m = (alX E k z y).length)
noncomputable def alG (E : tE) (k : Nat) (z y : Tx) : Nat → Tx := Classical.choose (⟨_, rfl⟩ : ∃ f : Nat → Tx, f = fun j => (alX E k z y).getD j [])
theorem alG_is (E : tE) (k : Nat) (z y : Tx) : alG E k z y = fun j => (alX E k z y).getD j [] := Classical.choose_spec (⟨_, rfl⟩ : ∃ f : Nat → Tx, f = fun j => (alX E k z y).getD j [])
noncomputable def alongS : List AV → M AV
 | [x, .str _ z, .str _ y] => (rd 8 x PEs).andThen fun q => newS 1 (alN (rowsE q.2) q.1 z y) (txR (alG (rowsE q.2) q.1 z y))
 | _ => M.no
theorem alongS_tch : ∀ args, Tch (alongS args) := by
 intro args
 unfold alongS
 split
 ·exact (Tch.rd _ _ _).andThen fun _ => Tch.newS _ _ _
 ·exact Tch.no
theorem alongS_ok : ∀ args v g g', alongS args g = .done v g' → CallIs Try.prog 46 args v g g' := by
 intro args v g g' h
 unfold alongS at h
 split at h
 case h_2 => exact (no_done h).elim
 rename_i x s z s' y
 obtain ⟨⟨n, f⟩, g1, a1, h1⟩ := done_of h
 clear h
 obtain ⟨qv, kv, fv⟩ := rd_done a1 (by omega)
 dsimp only at h1 fv
 obtain ⟨rfl, e1, e2, e3⟩ := newS_done h1
 rw [kv.1, kv.2.1] at e1
 rw [kv.2.1] at e2 ⊢
 refine readsG (c := (bodyOf Try.f46)) Try.func46 (by kernel_rfl) (by kernel_rfl) kv [⟨x, 8, n, f⟩] (fun hp v hv => by rw [List.mem_singleton.1 hv]; exact (fv hp).1) (argsC := [slcV 0 n, .str true z, .str true y]) (fun hp N μ cs hcs => by
  simp only [Reps] at hcs ⊢
  obtain ⟨c, r, rfl, hc, c2, r2, rfl, hc2, c3, r3, rfl, hc3, rfl⟩ := hcs
  exact ⟨c, _, rfl, vw_val (l := [⟨x, 8, n, f⟩]) (fv hp).1 rfl hc, c2, _, rfl, by simpa only [Rep] using hc2, c3, [], rfl, by simpa only [Rep] using hc3, rfl⟩) (nms := [5]) (bs := [.cells true 1 (alN (rowsE f) n z y) (.fn (txR (alG (rowsE f) n z y)))]) (K' := 6) (fun hp => ?_) ?_ ?_ e1 (by rw [e2]; rfl) (fun hc => by rw [← e3]; exact hc)
 ·obtain ⟨_, hn, hr, cl, FR⟩ := fv hp
  have hg := GoesB.weakG (H0 := hpL [(0, .cells false 8 n (.fn fun j => elR (rowsE f j)))]) (H := hpL [(0, .cells false 8 n (.fn f))]) (fun t v ht => ⟨v, ht, AV.ge.refl _⟩) (fun i b hb => by
   have hm := hpL_get hb
   simp only [List.mem_cons, List.not_mem_nil, or_false] at hm
   cases hm
   exact ⟨_, rfl, rfl, rfl, rfl, fun j hj => hr j hj⟩) (along_goes n hn (rowsE f) FR z y)
  refine hg.mono fun e fr' H' h => ?_
  obtain ⟨rfl, rfl, rfl⟩ := h
  rw [alN_is, alG_is, alX_is]
  refine ⟨.inl rfl, [sL 5 (wks (rowsE f) n y (n + 1) [] z (-1)).2.length], _, rfl, trivial, ?_, rfl, ?_, by decide⟩
  ·simp only [AV.ren, AA.ren, getD_sub0]
   exact AV.ge.refl _
  ·intro i b hb
   match i, hb with
   | 0, hb =>
    cases hb
    exact ⟨5, _, rfl, rfl, ⟨rfl, rfl, rfl, fun j hj => rfl⟩, rfl, fun j hj v hv => by
     rw [List.mem_singleton.1 hv]; rfl, fun j hj o v hv => by
     rw [List.mem_singleton.1 (List.mem_of_getElem? hv)]; trivial⟩
 ·exact Nat.ble_eq_true_of_le (show Nat.succ g.nx ≤ g.nx + 1 by omega)
 ·show g.nx ≤ g.nx; omega


noncomputable abbrev ZBk (v0 : Nat) (v1 : Nat → Nat) := (.cells false 1 v0 (.fn fun j => [iT ((v1 j : Nat) : Int)]) : ABk)
noncomputable abbrev ZDA (v0 : Nat) (v1 : Nat → Nat) := (.cells false 1 v0 (.fn fun j => [iT (↑(v1 j) : Int)]) : ABk)
noncomputable abbrev ZDU (v0 : Nat) (w0 w1) := (.cells false 2 1 (.fn fun _ => [.mp w0, ZF v0 w1]) : ABk)
noncomputable abbrev ZD2 (v0 : Nat) (w0 w1) := (.cells false 2 1 (.fn fun x => [.mp w0, ZF v0 w1]) : ABk)
theorem roA (B : Nat) (hB : B ≤ 3) (n x : Nat) (u : Nat → Nat) : GoesB Try.prog ((nav [0] (bodyOf Try.f44))) Try.f44.ntmps B 3 3 (frameOf [ZA 0, iT (x : Int)] 0 .e) (hpL [(0, ZDU n 2 1), (1, ZBk n u)]) (pP .normal [(0, ZA 0), (1, iT (↑x : Int))] [(0, ZD2 n 2 1), (1, ZDA n u)]) := rdE [] trivial hB
theorem roL (B : Nat) (hB : B ≤ 3) (n x : Nat) (u : Nat → Nat) (x0 : ((↑x : Int) < (↑n : Int))) (x1 : (0 + x < n)) : GoesB Try.prog ((nav [1,0,0,0] (bodyOf Try.f44))) Try.f44.ntmps B 3 3 (frL [(0, ZA 0), (1, iT (x : Int))]) (hpL [(0, ZDU n 2 1), (1, ZBk n u)]) fun e fr' H' => (cond (decide ((↑(u (0 + x)) : Int) = (↑x : Int))) (pP (.exit 0) [(0, ZA 0), (1, iT (↑x : Int))] [(0, ZD2 n 2 1), (1, ZDA n u)] e fr' H') (pP .normal [(0, ZA 0), (1, iT (↑(u (0 + x)) : Int))] [(0, ZD2 n 2 1), (1, ZDA n u)] e fr' H')) := cD (fun q0 t0 => rdE [fF] (I3 (ai (show 0 ≤ (↑x : Int) by omega) x0) x1 (nt t0)) hB) (fun q0 t0 => rdE [tT] (I5 (ai (show 0 ≤ (↑x : Int) by omega) x0) x1 (nf t0) (ai (show 0 ≤ (↑x : Int) by omega) x0) x1) hB)
theorem roE (B : Nat) (hB : B ≤ 3) (n x : Nat) (u : Nat → Nat) : GoesB Try.prog ((nav [1,1] (bodyOf Try.f44))) Try.f44.ntmps B 3 3 (frL [(0, ZA 0), (1, iT (x : Int))]) (hpL [(0, ZDU n 2 1), (1, ZBk n u)]) (pP .ret [(4, iT (↑x : Int))] [(0, ZD2 n 2 1), (1, ZDA n u)]) := rdE [] trivial hB
theorem ro_is : (bodyOf Try.f44) = .seq (nav [0] (bodyOf Try.f44)) (.seq (.block 0 (.loop (nav [1,0,0,0] (bodyOf Try.f44)))) (nav [1,1] (bodyOf Try.f44))) := by kernel_rfl
theorem root_goes (n x : Nat) (u : Nat → Nat) (hu : ∀ j, u j ≤ j) (hx : x < n) (hn : n ≤ 9223372036854775807) : GoesB Try.prog (bodyOf Try.f44) Try.f44.ntmps 3 3 3 (frameOf [ZA 0, iT (x : Int)] 0 .e) (hpL [(0, ZDU n 2 1), (1, ZBk n u)]) (fun e fr' H' => e = .ret ∧ fr' = frL [(4, iT ((root u x : Nat) : Int))]) := by
 rw [ro_is]
 refine GoesB.seqN (K1 := 3) (F1 := [(0, ZA 0), (1, iT (x : Int))]) (H1 := [(0, ZDU n 2 1), (1, ZBk n u)]) (roA 3 (by omega) n x u) (by omega) ?_
 refine GoesB.seq (K1 := 3) (by omega) (GoesB.block ((GoesB.loop (Post := fun e fr' H' => e = .exit 0 ∧ fr' = frL [(0, ZA 0), (1, iT ((root u x : Nat) : Int))] ∧ H' = hpL [(0, ZDU n 2 1), (1, ZBk n u)]) (fun r fr' H' => r < n ∧ root u r = root u x ∧ fr' = frL [(0, ZA 0), (1, iT (r : Int))] ∧ H' = hpL [(0, ZDU n 2 1), (1, ZBk n u)]) ?_ x _ _ ⟨hx, rfl, rfl, rfl⟩).mono fun e fr' H' h => ?_))
 ·rintro r fr' H' ⟨hr, hq, rfl, rfl⟩
  refine (roL 3 (by omega) n r u (by omega) (by omega)).mono fun e fr' H' h => ?_
  rw [Nat.zero_add] at h
  have hur := hu r
  by_cases c : u r = r
  ·rw [decide_eq_true (by omega), cond_true] at h
   obtain ⟨rfl, rfl, rfl⟩ := h
   refine ⟨rfl, ?_, rfl⟩
   rw [← hq, root_self c]
  ·rw [decide_eq_false (by omega), cond_false] at h
   obtain ⟨rfl, rfl, rfl⟩ := h
   exact ⟨u r, by omega, by omega, (root_step hu r).trans hq, rfl, rfl⟩
 ·obtain ⟨rfl, rfl, rfl⟩ := h
  simp only [if_true]
  refine (roE 3 (by omega) n (root u x) u).mono fun e fr' H' h => ?_
  obtain ⟨rfl, rfl, rfl⟩ := h
  exact ⟨rfl, rfl⟩
/-- the sets' places, by their rows -/
def uO (n : Nat) (c : Nat → List AV) (j : Nat) : Nat := if j < n then (match c j with | [.int _ _ v] => v.toNat | _ => 0) else 0
def RQ (n m : Nat) (c : Nat → List AV) (v : Int) : Prop := n ≤ m ∧ n ≤ 4096 ∧ 0 ≤ v ∧ v < n ∧ ∀ j, j < n → RowGe (c j) [iT ((uO n c j : Nat) : Int)] ∧ uO n c j ≤ j
theorem rep_ptr0 {N K0 i : Nat} {μ : MM} {ρ : Nat → Nat} {a : AA} {c : Value} (h : Rep N μ (.ptr a) c) (h1 : a.i = 0) (h2 : a.o = 0) (hi : i < K0) (e : ρ i = a.g) : Rep K0 (μ.via ρ) (.ptr ⟨false, i, 0, 0⟩) c := by
 simp only [Rep] at h ⊢
 refine ⟨hi, h.2.trans ?_⟩
 simp only [MM.addr, MM.via, e, h1, h2]
theorem viewR {N : Nat} {μ : MM} {hp : Array Obj} {g sz n m : Nat} {own : Bool} {c : Cont} {rows : Nat → List AV} (h : BkOk N μ hp g (.cells own sz m c)) (hn : n ≤ m) (k : ∀ j, j < n → RowGe (c.row j) (rows j)) : BkOk N μ hp g (.cells false sz n (.fn rows)) := by
 refine ⟨h.1, h.2.1, fun hr => ?_⟩
 have hr' : 0 < n := by
  rcases hr with hr | hr
  ·exact hr
  ·cases hr.1
 obtain ⟨cur, ty, fz, p1, p2, p3, p4⟩ := h.2.2 (.inl (by omega))
 exact ⟨cur, ty, fz, p1, Nat.le_trans (Nat.add_le_add_left (Nat.mul_le_mul_right _ hn) _) p2, fun h => (by cases h), fun i hi => RowOk.ge (p4 i (by omega)) (k i hi)⟩
theorem ge_slv {s own : Bool} {a : AA} {len q : Nat} (h1 : a.i = 0) (h2 : a.o = 0) (e : a.g = q) : AV.ge (.slc s own a len) (.slc true false ⟨false, q, 0, 0⟩ len) := fun N μ c h => by
 simp only [Rep, RepS] at h ⊢
 obtain ⟨hg, A, C, rfl, hl, k1, k2, k3⟩ := h
 subst e
 exact ⟨hg, A, C, rfl, hl, fun h0 => (k1 h0).trans (by simp only [MM.addr, h1, h2]), fun h => (by cases h), fun h => (by cases h)⟩
noncomputable def rootS : List AV → M AV
 | [.ptr a, .int _ .i64 v] => (getC a.g).andThen fun b =>
  match b.2.2.2.row 0 with
  | [.mp p, .slc s1 o1 a1 len] => (getC a1.g).andThen fun b2 => (M.okIf (Nat.beq a.i 0 && Nat.beq a.o 0 && Nat.beq b.2.1 2 && Nat.beq b.2.2.1 1 && Nat.beq a1.i 0 && Nat.beq a1.o 0 && Nat.beq b2.2.1 1 && !Nat.beq a.g a1.g)).andThen fun _ => (M.req (RQ len b2.2.2.1 b2.2.2.2.row v)).andThen fun _ => M.ret (iT ((root (uO len b2.2.2.2.row) v.toNat : Nat) : Int))
  | _ => M.no
 | _ => M.no
theorem rootS_tch : ∀ args, Tch (rootS args) := by
 intro args
 unfold rootS
 split
 ·refine (Tch.getC _).andThen fun b => ?_
  split
  ·exact (Tch.getC _).andThen fun _ => (Tch.okIf _).andThen fun _ => (Tch.req _).andThen fun _ => Tch.ret _
  ·exact Tch.no
 ·exact Tch.no
theorem rootS_ok : ∀ args v g g', rootS args g = .done v g' → CallIs Try.prog 44 args v g g' := by
 intro args v g g' h
 unfold rootS at h
 split at h
 case h_2 => exact (no_done h).elim
 rename_i a s v
 obtain ⟨⟨ob, zb, mb, cb⟩, g1, a1, h1⟩ := done_of h
 clear h
 obtain ⟨t1, rfl⟩ := getC_done a1
 dsimp only at h1 t1
 generalize r1 : cb.row 0 = R1 at h1
 split at h1
 case h_2 => exact (no_done h1).elim
 rename_i p s1 o1 aa len
 obtain ⟨⟨ob2, zb2, mb2, cb2⟩, g2, a2, h2⟩ := done_of h1
 clear h1
 obtain ⟨t2, rfl⟩ := getC_done a2
 dsimp only at h2 t2
 obtain ⟨_, g3, a3, h3⟩ := done_of h2
 clear h2
 obtain ⟨hq, rfl⟩ := okIf_done a3
 simp only [Bool.and_eq_true, Bool.not_eq_true'] at hq
 obtain ⟨⟨⟨⟨⟨⟨⟨q1, q2⟩, q3⟩, q4⟩, q5⟩, q6⟩, q7⟩, q8⟩ := hq
 replace q1 := Nat.eq_of_beq_eq_true q1
 replace q2 := Nat.eq_of_beq_eq_true q2
 obtain rfl := Nat.eq_of_beq_eq_true q3
 obtain rfl := Nat.eq_of_beq_eq_true q4
 replace q5 := Nat.eq_of_beq_eq_true q5
 replace q6 := Nat.eq_of_beq_eq_true q6
 obtain rfl := Nat.eq_of_beq_eq_true q7
 replace q8 := Nat.ne_of_beq_eq_false q8
 obtain ⟨_, g4, a4, h4⟩ := done_of h3
 have kk := req_done a4
 obtain ⟨rfl, rfl⟩ := ret_done h4
 refine smallCall (c := (bodyOf Try.f44)) Try.func44 (by kernel_rfl) (by kernel_rfl) (argsC := [ZA 0, iT ((v.toNat : Nat) : Int)]) (bl := [(0, .cells false 2 1 (.fn fun _ => [.mp 2, .slc true false ⟨false, 1, 0, 0⟩ len])), (1, .cells false 1 len (.fn fun j => [iT ((uO len cb2.row j : Nat) : Int)]))]) (bl' := []) (B0 := 3) (K0 := 3) (K' := 3) (p := _) (fun hc => kk.2.2 hc) kk.2.1 (fun i => if i = 0 then a.g else if i = 1 then aa.g else p) ?_ ?_ ?_ ?_ rfl ?_
 ·intro hp N μ cs hr
  simp only [Reps] at hr ⊢
  obtain ⟨c1, r, rfl, h1, c2, r', rfl, h2, h3⟩ := hr
  refine ⟨c1, _, rfl, rep_ptr0 h1 q1 q2 (by omega) rfl, c2, _, rfl, ?_, h3⟩
  simp only [Rep] at h2 ⊢
  rw [h2, Int.toNat_of_nonneg hp.2.2.1]
 ·intro hp i b hbb
  have hm := hpL_get hbb
  simp only [List.mem_cons, List.not_mem_nil, or_false] at hm
  rcases hm with hm | hm <;> cases hm
  ·exact ⟨by omega, fun i0 _ v hv => by
    rcases List.mem_cons.1 hv with rfl | hv
    ·rfl
    ·rw [List.mem_singleton.1 hv]; rfl, _, t1, fun N μ hpp k => viewR k (Nat.le_refl _) (fun j hj => by
    obtain rfl : j = 0 := by omega
    rw [r1]
    exact ⟨AV.ge.refl _, rfl, ge_slv q5 q6 rfl, rfl, trivial⟩), fun h => (by cases h), fun μ j hr => .inl (by omega)⟩
  ·exact ⟨by omega, fun i0 _ v hv => by rw [List.mem_singleton.1 hv]; rfl, _, t2, fun N μ hpp k => viewR k hp.1 (fun j hj => (hp.2.2.2.2 j hj).1), fun h => (by cases h), fun μ j hr => by
    rcases hr with hr | hr
    ·exact .inl (by have := hp.1; omega)
    ·cases hr.1⟩
 ·intro hp i j b b' hi hj e
  have hm := hpL_get hi
  have hm' := hpL_get hj
  simp only [List.mem_cons, List.not_mem_nil, or_false] at hm hm'
  rcases hm with hm | hm <;> rcases hm' with hm' | hm' <;> cases hm <;> cases hm'
  ·rfl
  ·exact absurd e q8
  ·exact absurd e.symm q8
  ·rfl
 ·intro hp
  refine (root_goes len v.toNat (uO len cb2.row) (fun j => ?_) (by have := hp.2.2.1; have := hp.2.2.2.1; omega) (by have := hp.2.1; omega)).mono fun e fr' H' h => ?_
  ·by_cases c : j < len
   ·exact (hp.2.2.2.2 j c).2
   ·unfold uO; rw [if_neg c]; omega
  ·obtain ⟨rfl, rfl⟩ := h
   exact ⟨.inl rfl, _, _, res1 (t := 4) (by kernel_rfl) rfl, trivial, AV.ge.refl _, trivial⟩
 ·intro hp i b hi
  refine .inl ⟨by rw [← kk.1]; exact hi, fun j bj hj ho => ?_⟩
  have hm := hpL_get hj
  simp only [List.mem_cons, List.not_mem_nil, or_false] at hm
  rcases hm with hm | hm <;> cases hm <;> cases ho


noncomputable def gamR : Known := kc 71 ofBits (kc 74 toBits (kc 72 smallS (kc 61 kindS (kc 58 rowOfS (kc 73 ofS (kc 59 nameS (kc 60 nodeS (kc 35 chkS (kc 12 netofS (kc 29 elsS (kc 46 alongS (kc 44 rootS (kn)))))))))))))
theorem gamR_ok : KnownOk Try.prog gamR := kc_ok ((ofBits_is Try.prog).callIs Try.func71 (by kernel_rfl) (by kernel_rfl) (by kernel_rfl) (by kernel_rfl)) (kc_ok ((toBits_is Try.prog).callIs Try.func74 (by kernel_rfl) (by kernel_rfl) (by kernel_rfl) (by kernel_rfl)) (kc_ok smallS_ok (kc_ok kindS_ok (kc_ok rowOfS_ok (kc_ok ofS_ok (kc_ok nameS_ok (kc_ok nodeS_ok (kc_ok chkS_ok (kc_ok netofS_ok (kc_ok elsS_ok (kc_ok alongS_ok (kc_ok rootS_ok (kn_ok)))))))))))))
theorem gamR_tch : KnownT gamR := kc_tch Tch.ofBits (kc_tch Tch.toBits (kc_tch smallS_tch (kc_tch kindS_tch (kc_tch rowOfS_tch (kc_tch ofS_tch (kc_tch nameS_tch (kc_tch nodeS_tch (kc_tch chkS_tch (kc_tch netofS_tch (kc_tch elsS_tch (kc_tch alongS_tch (kc_tch rootS_tch (kn_tch)))))))))))))
noncomputable def callR : Calls' := Sx.runN Try.prog gamR (regionC Try.prog) 1000 50
theorem callR_ok : CallOk Try.prog callR := engineC gamR_ok gamR_tch (by kernel_rfl) (by kernel_rfl) 1000 50
theorem callR_reg (n : Nat) : RegionOk Try.prog (regionC Try.prog callR n) n := runN_regionC gamR_ok gamR_tch (by kernel_rfl) (by kernel_rfl) 1000 50 n
noncomputable abbrev piececallR (f : Func) (c : Code) (fr : Fr) (H : T ABk) (K : Nat) (path : List Bool) : Res (Ex × Fr) :=
 codeA Try.prog callR (regionC Try.prog callR f.ntmps) noLoops f.ntmps 1000 c fr ⟨H, K, [], path, True⟩


theorem rcR {fn : Func} {K K' B : Nat} {e : Ex} {F : tF} {Hl : tH} {c : Code} {fr : Fr} {H : T ABk} {path : List Bool} (h : PieceN K' e F Hl (piececallR fn c fr H K path)) (hB : B ≤ K) : GoesB Try.prog c fn.ntmps B K K' fr H fun e' fr' H' => e' = e ∧ fr' = frL F ∧ H' = hpL Hl := GoesB.runN callR_ok (callR_reg _) (LoopsIn.none _ _ _) h hB
theorem rdR {fn : Func} {K K' B : Nat} {e : Ex} {F : tF} {Hl : tH} {c : Code} {fr : Fr} {H : T ABk} (path : List Bool) {q : Prop} (hq : q) (hB : B ≤ K) (h : pieceN K' e F Hl (piececallR fn c fr H K path) = (e = e ∧ selfW F ∧ selfH Hl ∧ true = true ∧ q) := by kernel_rfl) : GoesB Try.prog c fn.ntmps B K K' fr H fun e' fr' H' => e' = e ∧ fr' = frL F ∧ H' = hpL Hl := rcR (eqn h hq) hB
noncomputable abbrev Zn (v0 : Nat) (v1 : Nat → Nat) := (.cells true 1 v0 (.fn fun k => [iT ((v1 k : Nat) : Int)]) : ABk)
noncomputable abbrev Zr (v0 : Nat) (v1 : Nat → Nat) := (.cells true 1 v0 (.fn fun k => [iT (↑(v1 k) : Int)]) : ABk)
theorem jnA (B : Nat) (hB : B ≤ 12) (n : Nat) (u : Nat → Nat) (zl : List (List UInt8 × Int)) (x y : List UInt8) (sb : Bool) : GoesB Try.prog ((nav [0] (bodyOf Try.f41))) Try.f41.ntmps B 12 12 (frameOf [ZA 9, .str true x, .str true y] 0 .e) (hpL [(9, ZDU n 11 10), (10, Zn n u), (11, .mSI sb zl)]) (pP .normal [(0, ZA 9), (1, .str true x), (2, .str true y)] [(9, ZD2 n 11 10), (10, Zr n u), (11, ABk.mSI sb zl)]) := rdR [] trivial hB
theorem jnB (B : Nat) (hB : B ≤ 12) (n : Nat) (u : Nat → Nat) (zl : List (List UInt8 × Int)) (x y : List UInt8) (j : Nat) (sb : Bool) (x0 : (n ≤ 4096)) (x1 : ((0 : Int) ≤ Option.getD (lfind seq x zl) (0 : Int))) (x2 : (Option.getD (lfind seq x zl) 0 < (↑n : Int))) (x3 : (∀ (j : Nat), j < n → RowGe [iT (↑(u j) : Int)] [iT (↑(uO n (Cont.row (.fn fun k => [.int true .i64 (↑(u k) : Int)])) j) : Int)] ∧ uO n (Cont.row (.fn fun k => [iT (↑(u k) : Int)])) j ≤ j)) (x4 : ((0 : Int) ≤ Option.getD (lfind seq y zl) (0 : Int))) (x5 : (Option.getD (lfind seq y zl) 0 < (↑n : Int))) : GoesB Try.prog ((nav [1,0] (bodyOf Try.f41))) Try.f41.ntmps B 12 12 (frL [(0, ZA 9), (1, .str true x), (2, .str true y)]) (hpL [(9, ZDU n 11 10), (10, Zn n u), (11, .mSI sb zl)]) (pP .normal [(0, ZA 9), (7, iT (↑(root (uO n (Cont.row (.fn fun k => [.int true .i64 (↑(u k) : Int)]))) (Int.toNat (Option.getD (lfind seq x zl) (0 : Int)))) : Int)), (8, iT (↑(root (uO n (Cont.row (.fn fun k => [.int true .i64 (↑(u k) : Int)]))) (Int.toNat (Option.getD (lfind seq y zl) (0 : Int)))) : Int))] [(9, ZD2 n 11 10), (10, Zr n u), (11, ABk.mSI sb zl)]) := rdR [] (I2 (ai (show n ≤ n by omega) (ai x0 (ai x1 (ai x2 x3)))) (ai (show n ≤ n by omega) (ai x0 (ai x4 (ai x5 x3))))) hB
theorem jnC (B : Nat) (hB : B ≤ 12) (n : Nat) (u : Nat → Nat) (zl : List (List UInt8 × Int)) (x : List UInt8) (i j : Nat) (sb : Bool) (x0 : ((if (↑j : Int) > (↑i : Int) then (↑j : Int) else (↑i : Int)) < (↑n : Int))) (x1 : (0 + Int.toNat (if (↑j : Int) > (↑i : Int) then (↑j : Int) else (↑i : Int)) < n)) : GoesB Try.prog ((nav [1,1,0] (bodyOf Try.f41))) Try.f41.ntmps B 12 12 (frL [(0, ZA 9), (7, iT (i : Int)), (8, iT (j : Int))]) (hpL [(9, ZDU n 11 10), (10, Zn n u), (11, .mSI sb zl)]) (pP .normal [(7, iT (↑i : Int)), (8, iT (↑j : Int))] [(9, ZD2 n 11 10), (10, .cells true 1 n (.fn fun j_1 => bif Nat.beq j_1 (0 + Int.toNat (if (↑j : Int) > (↑i : Int) then (↑j : Int) else (↑i : Int))) then [iT (if (↑j : Int) < (↑i : Int) then (↑j : Int) else (↑i : Int))] else [iT (↑(u j_1) : Int)])), (11, ABk.mSI sb zl)]) := rdR [] (I3 (ai (show (0 : Int) ≤ if (↑j : Int) > (↑i : Int) then (↑j : Int) else (↑i : Int) by omega) x0) x1 (show 1 ≤ 1 by omega)) hB
theorem jnD (B : Nat) (hB : B ≤ 12) (n : Nat) (u : Nat → Nat) (zl : List (List UInt8 × Int)) (x : List UInt8) (i j : Nat) (sb : Bool) : GoesB Try.prog ((nav [1,1,1] (bodyOf Try.f41))) Try.f41.ntmps B 12 12 (frL [(7, iT (i : Int)), (8, iT (j : Int))]) (hpL [(9, ZDU n 11 10), (10, Zn n u), (11, .mSI sb zl)]) (pP .ret [(6, .sbool !decide ((↑i : Int) = (↑j : Int)))] [(9, ZD2 n 11 10), (10, Zr n u), (11, ABk.mSI sb zl)]) := rdR [] trivial hB
theorem rt_congr {u u' : Nat → Nat} (hu : ∀ j, u j ≤ j) : ∀ (f k : Nat), (∀ j, j ≤ k → u j = u' j) → rt u f k = rt u' f k
 | 0, k, _ => rfl
 | f + 1, k, h => by
  unfold rt
  rw [← h k (Nat.le_refl _)]
  split
  ·rfl
  ·exact rt_congr hu f _ fun j hj => h j (Nat.le_trans hj (hu k))
theorem root_congr {u u' : Nat → Nat} (hu : ∀ j, u j ≤ j) {k : Nat} (h : ∀ j, j ≤ k → u j = u' j) : root u k = root u' k := rt_congr hu k k h
/-- where a name lies in the sets -/
def plc (zl : tM) (x : Tx) : Nat := ((lfind seq x zl).getD 0).toNat
theorem jn_is : (bodyOf Try.f41) = .seq (nav [0] (bodyOf Try.f41)) (.seq (nav [1,0] (bodyOf Try.f41)) (.seq (nav [1,1,0] (bodyOf Try.f41)) (nav [1,1,1] (bodyOf Try.f41)))) := by kernel_rfl
theorem join_goes (n : Nat) (u : Nat → Nat) (zl : tM) (x y : Tx) (sb : Bool) (hn : n ≤ 4096) (hu : ∀ j, u j ≤ j) (hz : ∀ x, 0 ≤ (lfind seq x zl).getD 0 ∧ (lfind seq x zl).getD 0 < (n : Int)) :
  GoesB Try.prog (bodyOf Try.f41) Try.f41.ntmps 12 12 12 (frameOf [ZA 9, .str true x, .str true y] 0 .e) (hpL [(9, ZDU n 11 10), (10, Zn n u), (11, .mSI sb zl)]) (fun e fr' H' => e = .ret ∧ fr' = frL [(6, .sbool (!decide (((root u (plc zl x) : Nat) : Int) = ((root u (plc zl y) : Nat) : Int))))] ∧ H' = hpL [(9, ZDU n 11 10), (10, .cells true 1 n (.fn fun k => [iT (((jn u (plc zl x) (plc zl y)) k : Nat) : Int)])), (11, .mSI sb zl)]) := by
 have hw : ∀ j, j < n → uO n (Cont.row (.fn fun k => [iT ((u k : Nat) : Int)])) j = u j := fun j hj => by
  unfold uO
  rw [if_pos hj]
  show ((u j : Nat) : Int).toNat = u j
  omega
 have lx : (plc zl x) < n := by have := hz x; unfold plc; omega
 have ly : (plc zl y) < n := by have := hz y; unfold plc; omega
 have rx := root_le hu (plc zl x)
 have ry := root_le hu (plc zl y)
 have ex : root (uO n (Cont.row (.fn fun k => [iT ((u k : Nat) : Int)]))) (plc zl x) = root u (plc zl x) := (root_congr hu fun j hj => (hw j (by omega)).symm).symm
 have ey : root (uO n (Cont.row (.fn fun k => [iT ((u k : Nat) : Int)]))) (plc zl y) = root u (plc zl y) := (root_congr hu fun j hj => (hw j (by omega)).symm).symm
 rw [jn_is]
 refine GoesB.seqN (K1 := 12) (jnA 12 (by omega) n u zl x y sb) (by omega) ?_
 refine GoesB.seqN (K1 := 12) (F1 := [(0, ZA 9), (7, iT ((root u (plc zl x) : Nat) : Int)), (8, iT ((root u (plc zl y) : Nat) : Int))]) (H1 := [(9, ZDU n 11 10), (10, Zn n u), (11, .mSI sb zl)]) (GoesB.toN (jnB 12 (by omega) n u zl x y 0 sb hn (hz x).1 (hz x).2 (fun j hj => ⟨⟨by rw [hw j hj]; exact AV.ge.refl _, rfl, trivial⟩, by rw [hw j hj]; exact hu j⟩) (hz y).1 (hz y).2) ⟨re rfl, ⟨_, rfl, by
  show AV.ge (iT ((root (uO n (Cont.row (.fn fun k => [AV.int true .i64 ((u k : Nat) : Int)]))) (plc zl x) : Nat) : Int)) _
  rw [ex]; exact AV.ge.refl _⟩, ⟨_, rfl, by
  show AV.ge (iT ((root (uO n (Cont.row (.fn fun k => [AV.int true .i64 ((u k : Nat) : Int)]))) (plc zl y) : Nat) : Int)) _
  rw [ey]; exact AV.ge.refl _⟩, trivial⟩ (eHh rfl)) (by omega) ?_
 have mx : (if ((root u (plc zl y) : Nat) : Int) > ((root u (plc zl x) : Nat) : Int) then ((root u (plc zl y) : Nat) : Int) else ((root u (plc zl x) : Nat) : Int)) = ((max (root u (plc zl x)) (root u (plc zl y)) : Nat) : Int) := by split <;> omega
 have mn : (if ((root u (plc zl y) : Nat) : Int) < ((root u (plc zl x) : Nat) : Int) then ((root u (plc zl y) : Nat) : Int) else ((root u (plc zl x) : Nat) : Int)) = ((min (root u (plc zl x)) (root u (plc zl y)) : Nat) : Int) := by split <;> omega
 refine GoesB.seqN (K1 := 12) (F1 := [(7, iT ((root u (plc zl x) : Nat) : Int)), (8, iT ((root u (plc zl y) : Nat) : Int))]) (H1 := [(9, ZDU n 11 10), (10, .cells true 1 n (.fn fun k => [iT (((jn u (plc zl x) (plc zl y)) k : Nat) : Int)])), (11, .mSI sb zl)]) (GoesB.toN (jnC 12 (by omega) n u zl x (root u (plc zl x)) (root u (plc zl y)) sb (by rw [mx]; omega) (by rw [mx]; omega)) (eGg rfl) ⟨hs rfl, ⟨_, rfl, rfl, rfl, rfl, fun k hk => ?_⟩, hs rfl, trivial⟩) (by omega) ?_
 ·show (bif Nat.beq k (0 + Int.toNat (if ((root u (plc zl y) : Nat) : Int) > ((root u (plc zl x) : Nat) : Int) then ((root u (plc zl y) : Nat) : Int) else ((root u (plc zl x) : Nat) : Int))) then [iT (if ((root u (plc zl y) : Nat) : Int) < ((root u (plc zl x) : Nat) : Int) then ((root u (plc zl y) : Nat) : Int) else ((root u (plc zl x) : Nat) : Int))] else [iT ((u k : Nat) : Int)]) = [iT ((jn u (plc zl x) (plc zl y) k : Nat) : Int)]
  rw [mx, mn, Nat.zero_add, Int.toNat_natCast]
  unfold jn
  cases q : Nat.beq k (max (root u (plc zl x)) (root u (plc zl y))) with
  | true => rw [cond_true, if_pos (Nat.eq_of_beq_eq_true q)]
  | false => rw [cond_false, if_neg (Nat.ne_of_beq_eq_false q)]
 ·exact (jnD 12 (by omega) n _ zl x (root u (plc zl x)) (root u (plc zl y)) sb).mono fun e fr' H' h => h


def JQ (len m : Nat) (c2 : Nat → List AV) (zl : tM) : Prop := len = m ∧ len ≤ 4096 ∧ (∀ j, j < len → RowGe (c2 j) [iT ((uO len c2 j : Nat) : Int)] ∧ uO len c2 j ≤ j) ∧ ∀ z, 0 ≤ (lfind seq z zl).getD 0 ∧ (lfind seq z zl).getD 0 < (len : Int)
noncomputable def joinS : List AV → M AV
 | [.ptr a, .str _ x, .str _ y] => (getC a.g).andThen fun b =>
  match b.2.2.2.row 0 with
  | [.mp p, .slc s1 o1 a1 len] => (M.getB p).andThen fun mb => (M.ofOpt (asSI mb)).andThen fun my => (getC a1.g).andThen fun b2 => (M.okIf (Nat.beq a.i 0 && Nat.beq a.o 0 && Nat.beq b.2.1 2 && Nat.beq b.2.2.1 1 && Nat.beq a1.i 0 && Nat.beq a1.o 0 && Nat.beq b2.2.1 1 && !Nat.beq a.g a1.g && b2.1)).andThen fun _ => (M.req (JQ len b2.2.2.1 b2.2.2.2.row my.2)).andThen fun _ =>
   (M.setB a1.g (.cells true 1 len (.fn fun k => [iT ((jn (uO len b2.2.2.2.row) (plc my.2 x) (plc my.2 y) k : Nat) : Int)]))).andThen fun _ => M.ret (.sbool (!decide (((root (uO len b2.2.2.2.row) (plc my.2 x) : Nat) : Int) = ((root (uO len b2.2.2.2.row) (plc my.2 y) : Nat) : Int))))
  | _ => M.no
 | _ => M.no
theorem joinS_tch : ∀ args, Tch (joinS args) := by
 intro args
 unfold joinS
 split
 ·refine (Tch.getC _).andThen fun b => ?_
  split
  ·exact (Tch.getB _).andThen fun _ => (Tch.ofOpt _).andThen fun _ => (Tch.getC _).andThen fun _ => (Tch.okIf _).andThen fun _ => (Tch.req _).andThen fun _ => (Tch.setB _ _).andThen fun _ => Tch.ret _
  ·exact Tch.no
 ·exact Tch.no
theorem asSI_some {b : ABk} {y : Bool × List (Tx × Int)} (h : asSI b = some y) : b = .mSI y.1 y.2 := by
 cases b <;> simp [asSI] at h
 subst h; rfl
theorem joinS_ok : ∀ args v g g', joinS args g = .done v g' → CallIs Try.prog 41 args v g g' := by
 intro args v g g' h
 unfold joinS at h
 split at h
 case h_2 => exact (no_done h).elim
 rename_i a s x s' y
 obtain ⟨⟨ob, zb, mb, cb⟩, g1, a1, h1⟩ := done_of h
 clear h
 obtain ⟨t1, rfl⟩ := getC_done a1
 dsimp only at h1 t1
 generalize r1 : cb.row 0 = R1 at h1
 split at h1
 case h_2 => exact (no_done h1).elim
 rename_i p s1 o1 aa len
 obtain ⟨mbk, g2, a2, h2⟩ := done_of h1
 clear h1
 obtain ⟨tp, rfl⟩ := getB_done a2
 obtain ⟨⟨sb, zl⟩, g3, a3, h3⟩ := done_of h2
 clear h2
 obtain ⟨ts, rfl⟩ := ofOpt_done a3
 obtain rfl := asSI_some ts
 obtain ⟨⟨ob2, zb2, mb2, cb2⟩, g4, a4, h4⟩ := done_of h3
 clear h3
 obtain ⟨t2, rfl⟩ := getC_done a4
 dsimp only at h4 t2 tp
 obtain ⟨_, g5, a5, h5⟩ := done_of h4
 clear h4
 obtain ⟨hq, rfl⟩ := okIf_done a5
 simp only [Bool.and_eq_true, Bool.not_eq_true'] at hq
 obtain ⟨⟨⟨⟨⟨⟨⟨⟨q1, q2⟩, q3⟩, q4⟩, q5⟩, q6⟩, q7⟩, q8⟩, rfl⟩ := hq
 replace q1 := Nat.eq_of_beq_eq_true q1
 replace q2 := Nat.eq_of_beq_eq_true q2
 obtain rfl := Nat.eq_of_beq_eq_true q3
 obtain rfl := Nat.eq_of_beq_eq_true q4
 replace q5 := Nat.eq_of_beq_eq_true q5
 replace q6 := Nat.eq_of_beq_eq_true q6
 obtain rfl := Nat.eq_of_beq_eq_true q7
 replace q8 := Nat.ne_of_beq_eq_false q8
 obtain ⟨_, g6, a6, h6⟩ := done_of h5
 have kk := req_done a6
 obtain ⟨_, g7, a7, h7⟩ := done_of h6
 obtain ⟨rfl, rfl⟩ := ret_done h7
 obtain ⟨e1, e2, e3⟩ := setB_done a7
 have hu : JQ len mb2 cb2.row zl → ∀ j, uO len cb2.row j ≤ j := fun hp j => by
  by_cases c : j < len
  ·exact (hp.2.2.1 j c).2
  ·unfold uO; rw [if_neg c]; omega
 have pa : p ≠ a.g := fun e => by rw [e, t1] at tp; cases tp
 have pb : p ≠ aa.g := fun e => by rw [e, t2] at tp; cases tp
 refine smallCall (c := (bodyOf Try.f41)) Try.func41 (by kernel_rfl) (by kernel_rfl) (argsC := [ZA 9, .str true x, .str true y]) (bl := [(9, .cells false 2 1 (.fn fun _ => [.mp 11, .slc true false ⟨false, 10, 0, 0⟩ len])), (10, .cells true 1 len (.fn fun k => [iT ((uO len cb2.row k : Nat) : Int)])), (11, .mSI sb zl)]) (bl' := [(10, .cells true 1 len (.fn fun k => [iT ((jn (uO len cb2.row) (plc zl x) (plc zl y) k : Nat) : Int)])), (11, .mSI sb zl)]) (B0 := 12) (K0 := 12) (K' := 12) (p := JQ len mb2 cb2.row zl) (fun hc => kk.2.2 (by rw [← e3]; exact hc)) (by rw [e2]; exact kk.2.1) (fun i => if i = 9 then a.g else if i = 10 then aa.g else p) ?_ ?_ ?_ ?_ rfl ?_
 ·intro hp N μ cs hr
  simp only [Reps] at hr ⊢
  obtain ⟨c1, r, rfl, h1, c2, r', rfl, h2, c3, r3, rfl, h3, h4⟩ := hr
  exact ⟨c1, _, rfl, rep_ptr0 h1 q1 q2 (by omega) rfl, c2, _, rfl, by simpa only [Rep] using h2, c3, _, rfl, by simpa only [Rep] using h3, h4⟩
 ·intro hp i b hbb
  have hm := hpL_get hbb
  simp only [List.mem_cons, List.not_mem_nil, or_false] at hm
  rcases hm with hm | hm | hm <;> cases hm
  ·exact ⟨by omega, fun i0 _ v hv => by
    rcases List.mem_cons.1 hv with rfl | hv
    ·rfl
    ·rw [List.mem_singleton.1 hv]; rfl, _, t1, fun N μ hpp k => viewR k (Nat.le_refl _) (fun j hj => by
    obtain rfl : j = 0 := by omega
    rw [r1]
    exact ⟨AV.ge.refl _, rfl, ge_slv q5 q6 rfl, rfl, trivial⟩), fun h => (by cases h), fun μ j hr => .inl (by omega)⟩
  ·obtain ⟨rfl, hp2⟩ := hp
   refine ⟨by omega, fun i0 _ v hv => by rw [List.mem_singleton.1 hv]; rfl, _, t2, fun N μ hpp k => ?_, fun h => rfl, fun μ j hr => hr⟩
   refine ⟨k.1, k.2.1, fun hr => ?_⟩
   obtain ⟨cur, ty, fz, p1, p2, p3, p4⟩ := k.2.2 hr
   exact ⟨cur, ty, fz, p1, p2, p3, fun i hi => RowOk.ge (p4 i hi) (hp2.2.1 i hi).1⟩
  ·exact ⟨by omega, trivial, _, tp, fun N μ hpp k => k, fun h => rfl, fun μ j hr => hr⟩
 ·intro hp i j b b' hi hj e
  have hm := hpL_get hi
  have hm' := hpL_get hj
  simp only [List.mem_cons, List.not_mem_nil, or_false] at hm hm'
  rcases hm with hm | hm | hm <;> rcases hm' with hm' | hm' | hm' <;> cases hm <;> cases hm' <;> first | rfl | exact absurd e q8 | exact absurd e.symm q8 | exact absurd e pa | exact absurd e.symm pa | exact absurd e pb | exact absurd e.symm pb
 ·intro hp
  refine (join_goes len (uO len cb2.row) zl x y sb hp.2.1 (hu hp) hp.2.2.2).mono fun e fr' H' h => ?_
  obtain ⟨rfl, rfl, rfl⟩ := h
  exact ⟨.inl rfl, _, _, res1 (t := 6) (by kernel_rfl) rfl, trivial, AV.ge.refl _, eHh rfl⟩
 ·intro hp i b hi
  rw [e1, T.get_upd] at hi
  split at hi
  ·rename_i e
   cases hi
   refine .inr ⟨10, _, by omega, e.symm, rfl, fun j hj v hv => ?_, rfl, rfl, fun μ m hr => hr⟩
   rw [List.mem_singleton.1 hv]; rfl
  ·rename_i e
   rw [kk.1] at hi
   by_cases c : i = p
   ·subst c
    rw [tp] at hi
    cases hi
    exact .inr ⟨11, _, by omega, rfl, rfl, trivial, rfl, rfl, fun μ m hr => hr⟩
   ·refine .inl ⟨hi, fun j bj hj ho => ?_⟩
    have hm := hpL_get hj
    simp only [List.mem_cons, List.not_mem_nil, or_false] at hm
    rcases hm with hm | hm | hm <;> cases hm
    ·cases ho
    ·exact fun k => e k.symm
    ·exact fun k => c k.symm


noncomputable abbrev ZI (v0 : Nat) (v1 : Nat → List UInt8) := (.cells false 1 v0 (.fn (txR v1)) : ABk)
noncomputable abbrev ZX (v0 v1 v2 : Nat) := (.cells false 7 1 (.fn fun x => (netR 6 7 8 v0 v1 v2)) : ABk)
noncomputable abbrev ZY (v0 v1 v2 : Nat) := (.cells false 7 1 (.fn fun _ => netR 6 7 8 v0 v1 v2) : ABk)
noncomputable abbrev Zd (v0 : List (List UInt8 × Int)) := ABk.mSI true v0
noncomputable abbrev ZDH (v0 v1 v2 : Nat) (v3 v4 v5 : List (List UInt8 × Int)) (v6 : tE) (v7 v8 : Nat → List UInt8) := hpL [(2, ZY v0 v1 v2), (3, .mSI true v3), (4, .mSI true v4), (5, .mSI true v5), (6, ZB v0 v6), (7, ZI v1 v7), (8, ZI v2 v8)]
noncomputable abbrev ZDf (v0 v1 v2 : Nat) (v3 v4 v5 : List (List UInt8 × Int)) (v6 : tE) (v7 v8 : Nat → List UInt8) := pP .normal [(0, ZA 2)] [(2, ZX v0 v1 v2), (3, Zd v3), (4, Zd v4), (5, Zd v5), (6, ZQ v0 v6), (7, ZI v1 v7), (8, ZI v2 v8)]
noncomputable abbrev ZDx := frameOf [ZA 2] 0 .e
theorem ofgA (B : Nat) (hB : B ≤ 9) (n q r : Nat) (E : tE) (nd br : Nat → List UInt8) (M1 M2 M3 zl : List (List UInt8 × Int)) (x : List UInt8) : GoesB Try.prog ((nav [0] (bodyOf Try.f40))) Try.f40.ntmps B 9 9 ZDx (ZDH n q r M1 M2 M3 E nd br) (ZDf n q r M1 M2 M3 E nd br) := rdR [] trivial hB
theorem ofgB (B : Nat) (hB : B ≤ 9) (n q r : Nat) (E : tE) (nd br : Nat → List UInt8) (M1 M2 M3 zl : List (List UInt8 × Int)) (x : List UInt8) : GoesB Try.prog ((nav [1,0] (bodyOf Try.f40))) Try.f40.ntmps B 9 12 (ZDy 0 2) (ZDH n q r M1 M2 M3 E nd br) (pP .normal [(0, ZA 2), (3, ZA 11)] [(2, ZX n q r), (3, Zd M1), (4, Zd M2), (5, Zd M3), (6, ZQ n E), (7, ZI q nd), (8, ZI r br), (9, ABk.mSI false (lput seq [(48 : UInt8)] (0 : Int) [])), (10, .cells true 1 1 (.lit [Zc] (.n .e (some [Zc]) .e))), (11, .cells true 2 1 (.lit [] (.n .e (some [.mp 9, .slc false true ⟨false, 10, 0, 0⟩ 1]) .e)))]) := rdR [] trivial hB
noncomputable abbrev Z4 (v0 : Nat) := (.cells true 1 (v0 + 1) (.fn fun k => [iT ((k : Nat) : Int)]) : ABk)
noncomputable abbrev ZBA (v0 : Nat) := (.cells true 2 1 (.fn fun _ => [.mp 9, sL 10 (v0 + 1)]) : ABk)
noncomputable abbrev ZBY (v0 : Nat) := (.cells true 2 1 (.fn fun x => [.mp 9, sL 10 (v0 + 1)]) : ABk)
noncomputable abbrev ZBa (v0 : Nat) := (.cells true 1 (v0 + 1) (.fn fun k => [iT (↑k : Int)]) : ABk)
theorem ofgC (B : Nat) (hB : B ≤ 12) (n q r i : Nat) (E : tE) (nd br : Nat → List UInt8) (M1 M2 M3 zl : List (List UInt8 × Int)) (x : List UInt8) (x0 : (q * 16 ≤ 140737488355328)) (x1 : (q ≤ 9223372036854775807)) : GoesB Try.prog ((nav [1,1,0,0] (bodyOf Try.f40))) Try.f40.ntmps B 12 13 (frL [(0, ZA 2), (3, ZA 11)]) (hpL [(2, ZY n q r), (3, .mSI true M1), (4, .mSI true M2), (5, .mSI true M3), (6, ZB n E), (7, ZI q nd), (8, ZI r br), (9, .mSI true zl), (10, Z4 i), (11, ZBA i)]) (pP .normal [(3, ZA 11), (12, sL 12 q), (13, iT (↑q : Int)), (14, Zc)] [(2, ZX n q r), (3, Zd M1), (4, Zd M2), (5, Zd M3), (6, ZQ n E), (7, ZI q nd), (8, ZI r br), (9, Zd zl), (10, ZBa i), (11, ZBY i), (12, .cells true 1 q (.fn fun j => [.str true (nd (0 + j))]))]) := rdR [] (I2 (show 0 + q ≤ q by omega) (ai x0 x1)) hB
noncomputable abbrev ZDV (v0 v1 : Nat) (w0 w1 w2 w3) := ([(3, ZA w0), (w1, sL 12 v0), (w2, iT (v0 : Int)), (w3, iT (v1 : Int))] : tF)
noncomputable abbrev ZEG (v0 : List (List UInt8 × Int)) (v1 v2 : Nat) (v3 : Nat → List UInt8) := hpL [(9, .mSI true v0), (10, Z4 v1), (11, ZBA v1), (12, ZP v2 v3)]
theorem ofgD (B : Nat) (hB : B ≤ 13) (q i : Nat) (nd br : Nat → List UInt8) (M1 M2 M3 zl : List (List UInt8 × Int)) (x : List UInt8) : GoesB Try.prog ((nav [1,1,0,1,0,0,0] (bodyOf Try.f40))) Try.f40.ntmps B 13 13 (frL (ZDV q i 11 12 13 14)) (ZEG zl i q nd) (pP .normal [(3, ZA 11), (12, sL 12 q), (13, iT (↑q : Int)), (14, iT (↑i : Int)), (15, .sbool (decide ((↑i : Int) < (↑q : Int))))] [(9, Zd zl), (10, ZBa i), (11, ZBY i), (12, ZP q nd)]) := rdR [] trivial hB
noncomputable abbrev ZD3 (v0 v1 : Nat) (w0 w1 w2 w3) := ([(3, ZA w0), (w1, sL 12 v0), (w2, ZEt v0), (w3, ZEt v1)] : tF)
theorem ofgX (B : Nat) (hB : B ≤ 13) (q i : Nat) (nd br : Nat → List UInt8) (M1 M2 M3 zl : List (List UInt8 × Int)) (x : List UInt8) (b : Bool) : GoesB Try.prog ((nav [1,1,0,1,0,0,1,0] (bodyOf Try.f40))) Try.f40.ntmps B 13 13 (frL [(3, ZA 11), (12, sL 12 q), (13, iT (q : Int)), (14, iT (i : Int)), (15, .sbool b)]) (ZEG zl i q nd) fun e fr' H' => (cond (b) (pP .normal (ZD3 q i 11 12 13 14) [(9, Zd zl), (10, ZBa i), (11, ZBY i), (12, ZP q nd)] e fr' H') (pP (.exit 0) (ZD3 q i 11 12 13 14) [(9, Zd zl), (10, ZBa i), (11, ZBY i), (12, ZP q nd)] e fr' H')) := cI (fun t0 => rdR [tT] (I1 t0) hB) (fun t0 => rdR [fF] (I1 t0) hB)
theorem ofgE (B : Nat) (hB : B ≤ 13) (q i : Nat) (nd br : Nat → List UInt8) (M1 M2 M3 zl : List (List UInt8 × Int)) (x : List UInt8) (x0 : ((↑i : Int) < (↑q : Int))) (x1 : (0 + i < q)) : GoesB Try.prog ((nav [1,1,0,1,0,0,1,1,0,0,0] (bodyOf Try.f40))) Try.f40.ntmps B 13 13 (frL (ZDV q i 11 12 13 14)) (ZEG zl i q nd) (pP .normal [(3, ZA 11), (5, .str true (nd (0 + i))), (12, sL 12 q), (13, iT (↑q : Int)), (14, iT (↑i : Int))] [(9, Zd zl), (10, ZBa i), (11, ZBY i), (12, ZP q nd)]) := rdR [] (I2 (ai (show 0 ≤ (↑i : Int) by omega) x0) x1) hB
theorem ofgF (B : Nat) (hB : B ≤ 13) (q i : Nat) (nd br : Nat → List UInt8) (M1 M2 M3 zl : List (List UInt8 × Int)) (x : List UInt8) : GoesB Try.prog ((nav [1,1,0,1,0,0,1,1,0,0,1,0] (bodyOf Try.f40))) Try.f40.ntmps B 13 13 (frL [(3, ZA 11), (12, sL 12 q), (13, iT (q : Int)), (14, iT (i : Int)), (5, .str true x)]) (ZEG zl i q nd) (pP .normal (ZD3 q i 11 12 13 14) [(9, ABk.mSI true (lput seq x (↑(i + 1) : Int) zl)), (10, ZBa i), (11, ZBY i), (12, ZP q nd)]) := rdR [] trivial hB
theorem ofgG (B : Nat) (hB : B ≤ 13) (q i : Nat) (nd br : Nat → List UInt8) (M1 M2 M3 zl : List (List UInt8 × Int)) (x0 : ((i + 1 + 1) * 8 ≤ 140737488355328)) (x1 : (i + 1 + 1 ≤ 9223372036854775807)) : GoesB Try.prog ((nav [1,1,0,1,0,0,1,1,0,0,1,1] (bodyOf Try.f40))) Try.f40.ntmps B 13 15 (frL (ZDV q i 11 12 13 14)) (ZEG zl i q nd) (pP .normal (ZD3 q i 11 12 13 14) [(9, Zd zl), (11, .cells true 2 1 (.fn fun j => bif Nat.beq j 0 then [.mp 9, sL 14 (i + 1 + 1)] else [.mp 9, sL 10 (i + 1)])), (12, ZP q nd), (14, .cells true 1 (i + 1 + 1) (.fn fun j => bif decide (j < i + 1) then [iT (↑j : Int)] else [iT (↑(i + 1) : Int)]))]) := rdR [] (I1 (ai (show i + 1 ≤ i + 1 by omega) (ai x0 x1))) hB
theorem ofgH (B : Nat) (hB : B ≤ 13) (n q i : Nat) (nd br : Nat → List UInt8) (M1 M2 M3 zl : List (List UInt8 × Int)) (x : List UInt8) (x0 : ((↑i : Int) + 1 ≤ (9223372036854775807 : Int))) : GoesB Try.prog ((nav [1,1,0,1,0,0,1,1,1] (bodyOf Try.f40))) Try.f40.ntmps B 13 13 (frL (ZDV q i 11 12 13 14)) (ZEG zl n q nd) (pP .normal [(3, ZA 11), (12, sL 12 q), (13, iT (↑q : Int)), (14, ZBw i)] [(9, Zd zl), (10, ZBa n), (11, ZBY n), (12, ZP q nd)]) := rdR [] (I1 (ai (show -9223372036854775808 ≤ (↑i : Int) + 1 by omega) x0)) hB
theorem ofgI (B : Nat) (hB : B ≤ 13) (n q r i : Nat) (E : tE) (nd br : Nat → List UInt8) (M1 M2 M3 zl : List (List UInt8 × Int)) (x : List UInt8) : GoesB Try.prog ((nav [1,1,1] (bodyOf Try.f40))) Try.f40.ntmps B 13 13 (ZDy 3 11) (hpL [(2, ZY n q r), (3, .mSI true M1), (4, .mSI true M2), (5, .mSI true M3), (6, ZB n E), (7, ZI q nd), (8, ZI r br), (9, .mSI true zl), (10, Z4 i), (11, ZBA i)]) (pP .ret [(2, ZA 11)] [(2, ZX n q r), (3, Zd M1), (4, Zd M2), (5, Zd M3), (6, ZQ n E), (7, ZI q nd), (8, ZI r br), (9, Zd zl), (10, ZBa i), (11, ZBY i)]) := rdR [] trivial hB
def g0 : Tx := [48]
noncomputable abbrev ZCx := nav [1,1,0,1,0,0] (bodyOf Try.f40)
theorem og_is : (bodyOf Try.f40) = .seq (nav [0] (bodyOf Try.f40)) (.seq (nav [1,0] (bodyOf Try.f40)) (.seq (.seq (nav [1,1,0,0] (bodyOf Try.f40)) (.block 0 (.loop ZCx))) (nav [1,1,1] (bodyOf Try.f40)))) := by kernel_rfl
theorem og_body : ZCx = .seq (nav [1,1,0,1,0,0,0] (bodyOf Try.f40)) (.seq (nav [1,1,0,1,0,0,1,0] (bodyOf Try.f40)) (.seq (.block 1 (.seq (nav [1,1,0,1,0,0,1,1,0,0,0] (bodyOf Try.f40)) (.seq (nav [1,1,0,1,0,0,1,1,0,0,1,0] (bodyOf Try.f40)) (nav [1,1,0,1,0,0,1,1,0,0,1,1] (bodyOf Try.f40))))) (nav [1,1,0,1,0,0,1,1,1] (bodyOf Try.f40)))) := by kernel_rfl
instance : Inhabited El := ⟨⟨0, [], [], [], [], [], 0, 0⟩⟩
theorem take_snoc (l : List Tx) (i : Nat) (h : i < l.length) : l.take (i + 1) = l.take i ++ [l.getD i []] := by
 rw [List.take_add_one, List.getElem?_eq_getElem h]
 simp [List.getElem?_eq_getElem h]
noncomputable abbrev ZBH (v0 : List Tx) (v1 : Nat) := ([(9, .mSI true (zipF 0 (g0 :: v0.take (v1 + 1)))), (10, .cells true 1 ((v1 + 1) + 1) (.fn fun k => [iT ((k : Nat) : Int)])), (11, .cells true 2 1 (.fn fun _ => [.mp 9, sL 10 ((v1 + 1) + 1)])), (12, .cells true 1 v0.length (.fn (txR (lget v0))))] : tH)
noncomputable abbrev ZBO (v0 : List Tx) := (.cells true 1 v0.length (.fn (txR (lget v0))) : ABk)
noncomputable abbrev ZCH (v0 : List Tx) := iT (v0.length : Int)
noncomputable abbrev ZEE (v0 : List Tx) (v1 : Nat) := ([(3, ZA 11), (12, sL 12 v0.length), (13, ZCH v0), (14, iT (v1 : Int))] : tF)
noncomputable abbrev ZEj (v0 : List Tx) (v1 : Nat) := ([(9, .mSI true (zipF 0 (g0 :: v0.take v1))), (10, Z4 v1), (11, ZBA v1), (12, ZBO v0)] : tH)
theorem og_step (l : List Tx) (i : Nat) (hi : i < l.length) (hq : l.length ≤ 1024) (hp : pos (lget l i) (g0 :: l.take i) = none) :
  GoesB Try.prog ZCx Try.f40.ntmps 9 13 13 (frL (ZEE l i)) (hpL (ZEj l i)) (Nm [(3, ZA 11), (12, sL 12 l.length), (13, ZCH l), (14, ZCR i)] (ZBH l i)) := by
 rw [og_body]
 refine GoesB.seqN (K1 := 13) (ofgD 9 (by omega) l.length i (lget l) (fun _ => []) [] [] [] (zipF 0 (g0 :: l.take i)) []) (by omega) ?_
 refine GoesB.seqN (K1 := 13) (F1 := (ZEE l i)) (H1 := (ZEj l i)) ((ofgX 9 (by omega) l.length i (lget l) (fun _ => []) [] [] [] (zipF 0 (g0 :: l.take i)) [] (decide ((i : Int) < (l.length : Int)))).mono fun e fr' H' h => ?_) (by omega) ?_
 ·rw [decide_eq_true (by omega), cond_true] at h
  exact h
 refine GoesB.seqN (K1 := 13) (F1 := (ZEE l i)) (H1 := (ZBH l i)) (GoesB.blockN ?_) (by omega) ?_
 ·refine GoesB.seqN (K1 := 13) (F1 := [(3, ZA 11), (12, sL 12 l.length), (13, ZCH l), (14, iT (i : Int)), (5, .str true (lget l i))]) (H1 := (ZEj l i)) (GoesB.toN (ofgE 9 (by omega) l.length i (lget l) (fun _ => []) [] [] [] (zipF 0 (g0 :: l.take i)) [] (by omega) (by omega)) ⟨re rfl, re rfl, re rfl, re rfl, ⟨_, rfl, by
   show AV.ge (.str true (lget l (0 + i))) _
   rw [Nat.zero_add]; exact AV.ge.refl _⟩, trivial⟩ (eHh rfl)) (by omega) ?_
  refine GoesB.seqN (K1 := 13) (F1 := (ZEE l i)) (H1 := [(9, .mSI true (zipF 0 (g0 :: l.take (i + 1)))), (10, Z4 i), (11, ZBA i), (12, ZBO l)]) (GoesB.toN (ofgF 9 (by omega) l.length i (lget l) (fun _ => []) [] [] [] (zipF 0 (g0 :: l.take i)) (lget l i)) (eGg rfl) ⟨⟨_, rfl, by
   rw [put_zip0 (l := g0 :: l.take i) (by simp; omega) hp, take_snoc l i hi]
   exact SameC.refl _⟩, eHh rfl⟩) (by omega) ?_
  refine (ofgG 9 (by omega) l.length i (lget l) (fun _ => []) [] [] [] (zipF 0 (g0 :: l.take (i + 1))) (by omega) (by omega)).renG fun e fr' H' h => ?_
  obtain ⟨rfl, rfl, rfl⟩ := h
  exact ⟨sg 10 14, (ZEE l i), (ZBH l i), sg_low (by omega), (eRr rfl), ⟨rgM rfl rfl (by omega), rgR rfl rfl (fun j hj => by
   show (bif decide (j < i + 1) then [iT (j : Int)] else [ZCR i]) = [iT (j : Int)]
   by_cases c : j < i + 1
   ·rw [decide_eq_true c, cond_true]
   ·rw [decide_eq_false c, cond_false]
    have : j = i + 1 := by omega
    rw [this]) (fun j _ => rfl) (by omega), rgR rfl rfl (fun j hj => by
   obtain rfl : j = 0 := by omega
   rfl) (fun j _ => rfl) (by omega), rgR rfl rfl (fun j _ => rfl) (fun j _ => rfl) (by omega), trivial⟩, sg_inj (by omega), rfl, rfl, rfl⟩
 ·refine (GoesB.toN (ofgH 9 (by omega) (i + 1) l.length i (lget l) (fun _ => []) [] [] [] (zipF 0 (g0 :: l.take (i + 1))) [] (by omega)) ⟨re rfl, re rfl, re rfl, ⟨_, rfl, AV.ge.int' _ _ _ (by omega)⟩, trivial⟩ (eHh rfl))
noncomputable abbrev Z9 (v0 : List Tx) := (.cells true 1 (v0.length + 1) (.fn fun k => [iT ((k : Nat) : Int)]) : ABk)
noncomputable abbrev ZBZ (v0 : List Tx) (w0 w1) := (.cells true 2 1 (.fn fun _ => [.mp w0, sL w1 (v0.length + 1)]) : ABk)
theorem og_end (l : List Tx) (hq : l.length ≤ 1024) :
  GoesB Try.prog ZCx Try.f40.ntmps 9 13 13 (frL [(3, ZA 11), (12, sL 12 l.length), (13, ZCH l), (14, ZCH l)]) (hpL [(9, .mSI true (zipF 0 (g0 :: l.take l.length))), (10, Z9 l), (11, ZBZ l 9 10), (12, ZBO l)]) (Xm 0 [(3, ZA 11), (12, sL 12 l.length), (13, ZCH l), (14, ZCH l)] [(9, .mSI true (zipF 0 (g0 :: l.take l.length))), (10, Z9 l), (11, ZBZ l 9 10), (12, ZBO l)]) := by
 rw [og_body]
 refine GoesB.seqN (K1 := 13) (ofgD 9 (by omega) l.length l.length (lget l) (fun _ => []) [] [] [] (zipF 0 (g0 :: l.take l.length)) []) (by omega) ?_
 refine GoesB.seqX (K1 := 13) ((ofgX 9 (by omega) l.length l.length (lget l) (fun _ => []) [] [] [] (zipF 0 (g0 :: l.take l.length)) [] (decide ((l.length : Int) < (l.length : Int)))).mono fun e fr' H' h => ?_) (by omega)
 rw [decide_eq_false (by omega), cond_false] at h
 exact h
theorem ge_sls {own : Bool} {a : AA} {len : Nat} : AV.ge (.slc false own a len) (.slc true own a len) := fun N μ c h => by
 simp only [Rep, RepS] at h ⊢
 obtain ⟨hg, A, C, e, hl, k1, k2, k3⟩ := h
 exact ⟨hg, A, C, e, hl, k1, fun h => (by cases h), k3⟩
def sw9 (x : Nat) : Nat := if x = 9 then 11 else if x = 11 then 9 else x
noncomputable abbrev ZS (v0 : Nat) (v1 : tX) := (.cells false 1 v0 (.fn (txR v1)) : ABk)
noncomputable abbrev ZBg (v0 : Nat) (v1 : List Tx) (v2 : Nat) := (.cells false 7 1 (.fn fun _ => netR 6 7 8 v0 v1.length v2) : ABk)
noncomputable abbrev ZBs (v0 : List Tx) := (.cells false 1 v0.length (.fn (txR (lget v0))) : ABk)
theorem og_goes (l : List Tx) (n r : Nat) (E : tE) (br : tX) (M1 M2 M3 : tM) (hq : l.length ≤ 1024) (hp : ∀ i, i < l.length → pos (lget l i) (g0 :: l.take i) = none) :
  GoesB Try.prog (bodyOf Try.f40) Try.f40.ntmps 9 9 13 ZDx (hpL [(2, ZBg n l r), (3, .mSI true M1), (4, .mSI true M2), (5, .mSI true M3), (6, ZB n E), (7, ZBs l), (8, ZS r br)]) (fun e fr' H' => e = .ret ∧ fr' = frL [(2, ZA 9)] ∧ H' = hpL [(2, ZBg n l r), (3, .mSI true M1), (4, .mSI true M2), (5, .mSI true M3), (6, ZB n E), (7, ZBs l), (8, ZS r br), (9, ZBZ l 11 10), (10, Z9 l), (11, .mSI true (zipF 0 (g0 :: l)))]) := by
 rw [og_is]
 refine GoesB.seqN (K1 := 9) (ofgA 9 (by omega) n l.length r E (lget l) br M1 M2 M3 [] []) (by omega) ?_
 refine GoesB.seq (K1 := 12) (by omega) ((ofgB 9 (by omega) n l.length r E (lget l) br M1 M2 M3 [] []).mono fun e fr' H' h => ?_)
 obtain ⟨rfl, rfl, rfl⟩ := h
 refine GoesB.weakML (fl := [(0, ZA 2), (3, ZA 11)]) (bl := [(2, ZBg n l r), (3, .mSI true M1), (4, .mSI true M2), (5, .mSI true M3), (6, ZB n E), (7, ZBs l), (8, ZS r br), (9, .mSI true (zipF 0 (g0 :: l.take 0))), (10, .cells true 1 (0 + 1) (.fn fun k => [iT ((k : Nat) : Int)])), (11, .cells true 2 1 (.fn fun _ => [.mp 9, sL 10 (0 + 1)]))]) (eGg rfl) ⟨⟨_, rfl, .inl ⟨rfl, rfl, rfl, fun j _ => RowGe_refl _ rfl⟩⟩, ⟨_, rfl, .inr ⟨_, _, _, rfl, rfl⟩⟩, ⟨_, rfl, .inr ⟨_, _, _, rfl, rfl⟩⟩, ⟨_, rfl, .inr ⟨_, _, _, rfl, rfl⟩⟩, ⟨_, rfl, .inl ⟨rfl, rfl, rfl, fun j _ => RowGe_refl _ rfl⟩⟩, ⟨_, rfl, .inl ⟨rfl, rfl, rfl, fun j _ => RowGe_refl _ rfl⟩⟩, ⟨_, rfl, .inl ⟨rfl, rfl, rfl, fun j _ => RowGe_refl _ rfl⟩⟩, ⟨_, rfl, .inr ⟨_, _, _, rfl, rfl⟩⟩, ⟨_, rfl, .inl ⟨rfl, rfl, rfl, fun j hj => by
  obtain rfl : j = 0 := by omega
  exact ⟨AV.ge.int _ _ _ _, rfl, trivial⟩⟩⟩, ⟨_, rfl, .inl ⟨rfl, rfl, rfl, fun j hj => by
  obtain rfl : j = 0 := by omega
  exact ⟨AV.ge.refl _, rfl, ge_sls, rfl, trivial⟩⟩⟩, trivial⟩ ?_
 refine GoesB.seqN (K1 := 13) (F1 := [(3, ZA 11), (12, sL 12 l.length), (13, ZCH l), (14, ZCH l)]) (H1 := [(9, .mSI true (zipF 0 (g0 :: l.take l.length))), (10, Z9 l), (11, ZBZ l 9 10), (12, ZBO l), (2, ZBg n l r), (3, .mSI true M1), (4, .mSI true M2), (5, .mSI true M3), (6, ZB n E), (7, ZBs l), (8, ZS r br)]) ?_ (by omega) ?_
 ·refine GoesB.seqN (K1 := 13) (F1 := [(3, ZA 11), (12, sL 12 l.length), (13, ZCH l), (14, ZBn)]) (H1 := [(9, .mSI true (zipF 0 (g0 :: l.take 0))), (10, .cells true 1 (0 + 1) (.fn fun k => [iT ((k : Nat) : Int)])), (11, .cells true 2 1 (.fn fun _ => [.mp 9, sL 10 (0 + 1)])), (12, ZBO l), (2, ZBg n l r), (3, .mSI true M1), (4, .mSI true M2), (5, .mSI true M3), (6, ZB n E), (7, ZBs l), (8, ZS r br)]) (GoesB.toN (ofgC 9 (by omega) n l.length r 0 E (lget l) br M1 M2 M3 (zipF 0 (g0 :: l.take 0)) [] (by omega) (by omega)) ⟨re rfl, re rfl, re rfl, ⟨_, rfl, AV.ge.int _ _ _ _⟩, trivial⟩ ⟨hs rfl, hs rfl, hs rfl, ⟨_, rfl, rfl, rfl, rfl, fun j hj => by
   show [AV.str true (lget l (0 + j))] = [AV.str true (lget l j)]
   rw [Nat.zero_add]⟩, eHh rfl⟩) (by omega) ?_
  have hr := GoesB.rounds (P := Try.prog) (n := Try.f40.ntmps) (B := 9) (K := 13) (id := 0) l.length (fun i => [(3, ZA 11), (12, sL 12 l.length), (13, ZCH l), (14, iT (i : Int))]) (fun i => [(9, .mSI true (zipF 0 (g0 :: l.take i))), (10, .cells true 1 (i + 1) (.fn fun k => [iT ((k : Nat) : Int)])), (11, .cells true 2 1 (.fn fun _ => [.mp 9, sL 10 (i + 1)])), (12, ZBO l)]) (fun i hi => og_step l i hi hq (hp i hi)) (og_end l hq)
  exact hr.frameN (xl := [(2, ZBg n l r), (3, .mSI true M1), (4, .mSI true M2), (5, .mSI true M3), (6, ZB n E), (7, ZBs l), (8, ZS r br)]) (by omega) ⟨⟨by omega, fun j hj v hv => List.all_eq_true.1 (show (netR 6 7 8 n l.length r).all (fun v => v.low 9) = true from rfl) v hv⟩, ⟨by omega, trivial⟩, ⟨by omega, trivial⟩, ⟨by omega, trivial⟩, ⟨by omega, fun j hj v hv => List.all_eq_true.1 (show (elR (E j)).all (fun v => v.low 9) = true from rfl) v hv⟩, ⟨by omega, fun j hj v hv => List.all_eq_true.1 (show (txR (lget l) j).all (fun v => v.low 9) = true from rfl) v hv⟩, ⟨by omega, fun j hj v hv => List.all_eq_true.1 (show (txR br j).all (fun v => v.low 9) = true from rfl) v hv⟩, trivial⟩ rfl rfl ⟨.inl rfl, .inl rfl, .inl rfl, .inl rfl, trivial⟩
 ·refine GoesB.weakL (fl := [(3, ZA 11)]) (bl := [(2, ZBg n l r), (3, .mSI true M1), (4, .mSI true M2), (5, .mSI true M3), (6, ZB n E), (7, ZBs l), (8, ZS r br), (9, .mSI true (zipF 0 (g0 :: l.take l.length))), (10, Z9 l), (11, ZBZ l 9 10)]) ⟨re rfl, trivial⟩ (eHh rfl) ?_
  refine (ofgI 9 (by omega) n l.length r l.length E (lget l) br M1 M2 M3 (zipF 0 (g0 :: l.take l.length)) []).renG fun e fr' H' h => ?_
  obtain ⟨rfl, rfl, rfl⟩ := h
  refine ⟨sw9, [(2, ZA 9)], [(2, ZBg n l r), (3, .mSI true M1), (4, .mSI true M2), (5, .mSI true M3), (6, ZB n E), (7, ZBs l), (8, ZS r br), (9, ZBZ l 11 10), (10, Z9 l), (11, .mSI true (zipF 0 (g0 :: l)))], fun g hg => by unfold sw9; rw [if_neg (by omega), if_neg (by omega)], ⟨⟨_, rfl, AV.ge.refl _, rfl⟩, trivial⟩, ⟨rgR rfl rfl (fun j _ => rfl) (fun j _ => rfl) (by omega), rgM rfl rfl (by omega), rgM rfl rfl (by omega), rgM rfl rfl (by omega), rgR rfl rfl (fun j _ => rfl) (fun j _ => rfl) (by omega), rgR rfl rfl (fun j _ => rfl) (fun j _ => rfl) (by omega), rgR rfl rfl (fun j _ => rfl) (fun j _ => rfl) (by omega), rgR rfl rfl (fun j _ => rfl) (fun j _ => rfl) (by omega), rgR rfl rfl (fun j _ => rfl) (fun j _ => rfl) (by omega), rgM rfl (by rw [List.take_length]) (by omega), trivial⟩, fun i j _ _ e => by
   unfold sw9 at e
   split at e <;> split at e <;> (try split at e) <;> (try split at e) <;> omega, rfl, rfl, rfl⟩


/-- the zero element, as it is built -/
noncomputable def zrow : List AV := [AV.int false .u8 0, AV.str false [], AV.str false [], AV.str false [], AV.str false [], AV.str false [], AV.flt false 0, ZCG 0]
/-- a net's elements and the zero element -/
noncomputable def apz (E : tE) (n j : Nat) : List AV := bif decide (0 + j < n) then elR (E (0 + (0 + j))) else zrow
noncomputable def apz0 (E : tE) (n j : Nat) : List AV := bif decide (j < n) then elR (E (0 + j)) else zrow
theorem cz1 {b : Bool} {x y : Int} (hx : x ≠ 1) (hy : y ≠ 1) : (bif b then x else y) ≠ 1 := by cases b <;> assumption
theorem chk_ne1 (k : Int) (n a b c d : List UInt8) (v : Nat) (ph : Int) : chk_0 k n a b c d v ph ≠ 1 := by
 unfold chk_0
 repeat' (first | decide | apply cz1)
theorem bad_ne1 (E : tE) (i : Nat) : badE chkE E i ≠ 1 := by
 unfold badE
 refine cz1 (cz1 (by decide) (by decide)) (chk_ne1 _ _ _ _ _ _ _ _)
theorem ofE_ne1 (E : tE) (n : Nat) : ∀ m, (ofE chkE E n m).1 ≠ 1
 | 0 => by
  unfold ofE
  cases decide (32 < (ND E n).length) || decide (64 < (ND E n).length + (BR E n).length) <;> decide
 | m + 1 => by
  unfold ofE
  cases decide (badE chkE E (n - (m + 1)) = 0)
  ·exact bad_ne1 _ _
  ·exact ofE_ne1 E n m
theorem ofR_ne1 (E : tE) (n : Nat) : (ofR chkE E n).1 ≠ 1 := by
 unfold ofR
 cases decide (256 < n)
 ·exact ofE_ne1 _ _ _
 ·show (3 : Int) ≠ 1
  decide
theorem ofE_zero {E : tE} {n : Nat} : ∀ m, m ≤ n → (ofE chkE E n m).1 = 0 → ∀ j, n - m ≤ j → j < n → badE chkE E j = 0
 | 0, _, _, j, h1, h2 => by omega
 | m + 1, hm, h, j, h1, h2 => by
  unfold ofE at h
  by_cases c : badE chkE E (n - (m + 1)) = 0
  ·rw [decide_eq_true c, cond_true] at h
   by_cases q : j = n - (m + 1)
   ·rw [q]; exact c
   ·exact ofE_zero m (by omega) h j (by omega) h2
  ·rw [decide_eq_false c, cond_false] at h
   exact absurd h c
theorem ofR_zero {E : tE} {n : Nat} (h : (ofR chkE E n).1 = 0) : n ≤ 256 ∧ ∀ j, j < n → badE chkE E j = 0 := by
 unfold ofR at h
 by_cases c : 256 < n
 ·rw [decide_eq_true c] at h; exact absurd (show (3 : Int) = 0 from h) (by decide)
 ·rw [decide_eq_false c, cond_false] at h
  exact ⟨by omega, fun j hj => ofE_zero n (Nat.le_refl _) h j (by omega) hj⟩
theorem apz_last (E : tE) (n : Nat) : rowsE (apz E n) n = ⟨0, [], [], [], [], [], 0, 0⟩ := by
 unfold rowsE apz
 rw [decide_eq_false (by omega), cond_false]; rfl
theorem apz_err (E : tE) (n : Nat) : (ofX (rowsE (apz E n)) (n + 1)).1 ≠ 0 ∧ (ofX (rowsE (apz E n)) (n + 1)).1 ≠ 1 := by
 rw [ofX_is]
 refine ⟨fun h => ?_, ofR_ne1 _ _⟩
 have := (ofR_zero h).2 n (by omega)
 have c : chkE (rowsE (apz E n) n) ≠ 0 := by rw [apz_last]; decide +kernel
 rw [bad_chk c] at this
 exact c this
theorem ge_fltraw (s s' : Bool) : AV.ge (.flt s 0) (.raw s' 0) := fun N μ c h => by
 simp only [Rep] at h ⊢
 obtain ⟨x, rfl, h2, h3⟩ := h
 cases q : isnan x with
 | true => unfold cn at h2; rw [q] at h2; exact absurd (show qn = 0 from h2) (by decide)
 | false =>
  rw [cn_of_not q] at h2
  subst h2
  exact ⟨rfl, h3⟩
theorem peq_apz (E : tE) (n : Nat) : PEQ (n + 1) (apz E n) := by
 refine ⟨⟨fun j hj => ?_⟩, fun j hj u hu => ?_⟩
 ·unfold rowsE apz
  by_cases c : 0 + j < n
  ·rw [decide_eq_true c, cond_true]; exact RowGe_refl _ rfl
  ·rw [decide_eq_false c, cond_false]
   exact ⟨AV.ge.int _ _ _ _, rfl, AV.ge.str' _ _ rfl, rfl, AV.ge.str' _ _ rfl, rfl, AV.ge.str' _ _ rfl, rfl, AV.ge.str' _ _ rfl, rfl, AV.ge.str' _ _ rfl, rfl, ge_fltraw _ _, rfl, AV.ge.int _ _ _ _, rfl, trivial⟩
 ·unfold apz at hu
  by_cases c : 0 + j < n
  ·rw [decide_eq_true c, cond_true] at hu; exact List.all_eq_true.1 (elR_low 0 _) u hu
  ·rw [decide_eq_false c, cond_false] at hu; exact List.all_eq_true.1 (show zrow.all (fun v => v.low 0) = true from rfl) u hu
theorem apz0_inS {S : Nat → Prop} {E : tE} {n i o : Nat} {v : AV} (h : (apz0 E n i)[o]? = some v) : v.inS S := by
 unfold apz0 at h
 by_cases c : i < n
 ·rw [decide_eq_true c] at h
  exact elR_inS h
 ·rw [decide_eq_false c, cond_false] at h
  unfold zrow at h
  match o, h with
  | 0, h => cases h; trivial
  | 1, h => cases h; trivial
  | 2, h => cases h; trivial
  | 3, h => cases h; trivial
  | 4, h => cases h; trivial
  | 5, h => cases h; trivial
  | 6, h => cases h; trivial
  | 7, h => cases h; trivial



theorem noB (B : Nat) (hB : B ≤ 9) (n q r : Nat) (E : tE) (nd br : Nat → List UInt8) (M1 M2 M3 : List (List UInt8 × Int)) : GoesB Try.prog ((nav [0] (bodyOf Try.f39))) Try.f39.ntmps B 9 9 ZDx (ZDH n q r M1 M2 M3 E nd br) (ZDf n q r M1 M2 M3 E nd br) := rdR [] trivial hB
theorem noC (B : Nat) (hB : B ≤ 9) (n q r : Nat) (E : tE) (nd br : Nat → List UInt8) (M1 M2 M3 : List (List UInt8 × Int)) : GoesB Try.prog ((nav [1,0] (bodyOf Try.f39))) Try.f39.ntmps B 9 9 (ZDy 0 2) (ZDH n q r M1 M2 M3 E nd br) (ZDf n q r M1 M2 M3 E nd br) := rdR [] trivial hB
theorem noE (B : Nat) (hB : B ≤ 10) (n q r : Nat) (E : tE) (nd br : Nat → List UInt8) (M1 M2 M3 : List (List UInt8 × Int)) (u v : Int) : GoesB Try.prog ((nav [1,1,1] (bodyOf Try.f39))) Try.f39.ntmps B 10 10 (ZDy 4 9) (hpL [(2, ZY n q r), (3, .mSI true M1), (4, .mSI true M2), (5, .mSI true M3), (6, ZB n E), (7, ZI q nd), (8, ZI r br), (9, .cells true 2 1 (.fn fun _ => [iT u, iT v]))]) (pP .ret [(2, .sbool (decide (u = (1 : Int))))] [(2, ZX n q r), (3, Zd M1), (4, Zd M2), (5, Zd M3), (6, ZQ n E), (7, ZI q nd), (8, ZI r br)]) := rdR [] trivial hB
theorem noD_xt (n q r : Nat) (E : tE) (nd br : Nat → List UInt8) (M1 M2 M3 : List (List UInt8 × Int)) (c0 : 0 + n ≤ n) (c1 : n * 104 ≤ 140737488355328) (c2 : n ≤ 9223372036854775807) (c3 : ∀ (i : Nat), i < n → ∀ (o : Nat) (v : AV), (elR (E (0 + i)))[o]? = Option.some v → AV.inS (fun g => inR [(0, 11), (11, 12), (11, 11)] g = true) v) (c4 : n ≤ n) (c5 : (n + 1) * 104 ≤ 140737488355328) (c6 : n + 1 ≤ 9223372036854775807) (c7 : ∀ (i : Nat), i < n + 1 → ∀ (o : Nat) (v : AV), (apz0 E n i)[o]? = Option.some v → AV.inS (fun g => inR [(0, 11), (13, 14), (12, 13), (12, 12), (11, 12), (11, 11)] g = true) v) (c8 : 0 + (n + 1) ≤ n + 1) (c9 : PEQ (n + 1) (apz E n)) (c10 : decide (Prod.fst (ofX (rowsE (apz E n)) (n + 1)) = (0 : Int)) = false) : PieceN 40 (Ex.normal) [(4, ZA 14)] [(2, ZX n q r), (3, Zd M1), (4, Zd M2), (5, Zd M3), (6, ZQ n E), (7, ZI q nd), (8, ZI r br), (14, .cells true 2 1 (.lit [] (.n .e (some [iT (Prod.fst (ofX (rowsE (apz E n)) (n + 1))), iT (Prod.snd (ofX (rowsE (apz E n)) (n + 1)))]) .e)))] (piececallR Try.f39 ((nav [1,1,0] (bodyOf Try.f39))) (ZDy 0 2) (ZDH n q r M1 M2 M3 E nd br) 9 [false]) := eN (I8 c0 (ai c1 c2) c3 (ai c4 (ai c5 c6)) c7 c8 c9 c10)


theorem no_is : (bodyOf Try.f39) = .seq (nav [0] (bodyOf Try.f39)) (.seq (nav [1,0] (bodyOf Try.f39)) (.seq (nav [1,1,0] (bodyOf Try.f39)) (nav [1,1,1] (bodyOf Try.f39)))) := by kernel_rfl
theorem none_goes (n q r : Nat) (E : tE) (nd br : tX) (M1 M2 M3 : tM) (hn : n ≤ 1024) :
  GoesB Try.prog (bodyOf Try.f39) Try.f39.ntmps 9 9 40 ZDx (hpL [(2, ZY n q r), (3, .mSI true M1), (4, .mSI true M2), (5, .mSI true M3), (6, ZB n E), (7, ZS q nd), (8, ZS r br)]) (fun e fr' H' => e = .ret ∧ fr' = frL [(2, .bool false)] ∧ H' = hpL [(2, ZY n q r), (3, .mSI true M1), (4, .mSI true M2), (5, .mSI true M3), (6, ZB n E), (7, ZS q nd), (8, ZS r br)]) := by
 obtain ⟨z0, z1⟩ := apz_err E n
 rw [no_is]
 refine GoesB.seqN (K1 := 9) (noB 9 (by omega) n q r E nd br M1 M2 M3) (by omega) ?_
 refine GoesB.seqN (K1 := 9) (noC 9 (by omega) n q r E nd br M1 M2 M3) (by omega) ?_
 refine GoesB.seqN (K1 := 10) (F1 := [(4, ZA 9)]) (H1 := [(2, ZY n q r), (3, .mSI true M1), (4, .mSI true M2), (5, .mSI true M3), (6, ZB n E), (7, ZS q nd), (8, ZS r br), (9, .cells true 2 1 (.fn fun _ => [iT (ofX (rowsE (apz E n)) (n + 1)).1, iT (ofX (rowsE (apz E n)) (n + 1)).2]))]) ((rcR (noD_xt n q r E nd br M1 M2 M3 (by omega) (by omega) (by omega) (fun i hi o v hv => elR_inS hv) (Nat.le_refl _) (by omega) (by omega) (fun i hi o v hv => apz0_inS hv) (by omega) (peq_apz E n) (decide_eq_false z0)) (show 9 ≤ 9 by omega)).renG fun e fr' H' h => ?_) (by omega) ?_
 ·obtain ⟨rfl, rfl, rfl⟩ := h
  exact ⟨sg 9 14, [(4, ZA 9)], [(2, ZY n q r), (3, .mSI true M1), (4, .mSI true M2), (5, .mSI true M3), (6, ZB n E), (7, ZS q nd), (8, ZS r br), (9, .cells true 2 1 (.fn fun _ => [iT (ofX (rowsE (apz E n)) (n + 1)).1, iT (ofX (rowsE (apz E n)) (n + 1)).2]))], sg_low (by omega), ⟨⟨_, rfl, AV.ge.refl _, rfl⟩, trivial⟩, ⟨rgR rfl rfl (fun j _ => rfl) (fun j _ => rfl) (by omega), rgM rfl rfl (by omega), rgM rfl rfl (by omega), rgM rfl rfl (by omega), rgR rfl rfl (fun j _ => rfl) (fun j _ => rfl) (by omega), rgR rfl rfl (fun j _ => rfl) (fun j _ => rfl) (by omega), rgR rfl rfl (fun j _ => rfl) (fun j _ => rfl) (by omega), ⟨_, rfl, ⟨rfl, rfl, rfl, fun j hj => by
   obtain rfl : j = 0 := by omega
   rfl⟩, fun j hj v hv => List.all_eq_true.1 (show ([iT (ofX (rowsE (apz E n)) (n + 1)).1, iT (ofX (rowsE (apz E n)) (n + 1)).2] : List AV).all (fun v => v.low 10) = true from rfl) v hv, by omega⟩, trivial⟩, sg_inj (by omega), rfl, rfl, rfl⟩
 refine ((noE 9 (by omega) n q r E nd br M1 M2 M3 (ofX (rowsE (apz E n)) (n + 1)).1 (ofX (rowsE (apz E n)) (n + 1)).2).up (by omega)).post fun e fr' H' h => ?_
 obtain ⟨rfl, rfl, rfl⟩ := h
 refine ⟨[(2, .bool false)], [(2, ZY n q r), (3, .mSI true M1), (4, .mSI true M2), (5, .mSI true M3), (6, ZB n E), (7, ZS q nd), (8, ZS r br)], ⟨⟨_, rfl, fun N μ c h => ?_⟩, trivial⟩, (eHh rfl), rfl, rfl, rfl⟩
 simp only [Rep] at h ⊢
 rw [h, decide_eq_false z1]


noncomputable def gamS : Known := kc 71 ofBits (kc 74 toBits (kc 72 smallS (kc 61 kindS (kc 58 rowOfS (kc 73 ofS (kc 59 nameS (kc 60 nodeS (kc 35 chkS (kc 12 netofS (kc 29 elsS (kc 46 alongS (kc 44 rootS (kc 41 joinS (kn))))))))))))))
theorem gamS_ok : KnownOk Try.prog gamS := kc_ok ((ofBits_is Try.prog).callIs Try.func71 (by kernel_rfl) (by kernel_rfl) (by kernel_rfl) (by kernel_rfl)) (kc_ok ((toBits_is Try.prog).callIs Try.func74 (by kernel_rfl) (by kernel_rfl) (by kernel_rfl) (by kernel_rfl)) (kc_ok smallS_ok (kc_ok kindS_ok (kc_ok rowOfS_ok (kc_ok ofS_ok (kc_ok nameS_ok (kc_ok nodeS_ok (kc_ok chkS_ok (kc_ok netofS_ok (kc_ok elsS_ok (kc_ok alongS_ok (kc_ok rootS_ok (kc_ok joinS_ok (kn_ok))))))))))))))
theorem gamS_tch : KnownT gamS := kc_tch Tch.ofBits (kc_tch Tch.toBits (kc_tch smallS_tch (kc_tch kindS_tch (kc_tch rowOfS_tch (kc_tch ofS_tch (kc_tch nameS_tch (kc_tch nodeS_tch (kc_tch chkS_tch (kc_tch netofS_tch (kc_tch elsS_tch (kc_tch alongS_tch (kc_tch rootS_tch (kc_tch joinS_tch (kn_tch))))))))))))))
noncomputable def callS : Calls' := Sx.runN Try.prog gamS (regionC Try.prog) 1000 50
theorem callS_ok : CallOk Try.prog callS := engineC gamS_ok gamS_tch (by kernel_rfl) (by kernel_rfl) 1000 50
theorem callS_reg (n : Nat) : RegionOk Try.prog (regionC Try.prog callS n) n := runN_regionC gamS_ok gamS_tch (by kernel_rfl) (by kernel_rfl) 1000 50 n
noncomputable abbrev piececallS (f : Func) (c : Code) (fr : Fr) (H : T ABk) (K : Nat) (path : List Bool) : Res (Ex × Fr) :=
 codeA Try.prog callS (regionC Try.prog callS f.ntmps) noLoops f.ntmps 1000 c fr ⟨H, K, [], path, True⟩


theorem rcS {fn : Func} {K K' B : Nat} {e : Ex} {F : tF} {Hl : tH} {c : Code} {fr : Fr} {H : T ABk} {path : List Bool} (h : PieceN K' e F Hl (piececallS fn c fr H K path)) (hB : B ≤ K) : GoesB Try.prog c fn.ntmps B K K' fr H fun e' fr' H' => e' = e ∧ fr' = frL F ∧ H' = hpL Hl := GoesB.runN callS_ok (callS_reg _) (LoopsIn.none _ _ _) h hB
theorem rdS {fn : Func} {K K' B : Nat} {e : Ex} {F : tF} {Hl : tH} {c : Code} {fr : Fr} {H : T ABk} (path : List Bool) {q : Prop} (hq : q) (hB : B ≤ K) (h : pieceN K' e F Hl (piececallS fn c fr H K path) = (e = e ∧ selfW F ∧ selfH Hl ∧ true = true ∧ q) := by kernel_rfl) : GoesB Try.prog c fn.ntmps B K K' fr H fun e' fr' H' => e' = e ∧ fr' = frL F ∧ H' = hpL Hl := rcS (eqn h hq) hB
noncomputable abbrev ZT (v0 : Nat) (w0 w1) := (.cells true 2 1 (.fn fun _ => [.mp w0, sL w1 v0]) : ABk)
noncomputable abbrev Zw (v0 : Nat) (w0 w1) := (.cells true 2 1 (.fn fun x => [.mp w0, sL w1 v0]) : ABk)
noncomputable abbrev ZEA (v0 : Nat) (v1 : Nat → Nat) (v2 : List (List UInt8 × Int)) (v3 : Nat) (v4 : tE) := hpL [(9, ZT v0 11 10), (10, Zn v0 v1), (11, .mSI true v2), (12, ZG v3 v4)]
theorem voD (B : Nat) (hB : B ≤ 13) (n m i : Nat) (u : Nat → Nat) (E : tE) (zl : List (List UInt8 × Int)) : GoesB Try.prog ((nav [1,1,1,0,1,0,0,0] (bodyOf Try.f15))) Try.f15.ntmps B 13 13 (frL (ZDV n i 9 11 12 13)) (ZEA m u zl n E) (pP .normal [(3, ZA 9), (11, sL 12 n), (12, iT (↑n : Int)), (13, iT (↑i : Int)), (14, .sbool (decide ((↑i : Int) < (↑n : Int))))] [(9, Zw m 11 10), (10, Zr m u), (11, Zd zl), (12, ZN n E)]) := rdS [] trivial hB
theorem voX (B : Nat) (hB : B ≤ 13) (n m i : Nat) (u : Nat → Nat) (E : tE) (zl : List (List UInt8 × Int)) (b : Bool) : GoesB Try.prog ((nav [1,1,1,0,1,0,0,1,0] (bodyOf Try.f15))) Try.f15.ntmps B 13 13 (frL [(3, ZA 9), (11, sL 12 n), (12, iT (n : Int)), (13, iT (i : Int)), (14, .sbool b)]) (ZEA m u zl n E) fun e fr' H' => (cond (b) (pP .normal (ZD3 n i 9 11 12 13) [(9, Zw m 11 10), (10, Zr m u), (11, Zd zl), (12, ZN n E)] e fr' H') (pP (.exit 0) (ZD3 n i 9 11 12 13) [(9, Zw m 11 10), (10, Zr m u), (11, Zd zl), (12, ZN n E)] e fr' H')) := cI (fun t0 => rdS [tT] (I1 t0) hB) (fun t0 => rdS [fF] (I1 t0) hB)
noncomputable abbrev ZCS := nav [1,1,1,0,1,0,0,1,1,0,0,0] (bodyOf Try.f15)
theorem voE (B : Nat) (hB : B ≤ 13) (n m i : Nat) (u : Nat → Nat) (E : tE) (zl : List (List UInt8 × Int)) (x0 : ((↑i : Int) < (↑n : Int))) (x1 : (0 + i < n)) : GoesB Try.prog (ZCS) Try.f15.ntmps B 13 14 (frL (ZDV n i 9 11 12 13)) (ZEA m u zl n E) (pP .normal [(3, ZA 9), (5, ZA 13), (11, sL 12 n), (12, iT (↑n : Int)), (13, iT (↑i : Int))] [(9, Zw m 11 10), (10, Zr m u), (11, Zd zl), (12, ZN n E), (13, ZBJ E i)]) := rdS [] (I3 (ai (show 0 ≤ (↑i : Int) by omega) x0) x1 (show 8 ≤ 8 by omega)) hB
noncomputable abbrev ZBP (v0 : Nat) (v1 : Nat → Nat) (v2 : List (List UInt8 × Int)) (v3 : tE) (v4 : Nat) := (.cells true 1 v0 (.fn fun k => [iT (↑(jn (uO v0 (Cont.row (.fn fun k => [.int true .i64 (↑(v1 k) : Int)]))) (plc v2 (El.a (v3 v4))) (plc v2 (El.b (v3 v4))) k) : Int)]) : ABk)
noncomputable abbrev ZB0 := nav [1,1,1,0,1,0,0,1,1,0,0,1,0] (bodyOf Try.f15)
noncomputable abbrev ZEf (v0 v1 : Nat) := ([(3, ZA 9), (11, sL 12 v0), (12, iT (v0 : Int)), (13, iT (v1 : Int)), (5, ZA 13)] : tF)
theorem voF (B : Nat) (hB : B ≤ 14) (n m i : Nat) (u : Nat → Nat) (E : tE) (zl : List (List UInt8 × Int)) (x0 : (m = m)) (x1 : (m ≤ 4096)) (x2 : (∀ (j : Nat), j < m → RowGe [iT (↑(u j) : Int)] [iT (↑(uO m (Cont.row (.fn fun k => [.int true .i64 (↑(u k) : Int)])) j) : Int)] ∧ uO m (Cont.row (.fn fun k => [iT (↑(u k) : Int)])) j ≤ j)) (x3 : (∀ (z : List UInt8), (0 : Int) ≤ Option.getD (lfind seq z zl) (0 : Int) ∧ Option.getD (lfind seq z zl) 0 < (↑m : Int))) : GoesB Try.prog (ZB0) Try.f15.ntmps B 14 14 (frL (ZEf n i)) (hpL [(9, ZT m 11 10), (10, Zn m u), (11, .mSI true zl), (12, ZG n E), (13, Zg E i)]) fun e fr' H' => (cond (decide (El.k (E i) = (5 : Int))) (pP .normal [(3, ZA 9), (11, sL 12 n), (12, iT (↑n : Int)), (13, iT (↑i : Int)), (33, .sbool !!decide ((↑(root (uO m (Cont.row (.fn fun k => [iT (↑(u k) : Int)]))) (plc zl (El.a (E i)))) : Int) = (↑(root (uO m (Cont.row (.fn fun k => [iT (↑(u k) : Int)]))) (plc zl (El.b (E i)))) : Int)))] [(9, Zw m 11 10), (10, ZBP m u zl E i), (11, Zd zl), (12, ZN n E)] e fr' H') (cond (decide (El.k (E i) = (7 : Int))) (pP .normal [(3, ZA 9), (11, sL 12 n), (12, iT (↑n : Int)), (13, iT (↑i : Int)), (33, .sbool !!decide ((↑(root (uO m (Cont.row (.fn fun k => [iT (↑(u k) : Int)]))) (plc zl (El.a (E i)))) : Int) = (↑(root (uO m (Cont.row (.fn fun k => [iT (↑(u k) : Int)]))) (plc zl (El.b (E i)))) : Int)))] [(9, Zw m 11 10), (10, ZBP m u zl E i), (11, Zd zl), (12, ZN n E)] e fr' H') (pP .normal [(3, ZA 9), (11, sL 12 n), (12, iT (↑n : Int)), (13, iT (↑i : Int)), (33, .bool false)] [(9, Zw m 11 10), (10, Zr m u), (11, Zd zl), (12, ZN n E)] e fr' H'))) := cD (fun q0 t0 => rdS [tT] (I2 t0 (ai x0 (ai x1 (ai x2 x3)))) hB) (fun q0 t0 => cD (fun q1 t1 => rdS [fF, tT] (I3 t0 t1 (ai x0 (ai x1 (ai x2 x3)))) hB) (fun q1 t1 => rdS [fF, fF] (I2 t0 t1) hB))
noncomputable abbrev ZCK := nav [1,1,1,0,1,0,0,1,1,0,0,1,1] (bodyOf Try.f15)
theorem voG (B : Nat) (hB : B ≤ 13) (n m i : Nat) (u : Nat → Nat) (E : tE) (zl : List (List UInt8 × Int)) (b : Bool) : GoesB Try.prog (ZCK) Try.f15.ntmps B 13 13 (frL [(3, ZA 9), (11, sL 12 n), (12, iT (n : Int)), (13, iT (i : Int)), (33, .sbool b)]) (ZEA m u zl n E) fun e fr' H' => (cond (b) (pP .ret [(2, .bool true), (3, ZA 9), (11, sL 12 n), (12, iT (↑n : Int)), (13, iT (↑i : Int))] [(9, Zw m 11 10), (10, Zr m u), (11, Zd zl), (12, ZN n E)] e fr' H') (pP .normal (ZD3 n i 9 11 12 13) [(9, Zw m 11 10), (10, Zr m u), (11, Zd zl), (12, ZN n E)] e fr' H')) := cI (fun t0 => rdS [tT] (I1 t0) hB) (fun t0 => rdS [fF] (I1 t0) hB)
theorem voH (B : Nat) (hB : B ≤ 13) (n m i : Nat) (u : Nat → Nat) (E : tE) (zl : List (List UInt8 × Int)) (x0 : ((↑i : Int) + 1 ≤ (9223372036854775807 : Int))) : GoesB Try.prog ((nav [1,1,1,0,1,0,0,1,1,1] (bodyOf Try.f15))) Try.f15.ntmps B 13 13 (frL (ZDV n i 9 11 12 13)) (ZEA m u zl n E) (pP .normal [(3, ZA 9), (11, sL 12 n), (12, iT (↑n : Int)), (13, ZBw i)] [(9, Zw m 11 10), (10, Zr m u), (11, Zd zl), (12, ZN n E)]) := rdS [] (I1 (ai (show -9223372036854775808 ≤ (↑i : Int) + 1 by omega) x0)) hB
theorem voI (B : Nat) (hB : B ≤ 13) (n m i : Nat) (u : Nat → Nat) (E : tE) (zl : List (List UInt8 × Int)) : GoesB Try.prog ((nav [1,1,1,1] (bodyOf Try.f15))) Try.f15.ntmps B 13 13 (frL (ZDV n i 9 11 12 13)) (ZEA m u zl n E) (pP .ret [(2, .bool false)] [(9, Zw m 11 10)]) := rdS [] trivial hB
/-- is it a Voltage or an Amplifier? -/
def vsel (z : El) : Bool := decide (z.k = 5) || decide (z.k = 7)
/-- their ends, of the first so many elements -/
def vl (E : tE) : Nat → List (Tx × Tx)
 | 0 => []
 | i + 1 => bif vsel (E i) then vl E i ++ [((E i).a, (E i).b)] else vl E i
/-- element i closes a loop -/
def vfail (zl : tM) (E : tE) (i : Nat) : Bool := vsel (E i) && decide (cls (plc zl) (vl E i) (E i).a = cls (plc zl) (vl E i) (E i).b)
theorem uO_row {m : Nat} {u : Nat → Nat} {j : Nat} (hj : j < m) : uO m (Cont.row (.fn fun k => [iT ((u k : Nat) : Int)])) j = u j := by
 unfold uO
 rw [if_pos hj]
 show ((u j : Nat) : Int).toNat = u j
 omega
theorem root_uO {m : Nat} {u : Nat → Nat} (hu : ∀ j, u j ≤ j) {x : Nat} (hx : x < m) : root (uO m (Cont.row (.fn fun k => [iT ((u k : Nat) : Int)]))) x = root u x :=
 (root_congr hu fun j hj => (uO_row (by omega)).symm).symm
theorem jn_uO {m : Nat} {u : Nat → Nat} (hu : ∀ j, u j ≤ j) {x y k : Nat} (hx : x < m) (hy : y < m) (hk : k < m) : jn (uO m (Cont.row (.fn fun k => [iT ((u k : Nat) : Int)]))) x y k = jn u x y k := by
 unfold jn
 rw [root_uO hu hx, root_uO hu hy, uO_row hk]
noncomputable abbrev ZBC (v0 : Nat) (v1 : tM) (v2 : tE) (v3 : Nat) := (.cells true 1 v0 (.fn fun k => [iT (((Ul (plc v1) (vl v2 (v3 + 1))) k : Nat) : Int)]) : ABk)
noncomputable abbrev ZBl (v0 : Nat) (v1 : tM) (v2 : tE) (v3 : Nat) := (.cells true 1 v0 (.fn fun k => [iT (((Ul (plc v1) (vl v2 v3)) k : Nat) : Int)]) : ABk)
noncomputable abbrev ZDe (v0 : Nat) (v1 : tM) (v2 : tE) (v3 v4 : Nat) := ([(9, ZT v0 11 10), (10, ZBC v0 v1 v2 v3), (11, .mSI true v1), (12, ZG v4 v2)] : tH)
theorem vo_r7 (n m i : Nat) (E : tE) (zl : tM) (hm : m ≤ 4096) (hz : ∀ x, 0 ≤ (lfind seq x zl).getD 0 ∧ (lfind seq x zl).getD 0 < (m : Int)) :
  GoesB Try.prog ZB0 Try.f15.ntmps 9 14 14 (frL (ZEf n i)) (hpL [(9, ZT m 11 10), (10, ZBl m zl E i), (11, .mSI true zl), (12, ZG n E), (13, Zg E i)]) (fun e fr' H' => e = .normal ∧ fr' = frL [(3, ZA 9), (11, sL 12 n), (12, iT (n : Int)), (13, iT (i : Int)), (33, .sbool (vfail zl E i))] ∧ H' = hpL (ZDe m zl E i n)) := by
 have hu := Ul_le (plc zl) (vl E i)
 have la : plc zl (E i).a < m := by have := hz (E i).a; unfold plc; omega
 have lb : plc zl (E i).b < m := by have := hz (E i).b; unfold plc; omega
 refine (voF 9 (by omega) n m i (Ul (plc zl) (vl E i)) E zl rfl hm (fun j hj => ⟨⟨by rw [uO_row hj]; exact AV.ge.refl _, rfl, trivial⟩, by rw [uO_row hj]; exact hu j⟩) hz).post fun e fr' H' h => ?_
 have sel : vsel (E i) = true → (e = .normal ∧ fr' = frL [(3, ZA 9), (11, sL 12 n), (12, iT (n : Int)), (13, iT (i : Int)), (33, .sbool (!!decide (((root (uO m (Cont.row (.fn fun k => [iT (((Ul (plc zl) (vl E i)) k : Nat) : Int)]))) (plc zl (E i).a) : Nat) : Int) = ((root (uO m (Cont.row (.fn fun k => [iT (((Ul (plc zl) (vl E i)) k : Nat) : Int)]))) (plc zl (E i).b) : Nat) : Int))))] ∧ H' = hpL [(9, ZT m 11 10), (10, .cells true 1 m (.fn fun k => [iT ((jn (uO m (Cont.row (.fn fun k => [AV.int true .i64 (((Ul (plc zl) (vl E i)) k : Nat) : Int)]))) (plc zl (E i).a) (plc zl (E i).b) k : Nat) : Int)])), (11, .mSI true zl), (12, ZG n E)]) → ∃ fl bl, Ge fr' fl ∧ GeH H' bl ∧ (e = .normal ∧ frL fl = frL [(3, ZA 9), (11, sL 12 n), (12, iT (n : Int)), (13, iT (i : Int)), (33, .sbool (vfail zl E i))] ∧ hpL bl = hpL (ZDe m zl E i n)) := fun hs h => by
  obtain ⟨rfl, rfl, rfl⟩ := h
  refine ⟨[(3, ZA 9), (11, sL 12 n), (12, iT (n : Int)), (13, iT (i : Int)), (33, .sbool (vfail zl E i))], (ZDe m zl E i n), ⟨re rfl, re rfl, re rfl, re rfl, ⟨_, rfl, ?_⟩, trivial⟩, ⟨(Sx.hs rfl), ⟨_, rfl, rfl, rfl, rfl, fun k hk => ?_⟩, eHh rfl⟩, rfl, rfl, rfl⟩
  ·rw [root_uO hu la, root_uO hu lb]
   unfold vfail
   rw [hs, Bool.true_and, Bool.not_not]
   have : decide (((root (Ul (plc zl) (vl E i)) (plc zl (E i).a) : Nat) : Int) = ((root (Ul (plc zl) (vl E i)) (plc zl (E i).b) : Nat) : Int)) = decide (cls (plc zl) (vl E i) (E i).a = cls (plc zl) (vl E i) (E i).b) := decide_eq_decide.2 (by unfold cls; omega)
   rw [this]
   exact AV.ge.refl _
  ·show [iT ((jn (uO m (Cont.row (.fn fun k => [AV.int true .i64 (((Ul (plc zl) (vl E i)) k : Nat) : Int)]))) (plc zl (E i).a) (plc zl (E i).b) k : Nat) : Int)] = [iT (((Ul (plc zl) (vl E (i + 1))) k : Nat) : Int)]
   rw [jn_uO hu la lb hk]
   conv => rhs; unfold vl
   rw [hs, cond_true, Ul_snoc]
 cases q1 : decide ((E i).k = 5) with
 | true =>
  rw [q1, cond_true] at h
  exact sel (by unfold vsel; rw [q1]; rfl) h
 | false =>
  rw [q1, cond_false] at h
  cases q2 : decide ((E i).k = 7) with
  | true =>
   rw [q2, cond_true] at h
   exact sel (by unfold vsel; rw [q1, q2]; rfl) h
  | false =>
   rw [q2, cond_false] at h
   obtain ⟨rfl, rfl, rfl⟩ := h
   have hs : vsel (E i) = false := by unfold vsel; rw [q1, q2]; rfl
   refine ⟨[(3, ZA 9), (11, sL 12 n), (12, iT (n : Int)), (13, iT (i : Int)), (33, .sbool (vfail zl E i))], (ZDe m zl E i n), ⟨re rfl, re rfl, re rfl, re rfl, ⟨_, rfl, fun N μ c h => ?_⟩, trivial⟩, ⟨(Sx.hs rfl), ⟨_, rfl, rfl, rfl, rfl, fun k hk => ?_⟩, eHh rfl⟩, rfl, rfl, rfl⟩
   ·unfold vfail
    rw [hs, Bool.false_and]
    simpa only [Rep] using h
   ·show [iT (((Ul (plc zl) (vl E i)) k : Nat) : Int)] = [iT (((Ul (plc zl) (vl E (i + 1))) k : Nat) : Int)]
    conv => rhs; unfold vl
    rw [hs, cond_false]
theorem vo_blk (n m i : Nat) (E : tE) (zl : tM) (hi : i < n) (hn : n ≤ 1024) (hm : m ≤ 4096) (hz : ∀ x, 0 ≤ (lfind seq x zl).getD 0 ∧ (lfind seq x zl).getD 0 < (m : Int)) :
  GoesB Try.prog (.block 1 (.seq ZCS (.seq ZB0 ZCK))) Try.f15.ntmps 9 13 13 (frL (ZDV n i 9 11 12 13)) (hpL [(9, ZT m 11 10), (10, ZBl m zl E i), (11, .mSI true zl), (12, ZG n E)]) (fun e fr' H' => (e = .normal ∧ vfail zl E i = false ∧ fr' = frL (ZDV n i 9 11 12 13) ∧ H' = hpL (ZDe m zl E i n)) ∨ (e = .ret ∧ vfail zl E i = true ∧ fr' = frL [(2, .sbool true)] ∧ H' = hpL [])) := by
 have h1 : GoesB Try.prog (.block 1 (.seq ZCS (.seq ZB0 ZCK))) Try.f15.ntmps 9 13 14 (frL (ZDV n i 9 11 12 13)) (hpL [(9, ZT m 11 10), (10, ZBl m zl E i), (11, .mSI true zl), (12, ZG n E)]) (fun e fr' H' => (e = .normal ∧ vfail zl E i = false ∧ fr' = frL (ZDV n i 9 11 12 13) ∧ H' = hpL (ZDe m zl E i n)) ∨ (e = .ret ∧ vfail zl E i = true ∧ fr'.get 2 = some (.bool true))) := by
  refine GoesB.block ?_
  refine GoesB.seqN (K1 := 14) (F1 := (ZEf n i)) (H1 := [(9, ZT m 11 10), (10, ZBl m zl E i), (11, .mSI true zl), (12, ZG n E), (13, Zg E i)]) (GoesB.toN (voE 9 (by omega) n m i (Ul (plc zl) (vl E i)) E zl (by omega) (by omega)) (eGg rfl) ⟨hs rfl, hs rfl, hs rfl, hs rfl, wk_hb rfl (by show elR (E (0 + i)) = elR (E i); rw [Nat.zero_add]), trivial⟩) (by omega) ?_
  refine GoesB.seqN (K1 := 13) (F1 := [(3, ZA 9), (11, sL 12 n), (12, iT (n : Int)), (13, iT (i : Int)), (33, .sbool (vfail zl E i))]) (H1 := (ZDe m zl E i n)) ((vo_r7 n m i E zl hm hz).renG fun e fr' H' h => ?_) (by omega) ?_
  ·obtain ⟨rfl, rfl, rfl⟩ := h
   exact ⟨id, [(3, ZA 9), (11, sL 12 n), (12, iT (n : Int)), (13, iT (i : Int)), (33, .sbool (vfail zl E i))], (ZDe m zl E i n), fun g hg => rfl, (eRr rfl), ⟨rgR rfl rfl (fun j _ => rfl) (fun j _ => rfl) (by omega), rgR rfl rfl (fun j _ => rfl) (fun j _ => rfl) (by omega), rgM rfl rfl (by omega), rgR rfl rfl (fun j _ => rfl) (fun j _ => rfl) (by omega), trivial⟩, fun i j _ _ h => h, rfl, rfl, rfl⟩
  refine ((voG 9 (by omega) n m i (Ul (plc zl) (vl E (i + 1))) E zl (vfail zl E i)).up (by omega)).mono fun e fr' H' h => ?_
  cases q : vfail zl E i with
  | true =>
   rw [q, cond_true] at h
   obtain ⟨rfl, rfl, rfl⟩ := h
   exact .inr ⟨rfl, rfl, rfl⟩
  | false =>
   rw [q, cond_false] at h
   obtain ⟨rfl, rfl, rfl⟩ := h
   exact .inl ⟨rfl, rfl, rfl, rfl⟩
 refine h1.renG fun e fr' H' h => ?_
 rcases h with ⟨rfl, h0, rfl, rfl⟩ | ⟨rfl, h0, h2⟩
 ·exact ⟨id, (ZDV n i 9 11 12 13), (ZDe m zl E i n), fun g hg => rfl, (eRr rfl), ⟨rgR rfl rfl (fun j _ => rfl) (fun j _ => rfl) (by omega), rgR rfl rfl (fun j _ => rfl) (fun j _ => rfl) (by omega), rgM rfl rfl (by omega), rgR rfl rfl (fun j _ => rfl) (fun j _ => rfl) (by omega), trivial⟩, fun i j _ _ h => h, .inl ⟨rfl, h0, rfl, rfl⟩⟩
 ·exact ⟨id, [(2, .sbool true)], [], fun g hg => rfl, ⟨⟨_, h2, fun N μ c h => by simpa only [Rep, AV.ren] using h, rfl⟩, trivial⟩, trivial, fun i j _ _ h => h, .inr ⟨rfl, h0, rfl, rfl⟩⟩


theorem view1 {N : Nat} {μ : MM} {hp : Array Obj} {g sz : Nat} {own : Bool} {c : Cont} {row : List AV} (h : BkOk N μ hp g (.cells own sz 1 c)) (k : RowGe (c.row 0) row) : BkOk N μ hp g (.cells false sz 1 (.fn fun _ => row)) := by
 refine ⟨h.1, h.2.1, fun hr => ?_⟩
 obtain ⟨cur, ty, fz, p1, p2, p3, p4⟩ := h.2.2 (.inl (by omega))
 refine ⟨cur, ty, fz, p1, p2, fun h => (by cases h), fun i hi => ?_⟩
 obtain rfl : i = 0 := by omega
 exact RowOk.ge (p4 0 (by omega)) k
/-- a net's row, read: its slices and maps -/
structure NetA where
 n : Nat
 q : Nat
 r : Nat
 l : AA
 nd : AA
 bg : AA
 m1 : Nat
 m2 : Nat
 m3 : Nat
def flat0 (a : AA) : Bool := Nat.beq a.i 0 && Nat.beq a.o 0
def asNet : List AV → Option NetA
 | [.bool true, .slc _ true a1 n, .mp m1, .slc _ true a2 q, .mp m2, .slc _ true a3 r, .mp m3] => bif flat0 a1 && flat0 a2 && flat0 a3 then some ⟨n, q, r, a1, a2, a3, m1, m2, m3⟩ else none
 | _ => none
/-- the net at a name -/
noncomputable def netAt (N : Nat) : M NetA := (getC N).andThen fun b => (M.okIf (Nat.beq b.2.1 7 && Nat.beq b.2.2.1 1)).andThen fun _ => M.ofOpt (asNet (b.2.2.2.row 0))
theorem Tch_netAt (N : Nat) : Tch (netAt N) := (Tch.getC _).andThen fun _ => (Tch.okIf _).andThen fun _ => Tch.ofOpt _
theorem flat0_is {a : AA} (h : flat0 a = true) : a.i = 0 ∧ a.o = 0 := by
 unfold flat0 at h
 rw [Bool.and_eq_true] at h
 exact ⟨Nat.eq_of_beq_eq_true h.1, Nat.eq_of_beq_eq_true h.2⟩
theorem asNet_some {l : List AV} {w : NetA} (h : asNet l = some w) : ∃ s1 s2 s3, l = [.bool true, .slc s1 true w.l w.n, .mp w.m1, .slc s2 true w.nd w.q, .mp w.m2, .slc s3 true w.bg w.r, .mp w.m3] ∧ (w.l.i = 0 ∧ w.l.o = 0) ∧ (w.nd.i = 0 ∧ w.nd.o = 0) ∧ (w.bg.i = 0 ∧ w.bg.o = 0) := by
 unfold asNet at h
 split at h
 ·rename_i s1 a1 n m1 s2 a2 q m2 s3 a3 r m3
  cases c : flat0 a1 && flat0 a2 && flat0 a3 with
  | false => rw [c] at h; cases h
  | true =>
   rw [c] at h
   cases h
   simp only [Bool.and_eq_true] at c
   exact ⟨s1, s2, s3, rfl, flat0_is c.1.1, flat0_is c.1.2, flat0_is c.2⟩
 ·cases h
theorem netAt_done {N : Nat} {w : NetA} {g g' : G} (h : netAt N g = .done w g') : g = g' ∧ ∃ ob c s1 s2 s3, g.H.get N = some (.cells ob 7 1 c) ∧ c.row 0 = [.bool true, .slc s1 true w.l w.n, .mp w.m1, .slc s2 true w.nd w.q, .mp w.m2, .slc s3 true w.bg w.r, .mp w.m3] ∧ (w.l.i = 0 ∧ w.l.o = 0) ∧ (w.nd.i = 0 ∧ w.nd.o = 0) ∧ (w.bg.i = 0 ∧ w.bg.o = 0) := by
 unfold netAt at h
 obtain ⟨⟨ob, zb, mb, cb⟩, g1, a1, h1⟩ := done_of h
 obtain ⟨t1, rfl⟩ := getC_done a1
 obtain ⟨_, g2, a2, h2⟩ := done_of h1
 obtain ⟨hq, rfl⟩ := okIf_done a2
 obtain ⟨h3, rfl⟩ := ofOpt_done h2
 simp only [Bool.and_eq_true] at hq
 obtain rfl := Nat.eq_of_beq_eq_true hq.1
 obtain rfl := Nat.eq_of_beq_eq_true hq.2
 obtain ⟨s1, s2, s3, e, x⟩ := asNet_some h3
 exact ⟨rfl, ob, cb, s1, s2, s3, t1, e, x⟩
/-- the great names of a net's blocks -/
def netRho (N : Nat) (w : NetA) (i : Nat) : Nat := if i = 2 then N else if i = 3 then w.m1 else if i = 4 then w.m2 else if i = 5 then w.m3 else if i = 6 then w.l.g else if i = 7 then w.nd.g else w.bg.g
theorem net_row {c : Cont} {w : NetA} {s1 s2 s3 : Bool} (e : c.row 0 = [.bool true, .slc s1 true w.l w.n, .mp w.m1, .slc s2 true w.nd w.q, .mp w.m2, .slc s3 true w.bg w.r, .mp w.m3]) (h1 : w.l.i = 0 ∧ w.l.o = 0) (h2 : w.nd.i = 0 ∧ w.nd.o = 0) (h3 : w.bg.i = 0 ∧ w.bg.o = 0) {ρ : Nat → Nat} (p3 : ρ 3 = w.m1) (p4 : ρ 4 = w.m2) (p5 : ρ 5 = w.m3) (p6 : ρ 6 = w.l.g) (p7 : ρ 7 = w.nd.g) (p8 : ρ 8 = w.bg.g) : RowGe (c.row 0) (rens ρ (netR 6 7 8 w.n w.q w.r)) := by
 rw [e]
 refine ⟨AV.ge.refl _, rfl, AV.ge.hdr p6.symm h1.1 h1.2, rfl, ?_, rfl, AV.ge.hdr p7.symm h2.1 h2.2, rfl, ?_, rfl, AV.ge.hdr p8.symm h3.1 h3.2, rfl, ?_, rfl, trivial⟩
 ·show AV.ge (.mp w.m1) (.mp (ρ 3)); rw [p3]; exact AV.ge.refl _
 ·show AV.ge (.mp w.m2) (.mp (ρ 4)); rw [p4]; exact AV.ge.refl _
 ·show AV.ge (.mp w.m3) (.mp (ρ 5)); rw [p5]; exact AV.ge.refl _
/-- what a net's blocks hold -/
structure NetQ (n q r nl nn nb : Nat) (M1 M2 M3 : tM) (cl cn cb : Nat → List AV) : Prop where
 n256 : n ≤ 256
 ln : nl = n
 lq : nn = q
 lr : nb = r
 q_is : q = (ND (rowsE cl) n).length
 r_is : r = (BR (rowsE cl) n).length
 m1 : M1 = zipF 0 (NM (rowsE cl) n)
 m2 : M2 = zipF 0 (ND (rowsE cl) n)
 m3 : M3 = zipF 0 (BR (rowsE cl) n)
 rl : ∀ j, j < n → RowGe (cl j) (elR (rowsE cl j))
 rn : ∀ j, j < q → RowGe (cn j) (txR (lget (ND (rowsE cl) n)) j)
 rb : ∀ j, j < r → RowGe (cb j) (txR (lget (BR (rowsE cl) n)) j)
/-- the net at a name, its elements -/
noncomputable def netRd (N : Nat) : M (NetA × (Nat → El)) :=
 (netAt N).andThen fun w => (M.okIf (nodupB [N, w.m1, w.m2, w.m3, w.l.g, w.nd.g, w.bg.g])).andThen fun _ => (M.getB w.m1).andThen fun b1 => (M.ofOpt (asSI b1)).andThen fun M1 => (M.getB w.m2).andThen fun b2 => (M.ofOpt (asSI b2)).andThen fun M2 => (M.getB w.m3).andThen fun b3 => (M.ofOpt (asSI b3)).andThen fun M3 =>
  (getC w.l.g).andThen fun cl => (getC w.nd.g).andThen fun cn => (getC w.bg.g).andThen fun cb => (M.okIf (Nat.beq cl.2.1 8 && Nat.beq cn.2.1 1 && Nat.beq cb.2.1 1)).andThen fun _ =>
   (M.req (NetQ w.n w.q w.r cl.2.2.1 cn.2.2.1 cb.2.2.1 M1.2 M2.2 M3.2 cl.2.2.2.row cn.2.2.2.row cb.2.2.2.row)).andThen fun _ => M.ret (w, rowsE cl.2.2.2.row)
theorem Tch_netRd (N : Nat) : Tch (netRd N) := (Tch_netAt _).andThen fun _ => (Tch.okIf _).andThen fun _ => (Tch.getB _).andThen fun _ => (Tch.ofOpt _).andThen fun _ => (Tch.getB _).andThen fun _ => (Tch.ofOpt _).andThen fun _ => (Tch.getB _).andThen fun _ => (Tch.ofOpt _).andThen fun _ => (Tch.getC _).andThen fun _ => (Tch.getC _).andThen fun _ => (Tch.getC _).andThen fun _ => (Tch.okIf _).andThen fun _ => (Tch.req _).andThen fun _ => Tch.ret _
/-- what netRd found -/
structure NetF (g : G) (N : Nat) (w : NetA) (E : tE) : Prop where
 net : ∃ ob c s1 s2 s3, g.H.get N = some (.cells ob 7 1 c) ∧ c.row 0 = [.bool true, .slc s1 true w.l w.n, .mp w.m1, .slc s2 true w.nd w.q, .mp w.m2, .slc s3 true w.bg w.r, .mp w.m3]
 l0 : w.l.i = 0 ∧ w.l.o = 0
 nd0 : w.nd.i = 0 ∧ w.nd.o = 0
 bg0 : w.bg.i = 0 ∧ w.bg.o = 0
 dup : [N, w.m1, w.m2, w.m3, w.l.g, w.nd.g, w.bg.g].Nodup
 n256 : w.n ≤ 256
 q_is : w.q = (ND E w.n).length
 r_is : w.r = (BR E w.n).length
 m1 : ∃ s, g.H.get w.m1 = some (.mSI s (zipF 0 (NM E w.n)))
 m2 : ∃ s, g.H.get w.m2 = some (.mSI s (zipF 0 (ND E w.n)))
 m3 : ∃ s, g.H.get w.m3 = some (.mSI s (zipF 0 (BR E w.n)))
 l : ∃ o c, g.H.get w.l.g = some (.cells o 8 w.n c) ∧ ∀ j, j < w.n → RowGe (c.row j) (elR (E j))
 nd : ∃ o c, g.H.get w.nd.g = some (.cells o 1 w.q c) ∧ ∀ j, j < w.q → RowGe (c.row j) (txR (lget (ND E w.n)) j)
 bg : ∃ o c, g.H.get w.bg.g = some (.cells o 1 w.r c) ∧ ∀ j, j < w.r → RowGe (c.row j) (txR (lget (BR E w.n)) j)
theorem netRd_done {N : Nat} {y : NetA × (Nat → El)} {g g' : G} (h : netRd N g = .done y g') : ∃ q, Keep g g' q ∧ (q → NetF g N y.1 y.2) := by
 unfold netRd at h
 obtain ⟨w, g1, a1, h⟩ := done_of h
 obtain ⟨rfl, ob, c, s1, s2, s3, hN, eN, f1, f2, f3⟩ := netAt_done a1
 obtain ⟨_, g2, a2, h⟩ := done_of h
 obtain ⟨dd, rfl⟩ := okIf_done a2
 obtain ⟨b1, g3, a3, h⟩ := done_of h
 obtain ⟨hb1, rfl⟩ := getB_done a3
 obtain ⟨⟨t1, M1⟩, g4, a4, h⟩ := done_of h
 obtain ⟨e1, rfl⟩ := ofOpt_done a4
 obtain ⟨b2, g5, a5, h⟩ := done_of h
 obtain ⟨hb2, rfl⟩ := getB_done a5
 obtain ⟨⟨t2, M2⟩, g6, a6, h⟩ := done_of h
 obtain ⟨e2, rfl⟩ := ofOpt_done a6
 obtain ⟨b3, g7, a7, h⟩ := done_of h
 obtain ⟨hb3, rfl⟩ := getB_done a7
 obtain ⟨⟨t3, M3⟩, g8, a8, h⟩ := done_of h
 obtain ⟨e3, rfl⟩ := ofOpt_done a8
 obtain ⟨⟨o1, z1, k1, cl⟩, g9, a9, h⟩ := done_of h
 obtain ⟨hl, rfl⟩ := getC_done a9
 obtain ⟨⟨o2, z2, k2, cn⟩, g10, a10, h⟩ := done_of h
 obtain ⟨hn, rfl⟩ := getC_done a10
 obtain ⟨⟨o3, z3, k3, cb⟩, g11, a11, h⟩ := done_of h
 obtain ⟨hbb, rfl⟩ := getC_done a11
 obtain ⟨_, g12, a12, h⟩ := done_of h
 obtain ⟨zz, rfl⟩ := okIf_done a12
 obtain ⟨_, g13, a13, h⟩ := done_of h
 have kk := req_done a13
 obtain ⟨rfl, rfl⟩ := ret_done h
 have e1 := Sx.asSI_some e1
 have e2 := Sx.asSI_some e2
 have e3 := Sx.asSI_some e3
 subst e1 e2 e3
 simp only [Bool.and_eq_true] at zz
 obtain ⟨⟨y1, y2⟩, y3⟩ := zz
 obtain rfl := Nat.eq_of_beq_eq_true y1
 obtain rfl := Nat.eq_of_beq_eq_true y2
 obtain rfl := Nat.eq_of_beq_eq_true y3
 refine ⟨_, kk, fun Q => ?_⟩
 dsimp only at Q hl hn hbb hb1 hb2 hb3 ⊢
 have i1 := Q.ln
 have i2 := Q.lq
 have i3 := Q.lr
 subst i1 i2 i3
 refine ⟨⟨ob, c, s1, s2, s3, hN, eN⟩, f1, f2, f3, nodup_of dd, Q.n256, Q.q_is, Q.r_is, ⟨t1, by rw [hb1, Q.m1]⟩, ⟨t2, by rw [hb2, Q.m2]⟩, ⟨t3, by rw [hb3, Q.m3]⟩, ⟨_, _, hl, Q.rl⟩, ⟨_, _, hn, Q.rn⟩, ⟨_, _, hbb, Q.rb⟩⟩
theorem viewW {N : Nat} {μ : MM} {hp : Array Obj} {g sz m : Nat} {own : Bool} {c : Cont} {rows : Nat → List AV} (h : BkOk N μ hp g (.cells own sz m c)) (k : ∀ j, j < m → RowGe (c.row j) (rows j)) : BkOk N μ hp g (.cells false sz m (.fn rows)) := by
 refine ⟨h.1, h.2.1, fun hr => ?_⟩
 obtain ⟨cur, ty, fz, p1, p2, p3, p4⟩ := h.2.2 (hr.elim .inl fun c => by cases c.1)
 exact ⟨cur, ty, fz, p1, p2, fun h => (by cases h), fun i hi => RowOk.ge (p4 i hi) (k i hi)⟩

/-- the net's blocks, told in the small heap -/
noncomputable abbrev Zl (v0 : NetA) (v1 : tE) := ([(2, .cells false 7 1 (.fn fun _ => netR 6 7 8 v0.n v0.q v0.r)), (3, .mSI true (zipF 0 (NM v1 v0.n))), (4, .mSI true (zipF 0 (ND v1 v0.n))), (5, .mSI true (zipF 0 (BR v1 v0.n))), (6, .cells false 8 v0.n (.fn fun j => elR (v1 j))), (7, .cells false 1 v0.q (.fn (txR (lget (ND v1 v0.n))))), (8, .cells false 1 v0.r (.fn (txR (lget (BR v1 v0.n)))))] : tH)
theorem net_told {g : G} {N : Nat} {w : NetA} {E : tE} (F : NetF g N w E) : ∀ i b, (hpL (Zl w E)).get i = some b → Sx.Told g (netRho N w) 9 i b := by
 intro i b hbb
 have hm' := hpL_get hbb
 simp only [List.mem_cons, List.not_mem_nil, or_false] at hm'
 rcases hm' with h | h | h | h | h | h | h <;> cases h
 ·obtain ⟨ob, c, s1, s2, s3, hN, eN⟩ := F.net
  exact ⟨by omega, fun j hj v hv => List.all_eq_true.1 (show (netR 6 7 8 w.n w.q w.r).all (fun v => v.low 9) = true from rfl) v hv, _, hN, fun N μ hp k => view1 k (net_row eN F.l0 F.nd0 F.bg0 rfl rfl rfl rfl rfl rfl), fun h => (by cases h), fun μ m hr => .inl (by omega)⟩
 ·obtain ⟨s, h⟩ := F.m1
  exact ⟨by omega, trivial, _, h, fun N μ hp k => k, fun _ => rfl, fun μ m hr => hr⟩
 ·obtain ⟨s, h⟩ := F.m2
  exact ⟨by omega, trivial, _, h, fun N μ hp k => k, fun _ => rfl, fun μ m hr => hr⟩
 ·obtain ⟨s, h⟩ := F.m3
  exact ⟨by omega, trivial, _, h, fun N μ hp k => k, fun _ => rfl, fun μ m hr => hr⟩
 ·obtain ⟨o, c, h, hr⟩ := F.l
  exact ⟨by omega, fun j hj v hv => List.all_eq_true.1 (elR_low 9 _) v hv, _, h, fun N μ hp k => viewW k hr, fun h => (by cases h), fun μ m hr => hr.elim .inl fun c => by cases c.1⟩
 ·obtain ⟨o, c, h, hr⟩ := F.nd
  exact ⟨by omega, fun j hj v hv => by rw [List.mem_singleton.1 hv]; rfl, _, h, fun N μ hp k => viewW k hr, fun h => (by cases h), fun μ m hr => hr.elim .inl fun c => by cases c.1⟩
 ·obtain ⟨o, c, h, hr⟩ := F.bg
  exact ⟨by omega, fun j hj v hv => by rw [List.mem_singleton.1 hv]; rfl, _, h, fun N μ hp k => viewW k hr, fun h => (by cases h), fun μ m hr => hr.elim .inl fun c => by cases c.1⟩
theorem net_inj {g : G} {N : Nat} {w : NetA} {E : tE} (F : NetF g N w E) : ∀ i j b b', (hpL (Zl w E)).get i = some b → (hpL (Zl w E)).get j = some b' → netRho N w i = netRho N w j → i = j := by
 intro i j b b' hi hj e
 have d := F.dup
 simp only [List.nodup_cons, List.mem_cons, List.not_mem_nil, or_false, not_or, not_false_eq_true, List.nodup_nil, and_true] at d
 obtain ⟨⟨d1, d2, d3, d4, d5, d6⟩, ⟨d7, d8, d9, d10, d11⟩, ⟨d12, d13, d14, d15⟩, ⟨d16, d17, d18⟩, ⟨d19, d20⟩, d21⟩ := d
 have hm1 := hpL_get hi
 have hm2 := hpL_get hj
 simp only [List.mem_cons, List.not_mem_nil, or_false] at hm1 hm2
 rcases hm1 with h | h | h | h | h | h | h <;> cases h <;> rcases hm2 with h | h | h | h | h | h | h <;> cases h <;> first | rfl | exact absurd e (by assumption) | exact absurd e.symm (by assumption)



/-- a net's blocks in a small heap -/
noncomputable def netBL (w : NetA) (E : tE) : List (Nat × ABk) := [(2, .cells false 7 1 (.fn fun _ => netR 6 7 8 w.n w.q w.r)), (3, .mSI true (zipF 0 (NM E w.n))), (4, .mSI true (zipF 0 (ND E w.n))), (5, .mSI true (zipF 0 (BR E w.n))), (6, .cells false 8 w.n (.fn fun j => elR (E j))), (7, .cells false 1 w.q (.fn (txR (lget (ND E w.n))))), (8, .cells false 1 w.r (.fn (txR (lget (BR E w.n)))))]
def roG (N : Nat) (w : NetA) (rx : Nat → Nat) (i : Nat) : Nat := if i < 9 then netRho N w i else rx i
def kaG (w : NetA) (nx : Nat) (nms : List Nat) (i : Nat) : Nat := if i = w.m1 then 3 else if i = w.m2 then 4 else if i = w.m3 then 5 else nms.getD (i - nx) 0
noncomputable def upd3 (H : T ABk) (w : NetA) (E : tE) : T ABk := ((H.upd w.m1 (some (ABk.mSI true (zipF 0 (NM E w.n))))).upd w.m2 (some (ABk.mSI true (zipF 0 (ND E w.n))))).upd w.m3 (some (ABk.mSI true (zipF 0 (BR E w.n))))
def newL : List ABk → Nat → List (Nat × ABk)
 | [], _ => []
 | b :: l, i => (i, b) :: newL l (i + 1)
theorem newL_mem : ∀ {l : List ABk} {i : Nat} {q : Nat × ABk}, q ∈ newL l i → ∃ j b, l[j]? = some b ∧ q = (i + j, b)
 | [], i, q, h => by cases h
 | b :: l, i, q, h => by
  rcases List.mem_cons.1 h with rfl | h
  ·exact ⟨0, b, rfl, rfl⟩
  ·obtain ⟨j, u, h1, rfl⟩ := newL_mem h
   exact ⟨j + 1, u, by simpa using h1, by rw [show i + 1 + j = i + (j + 1) by omega]⟩
theorem newL_in : ∀ {l : List ABk} {i j : Nat} {b : ABk}, l[j]? = some b → (i + j, b) ∈ newL l i
 | b0 :: l, i, 0, b, h => by cases h; exact List.mem_cons_self
 | b0 :: l, i, j + 1, b, h => by
  have h' : l[j]? = some b := by simpa using h
  have := newL_in (i := i + 1) h'
  rw [show i + 1 + j = i + (j + 1) by omega] at this
  exact List.mem_cons_of_mem _ this
theorem net_renG {N : Nat} {w : NetA} {E : tE} {rx : Nat → Nat} : ∀ i b, (hpL (netBL w E)).get i = some b → b.ren (roG N w rx) = b.ren (netRho N w) ∧ b.lowR 9 := by
 intro i b hb
 have hm := hpL_get hb
 simp only [netBL, List.mem_cons, List.not_mem_nil, or_false] at hm
 rcases hm with h | h | h | h | h | h | h <;> cases h
 ·exact ⟨rfl, fun j hj v hv => List.all_eq_true.1 (show (netR 6 7 8 w.n w.q w.r).all (fun v => v.low 9) = true from rfl) v hv⟩
 ·exact ⟨rfl, trivial⟩
 ·exact ⟨rfl, trivial⟩
 ·exact ⟨rfl, trivial⟩
 ·exact ⟨rfl, fun j hj v hv => List.all_eq_true.1 (elR_low 9 _) v hv⟩
 ·exact ⟨rfl, fun j hj v hv => by rw [List.mem_singleton.1 hv]; rfl⟩
 ·exact ⟨rfl, fun j hj v hv => by rw [List.mem_singleton.1 hv]; rfl⟩
mutual
theorem av_up {K K' : Nat} (hK : K ≤ K') : ∀ {v : AV}, v.low K = true → v.low K' = true
 | .top, _ => rfl
 | .bool _, _ => rfl
 | .sbool _, _ => rfl
 | .int .., _ => rfl
 | .flt .., _ => rfl
 | .raw .., _ => rfl
 | .bits .., _ => rfl
 | .cpx .., _ => rfl
 | .str .., _ => rfl
 | .nilp, _ => rfl
 | .nils, _ => rfl
 | .nilm, _ => rfl
 | .nilf, _ => rfl
 | .nili, _ => rfl
 | .hdr .., _ => rfl
 | .any1, _ => rfl
 | .txs .., h => by simp only [AV.low] at h ⊢; exact Nat.ble_eq_true_of_le (Nat.lt_of_lt_of_le (blt_lt h) hK)
 | .ptx _, h => by simp only [AV.low] at h ⊢; exact Nat.ble_eq_true_of_le (Nat.lt_of_lt_of_le (blt_lt h) hK)
 | .ptr a, h => by simp only [AV.low] at h ⊢; exact Nat.ble_eq_true_of_le (Nat.lt_of_lt_of_le (blt_lt h) hK)
 | .slc _ _ a _, h => by simp only [AV.low] at h ⊢; exact Nat.ble_eq_true_of_le (Nat.lt_of_lt_of_le (blt_lt h) hK)
 | .mp g, h => by simp only [AV.low] at h ⊢; exact Nat.ble_eq_true_of_le (Nat.lt_of_lt_of_le (blt_lt h) hK)
 | .fn _ x c, h => by
  simp only [AV.low, Bool.and_eq_true] at h ⊢
  exact ⟨avs_up hK h.1, avs_up hK h.2⟩
 | .agg l, h => by simp only [AV.low] at h ⊢; exact avs_up hK h
 | .tup l, h => by simp only [AV.low] at h ⊢; exact avs_up hK h
theorem avs_up {K K' : Nat} (hK : K ≤ K') : ∀ {l : List AV}, lows K l = true → lows K' l = true
 | [], _ => rfl
 | v :: l, h => by
  simp only [lows, Bool.and_eq_true] at h ⊢
  exact ⟨av_up hK h.1, avs_up hK h.2⟩
end
theorem low_up (v : AV) {K K' : Nat} (h : v.low K = true) (hK : K ≤ K') : v.low K' = true := av_up hK h
theorem lowR_up {b : ABk} {K K' : Nat} (h : b.lowR K) (hK : K ≤ K') : b.lowR K' := by
 cases b with
 | cells own sz m c => exact fun i hi v hv => low_up v (h i hi v hv) hK
 | _ => trivial
theorem netCall {P : Program} {f : FuncId} {fn : Func} {c : Code} (hf : P.funcs[f]? = some fn) (hb : fn.body = some c) (hname : (fn.name == "runtime.NumGoroutine") = false) {args argsC : List AV} {g g' : G} {p : Prop} (hcs : g'.cs → g.cs ∧ p)
  {N : Nat} {w : NetA} {E : tE} (ff : p → NetF g N w E) {xl : tH} {rx : Nat → Nat} {K0 K' : Nat} (hK0 : 9 ≤ K0)
  (hA : p → ∀ M μ (cs : List Value), Reps M μ args cs → Reps K0 (μ.via (roG N w rx)) argsC cs)
  (tx : p → ∀ i b, (hpL xl).get i = some b → 9 ≤ i ∧ Sx.Told g (roG N w rx) K0 i b ∧ b.owned = false)
  (ix : p → ∀ i j b b', (hpL xl).get i = some b → (hpL (netBL w E ++ xl)).get j = some b' → roG N w rx i = roG N w rx j → i = j)
  {bs : List ABk} {nms : List Nat} (hl : nms.length = bs.length) (hnew : ∀ nm ∈ nms, K0 ≤ nm) (hnd : nms.Nodup)
  (hH : g'.H = putNew (upd3 g.H w E) g.nx bs) (hnx : g'.nx = g.nx + bs.length)
  (hbs : ∀ b ∈ bs, b.owned = true ∧ b.lowR (g.nx + bs.length) ∧ b.inS fun i => g.nx ≤ i ∧ i < g.nx + bs.length)
  {v : AV} (hv : v.low (g.nx + bs.length) = true) (hvS : v.inS fun i => g.nx ≤ i ∧ i < g.nx + bs.length)
  (h : p → (∀ j, j < nms.length → kaG w g.nx nms (g.nx + j) = nms.getD j 0) → GoesB P c fn.ntmps K0 K0 K' (frameOf argsC 0 .e) (hpL (netBL w E ++ xl)) fun e fr' H' => (e = .ret ∨ e = .normal) ∧ ∃ vs gr, resultsA P fr' fn.results.toList ⟨H', K', [], [], True⟩ = .done vs gr ∧ gr.cs ∧ AV.ge (packA vs) (v.ren (kaG w g.nx nms)) ∧
   (H'.get 3 = some (.mSI true (zipF 0 (NM E w.n))) ∧ H'.get 4 = some (.mSI true (zipF 0 (ND E w.n))) ∧ H'.get 5 = some (.mSI true (zipF 0 (BR E w.n)))) ∧ ∀ j b, bs[j]? = some b → ∃ b0, H'.get (nms.getD j 0) = some b0 ∧ SameC b0 (b.ren (kaG w g.nx nms))) :
  CallIs P f args v g g' := by
 have nb : ∀ i b, (hpL (netBL w E)).get i = some b → 2 ≤ i ∧ i < 9 := fun i b hb => by
  have hm := hpL_get hb
  simp only [netBL, List.mem_cons, List.not_mem_nil, or_false] at hm
  rcases hm with h | h | h | h | h | h | h <;> cases h <;> omega
 have ro : ∀ i, i < 9 → roG N w rx i = netRho N w i := fun i hi => if_pos hi
 have split : p → ∀ i b, (hpL (netBL w E ++ xl)).get i = some b → ((hpL (netBL w E)).get i = some b ∧ i < 9) ∨ ((hpL xl).get i = some b ∧ 9 ≤ i) := fun hp i b hb => by
  rw [hpL_app] at hb
  cases h1 : (hpL (netBL w E)).get i with
  | some b1 => rw [h1] at hb; cases hb; exact .inl ⟨rfl, (nb _ _ h1).2⟩
  | none => rw [h1] at hb; exact .inr ⟨hb, (tx hp _ _ hb).1⟩
 refine smallCallN (c := c) hf hb hname (argsC := argsC) (bl := netBL w E ++ xl) (bl' := [(w.m1, .mSI true (zipF 0 (NM E w.n))), (w.m2, .mSI true (zipF 0 (ND E w.n))), (w.m3, .mSI true (zipF 0 (BR E w.n)))] ++ newL bs g.nx) (K0 := K0) (K' := K') (p := p) hcs (roG N w rx) (kaG w g.nx nms) (nms := nms) (by rw [hnx, hl]) (v := v) (fun i => i = w.m1 ∨ i = w.m2 ∨ i = w.m3 ∨ (g.nx ≤ i ∧ i < g.nx + bs.length)) (fun hp M μ cs hr => hA hp M μ cs hr) ?_ ?_ hnew hnd ?_ ?_ ?_ ?_ ?_ ?_ ?_
 ·intro hp i b hb
  rcases split hp i b hb with ⟨hb, hi⟩ | ⟨hb, hi⟩
  ·have t := net_told (ff hp) i b hb
   obtain ⟨b1, t1, t2, t3, t4⟩ := t.of
   refine ⟨by omega, ?_, b1, by rw [ro i hi]; exact t1, fun M μ hpp k => ?_, t3, t4⟩
   ·exact lowR_up t.low hK0
   ·rw [ro i hi] at k ⊢
    rw [(net_renG i b hb).1]
    exact t2 M μ hpp k
  ·exact (tx hp i b hb).2.1
 ·intro hp i j b b' hi hj e
  rcases split hp i b hi with ⟨hi', li⟩ | ⟨hi', li⟩
  ·rcases split hp j b' hj with ⟨hj', lj⟩ | ⟨hj', lj⟩
   ·rw [ro i li, ro j lj] at e
    exact net_inj (ff hp) i j b b' hi' hj' e
   ·exact (ix hp j i b' b hj' hi e.symm).symm
  ·exact ix hp i j b b' hi' hj e
 ·-- κ at the new names
  intro hp hL j hj
  obtain ⟨⟨_, h1⟩, ⟨_, h2⟩, ⟨_, h3⟩⟩ := (⟨(ff hp).m1, (ff hp).m2, (ff hp).m3⟩ : _ ∧ _ ∧ _)
  have l1 := hL _ _ h1; have l2 := hL _ _ h2; have l3 := hL _ _ h3
  show kaG w g.nx nms (g.nx + j) = _
  unfold kaG
  rw [if_neg (by omega), if_neg (by omega), if_neg (by omega), Nat.add_sub_cancel_left]
 ·intro hp hL i hi
  have d := (ff hp).dup
  simp only [List.nodup_cons, List.mem_cons, List.not_mem_nil, or_false, not_or, not_false_eq_true, List.nodup_nil, and_true] at d
  obtain ⟨⟨d1, d2, d3, d4, d5, d6⟩, ⟨d7, d8, d9, d10, d11⟩, ⟨d12, d13, d14, d15⟩, ⟨d16, d17, d18⟩, ⟨d19, d20⟩, d21⟩ := d
  obtain ⟨⟨_, h1⟩, ⟨_, h2⟩, ⟨_, h3⟩⟩ := (⟨(ff hp).m1, (ff hp).m2, (ff hp).m3⟩ : _ ∧ _ ∧ _)
  have l1 := hL _ _ h1; have l2 := hL _ _ h2; have l3 := hL _ _ h3
  have k1 : kaG w g.nx nms w.m1 = 3 := if_pos rfl
  have k2 : kaG w g.nx nms w.m2 = 4 := (if_neg (fun c => d7 c.symm)).trans (if_pos rfl)
  have k3 : kaG w g.nx nms w.m3 = 5 := (if_neg (fun c => d8 c.symm)).trans ((if_neg (fun c => d12 c.symm)).trans (if_pos rfl))
  rcases hi with rfl | rfl | rfl | ⟨h4, h5⟩
  ·exact ⟨by omega, fun _ => by rw [k1]; exact ⟨by omega, ro 3 (by omega)⟩⟩
  ·exact ⟨by omega, fun _ => by rw [k2]; exact ⟨by omega, ro 4 (by omega)⟩⟩
  ·exact ⟨by omega, fun _ => by rw [k3]; exact ⟨by omega, ro 5 (by omega)⟩⟩
  ·exact ⟨by omega, fun h => by omega⟩
 ·-- the walk
  intro hp hL
  have d := (ff hp).dup
  simp only [List.nodup_cons, List.mem_cons, List.not_mem_nil, or_false, not_or, not_false_eq_true, List.nodup_nil, and_true] at d
  obtain ⟨⟨d1, d2, d3, d4, d5, d6⟩, ⟨d7, d8, d9, d10, d11⟩, ⟨d12, d13, d14, d15⟩, ⟨d16, d17, d18⟩, ⟨d19, d20⟩, d21⟩ := d
  obtain ⟨⟨_, h1⟩, ⟨_, h2⟩, ⟨_, h3⟩⟩ := (⟨(ff hp).m1, (ff hp).m2, (ff hp).m3⟩ : _ ∧ _ ∧ _)
  have l1 := hL _ _ h1; have l2 := hL _ _ h2; have l3 := hL _ _ h3
  have k1 : kaG w g.nx nms w.m1 = 3 := if_pos rfl
  have k2 : kaG w g.nx nms w.m2 = 4 := (if_neg (fun c => d7 c.symm)).trans (if_pos rfl)
  have k3 : kaG w g.nx nms w.m3 = 5 := (if_neg (fun c => d8 c.symm)).trans ((if_neg (fun c => d12 c.symm)).trans (if_pos rfl))
  have kN : ∀ j, j < nms.length → kaG w g.nx nms (g.nx + j) = nms.getD j 0 := fun j hj => by
   unfold kaG
   rw [if_neg (by omega), if_neg (by omega), if_neg (by omega), Nat.add_sub_cancel_left]
  refine (h hp kN).mono fun e fr' H' ⟨e1, vs, gr, e2, e3, e4, ⟨e5, e6, e7⟩, e8⟩ => ⟨e1, vs, gr, e2, e3, e4, fun q hq => ?_⟩
  rcases List.mem_append.1 hq with hq | hq
  ·simp only [List.mem_cons, List.not_mem_nil, or_false] at hq
   rcases hq with rfl | rfl | rfl
   ·exact ⟨_, by rw [k1]; exact e5, SameC.refl _⟩
   ·exact ⟨_, by rw [k2]; exact e6, SameC.refl _⟩
   ·exact ⟨_, by rw [k3]; exact e7, SameC.refl _⟩
  ·obtain ⟨j, b, hj, rfl⟩ := newL_mem hq
   obtain ⟨b0, q1, q2⟩ := e8 j b hj
   exact ⟨b0, by rw [kN j (by rw [hl]; exact (List.getElem?_eq_some_iff.1 hj).1)]; exact q1, q2⟩
 ·intro hp hL; rw [hnx]; exact hv
 ·intro hp hL
  exact AV.inS.mono (fun i hi => .inr (.inr (.inr hi))) hvS
 ·intro hp hL q hq
  have d := (ff hp).dup
  simp only [List.nodup_cons, List.mem_cons, List.not_mem_nil, or_false, not_or, not_false_eq_true, List.nodup_nil, and_true] at d
  obtain ⟨⟨d1, d2, d3, d4, d5, d6⟩, ⟨d7, d8, d9, d10, d11⟩, ⟨d12, d13, d14, d15⟩, ⟨d16, d17, d18⟩, ⟨d19, d20⟩, d21⟩ := d
  obtain ⟨⟨_, h1⟩, ⟨_, h2⟩, ⟨_, h3⟩⟩ := (⟨(ff hp).m1, (ff hp).m2, (ff hp).m3⟩ : _ ∧ _ ∧ _)
  have l1 := hL _ _ h1; have l2 := hL _ _ h2; have l3 := hL _ _ h3
  have k1 : kaG w g.nx nms w.m1 = 3 := if_pos rfl
  have k2 : kaG w g.nx nms w.m2 = 4 := (if_neg (fun c => d7 c.symm)).trans (if_pos rfl)
  have k3 : kaG w g.nx nms w.m3 = 5 := (if_neg (fun c => d8 c.symm)).trans ((if_neg (fun c => d12 c.symm)).trans (if_pos rfl))
  have nbl : ∀ i b, (hpL (netBL w E)).get i = some b → (hpL (netBL w E ++ xl)).get i = some b := fun i b hb => by rw [hpL_app, hb]; rfl
  rcases List.mem_append.1 hq with hq | hq
  ·simp only [List.mem_cons, List.not_mem_nil, or_false] at hq
   rcases hq with rfl | rfl | rfl
   ·exact ⟨.inl rfl, trivial, trivial, fun _ => ⟨_, by rw [k1]; exact nbl 3 _ rfl, rfl, fun μ m h => h⟩, fun _ => rfl⟩
   ·exact ⟨.inr (.inl rfl), trivial, trivial, fun _ => ⟨_, by rw [k2]; exact nbl 4 _ rfl, rfl, fun μ m h => h⟩, fun _ => rfl⟩
   ·exact ⟨.inr (.inr (.inl rfl)), trivial, trivial, fun _ => ⟨_, by rw [k3]; exact nbl 5 _ rfl, rfl, fun μ m h => h⟩, fun _ => rfl⟩
  ·obtain ⟨j, b, hj, rfl⟩ := newL_mem hq
   have hlt := (List.getElem?_eq_some_iff.1 hj).1
   obtain ⟨b1, b2, b3⟩ := hbs b (List.mem_of_getElem? hj)
   exact ⟨.inr (.inr (.inr ⟨by omega, by omega⟩)), ABk.inS.mono (fun i hi => .inr (.inr (.inr hi))) b3, by rw [hnx]; exact b2, fun h => absurd h (by omega), fun _ => b1⟩
 ·intro hp hL i b hi
  rw [hH, putNew_get] at hi
  split at hi
  ·rename_i hb
   refine .inr (List.mem_append_right _ ?_)
   have := newL_in (i := g.nx) hi
   rwa [show g.nx + (i - g.nx) = i by omega] at this
  ·unfold upd3 at hi
   rw [T.get_upd] at hi
   split at hi
   ·rename_i e; cases hi; subst e; exact .inr (by simp)
   rename_i n3
   rw [T.get_upd] at hi
   split at hi
   ·rename_i e; cases hi; subst e; exact .inr (by simp)
   rename_i n2
   rw [T.get_upd] at hi
   split at hi
   ·rename_i e; cases hi; subst e; exact .inr (by simp)
   rename_i n1
   refine .inl ⟨hi, fun j bj hj ho e => ?_⟩
   rcases split hp j bj hj with ⟨hj, lj⟩ | ⟨hj, lj⟩
   ·rw [ro j lj] at e
    have hm' := hpL_get hj
    simp only [netBL, List.mem_cons, List.not_mem_nil, or_false] at hm'
    rcases hm' with h | h | h | h | h | h | h <;> cases h
    ·cases ho
    ·exact n1 e.symm
    ·exact n2 e.symm
    ·exact n3 e.symm
    ·cases ho
    ·cases ho
    ·cases ho
   ·rw [(tx hp j bj hj).2.2] at ho; cases ho


theorem addN_good {l : List Tx} {x : Tx} (h : ∀ i, i < l.length → pos (lget l i) (g0 :: l.take i) = none) : ∀ i, i < (addN l x).length → pos (lget (addN l x) i) (g0 :: (addN l x).take i) = none := by
 unfold addN
 cases q : (pos x l).isSome || x == [] || x == [48] with
 | true => rw [cond_true]; exact h
 | false =>
  rw [cond_false]
  intro i hi
  simp only [Bool.or_eq_false_iff] at q
  obtain ⟨⟨q1, q2⟩, q3⟩ := q
  have q4 : pos x l = none := by
   cases e : pos x l with
   | none => rfl
   | some j => rw [e] at q1; cases q1
  by_cases c : i < l.length
  ·have h1 := h i c
   have e1 : lget (l ++ [x]) i = lget l i := by
    unfold lget
    rw [List.getD_eq_getElem?_getD, List.getElem?_append_left c, ← List.getD_eq_getElem?_getD]
   rw [e1, List.take_append_of_le_length (by omega)]
   exact h1
  ·have hi' : i = l.length := by simp at hi; omega
   subst hi'
   have e1 : lget (l ++ [x]) l.length = x := by
    unfold lget
    rw [List.getD_eq_getElem?_getD, List.getElem?_append_right (Nat.le_refl _), Nat.sub_self]; rfl
   rw [e1, List.take_append_of_le_length (Nat.le_refl _), List.take_length]
   refine pos_none.2 fun hm => ?_
   rcases List.mem_cons.1 hm with hm | hm
   ·rw [hm] at q3; exact absurd q3 (by decide)
   ·exact pos_none.1 q4 hm
theorem ND_good (E : tE) : ∀ n i, i < (ND E n).length → pos (lget (ND E n) i) (g0 :: (ND E n).take i) = none
 | 0, i, h => absurd h (Nat.not_lt_zero _)
 | n + 1, i, h => by
  unfold ND at h ⊢
  exact addN_good (addN_good (addN_good (addN_good (ND_good E n)))) i h
/-- a place among the sets is one -/
theorem zip_in (l : List Tx) (x : Tx) : 0 ≤ (lfind seq x (zipF 0 (g0 :: l))).getD 0 ∧ (lfind seq x (zipF 0 (g0 :: l))).getD 0 < ((l.length + 1 : Nat) : Int) := by
 rw [find_zip]
 cases e : pos x (g0 :: l) with
 | none => exact ⟨Int.le_refl _, by show (0 : Int) < _; omega⟩
 | some i =>
  have := (pos_lt e).1
  simp only [List.length_cons] at this
  exact ⟨by show (0 : Int) ≤ ((0 + i : Nat) : Int); omega, by show ((0 + i : Nat) : Int) < _; omega⟩
noncomputable def ogNew (l : List Tx) : M Nat :=
 (M.newB (Z9 l)).andThen fun N => (M.newB (.mSI true (zipF 0 (g0 :: l)))).andThen fun _ => M.newB (.cells true 2 1 (.fn fun _ => [.mp (N + 1), .slc true true ⟨false, N, 0, 0⟩ (l.length + 1)]))
noncomputable def ogB (N : Nat) (l : List Tx) : List ABk := [Z9 l, .mSI true (zipF 0 (g0 :: l)), .cells true 2 1 (.fn fun _ => [.mp (N + 1), .slc true true ⟨false, N, 0, 0⟩ (l.length + 1)])]
theorem Tch_ogNew (l : List Tx) : Tch (ogNew l) := (Tch.newB _).andThen fun _ => (Tch.newB _).andThen fun _ => Tch.newB _
theorem ogNew_done {l : List Tx} {N : Nat} {g g' : G} (h : ogNew l g = .done N g') : N = g.nx + 2 ∧ g'.H = putNew g.H g.nx (ogB g.nx l) ∧ g'.nx = g.nx + 3 ∧ g'.cs = g.cs := by
 cases h
 exact ⟨rfl, rfl, rfl, rfl⟩
noncomputable def noneS : List AV → M AV
 | [.ptr aN] => (M.okIf (flat0 aN)).andThen fun _ => (netRd aN.g).andThen fun y => (M.setB y.1.m1 (.mSI true (zipF 0 (NM y.2 y.1.n)))).andThen fun _ => (M.setB y.1.m2 (.mSI true (zipF 0 (ND y.2 y.1.n)))).andThen fun _ => (M.setB y.1.m3 (.mSI true (zipF 0 (BR y.2 y.1.n)))).andThen fun _ => M.ret (.bool false)
 | _ => M.no
theorem noneS_tch : ∀ args, Tch (noneS args) := by
 intro args
 unfold noneS
 split
 ·exact (Tch.okIf _).andThen fun _ => (Tch_netRd _).andThen fun _ => (Tch.setB _ _).andThen fun _ => (Tch.setB _ _).andThen fun _ => (Tch.setB _ _).andThen fun _ => Tch.ret _
 ·exact Tch.no
theorem noneS_ok : ∀ args v g g', noneS args g = .done v g' → CallIs Try.prog 39 args v g g' := by
 intro args v g g' h
 unfold noneS at h
 split at h
 case h_2 => exact (no_done h).elim
 rename_i aN
 obtain ⟨_, g1, a1, h⟩ := done_of h
 obtain ⟨q0, rfl⟩ := okIf_done a1
 have q0 := flat0_is q0
 obtain ⟨⟨w, E⟩, g3, a3, h⟩ := done_of h
 obtain ⟨qf, kk, ff⟩ := netRd_done a3
 dsimp only at h ff
 obtain ⟨_, g6, a6, h⟩ := done_of h
 obtain ⟨_, g7, a7, h⟩ := done_of h
 obtain ⟨_, g8, a8, h⟩ := done_of h
 obtain ⟨b1, b2, b3⟩ := setB_done a6
 obtain ⟨b4, b5, b6⟩ := setB_done a7
 obtain ⟨b7, b8, b9⟩ := setB_done a8
 have hx : g8.nx = g.nx := by rw [b8, b5, b2, kk.2.1]
 obtain ⟨rfl, rfl⟩ := ret_done h
 refine netCall (K' := 40) (c := (bodyOf Try.f39)) Try.func39 (by kernel_rfl) (by kernel_rfl) (argsC := [ZA 2]) (fun hc => kk.2.2 (by rw [← b3, ← b6, ← b9]; exact hc)) (N := aN.g) (w := w) (E := E) (fun hp => ff hp) (xl := []) (rx := fun _ => 0) (K0 := 9) (Nat.le_refl _) (fun hp M μ cs hr => ?_) (fun hp i b hb => by cases hb) (fun hp i j b b' hi => by cases hi) (bs := []) (nms := []) rfl (by decide) (by decide) (by rw [b7, b4, b1, kk.1]; rfl) (by rw [b8, b5, b2, kk.2.1]; rfl) (fun b hb => by cases hb) (by simp [AV.low, lows]) (by simp [AV.inS, insS]) (fun hp kN => ?_)
 ·simp only [Reps] at hr ⊢
  obtain ⟨c1, l1, rfl, h1, rfl⟩ := hr
  exact ⟨c1, _, rfl, rep_ptr0 h1 q0.1 q0.2 (by omega) rfl, rfl⟩
 have F := ff hp
 rw [List.append_nil]
 refine (none_goes w.n w.q w.r E (lget (ND E w.n)) (lget (BR E w.n)) _ _ _ (by have := F.n256; omega)).mono fun e fr' H' h => ?_
 obtain ⟨rfl, rfl, rfl⟩ := h
 exact ⟨.inl rfl, _, _, res1 (t := 2) (by kernel_rfl) rfl, trivial, AV.ge.refl _, ⟨rfl, rfl, rfl⟩, fun j b hb => by cases hb⟩

noncomputable def ogS : List AV → M AV
 | [.ptr aN] => (M.okIf (flat0 aN)).andThen fun _ => (netRd aN.g).andThen fun y => (M.setB y.1.m1 (.mSI true (zipF 0 (NM y.2 y.1.n)))).andThen fun _ => (M.setB y.1.m2 (.mSI true (zipF 0 (ND y.2 y.1.n)))).andThen fun _ => (M.setB y.1.m3 (.mSI true (zipF 0 (BR y.2 y.1.n)))).andThen fun _ => (ogNew (ND y.2 y.1.n)).andThen fun N => M.ret (.ptr ⟨false, N, 0, 0⟩)
 | _ => M.no
theorem ogS_tch : ∀ args, Tch (ogS args) := by
 intro args
 unfold ogS
 split
 ·exact (Tch.okIf _).andThen fun _ => (Tch_netRd _).andThen fun _ => (Tch.setB _ _).andThen fun _ => (Tch.setB _ _).andThen fun _ => (Tch.setB _ _).andThen fun _ => (Tch_ogNew _).andThen fun _ => Tch.ret _
 ·exact Tch.no
theorem ogS_ok : ∀ args v g g', ogS args g = .done v g' → CallIs Try.prog 40 args v g g' := by
 intro args v g g' h
 unfold ogS at h
 split at h
 case h_2 => exact (no_done h).elim
 rename_i aN
 obtain ⟨_, g1, a1, h⟩ := done_of h
 obtain ⟨q0, rfl⟩ := okIf_done a1
 have q0 := flat0_is q0
 obtain ⟨⟨w, E⟩, g3, a3, h⟩ := done_of h
 obtain ⟨qf, kk, ff⟩ := netRd_done a3
 dsimp only at h ff
 obtain ⟨_, g6, a6, h⟩ := done_of h
 obtain ⟨_, g7, a7, h⟩ := done_of h
 obtain ⟨_, g8, a8, h⟩ := done_of h
 obtain ⟨b1, b2, b3⟩ := setB_done a6
 obtain ⟨b4, b5, b6⟩ := setB_done a7
 obtain ⟨b7, b8, b9⟩ := setB_done a8
 have hx : g8.nx = g.nx := by rw [b8, b5, b2, kk.2.1]
 obtain ⟨N, g9, a9, h⟩ := done_of h
 obtain ⟨e1, e2, e3, e4⟩ := ogNew_done a9
 obtain ⟨rfl, rfl⟩ := ret_done h
 refine netCall (K' := 13) (c := (bodyOf Try.f40)) Try.func40 (by kernel_rfl) (by kernel_rfl) (argsC := [.ptr ⟨false, 2, 0, 0⟩]) (fun hc => kk.2.2 (by rw [← b3, ← b6, ← b9, ← e4]; exact hc)) (N := aN.g) (w := w) (E := E) (fun hp => ff hp) (xl := []) (rx := fun _ => 0) (K0 := 9) (Nat.le_refl _) (fun hp M μ cs hr => ?_) (fun hp i b hb => by cases hb) (fun hp i j b b' hi => by cases hi) (bs := ogB g.nx (ND E w.n)) (nms := [10, 11, 9]) rfl (by decide) (by decide) (by rw [e2, b7, b4, b1, kk.1, hx]; rfl) (by rw [e3, hx]; rfl) (fun b hb => by
   simp only [ogB, List.mem_cons, List.not_mem_nil, or_false] at hb
   rcases hb with rfl | rfl | rfl
   ·exact ⟨rfl, fun i hi v hv => by rw [List.mem_singleton.1 hv]; rfl, fun i hi o v hv => by
     match o, hv with
     | 0, hv => cases hv; trivial⟩
   ·exact ⟨rfl, trivial, trivial⟩
   ·refine ⟨rfl, fun i hi v hv => ?_, fun i hi o v hv => ?_⟩
    ·rcases List.mem_cons.1 hv with rfl | hv
     ·exact Nat.ble_eq_true_of_le (show Nat.succ (g.nx + 1) ≤ g.nx + 3 by omega)
     ·rw [List.mem_singleton.1 hv]; exact Nat.ble_eq_true_of_le (show Nat.succ g.nx ≤ g.nx + 3 by omega)
    ·match o, hv with
     | 0, hv => cases hv; exact ⟨by omega, by show _ < g.nx + 3; omega⟩
     | 1, hv => cases hv; exact ⟨by show g.nx ≤ g.nx; omega, by show g.nx < g.nx + 3; omega⟩) (by rw [e1, hx]; exact Nat.ble_eq_true_of_le (show Nat.succ (g.nx + 2) ≤ g.nx + 3 by omega)) (by rw [e1, hx]; exact ⟨by show g.nx ≤ g.nx + 2; omega, by show g.nx + 2 < g.nx + 3; omega⟩) (fun hp kN => ?_)
 ·simp only [Reps] at hr ⊢
  obtain ⟨c1, l1, rfl, h1, rfl⟩ := hr
  exact ⟨c1, _, rfl, rep_ptr0 h1 q0.1 q0.2 (by omega) rfl, rfl⟩
 have F := ff hp
 rw [List.append_nil]
 have eB : netBL w E = [(2, .cells false 7 1 (.fn fun _ => netR 6 7 8 w.n (ND E w.n).length w.r)), (3, .mSI true (zipF 0 (NM E w.n))), (4, .mSI true (zipF 0 (ND E w.n))), (5, .mSI true (zipF 0 (BR E w.n))), (6, .cells false 8 w.n (.fn fun j => elR (E j))), (7, .cells false 1 (ND E w.n).length (.fn (txR (lget (ND E w.n))))), (8, .cells false 1 w.r (.fn (txR (lget (BR E w.n)))))] := by unfold netBL; rw [F.q_is]
 have k0 : kaG w g.nx [10, 11, 9] g.nx = 10 := kN 0 (by simp)
 have k1 : kaG w g.nx [10, 11, 9] (g.nx + 1) = 11 := kN 1 (by simp)
 have k2 : kaG w g.nx [10, 11, 9] (g.nx + 2) = 9 := kN 2 (by simp)
 rw [eB]
 refine (og_goes (ND E w.n) w.n w.r E (lget (BR E w.n)) (zipF 0 (NM E w.n)) (zipF 0 (ND E w.n)) (zipF 0 (BR E w.n)) (by have := ND_len E w.n; have := F.n256; omega) (ND_good E w.n)).mono fun e fr' H' h => ?_
 obtain ⟨rfl, rfl, rfl⟩ := h
 refine ⟨.inl rfl, _, _, res1 (t := 2) (by kernel_rfl) rfl, trivial, ?_, ⟨rfl, rfl, rfl⟩, fun j b hb => ?_⟩
 ·simp only [AV.ren, AA.ren, e1, hx, k2]
  exact AV.ge.refl _
 ·match j, hb with
  | 0, hb => cases hb; exact ⟨_, rfl, rfl, rfl, rfl, fun j hj => rfl⟩
  | 1, hb => cases hb; exact (hs rfl)
  | 2, hb =>
   cases hb
   refine ⟨_, rfl, rfl, rfl, rfl, fun j hj => ?_⟩
   show _ = rens (kaG w g.nx [10, 11, 9]) [.mp (g.nx + 1), .slc true true ⟨false, g.nx, 0, 0⟩ ((ND E w.n).length + 1)]
   simp only [rens, AV.ren, AA.ren, k0, k1]
   rfl

noncomputable def gamX : Known := kc 71 ofBits (kc 74 toBits (kc 72 smallS (kc 61 kindS (kc 58 rowOfS (kc 73 ofS (kc 59 nameS (kc 60 nodeS (kc 35 chkS (kc 12 netofS (kc 29 elsS (kc 46 alongS (kc 44 rootS (kc 41 joinS (kc 39 noneS (kc 40 ogS (kn))))))))))))))))
theorem gamX_ok : KnownOk Try.prog gamX := kc_ok ((ofBits_is Try.prog).callIs Try.func71 (by kernel_rfl) (by kernel_rfl) (by kernel_rfl) (by kernel_rfl)) (kc_ok ((toBits_is Try.prog).callIs Try.func74 (by kernel_rfl) (by kernel_rfl) (by kernel_rfl) (by kernel_rfl)) (kc_ok smallS_ok (kc_ok kindS_ok (kc_ok rowOfS_ok (kc_ok ofS_ok (kc_ok nameS_ok (kc_ok nodeS_ok (kc_ok chkS_ok (kc_ok netofS_ok (kc_ok elsS_ok (kc_ok alongS_ok (kc_ok rootS_ok (kc_ok joinS_ok (kc_ok noneS_ok (kc_ok ogS_ok (kn_ok))))))))))))))))
theorem gamX_tch : KnownT gamX := kc_tch Tch.ofBits (kc_tch Tch.toBits (kc_tch smallS_tch (kc_tch kindS_tch (kc_tch rowOfS_tch (kc_tch ofS_tch (kc_tch nameS_tch (kc_tch nodeS_tch (kc_tch chkS_tch (kc_tch netofS_tch (kc_tch elsS_tch (kc_tch alongS_tch (kc_tch rootS_tch (kc_tch joinS_tch (kc_tch noneS_tch (kc_tch ogS_tch (kn_tch))))))))))))))))
noncomputable def callX : Calls' := Sx.runN Try.prog gamX (regionC Try.prog) 1000 50
theorem callX_ok : CallOk Try.prog callX := engineC gamX_ok gamX_tch (by kernel_rfl) (by kernel_rfl) 1000 50
theorem callX_reg (n : Nat) : RegionOk Try.prog (regionC Try.prog callX n) n := runN_regionC gamX_ok gamX_tch (by kernel_rfl) (by kernel_rfl) 1000 50 n
noncomputable abbrev piececallX (f : Func) (c : Code) (fr : Fr) (H : T ABk) (K : Nat) (path : List Bool) : Res (Ex × Fr) :=
 codeA Try.prog callX (regionC Try.prog callX f.ntmps) noLoops f.ntmps 1000 c fr ⟨H, K, [], path, True⟩


theorem rcX {fn : Func} {K K' B : Nat} {e : Ex} {F : tF} {Hl : tH} {c : Code} {fr : Fr} {H : T ABk} {path : List Bool} (h : PieceN K' e F Hl (piececallX fn c fr H K path)) (hB : B ≤ K) : GoesB Try.prog c fn.ntmps B K K' fr H fun e' fr' H' => e' = e ∧ fr' = frL F ∧ H' = hpL Hl := GoesB.runN callX_ok (callX_reg _) (LoopsIn.none _ _ _) h hB
theorem rdX {fn : Func} {K K' B : Nat} {e : Ex} {F : tF} {Hl : tH} {c : Code} {fr : Fr} {H : T ABk} (path : List Bool) {q : Prop} (hq : q) (hB : B ≤ K) (h : pieceN K' e F Hl (piececallX fn c fr H K path) = (e = e ∧ selfW F ∧ selfH Hl ∧ true = true ∧ q) := by kernel_rfl) : GoesB Try.prog c fn.ntmps B K K' fr H fun e' fr' H' => e' = e ∧ fr' = frL F ∧ H' = hpL Hl := rcX (eqn h hq) hB
theorem voA (B : Nat) (hB : B ≤ 9) (n q r : Nat) (E : tE) (nd br : Nat → List UInt8) (M1 M2 M3 : List (List UInt8 × Int)) : GoesB Try.prog ((nav [0] (bodyOf Try.f15))) Try.f15.ntmps B 9 9 ZDx (ZDH n q r M1 M2 M3 E nd br) (ZDf n q r M1 M2 M3 E nd br) := rdX [] trivial hB
noncomputable abbrev Zx (v0 : tE) (v1 : Nat) := ABk.mSI true (zipF 0 (NM (rowsE (Cont.row (.fn fun j => elR (v0 j)))) v1))
noncomputable abbrev Zy (v0 : tE) (v1 : Nat) := ABk.mSI true (zipF 0 (ND (rowsE (Cont.row (.fn fun j => elR (v0 j)))) v1))
noncomputable abbrev Zz (v0 : tE) (v1 : Nat) := ABk.mSI true (zipF 0 (BR (rowsE (Cont.row (.fn fun j => elR (v0 j)))) v1))
noncomputable abbrev ZD7 (v0 v1 v2 : Nat) (v3 : tE) (v4 v5 : Nat → List UInt8) := pP .normal [(0, ZA 2)] [(2, ZX v0 v1 v2), (3, Zx v3 v0), (4, Zy v3 v0), (5, Zz v3 v0), (6, ZQ v0 v3), (7, ZI v1 v4), (8, ZI v2 v5)]
theorem voB (B : Nat) (hB : B ≤ 9) (n q r : Nat) (E : tE) (nd br : Nat → List UInt8) (M1 M2 M3 : List (List UInt8 × Int)) (x0 : (NetQ n q r n q r M1 M2 M3 (Cont.row (.fn fun j => elR (E j))) (Cont.row (.fn (txR nd))) (Cont.row (.fn (txR br))))) : GoesB Try.prog ((nav [1,0] (bodyOf Try.f15))) Try.f15.ntmps B 9 9 (ZDy 0 2) (ZDH n q r M1 M2 M3 E nd br) (ZD7 n q r E nd br) := rdX [] (I1 x0) hB
theorem voC (B : Nat) (hB : B ≤ 9) (n q r : Nat) (E : tE) (nd br : Nat → List UInt8) (M1 M2 M3 : List (List UInt8 × Int)) (x0 : (NetQ n q r n q r M1 M2 M3 (Cont.row (.fn fun j => elR (E j))) (Cont.row (.fn (txR nd))) (Cont.row (.fn (txR br))))) : GoesB Try.prog ((nav [1,1,0] (bodyOf Try.f15))) Try.f15.ntmps B 9 12 (ZDy 0 2) (ZDH n q r M1 M2 M3 E nd br) (pP .normal [(0, ZA 2), (3, ZA 11)] [(2, ZX n q r), (3, Zx E n), (4, Zy E n), (5, Zz E n), (6, ZQ n E), (7, ZI q nd), (8, ZI r br), (9, .cells true 1 (List.length (ND (rowsE (Cont.row (.fn fun j => elR (E j)))) n) + 1) (.fn fun k => [iT (↑k : Int)])), (10, ABk.mSI true (zipF 0 (g0 :: ND (rowsE (Cont.row (.fn fun j => elR (E j)))) n))), (11, .cells true 2 1 (.fn fun x => [.mp 10, sL 9 (List.length (ND (rowsE (Cont.row (.fn fun j => elR (E j)))) n) + 1)]))]) := rdX [] (I1 x0) hB
theorem voJ (B : Nat) (hB : B ≤ 12) (n q r : Nat) (E : tE) (nd br : Nat → List UInt8) (M1 M2 M3 : List (List UInt8 × Int)) (l : List Tx) (x0 : (n * 104 ≤ 140737488355328)) (x1 : (n ≤ 9223372036854775807)) : GoesB Try.prog ((nav [1,1,1,0,0] (bodyOf Try.f15))) Try.f15.ntmps B 12 13 (frL [(0, ZA 2), (3, ZA 9)]) (hpL [(2, ZY n q r), (3, .mSI true M1), (4, .mSI true M2), (5, .mSI true M3), (6, ZB n E), (7, ZI q nd), (8, ZI r br), (9, ZBZ l 11 10), (10, Z9 l), (11, .mSI true (zipF 0 (g0 :: l)))]) (pP .normal [(0, ZA 2), (3, ZA 9), (11, sL 12 n), (12, iT (↑n : Int)), (13, Zc)] [(2, ZX n q r), (3, Zd M1), (4, Zd M2), (5, Zd M3), (6, ZQ n E), (7, ZI q nd), (8, ZI r br), (9, .cells true 2 1 (.fn fun x => [.mp 11, sL 10 (List.length l + 1)])), (10, .cells true 1 (List.length l + 1) (.fn fun k => [iT (↑k : Int)])), (11, ABk.mSI true (zipF 0 (g0 :: l))), (12, .cells true 8 n (.fn fun j => (elR (E (0 + j)))))]) := rdX [] (I2 (show 0 + n ≤ n by omega) (ai x0 x1)) hB
/-- one of them closes a loop -/
def shV (zl : tM) (E : tE) (n : Nat) : Bool := (List.range n).any fun i => vfail zl E i
theorem shV_true {zl : tM} {E : tE} {n : Nat} (h : ∃ j, j < n ∧ vfail zl E j = true) : shV zl E n = true := by
 obtain ⟨j, h1, h2⟩ := h
 exact List.any_eq_true.2 ⟨j, List.mem_range.2 h1, h2⟩
theorem shV_false {zl : tM} {E : tE} {n : Nat} (h : ∀ j, j < n → vfail zl E j = false) : shV zl E n = false := by
 cases q : shV zl E n with
 | false => rfl
 | true =>
  obtain ⟨j, h1, h2⟩ := List.any_eq_true.1 q
  rw [h j (List.mem_range.1 h1)] at h2
  cases h2
theorem vo_body : (nav [1,1,1,0,1,0,0] (bodyOf Try.f15)) = .seq (nav [1,1,1,0,1,0,0,0] (bodyOf Try.f15)) (.seq (nav [1,1,1,0,1,0,0,1,0] (bodyOf Try.f15)) (.seq (.block 1 (.seq ZCS (.seq ZB0 ZCK))) (nav [1,1,1,0,1,0,0,1,1,1] (bodyOf Try.f15)))) := by kernel_rfl
theorem vo_is : (bodyOf Try.f15) = .seq (nav [0] (bodyOf Try.f15)) (.seq (nav [1,0] (bodyOf Try.f15)) (.seq (nav [1,1,0] (bodyOf Try.f15)) (.seq (.seq (nav [1,1,1,0,0] (bodyOf Try.f15)) (.block 0 (.loop (nav [1,1,1,0,1,0,0] (bodyOf Try.f15))))) (nav [1,1,1,1] (bodyOf Try.f15))))) := by kernel_rfl
noncomputable abbrev ZEk (v0 : Nat) := ([(3, ZA 9), (11, sL 12 v0), (12, iT (v0 : Int)), (13, iT (v0 : Int))] : tF)
theorem vo_loop (n m : Nat) (E : tE) (zl : tM) (hn : n ≤ 1024) (hm : m ≤ 4096) (hz : ∀ x, 0 ≤ (lfind seq x zl).getD 0 ∧ (lfind seq x zl).getD 0 < (m : Int)) :
  GoesB Try.prog (.block 0 (.loop (nav [1,1,1,0,1,0,0] (bodyOf Try.f15)))) Try.f15.ntmps 9 13 13 (frL [(3, ZA 9), (11, sL 12 n), (12, iT (n : Int)), (13, ZBn)]) (hpL [(9, ZT m 11 10), (10, .cells true 1 m (.fn fun k => [iT (((Ul (plc zl) (vl E 0)) k : Nat) : Int)])), (11, .mSI true zl), (12, ZG n E)]) (fun e fr H => (e = .normal ∧ (∀ j, j < n → vfail zl E j = false) ∧ fr = frL (ZEk n) ∧ H = hpL [(9, ZT m 11 10), (10, ZBl m zl E n), (11, .mSI true zl), (12, ZG n E)]) ∨ (e = .ret ∧ (∃ j, j < n ∧ vfail zl E j = true) ∧ fr = frL [(2, .sbool true)] ∧ H = hpL [])) := by
 refine GoesB.count n (fun i => [(3, ZA 9), (11, sL 12 n), (12, iT (n : Int)), (13, iT (i : Int))]) (fun i => [(9, ZT m 11 10), (10, .cells true 1 m (.fn fun k => [iT (((Ul (plc zl) (vl E i)) k : Nat) : Int)])), (11, .mSI true zl), (12, ZG n E)]) (ZEk n) [(9, ZT m 11 10), (10, ZBl m zl E n), (11, .mSI true zl), (12, ZG n E)] (fun i => ∀ j, j < i → vfail zl E j = false) (fun fr H => (∃ j, j < n ∧ vfail zl E j = true) ∧ fr = frL [(2, .sbool true)] ∧ H = hpL []) (fun j hj => absurd hj (Nat.not_lt_zero _)) fun i hi hg => ?_
 rw [vo_body]
 refine GoesB.seqN (K1 := 13) (voD 9 (by omega) n m i (Ul (plc zl) (vl E i)) E zl) (by omega) ?_
 by_cases c : i < n
 ·refine GoesB.seqN (K1 := 13) (F1 := [(3, ZA 9), (11, sL 12 n), (12, iT (n : Int)), (13, iT (i : Int))]) (H1 := [(9, ZT m 11 10), (10, .cells true 1 m (.fn fun k => [iT (((Ul (plc zl) (vl E i)) k : Nat) : Int)])), (11, .mSI true zl), (12, ZG n E)]) ((voX 9 (by omega) n m i (Ul (plc zl) (vl E i)) E zl (decide ((i : Int) < (n : Int)))).mono fun e fr' H' h => ?_) (by omega) ?_
  ·rw [decide_eq_true (by omega), cond_true] at h
   exact h
  refine GoesB.seq (K1 := 13) (by omega) ((vo_blk n m i E zl c hn hm hz).mono fun e fr' H' h => ?_)
  rcases h with ⟨rfl, h0, rfl, rfl⟩ | ⟨rfl, h0, rfl, rfl⟩
  ·refine (GoesB.toN (voH 9 (by omega) n m i (Ul (plc zl) (vl E (i + 1))) E zl (by omega)) (F' := [(3, ZA 9), (11, sL 12 n), (12, iT (n : Int)), (13, iT ((i + 1 : Nat) : Int))]) (H1' := [(9, ZT m 11 10), (10, .cells true 1 m (.fn fun k => [iT (((Ul (plc zl) (vl E (i + 1))) k : Nat) : Int)])), (11, .mSI true zl), (12, ZG n E)]) ⟨re rfl, re rfl, re rfl, ⟨_, rfl, AV.ge.int' _ _ _ (by omega)⟩, trivial⟩ (eHh rfl)).mono fun e fr' H' h => ?_
   obtain ⟨rfl, rfl, rfl⟩ := h
   refine .inl ⟨rfl, c, fun j hj => ?_, rfl, rfl⟩
   by_cases d : j < i
   ·exact hg j d
   ·obtain rfl : j = i := by omega
    exact h0
  ·exact .inr (.inr ⟨rfl, ⟨i, c, h0⟩, rfl, rfl⟩)
 ·have hin : n = i := by omega
  subst hin
  refine GoesB.seq (K1 := 13) (by omega) ((voX 9 (by omega) n m n (Ul (plc zl) (vl E n)) E zl (decide ((n : Int) < (n : Int)))).mono fun e fr' H' h => ?_)
  rw [decide_eq_false (by omega), cond_false] at h
  obtain ⟨rfl, rfl, rfl⟩ := h
  exact .inr (.inl ⟨rfl, hg, rfl, rfl⟩)
theorem net_q (n : Nat) (E : tE) (hn : n ≤ 256) : NetQ n (ND E n).length (BR E n).length n (ND E n).length (BR E n).length (zipF 0 (NM E n)) (zipF 0 (ND E n)) (zipF 0 (BR E n)) (Cont.row (.fn fun j => elR (E j))) (Cont.row (.fn (txR (lget (ND E n))))) (Cont.row (.fn (txR (lget (BR E n))))) :=
 ⟨hn, rfl, rfl, rfl, rfl, rfl, rfl, rfl, rfl, fun j hj => RowGe_refl _ rfl, fun j hj => RowGe_refl _ rfl, fun j hj => RowGe_refl _ rfl⟩
def sw3 (i : Nat) : Nat := if i = 9 then 11 else if i = 10 then 9 else if i = 11 then 10 else i
theorem sw3_inj : ∀ i j, i < 12 → j < 12 → sw3 i = sw3 j → i = j := by
 intro i j _ _ e
 unfold sw3 at e
 split at e <;> split at e <;> (try split at e) <;> (try split at e) <;> (try split at e) <;> (try split at e) <;> omega
noncomputable abbrev ZC (v0 : Nat) (v1 : tE) := (.cells false 7 1 (.fn fun _ => netR 6 7 8 v0 (ND v1 v0).length (BR v1 v0).length) : ABk)
noncomputable abbrev ZD (v0 : tE) (v1 : Nat) := (.cells false 1 (ND v0 v1).length (.fn (txR (lget (ND v0 v1)))) : ABk)
noncomputable abbrev ZE (v0 : tE) (v1 : Nat) := (.cells false 1 (BR v0 v1).length (.fn (txR (lget (BR v0 v1)))) : ABk)
noncomputable abbrev ZBM (v0 : tE) (v1 : Nat) (w0 w1) := (.cells true 2 1 (.fn fun _ => [.mp w0, sL w1 ((ND v0 v1).length + 1)]) : ABk)
noncomputable abbrev ZC7 (v0 : tE) (v1 : Nat) := (.cells true 1 ((ND v0 v1).length + 1) (.fn fun k => [iT ((k : Nat) : Int)]) : ABk)
noncomputable abbrev ZDG (v0 : Nat) (v1 : tE) := ([(2, ZC v0 v1), (3, ZK v1 v0), (4, ZL v1 v0), (5, ZM v1 v0), (6, ZB v0 v1), (7, ZD v1 v0), (8, ZE v1 v0)] : tH)
noncomputable abbrev ZEW (v0 : Nat) (v1 : tE) := ([(2, ZC v0 v1), (3, ZK v1 v0), (4, ZL v1 v0), (5, ZM v1 v0), (6, ZB v0 v1), (7, ZD v1 v0), (8, ZE v1 v0), (9, ZBM v1 v0 11 10), (10, ZC7 v1 v0), (11, .mSI true (zipF 0 (g0 :: (ND v1 v0))))] : tH)
theorem vo_goes (n : Nat) (E : tE) (hn : n ≤ 256) :
  GoesB Try.prog (bodyOf Try.f15) Try.f15.ntmps 9 9 13 ZDx (hpL (ZDG n E)) (fun e fr' H' => e = .ret ∧ fr' = frL [(2, .sbool (shV (zipF 0 (g0 :: ND E n)) E n))] ∧ H' = hpL (ZDG n E)) := by
 have hq := net_q n E hn
 have ln := ND_len E n
 rw [vo_is]
 refine GoesB.seqN (K1 := 9) (voA 9 (by omega) n (ND E n).length (BR E n).length E (lget (ND E n)) (lget (BR E n)) (zipF 0 (NM E n)) (zipF 0 (ND E n)) (zipF 0 (BR E n))) (by omega) ?_
 refine GoesB.seqN (K1 := 9) (voB 9 (by omega) n (ND E n).length (BR E n).length E (lget (ND E n)) (lget (BR E n)) (zipF 0 (NM E n)) (zipF 0 (ND E n)) (zipF 0 (BR E n)) hq) (by omega) ?_
 refine GoesB.seqN (K1 := 12) (F1 := [(0, ZA 2), (3, ZA 9)]) (H1 := (ZEW n E)) ((voC 9 (by omega) n (ND E n).length (BR E n).length E (lget (ND E n)) (lget (BR E n)) (zipF 0 (NM E n)) (zipF 0 (ND E n)) (zipF 0 (BR E n)) hq).renG fun e fr' H' h => ?_) (by omega) ?_
 ·obtain ⟨rfl, rfl, rfl⟩ := h
  exact ⟨sw3, [(0, ZA 2), (3, ZA 9)], (ZEW n E), fun g hg => by unfold sw3; rw [if_neg (by omega), if_neg (by omega), if_neg (by omega)], (eRr rfl), ⟨rgR rfl rfl (fun j _ => rfl) (fun j _ => rfl) (by omega), rgM rfl rfl (by omega), rgM rfl rfl (by omega), rgM rfl rfl (by omega), rgR rfl rfl (fun j _ => rfl) (fun j _ => rfl) (by omega), rgR rfl rfl (fun j _ => rfl) (fun j _ => rfl) (by omega), rgR rfl rfl (fun j _ => rfl) (fun j _ => rfl) (by omega), rgR rfl rfl (fun j _ => rfl) (fun j _ => rfl) (by omega), rgR rfl rfl (fun j _ => rfl) (fun j _ => rfl) (by omega), rgM rfl rfl (by omega), trivial⟩, sw3_inj, rfl, rfl, rfl⟩
 have hf := (vo_loop n ((ND E n).length + 1) E (zipF 0 (g0 :: ND E n)) (by omega) (by omega) (zip_in _)).frameL (xl := (ZDG n E)) (Post' := fun e fr H => (e = .normal ∧ (∀ j, j < n → vfail (zipF 0 (g0 :: ND E n)) E j = false) ∧ fr = frL (ZEk n) ∧ H = hpL [(9, ZBM E n 11 10), (10, .cells true 1 ((ND E n).length + 1) (.fn fun k => [iT (((Ul (plc (zipF 0 (g0 :: ND E n))) (vl E n)) k : Nat) : Int)])), (11, .mSI true (zipF 0 (g0 :: ND E n))), (12, ZG n E), (2, ZC n E), (3, ZK E n), (4, ZL E n), (5, ZM E n), (6, ZB n E), (7, ZD E n), (8, ZE E n)]) ∨ (e = .ret ∧ (∃ j, j < n ∧ vfail (zipF 0 (g0 :: ND E n)) E j = true) ∧ fr = frL [(2, .sbool true)] ∧ H = hpL (ZDG n E))) (by omega) ⟨⟨by omega, fun j hj v hv => List.all_eq_true.1 (show (netR 6 7 8 n (ND E n).length (BR E n).length).all (fun v => v.low 9) = true from rfl) v hv⟩, ⟨by omega, trivial⟩, ⟨by omega, trivial⟩, ⟨by omega, trivial⟩, ⟨by omega, fun j hj v hv => List.all_eq_true.1 (show (elR (E j)).all (fun v => v.low 9) = true from rfl) v hv⟩, ⟨by omega, fun j hj v hv => List.all_eq_true.1 (show (txR (lget (ND E n)) j).all (fun v => v.low 9) = true from rfl) v hv⟩, ⟨by omega, fun j hj v hv => List.all_eq_true.1 (show (txR (lget (BR E n)) j).all (fun v => v.low 9) = true from rfl) v hv⟩, trivial⟩ rfl (fun e fr' H0' h => by
  rcases h with ⟨rfl, h0, rfl, rfl⟩ | ⟨rfl, h0, rfl, rfl⟩
  ·exact ⟨_, rfl, rfl, ⟨.inl rfl, .inl rfl, .inl rfl, .inl rfl, trivial⟩, .inl ⟨rfl, h0, rfl, rfl⟩⟩
  ·exact ⟨[], rfl, rfl, trivial, .inr ⟨rfl, h0, rfl, rfl⟩⟩)
 refine GoesB.seq (K1 := 13) (by omega) (GoesB.seqN (K1 := 13) (F1 := [(3, ZA 9), (11, sL 12 n), (12, iT (n : Int)), (13, ZBn)]) (H1 := [(9, ZBM E n 11 10), (10, .cells true 1 ((ND E n).length + 1) (.fn fun k => [iT (((Ul (plc (zipF 0 (g0 :: ND E n))) (vl E 0)) k : Nat) : Int)])), (11, .mSI true (zipF 0 (g0 :: ND E n))), (12, ZG n E), (2, ZC n E), (3, ZK E n), (4, ZL E n), (5, ZM E n), (6, ZB n E), (7, ZD E n), (8, ZE E n)]) (GoesB.toN (voJ 9 (by omega) n (ND E n).length (BR E n).length E (lget (ND E n)) (lget (BR E n)) (zipF 0 (NM E n)) (zipF 0 (ND E n)) (zipF 0 (BR E n)) (ND E n) (by omega) (by omega)) ⟨re rfl, re rfl, re rfl, ⟨_, rfl, AV.ge.int _ _ _ _⟩, trivial⟩ ⟨hs rfl, hs rfl, hs rfl, ⟨_, rfl, rfl, rfl, rfl, fun j hj => by
   show elR (E (0 + j)) = elR (E j)
   rw [Nat.zero_add]⟩, eHh rfl⟩) (by omega) (hf.mono fun e fr' H' h => ?_))
 rcases h with ⟨rfl, h0, rfl, rfl⟩ | ⟨rfl, h0, rfl, rfl⟩
 ·have hi := (voI 9 (by omega) n ((ND E n).length + 1) n (Ul (plc (zipF 0 (g0 :: ND E n))) (vl E n)) E (zipF 0 (g0 :: ND E n))).frameL (xl := (ZDG n E)) (Post' := fun e fr H => e = .ret ∧ fr = frL [(2, .bool false)] ∧ H = hpL [(9, ZBM E n 11 10), (2, ZC n E), (3, ZK E n), (4, ZL E n), (5, ZM E n), (6, ZB n E), (7, ZD E n), (8, ZE E n)]) (by omega) ⟨⟨by omega, fun j hj v hv => List.all_eq_true.1 (show (netR 6 7 8 n (ND E n).length (BR E n).length).all (fun v => v.low 9) = true from rfl) v hv⟩, ⟨by omega, trivial⟩, ⟨by omega, trivial⟩, ⟨by omega, trivial⟩, ⟨by omega, fun j hj v hv => List.all_eq_true.1 (show (elR (E j)).all (fun v => v.low 9) = true from rfl) v hv⟩, ⟨by omega, fun j hj v hv => List.all_eq_true.1 (show (txR (lget (ND E n)) j).all (fun v => v.low 9) = true from rfl) v hv⟩, ⟨by omega, fun j hj v hv => List.all_eq_true.1 (show (txR (lget (BR E n)) j).all (fun v => v.low 9) = true from rfl) v hv⟩, trivial⟩ rfl (fun e fr' H0' h => by
   obtain ⟨rfl, rfl, rfl⟩ := h
   exact ⟨_, rfl, rfl, ⟨.inl rfl, trivial⟩, rfl, rfl, rfl⟩)
  refine hi.post fun e fr' H' h => ?_
  obtain ⟨rfl, rfl, rfl⟩ := h
  refine ⟨[(2, .sbool (shV (zipF 0 (g0 :: ND E n)) E n))], (ZDG n E), ⟨⟨_, rfl, fun N μ c h => ?_⟩, trivial⟩, (eHh rfl), rfl, rfl, rfl⟩
  simp only [Rep] at h ⊢
  rw [h, shV_false h0]
 ·refine ⟨rfl, ?_, rfl⟩
  rw [shV_true h0]


/-- is there a loop of volts -/
noncomputable def voltB : (Nat → El) → Nat → Bool := Classical.choose (⟨fun E n => shV (zipF 0 (g0 :: ND E n)) E n, rfl⟩ : ∃ f, f = fun (E : tE) (n : Nat) => shV (zipF 0 (g0 :: ND E n)) E n)
theorem voltB_is : voltB = fun E n => shV (zipF 0 (g0 :: ND E n)) E n := Classical.choose_spec (⟨fun E n => shV (zipF 0 (g0 :: ND E n)) E n, rfl⟩ : ∃ f, f = fun (E : tE) (n : Nat) => shV (zipF 0 (g0 :: ND E n)) E n)
theorem netBL_is {g : G} {N : Nat} {w : NetA} {E : tE} (F : NetF g N w E) : netBL w E = [(2, .cells false 7 1 (.fn fun _ => netR 6 7 8 w.n (ND E w.n).length (BR E w.n).length)), (3, .mSI true (zipF 0 (NM E w.n))), (4, .mSI true (zipF 0 (ND E w.n))), (5, .mSI true (zipF 0 (BR E w.n))), (6, .cells false 8 w.n (.fn fun j => elR (E j))), (7, .cells false 1 (ND E w.n).length (.fn (txR (lget (ND E w.n))))), (8, .cells false 1 (BR E w.n).length (.fn (txR (lget (BR E w.n)))))] := by
 unfold netBL
 rw [F.q_is, F.r_is]
noncomputable def voltS : List AV → M AV
 | [.ptr aN] => (M.okIf (flat0 aN)).andThen fun _ => (netRd aN.g).andThen fun y => (M.setB y.1.m1 (.mSI true (zipF 0 (NM y.2 y.1.n)))).andThen fun _ => (M.setB y.1.m2 (.mSI true (zipF 0 (ND y.2 y.1.n)))).andThen fun _ => (M.setB y.1.m3 (.mSI true (zipF 0 (BR y.2 y.1.n)))).andThen fun _ => M.ret (.sbool (voltB y.2 y.1.n))
 | _ => M.no
theorem voltS_tch : ∀ args, Tch (voltS args) := by
 intro args
 unfold voltS
 split
 ·exact (Tch.okIf _).andThen fun _ => (Tch_netRd _).andThen fun _ => (Tch.setB _ _).andThen fun _ => (Tch.setB _ _).andThen fun _ => (Tch.setB _ _).andThen fun _ => Tch.ret _
 ·exact Tch.no
theorem voltS_ok : ∀ args v g g', voltS args g = .done v g' → CallIs Try.prog 15 args v g g' := by
 intro args v g g' h
 unfold voltS at h
 split at h
 case h_2 => exact (no_done h).elim
 rename_i aN
 obtain ⟨_, g1, a1, h⟩ := done_of h
 obtain ⟨q0, rfl⟩ := okIf_done a1
 have q0 := flat0_is q0
 obtain ⟨⟨w, E⟩, g3, a3, h⟩ := done_of h
 obtain ⟨qf, kk, ff⟩ := netRd_done a3
 dsimp only at h ff
 obtain ⟨_, g6, a6, h⟩ := done_of h
 obtain ⟨_, g7, a7, h⟩ := done_of h
 obtain ⟨_, g8, a8, h⟩ := done_of h
 obtain ⟨b1, b2, b3⟩ := setB_done a6
 obtain ⟨b4, b5, b6⟩ := setB_done a7
 obtain ⟨b7, b8, b9⟩ := setB_done a8
 have hx : g8.nx = g.nx := by rw [b8, b5, b2, kk.2.1]
 obtain ⟨rfl, rfl⟩ := ret_done h
 refine netCall (K' := 13) (c := (bodyOf Try.f15)) Try.func15 (by kernel_rfl) (by kernel_rfl) (argsC := [ZA 2]) (fun hc => kk.2.2 (by rw [← b3, ← b6, ← b9]; exact hc)) (N := aN.g) (w := w) (E := E) (fun hp => ff hp) (xl := []) (rx := fun _ => 0) (K0 := 9) (Nat.le_refl _) (fun hp M μ cs hr => ?_) (fun hp i b hb => by cases hb) (fun hp i j b b' hi => by cases hi) (bs := []) (nms := []) rfl (by decide) (by decide) (by rw [b7, b4, b1, kk.1]; rfl) (by rw [b8, b5, b2, kk.2.1]; rfl) (fun b hb => by cases hb) (by simp [AV.low, lows]) (by simp [AV.inS, insS]) (fun hp kN => ?_)
 ·simp only [Reps] at hr ⊢
  obtain ⟨c1, l1, rfl, h1, rfl⟩ := hr
  exact ⟨c1, _, rfl, rep_ptr0 h1 q0.1 q0.2 (by omega) rfl, rfl⟩
 have F := ff hp
 rw [List.append_nil, netBL_is F]
 refine (vo_goes w.n E F.n256).mono fun e fr' H' h => ?_
 obtain ⟨rfl, rfl, rfl⟩ := h
 refine ⟨.inl rfl, _, _, res1 (t := 2) (by kernel_rfl) rfl, trivial, ?_, ⟨rfl, rfl, rfl⟩, fun j b hb => by cases hb⟩
 rw [voltB_is]
 exact AV.ge.refl _



theorem spA (B : Nat) (hB : B ≤ 9) (n q r : Nat) (E : tE) (nd br : Nat → List UInt8) (M1 M2 M3 zl : List (List UInt8 × Int)) : GoesB Try.prog ((nav [0] (bodyOf Try.f45))) Try.f45.ntmps B 9 9 ZDx (ZDH n q r M1 M2 M3 E nd br) (pP .normal [(0, ZA 2), (2, .nils), (3, .nils)] [(2, ZX n q r), (3, Zd M1), (4, Zd M2), (5, Zd M3), (6, ZQ n E), (7, ZI q nd), (8, ZI r br)]) := rdX [] trivial hB
theorem spB (B : Nat) (hB : B ≤ 11) (n k q r : Nat) (E T R : tE) (nd br : Nat → List UInt8) (M1 M2 M3 zl : List (List UInt8 × Int)) (x0 : (NetQ n q r n q r M1 M2 M3 (Cont.row (.fn fun j => elR (E j))) (Cont.row (.fn (txR nd))) (Cont.row (.fn (txR br))))) : GoesB Try.prog ((nav [1,0] (bodyOf Try.f45))) Try.f45.ntmps B 11 14 (frL [(0, ZA 2), (2, sL 9 0), (3, sL 10 0)]) (hpL [(2, ZY n q r), (3, .mSI true M1), (4, .mSI true M2), (5, .mSI true M3), (6, ZB n E), (7, ZI q nd), (8, ZI r br), (9, ZCO T), (10, ZCO R)]) (pP .normal [(0, ZA 2), (2, sL 9 0), (3, sL 10 0), (4, ZA 13)] [(2, ZX n q r), (3, Zx E n), (4, Zy E n), (5, Zz E n), (6, ZQ n E), (7, ZI q nd), (8, ZI r br), (9, .cells true 8 0 (.fn fun j => (elR (T j)))), (10, .cells true 8 0 (.fn fun j => (elR (R j)))), (11, .cells true 1 (List.length (ND (rowsE (Cont.row (.fn fun j => elR (E j)))) n) + 1) (.fn fun k => [iT (↑k : Int)])), (12, ABk.mSI true (zipF 0 (g0 :: ND (rowsE (Cont.row (.fn fun j => elR (E j)))) n))), (13, .cells true 2 1 (.fn fun x => [.mp 12, sL 11 (List.length (ND (rowsE (Cont.row (.fn fun j => elR (E j)))) n) + 1)]))]) := rdX [] (I1 x0) hB
theorem spC (B : Nat) (hB : B ≤ 14) (n k q r : Nat) (E T R : tE) (nd br : Nat → List UInt8) (M1 M2 M3 zl : List (List UInt8 × Int)) (l : List Tx) (x0 : (n * 104 ≤ 140737488355328)) (x1 : (n ≤ 9223372036854775807)) : GoesB Try.prog ((nav [1,1,0,0] (bodyOf Try.f45))) Try.f45.ntmps B 14 15 (frL [(0, ZA 2), (2, sL 9 0), (3, sL 10 0), (4, ZA 13)]) (hpL [(2, ZY n q r), (3, .mSI true M1), (4, .mSI true M2), (5, .mSI true M3), (6, ZB n E), (7, ZI q nd), (8, ZI r br), (9, ZCO T), (10, ZCO R), (11, Z9 l), (12, .mSI true (zipF 0 (g0 :: l))), (13, ZBZ l 12 11)]) (pP .normal [(2, sL 9 0), (3, sL 10 0), (4, ZA 13), (10, sL 14 n), (11, iT (↑n : Int)), (12, Zc)] [(2, ZX n q r), (3, Zd M1), (4, Zd M2), (5, Zd M3), (6, ZQ n E), (7, ZI q nd), (8, ZI r br), (9, .cells true 8 0 (.fn fun j => (elR (T j)))), (10, .cells true 8 0 (.fn fun j => (elR (R j)))), (11, .cells true 1 (List.length l + 1) (.fn fun k => [iT (↑k : Int)])), (12, ABk.mSI true (zipF 0 (g0 :: l))), (13, .cells true 2 1 (.fn fun x => [.mp 12, sL 11 (List.length l + 1)])), (14, .cells true 8 n (.fn fun j => (elR (E (0 + j)))))]) := rdX [] (I2 (show 0 + n ≤ n by omega) (ai x0 x1)) hB
noncomputable abbrev ZER (v0 v1 v2 v3 : Nat) := frL [(2, sL 9 v0), (3, sL 10 v1), (4, ZA 13), (10, sL 14 v2), (11, iT (v2 : Int)), (12, iT (v3 : Int))]
noncomputable abbrev ZEg (v0 : Nat) (v1 : tE) (v2 : Nat) (v3 : tE) (v4 : Nat) (v5 : Nat → Nat) (v6 : List (List UInt8 × Int)) (v7 : Nat) (v8 : tE) := hpL [(9, ZG v0 v1), (10, ZG v2 v3), (11, Zn v4 v5), (12, .mSI true v6), (13, ZT v4 12 11), (14, ZG v7 v8)]
theorem spD (B : Nat) (hB : B ≤ 15) (n m i t k : Nat) (u : Nat → Nat) (E T R : tE) (nd br : Nat → List UInt8) (M1 M2 M3 zl : List (List UInt8 × Int)) : GoesB Try.prog ((nav [1,1,0,1,0,0,0] (bodyOf Try.f45))) Try.f45.ntmps B 15 15 (ZER t k n i) (ZEg t T k R m u zl n E) (pP .normal [(2, sL 9 t), (3, sL 10 k), (4, ZA 13), (10, sL 14 n), (11, iT (↑n : Int)), (12, iT (↑i : Int)), (13, .sbool (decide ((↑i : Int) < (↑n : Int))))] [(9, ZN t T), (10, ZN k R), (11, Zr m u), (12, Zd zl), (13, Zw m 12 11), (14, ZN n E)]) := rdX [] trivial hB
noncomputable abbrev ZEY (v0 v1 v2 v3 : Nat) := ([(2, sL 9 v0), (3, sL 10 v1), (4, ZA 13), (10, sL 14 v2), (11, ZEt v2), (12, ZEt v3)] : tF)
theorem spX (B : Nat) (hB : B ≤ 15) (n m i t k : Nat) (u : Nat → Nat) (E T R : tE) (nd br : Nat → List UInt8) (M1 M2 M3 zl : List (List UInt8 × Int)) (b : Bool) : GoesB Try.prog ((nav [1,1,0,1,0,0,1,0] (bodyOf Try.f45))) Try.f45.ntmps B 15 15 (frL [(2, sL 9 t), (3, sL 10 k), (4, ZA 13), (10, sL 14 n), (11, iT (n : Int)), (12, iT (i : Int)), (13, .sbool b)]) (ZEg t T k R m u zl n E) fun e fr' H' => (cond (b) (pP .normal (ZEY t k n i) [(9, ZN t T), (10, ZN k R), (11, Zr m u), (12, Zd zl), (13, Zw m 12 11), (14, ZN n E)] e fr' H') (pP (.exit 0) (ZEY t k n i) [(9, ZN t T), (10, ZN k R), (11, Zr m u), (12, Zd zl), (13, Zw m 12 11), (14, ZN n E)] e fr' H')) := cI (fun t0 => rdX [tT] (I1 t0) hB) (fun t0 => rdX [fF] (I1 t0) hB)
noncomputable abbrev ZCY := nav [1,1,0,1,0,0,1,1,0,0,0] (bodyOf Try.f45)
theorem spE (B : Nat) (hB : B ≤ 15) (n m i t k : Nat) (u : Nat → Nat) (E T R : tE) (nd br : Nat → List UInt8) (M1 M2 M3 zl : List (List UInt8 × Int)) (x0 : ((↑i : Int) < (↑n : Int))) (x1 : (0 + i < n)) : GoesB Try.prog (ZCY) Try.f45.ntmps B 15 16 (ZER t k n i) (ZEg t T k R m u zl n E) (pP .normal [(2, sL 9 t), (3, sL 10 k), (4, ZA 13), (10, sL 14 n), (11, iT (↑n : Int)), (12, iT (↑i : Int)), (6, ZA 15)] [(9, ZN t T), (10, ZN k R), (11, Zr m u), (12, Zd zl), (13, Zw m 12 11), (14, ZN n E), (15, ZBJ E i)]) := rdX [] (I3 (ai (show 0 ≤ (↑i : Int) by omega) x0) x1 (show 8 ≤ 8 by omega)) hB
noncomputable abbrev ZCL := nav [1,1,0,1,0,0,1,1,0,0,1,0,0] (bodyOf Try.f45)
theorem spF (B : Nat) (hB : B ≤ 16) (n m i t k : Nat) (u : Nat → Nat) (E T R : tE) (nd br : Nat → List UInt8) (M1 M2 M3 zl : List (List UInt8 × Int)) : GoesB Try.prog (ZCL) Try.f45.ntmps B 16 16 (frL [(2, sL 9 t), (3, sL 10 k), (4, ZA 13), (10, sL 14 n), (11, iT (n : Int)), (12, iT (i : Int)), (6, ZA 15)]) (hpL [(9, ZG t T), (10, ZG k R), (11, Zn m u), (12, .mSI true zl), (13, ZT m 12 11), (14, ZG n E), (15, Zg E i)]) fun e fr' H' => (cond (decide (El.k (E i) = (4 : Int))) (pP .normal [(2, sL 9 t), (3, sL 10 k), (4, ZA 13), (10, sL 14 n), (11, iT (↑n : Int)), (12, iT (↑i : Int)), (6, ZA 15), (20, .bool true)] [(9, ZN t T), (10, ZN k R), (11, Zr m u), (12, Zd zl), (13, Zw m 12 11), (14, ZN n E), (15, ZBr E i)] e fr' H') (pP .normal [(2, sL 9 t), (3, sL 10 k), (4, ZA 13), (10, sL 14 n), (11, iT (↑n : Int)), (12, iT (↑i : Int)), (6, ZA 15), (20, .sbool !!decide (El.k (E i) = (6 : Int)))] [(9, ZN t T), (10, ZN k R), (11, Zr m u), (12, Zd zl), (13, Zw m 12 11), (14, ZN n E), (15, ZBr E i)] e fr' H')) := cD (fun q0 t0 => rdX [fF] (I1 (nt t0)) hB) (fun q0 t0 => rdX [tT] (I1 (nf t0)) hB)
noncomputable abbrev ZB1 := nav [1,1,0,1,0,0,1,1,0,0,1,0,1] (bodyOf Try.f45)
theorem spY (B : Nat) (hB : B ≤ 16) (n m i t k : Nat) (u : Nat → Nat) (E T R : tE) (nd br : Nat → List UInt8) (M1 M2 M3 zl : List (List UInt8 × Int)) (b : Bool) (x0 : ((b) = false → (m = m))) (x1 : ((b) = false → (m ≤ 4096))) (x2 : ((b) = false → (∀ (j : Nat), j < m → RowGe [iT (↑(u j) : Int)] [iT (↑(uO m (Cont.row (.fn fun k => [.int true .i64 (↑(u k) : Int)])) j) : Int)] ∧ uO m (Cont.row (.fn fun k => [iT (↑(u k) : Int)])) j ≤ j))) (x3 : ((b) = false → (∀ (z : List UInt8), (0 : Int) ≤ Option.getD (lfind seq z zl) (0 : Int) ∧ Option.getD (lfind seq z zl) 0 < (↑m : Int)))) (x4 : ((b) = false → ((decide ((↑(root (uO m (Cont.row (.fn fun k => [iT (↑(u k) : Int)]))) (plc zl (El.a (E i)))) : Int) = (↑(root (uO m (Cont.row (.fn fun k => [iT (↑(u k) : Int)]))) (plc zl (El.b (E i)))) : Int))) = true → ((k + 1) * 104 ≤ 140737488355328)))) (x5 : ((b) = false → ((decide ((↑(root (uO m (Cont.row (.fn fun k => [iT (↑(u k) : Int)]))) (plc zl (El.a (E i)))) : Int) = (↑(root (uO m (Cont.row (.fn fun k => [iT (↑(u k) : Int)]))) (plc zl (El.b (E i)))) : Int))) = true → (k + 1 ≤ 9223372036854775807)))) (x6 : ((b) = false → ((decide ((↑(root (uO m (Cont.row (.fn fun k => [iT (↑(u k) : Int)]))) (plc zl (El.a (E i)))) : Int) = (↑(root (uO m (Cont.row (.fn fun k => [iT (↑(u k) : Int)]))) (plc zl (El.b (E i)))) : Int))) = false → ((t + 1) * 104 ≤ 140737488355328)))) (x7 : ((b) = false → ((decide ((↑(root (uO m (Cont.row (.fn fun k => [iT (↑(u k) : Int)]))) (plc zl (El.a (E i)))) : Int) = (↑(root (uO m (Cont.row (.fn fun k => [iT (↑(u k) : Int)]))) (plc zl (El.b (E i)))) : Int))) = false → (t + 1 ≤ 9223372036854775807)))) : GoesB Try.prog (ZB1) Try.f45.ntmps B 16 18 (frL [(2, sL 9 t), (3, sL 10 k), (4, ZA 13), (10, sL 14 n), (11, iT (n : Int)), (12, iT (i : Int)), (6, ZA 15), (20, .sbool b)]) (hpL [(9, ZG t T), (10, ZG k R), (11, Zn m u), (12, .mSI true zl), (13, ZT m 12 11), (14, ZG n E), (15, Zg E i)]) fun e fr' H' => (cond (b) (pP .normal (ZEY t k n i) [(9, ZN t T), (10, ZN k R), (11, Zr m u), (12, Zd zl), (13, Zw m 12 11), (14, ZN n E)] e fr' H') (cond (decide ((↑(root (uO m (Cont.row (.fn fun k => [iT (↑(u k) : Int)]))) (plc zl (El.a (E i)))) : Int) = (↑(root (uO m (Cont.row (.fn fun k => [iT (↑(u k) : Int)]))) (plc zl (El.b (E i)))) : Int))) (pP .normal [(2, sL 9 t), (3, sL 17 (k + 1)), (4, ZA 13), (10, sL 14 n), (11, iT (↑n : Int)), (12, iT (↑i : Int))] [(9, ZN t T), (11, ZBP m u zl E i), (12, Zd zl), (13, Zw m 12 11), (14, ZN n E), (17, .cells true 8 (k + 1) (.fn fun j => bif decide (j < k) then (elR (R j)) else (elR (E i))))] e fr' H') (pP .normal [(2, sL 17 (t + 1)), (3, sL 10 k), (4, ZA 13), (10, sL 14 n), (11, iT (↑n : Int)), (12, iT (↑i : Int))] [(10, ZN k R), (11, ZBP m u zl E i), (12, Zd zl), (13, Zw m 12 11), (14, ZN n E), (17, .cells true 8 (t + 1) (.fn fun j => bif decide (j < t) then (elR (T j)) else (elR (E i))))] e fr' H'))) := cI (fun t0 => rdX [tT] (I1 t0) hB) (fun t0 => cD (fun q1 t1 => rdX [fF, fF] (I4 t0 (ai (x0 t0) (ai (x1 t0) (ai (x2 t0) (x3 t0)))) (nt t1) (ai (show k ≤ k by omega) (ai (x4 t0 t1) (x5 t0 t1)))) hB) (fun q1 t1 => rdX [fF, tT] (I4 t0 (ai (x0 t0) (ai (x1 t0) (ai (x2 t0) (x3 t0)))) (nf t1) (ai (show t ≤ t by omega) (ai (x6 t0 t1) (x7 t0 t1)))) hB))
theorem spH (B : Nat) (hB : B ≤ 15) (n m i t k : Nat) (u : Nat → Nat) (E T R : tE) (nd br : Nat → List UInt8) (M1 M2 M3 zl : List (List UInt8 × Int)) (x0 : ((↑i : Int) + 1 ≤ (9223372036854775807 : Int))) : GoesB Try.prog ((nav [1,1,0,1,0,0,1,1,1] (bodyOf Try.f45))) Try.f45.ntmps B 15 15 (ZER t k n i) (ZEg t T k R m u zl n E) (pP .normal [(2, sL 9 t), (3, sL 10 k), (4, ZA 13), (10, sL 14 n), (11, iT (↑n : Int)), (12, ZBw i)] [(9, ZN t T), (10, ZN k R), (11, Zr m u), (12, Zd zl), (13, Zw m 12 11), (14, ZN n E)]) := rdX [] (I1 (ai (show -9223372036854775808 ≤ (↑i : Int) + 1 by omega) x0)) hB
theorem spI (B : Nat) (hB : B ≤ 15) (t k : Nat) (T R : tE) (nd br : Nat → List UInt8) (M1 M2 M3 zl : List (List UInt8 × Int)) : GoesB Try.prog ((nav [1,1,1] (bodyOf Try.f45))) Try.f45.ntmps B 15 15 (frL [(2, sL 9 t), (3, sL 10 k)]) (hpL [(9, ZG t T), (10, ZG k R)]) (pP .ret [(2, sL 9 t), (3, sL 10 k)] [(9, ZN t T), (10, ZN k R)]) := rdX [] trivial hB
/-- may it be an edge of the forest? -/
def jsel (z : El) : Bool := !(decide (z.k = 4) || decide (z.k = 6))
/-- their ends, of the first so many elements -/
def jl (E : tE) : Nat → List (Tx × Tx)
 | 0 => []
 | i + 1 => bif jsel (E i) then jl E i ++ [((E i).a, (E i).b)] else jl E i
/-- element i would close a loop -/
def jsame (zl : tM) (E : tE) (i : Nat) : Bool := decide (cls (plc zl) (jl E i) (E i).a = cls (plc zl) (jl E i) (E i).b)
def spT (zl : tM) (E : tE) : Nat → List El
 | 0 => []
 | i + 1 => bif jsel (E i) && !jsame zl E i then spT zl E i ++ [E i] else spT zl E i
def spR (zl : tM) (E : tE) : Nat → List El
 | 0 => []
 | i + 1 => bif jsel (E i) && jsame zl E i then spR zl E i ++ [E i] else spR zl E i
def eget (l : List El) (j : Nat) : El := l.getD j default
theorem eget_snoc (l : List El) (z : El) (j : Nat) (hj : j < l.length + 1) : elR (eget (l ++ [z]) j) = bif decide (j < l.length) then elR (eget l j) else elR z := by
 unfold eget
 by_cases c : j < l.length
 ·rw [decide_eq_true c, cond_true, List.getD_eq_getElem?_getD, List.getElem?_append_left c, ← List.getD_eq_getElem?_getD]
 ·obtain rfl : j = l.length := by omega
  rw [decide_eq_false (Nat.lt_irrefl _), cond_false, List.getD_eq_getElem?_getD, List.getElem?_append_right (Nat.le_refl _), Nat.sub_self]
  rfl
theorem spT_len (zl : tM) (E : tE) : ∀ i, (spT zl E i).length ≤ i
 | 0 => Nat.le_refl _
 | i + 1 => by
  have := spT_len zl E i
  unfold spT
  cases jsel (E i) && !jsame zl E i with
  | true => rw [cond_true, List.length_append]; exact Nat.succ_le_succ this
  | false => rw [cond_false]; omega
theorem spR_len (zl : tM) (E : tE) : ∀ i, (spR zl E i).length ≤ i
 | 0 => Nat.le_refl _
 | i + 1 => by
  have := spR_len zl E i
  unfold spR
  cases jsel (E i) && jsame zl E i with
  | true => rw [cond_true, List.length_append]; exact Nat.succ_le_succ this
  | false => rw [cond_false]; omega
noncomputable abbrev Zu (v0 : tM) (v1 : tE) (v2 : Nat) := (.cells true 8 (spT v0 v1 v2).length (.fn fun j => elR (eget (spT v0 v1 v2) j)) : ABk)
noncomputable abbrev Zv (v0 : tM) (v1 : tE) (v2 : Nat) := (.cells true 8 (spR v0 v1 v2).length (.fn fun j => elR (eget (spR v0 v1 v2) j)) : ABk)
noncomputable abbrev Z1 (v0 : Nat) (v1 : tM) (v2 : tE) (v3 : Nat) := (.cells true 1 v0 (.fn fun k => [iT (((Ul (plc v1) (jl v2 v3)) k : Nat) : Int)]) : ABk)
noncomputable abbrev ZBS (v0 : Nat) (v1 : tM) (v2 : tE) (v3 : Nat) := (.cells true 1 v0 (.fn fun k => [iT (((Ul (plc v1) (jl v2 (v3 + 1))) k : Nat) : Int)]) : ABk)
noncomputable abbrev ZBW (v0 : tM) (v1 : tE) (v2 : Nat) := (.cells true 8 (spT v0 v1 (v2 + 1)).length (.fn fun j => elR (eget (spT v0 v1 (v2 + 1)) j)) : ABk)
noncomputable abbrev ZBX (v0 : tM) (v1 : tE) (v2 : Nat) := (.cells true 8 (spR v0 v1 (v2 + 1)).length (.fn fun j => elR (eget (spR v0 v1 (v2 + 1)) j)) : ABk)
noncomputable abbrev ZCm (v0 : tM) (v1 : tE) (v2 : Nat) := sL 10 (spR v0 v1 v2).length
noncomputable abbrev ZC1 (v0 : tM) (v1 : tE) (v2 : Nat) := sL 9 (spT v0 v1 v2).length
noncomputable abbrev ZEv (v0 : tM) (v1 : tE) (v2 v3 v4 : Nat) := ([(9, ZBW v0 v1 v2), (10, ZBX v0 v1 v2), (11, ZBS v3 v0 v1 v2), (12, .mSI true v0), (13, ZT v3 12 11), (14, ZG v4 v1)] : tH)
noncomputable abbrev ZDa (v0 : tM) (v1 : tE) (v2 v3 v4 : Nat) := Nm [(2, sL 9 (spT v0 v1 (v2 + 1)).length), (3, sL 10 (spR v0 v1 (v2 + 1)).length), (4, ZA 13), (10, sL 14 v3), (11, iT (v3 : Int)), (12, iT (v2 : Int))] (ZEv v0 v1 v2 v4 v3)
noncomputable abbrev ZDj (v0 : tM) (v1 : tE) (v2 v3 v4 : Nat) := ([(9, Zu v0 v1 v2), (10, Zv v0 v1 v2), (11, Z1 v3 v0 v1 v2), (12, .mSI true v0), (13, ZT v3 12 11), (14, ZG v4 v1), (15, Zg v1 v2)] : tH)
noncomputable abbrev ZDt (v0 : tM) (v1 : tE) (v2 v3 : Nat) := ([(2, ZC1 v0 v1 v2), (3, ZCm v0 v1 v2), (4, ZA 13), (10, sL 14 v3), (11, iT (v3 : Int)), (12, iT (v2 : Int))] : tF)
noncomputable abbrev ZDu (v0 : tM) (v1 : tE) (v2 v3 v4 : Nat) := ([(9, Zu v0 v1 v2), (10, Zv v0 v1 v2), (11, Z1 v3 v0 v1 v2), (12, .mSI true v0), (13, ZT v3 12 11), (14, ZG v4 v1)] : tH)
end Go.Proofs.Ytgjdeclenlgaeaa
