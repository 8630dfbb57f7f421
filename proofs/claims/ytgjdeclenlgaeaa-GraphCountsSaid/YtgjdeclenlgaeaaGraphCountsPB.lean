/- GraphCounts: a part: summaries of functions that the statement reaches, printed by program, checked by the kernel. -/
import Derived.ProofKit
import Derived.OpenShut
import Derived.KernelRfl
import Derived.SizedLaws
import Derived.Test.YtgjdeclenlgaeaaProg
import Derived.Test.YtgjdeclenlgaeaaGraphCountsPA
namespace Go.Proofs.Ytgjdeclenlgaeaa
open Go.ChangeShapes Go.WideShapes Go.ChangeAt Go.RowKit Go.Sx
set_option linter.unusedVariables false
set_option linter.unusedSimpArgs false
set_option maxRecDepth 100000

theorem Xt (i k : Nat) (E : tE) (f : tX) (x y z : Tx) (cm : Int) (L m : Nat) (q : Bool × List Tx)
  (ih : aj Try.prog (ak Try.f67) Try.f67.ntmps 5 6 6 (bJ [.str true z, iT (i : Int), ZA 2, ZA 1, ZA 3, ZA 4] 0 .e) (hpL [(0, ZC k E), (1, Ie k), (2, ZX y), (3, Z3 L), (4, Ic), (5, ZY m f)]) (QZ k q y E)) :
  aj Try.prog ZBW Try.f67.ntmps 5 6 6 (ZEn x cm k i z) (hpL [(0, ZC k E), (1, Ie k), (2, ZX y), (3, Z3 L), (4, Ic), (5, ZY m f)]) (fun e fr' H' => e = .normal ∧ ∃ (m' : Nat) (f' : tX), fr' = aV [(53, .bD q.1), (0, .str true x), (1, iT cm), (2, ZA 2), (3, ZA 1), (4, ZA 3), (5, ZA 4), (15, ZE k), (16, iT (k : Int)), (17, iT (i : Int))] ∧ H' = hpL [(0, ZC k E), (1, Ie k), (2, ZX y), (3, ZDK q), (4, Ic), (5, Xr m' f')] ∧ FP q.2 m' f') := by
 refine aj.NZ (o := opW) (cl := clW) (Bg := .tmp 50) (f := 67) (fn := Try.f67) (body := (ak Try.f67)) (pre := []) (cap := [ZA 2, ZA 1, ZA 3, ZA 4]) (args := [.str true z, iT (i : Int), ZA 2, ZA 1, ZA 3, ZA 4]) y7 3 (by kernel_rfl) (by kernel_rfl) (by kernel_rfl) (by kernel_rfl) rfl (d := 53) (by kernel_rfl) (Nat.le_of_ble_eq_true (by kernel_rfl)) (K1 := 6) (K2 := 6) (by omega) (abe i k L m E f x y z cm) Try.func67 (by kernel_rfl) (by kernel_rfl) rfl (B0 := 5) (by omega) (by omega) (by omega) (Vo x cm k i) rfl (iD rfl) rfl
  (V := fun v H' => ∃ (m' : Nat) (f' : tX), v = .bD q.1 ∧ H' = hpL [(0, ZC k E), (1, Ie k), (2, ZX y), (3, ZDK q), (4, Ic), (5, Xr m' f')] ∧ FP q.2 m' f') ?_ (fun v H' hv => by
   obtain ⟨m', f', rfl, rfl, h1⟩ := hv
   exact ⟨[], _, _, abf i k q.2.length m' E f' x y cm q.1, rfl, m', f', rfl, rfl, h1⟩)
 refine ih.mono fun e fr' H' h => ?_
 obtain ⟨he, m', f', hb, hH, h1, h2⟩ := h
 have hres : Try.f67.results.toList = [.tmp 8] := by kernel_rfl
 refine ⟨.inl he, [.bool q.1], ⟨H', 6, [], [], True⟩, ?_, trivial, .bD q.1, fun N μ c h => by simpa only [Rep, jZ] using h, m', f', rfl, hH, h2, h1⟩
 rw [hres]
 show M.andThen (M.ret ((fr'.get 8).getD .top)) _ _ = _
 rw [hb]
 rfl
noncomputable abbrev Zo (v0 : List Tx) := (.cells true 1 1 (.fn fun _ => [sL 5 v0.length]) : aF)
noncomputable abbrev ZCt (v0 : List Tx) := (.cells true 1 1 (.fn fun _ => [sL 5 (v0.length + 1)]) : aF)
noncomputable abbrev Vp (v0 : Nat) (v1 : tE) (v2 : Tx) (v3 : List Tx) (v4 v5) := ([(0, ZC v0 v1), (1, Ie v0), (2, ZX v2), (3, Zo v3), (4, Ic), (5, Xr v4 v5)] : tH)
theorem Xu (i k m : Nat) (E : tE) (f : tX) (x y z : Tx) (cm : Int) (hk : k ≤ 256) (ps : List Tx) (nm : Tx) (hl : ps.length ≤ 1024) (q : Bool × List Tx) (hq : q.1 = false → q.2 = ps ++ [nm])
  (ih : aj Try.prog (ak Try.f67) Try.f67.ntmps 5 6 6 (bJ [.str true z, iT (i : Int), ZA 2, ZA 1, ZA 3, ZA 4] 0 .e) (hpL [(0, ZC k E), (1, Ie k), (2, ZX y), (3, ZCt ps), (4, Ic), (5, ZY m f)]) (QZ k q y E)) :
  aj Try.prog (.seq (.seq ZBW ZCF) ZCH) Try.f67.ntmps 5 6 6 (ZEn x cm k i z) (hpL [(0, ZC k E), (1, Ie k), (2, ZX y), (3, ZCt ps), (4, Ic), (5, ZY m f)]) (RPo k i ps q x y cm E) := by
 refine aj.seq (K1 := 6) (by omega) (aj.seq (K1 := 6) (by omega) ((Xt i k E f x y z cm (ps.length + 1) m q ih).mono fun e fr' H' h => ?_))
 obtain ⟨rfl, m', f', rfl, rfl, h1, h2⟩ := h
 obtain ⟨b, qs⟩ := q
 cases b with
 | true =>
  refine (waL 5 (by omega) i k qs.length m' E f' x y cm true).mono fun e fr' H' h => ?_
  rw [cond_true] at h
  obtain ⟨rfl, rfl, rfl⟩ := h
  exact .inr ⟨rfl, rfl, m', f', rfl, rfl, h2, h1⟩
 | false =>
  obtain rfl := hq rfl
  refine (waL 5 (by omega) i k (ps ++ [nm]).length m' E f' x y cm false).mono fun e fr' H' h => ?_
  rw [cond_false] at h
  obtain ⟨rfl, rfl, rfl⟩ := h
  have e1 : (ps ++ [nm]).length = ps.length + 1 := by simp
  simp only [e1] at h1 h2 ⊢
  refine (waM 5 (by omega) i k (ps.length + 1) m' E f' x y cm (by omega) (by omega)).post fun e fr' H' h => ?_
  obtain ⟨rfl, rfl, rfl⟩ := h
  refine ⟨(Vo x cm k i), (Vp k E y ps m' f'), (iD rfl), ⟨hs rfl, hs rfl, hs rfl, ⟨_, rfl, rfl, rfl, rfl, fun j hj => ?_⟩, gq rfl⟩, .inl ⟨rfl, rfl, m', f', ⟨by omega, fun j hj => ?_⟩, rfl, rfl⟩⟩
  ·obtain rfl : j = 0 := by omega
   show [sL 5 (Int.toNat (((ps.length + 1 : Nat) : Int) - 1))] = [sL 5 ps.length]
   rw [show Int.toNat (((ps.length + 1 : Nat) : Int) - 1) = ps.length by omega]
  ·rw [h2 j (by omega)]
   simp [List.getElem?_append_left hj]


theorem Un {E : tE} {k i : Nat} {x : Tx} (hi : i < k) (h : ((E i).a == x) = true ∨ ((E i).b == x) = true) : wF (Ku E k) i x (vU E i x) := by
 refine ⟨_, OH E hi, ?_⟩
 unfold vU
 cases e : (E i).a == x with
 | true => rw [cond_true]; exact .inl ⟨(eq_of_beq e).symm, rfl⟩
 | false =>
  rw [cond_false]
  rcases h with h | h
  ·rw [e] at h; cases h
  ·exact .inr ⟨(eq_of_beq h).symm, rfl⟩
/-- in the block of a round: what is asked behind it -/
def BPo (k i : Nat) (ps : List Tx) (o : Bool) (q : Bool × List Tx) (x y : Tx) (cm : Int) (E : tE) : Po := fun e fr' H' => ((e = .exit 1 ∨ e = .normal) ∧ (o = true ∨ q.1 = false) ∧ ∃ (m' : Nat) (f' : tX), FP ps m' f' ∧ Ge fr' [(0, .str true x), (1, iT cm), (2, .ptr ⟨false, 2, 0, 0⟩), (3, .ptr ⟨false, 1, 0, 0⟩), (4, .ptr ⟨false, 3, 0, 0⟩), (5, .ptr ⟨false, 4, 0, 0⟩), (15, .slc true false ⟨false, 0, 0, 0⟩ k), (16, iT (k : Int)), (17, iT (i : Int))] ∧ Ia H' [(0, .cells false 8 k (.fn fun j => aP (E j))), (1, .cells true 1 1 (.fn fun _ => [.slc true false ⟨false, 0, 0, 0⟩ k])), (2, .cells true 1 1 (.fn fun _ => [.str true y])), (3, .cells true 1 1 (.fn fun _ => [sL 5 ps.length])), (4, .cells true 1 1 (.fn fun _ => [.fn (.func 67) [] [.ptr ⟨false, 2, 0, 0⟩, .ptr ⟨false, 1, 0, 0⟩, .ptr ⟨false, 3, 0, 0⟩, .ptr ⟨false, 4, 0, 0⟩]])), (5, .cells true 1 m' (.fn (aU f')))]) ∨ (o = false ∧ q.1 = true ∧ QZ k q y E e fr' H')
abbrev IHo (k i : Nat) (E : tE) (ps : List Tx) (q : Bool × List Tx) (x y : Tx) (cm : Int) : Prop := wF (Ku E k) i x (vU E i x) → (i : Int) ≠ cm → ∀ (m' : Nat) (f' : tX), FP (ps ++ [(E i).n]) m' f' → aj Try.prog (ak Try.f67) Try.f67.ntmps 5 6 6 (bJ [.str true (vU E i x), iT (i : Int), .ptr ⟨false, 2, 0, 0⟩, .ptr ⟨false, 1, 0, 0⟩, .ptr ⟨false, 3, 0, 0⟩, .ptr ⟨false, 4, 0, 0⟩] 0 .e) (hpL [(0, .cells false 8 k (.fn fun j => aP (E j))), (1, .cells true 1 1 (.fn fun _ => [.slc true false ⟨false, 0, 0, 0⟩ k])), (2, .cells true 1 1 (.fn fun _ => [.str true y])), (3, .cells true 1 1 (.fn fun _ => [sL 5 (ps.length + 1)])), (4, .cells true 1 1 (.fn fun _ => [.fn (.func 67) [] [.ptr ⟨false, 2, 0, 0⟩, .ptr ⟨false, 1, 0, 0⟩, .ptr ⟨false, 3, 0, 0⟩, .ptr ⟨false, 4, 0, 0⟩]])), (5, .cells true 1 m' (.fn (aU f')))]) (QZ k q y E)
theorem Qv {E : tE} {i : Nat} {x : Tx} {cm : Int} (h : Ee E i x cm = false) : (i : Int) ≠ cm ∧ (((E i).a == x) = true ∨ ((E i).b == x) = true) := by
 unfold Ee at h
 rw [Bool.or_eq_false_iff] at h
 refine ⟨of_decide_eq_false h.1, ?_⟩
 have := h.2
 revert this
 cases ((E i).a == x) <;> cases ((E i).b == x) <;> simp
noncomputable abbrev ZDx (v0 : Tx) (v1 : Int) (v2 v3 : Nat) (v4 : tE) := ([(0, .str true v0), (1, iT v1), (2, ZA 2), (3, ZA 1), (4, ZA 3), (5, ZA 4), (15, ZE v2), (16, iT (v2 : Int)), (17, iT (v3 : Int)), (9, iT (v3 : Int)), (10, ZA 6), (11, .str true (vU v4 v3 v0))] : jU)
noncomputable abbrev ZDy (v0 : Tx) (v1 : Int) (v2 : Nat) (v3 : tE) (v4 : Nat) := ([(0, .str true v0), (1, iT v1), (2, ZA 2), (3, ZA 1), (4, ZA 3), (5, ZA 4), (9, iT (v2 : Int)), (10, ZA 6), (11, .str true (vU v3 v2 v0)), (15, ZE v4), (16, iT (v4 : Int)), (17, iT (v2 : Int))] : jU)
noncomputable abbrev ZEu (v0 : Tx) (v1 : Int) (v2 v3 : Nat) (v4 : tE) := ([(0, .str true v0), (1, iT v1), (2, ZA 2), (3, ZA 1), (4, ZA 3), (5, ZA 4), (15, ZE v2), (16, iT (v2 : Int)), (17, iT (v3 : Int)), (9, iT (v3 : Int)), (11, .str true (vU v4 v3 v0))] : jU)
noncomputable abbrev ZE2 (v0 : Nat) (v1 : tE) (v2 : Tx) (v3 : List Tx) (v4 : Nat) (v5 : tX) (v6 : Nat) := ([(0, ZC v0 v1), (1, Ie v0), (2, ZX v2), (3, Zo v3), (4, Ic), (5, ZY v4 v5), (6, Zl v1 v6)] : tH)
noncomputable abbrev ZE3 (v0 : Nat) (v1 : tE) (v2 : Tx) (v3 : List Tx) (v4 : Nat) (v5 : tX) := ([(0, ZC v0 v1), (1, Ie v0), (2, ZX v2), (3, Zo v3), (4, Ic), (5, ZY v4 v5)] : tH)
theorem adI (i k m : Nat) (E : tE) (f : tX) (x y : Tx) (cm : Int) (hk : k ≤ 256) (hi : i < k) (ps : List Tx) (hl : ps.length ≤ 1024) (hm : FP ps m f) (q : Bool × List Tx) (hq : q.1 = false → q.2 = ps ++ [(E i).n]) (ih : IHo k i E ps q x y cm) :
  aj Try.prog ZCC Try.f67.ntmps 5 6 7 (aV [(0, .str true x), (1, iT cm), (2, .ptr ⟨false, 2, 0, 0⟩), (3, .ptr ⟨false, 1, 0, 0⟩), (4, .ptr ⟨false, 3, 0, 0⟩), (5, .ptr ⟨false, 4, 0, 0⟩), (15, .slc true false ⟨false, 0, 0, 0⟩ k), (16, iT (k : Int)), (17, iT (i : Int))]) (hpL [(0, .cells false 8 k (.fn fun j => aP (E j))), (1, .cells true 1 1 (.fn fun _ => [.slc true false ⟨false, 0, 0, 0⟩ k])), (2, .cells true 1 1 (.fn fun _ => [.str true y])), (3, .cells true 1 1 (.fn fun _ => [sL 5 ps.length])), (4, .cells true 1 1 (.fn fun _ => [.fn (.func 67) [] [.ptr ⟨false, 2, 0, 0⟩, .ptr ⟨false, 1, 0, 0⟩, .ptr ⟨false, 3, 0, 0⟩, .ptr ⟨false, 4, 0, 0⟩]])), (5, .cells true 1 m (.fn (aU f)))]) (BPo k i ps (Ee E i x cm) q x y cm E) := by
 rw [abh]
 refine aj.bn (K1 := 7) (F1 := [(0, .str true x), (1, iT cm), (2, .ptr ⟨false, 2, 0, 0⟩), (3, .ptr ⟨false, 1, 0, 0⟩), (4, .ptr ⟨false, 3, 0, 0⟩), (5, .ptr ⟨false, 4, 0, 0⟩), (15, .slc true false ⟨false, 0, 0, 0⟩ k), (16, iT (k : Int)), (17, iT (i : Int)), (9, iT (i : Int)), (10, .ptr ⟨false, 6, 0, 0⟩)]) (H1 := [(0, .cells false 8 k (.fn fun j => aP (E j))), (1, .cells true 1 1 (.fn fun _ => [.slc true false ⟨false, 0, 0, 0⟩ k])), (2, .cells true 1 1 (.fn fun _ => [.str true y])), (3, .cells true 1 1 (.fn fun _ => [sL 5 ps.length])), (4, .cells true 1 1 (.fn fun _ => [.fn (.func 67) [] [.ptr ⟨false, 2, 0, 0⟩, .ptr ⟨false, 1, 0, 0⟩, .ptr ⟨false, 3, 0, 0⟩, .ptr ⟨false, 4, 0, 0⟩]])), (5, .cells true 1 m (.fn (aU f))), (6, .cells true 8 1 (.fn fun _ => aP (E i)))]) (aj.toN (waF 5 (by omega) i k ps.length m E f x y cm (by omega) (by omega)) (iD rfl) ⟨(Sx.hs rfl), (Sx.hs rfl), (Sx.hs rfl), (Sx.hs rfl), (Sx.hs rfl), (Sx.hs rfl), wG rfl (by show aP (E (0 + i)) = aP (E i); rw [Nat.zero_add]), trivial⟩) (by omega) ?_
 refine aj.bn (K1 := 7) (F1 := [(0, .str true x), (1, iT cm), (2, .ptr ⟨false, 2, 0, 0⟩), (3, .ptr ⟨false, 1, 0, 0⟩), (4, .ptr ⟨false, 3, 0, 0⟩), (5, .ptr ⟨false, 4, 0, 0⟩), (15, .slc true false ⟨false, 0, 0, 0⟩ k), (16, iT (k : Int)), (17, iT (i : Int)), (9, iT (i : Int)), (10, .ptr ⟨false, 6, 0, 0⟩), (11, .str true (E i).a)]) (H1 := [(0, .cells false 8 k (.fn fun j => aP (E j))), (1, .cells true 1 1 (.fn fun _ => [.slc true false ⟨false, 0, 0, 0⟩ k])), (2, .cells true 1 1 (.fn fun _ => [.str true y])), (3, .cells true 1 1 (.fn fun _ => [sL 5 ps.length])), (4, .cells true 1 1 (.fn fun _ => [.fn (.func 67) [] [.ptr ⟨false, 2, 0, 0⟩, .ptr ⟨false, 1, 0, 0⟩, .ptr ⟨false, 3, 0, 0⟩, .ptr ⟨false, 4, 0, 0⟩]])), (5, .cells true 1 m (.fn (aU f))), (6, .cells true 8 1 (.fn fun _ => aP (E i)))]) (aj.toN (waG 5 (by omega) i k ps.length m E f x y cm) (iD rfl) (gq rfl)) (by omega) ?_
 refine aj.bn (K1 := 7) (F1 := [(0, .str true x), (1, iT cm), (2, .ptr ⟨false, 2, 0, 0⟩), (3, .ptr ⟨false, 1, 0, 0⟩), (4, .ptr ⟨false, 3, 0, 0⟩), (5, .ptr ⟨false, 4, 0, 0⟩), (15, .slc true false ⟨false, 0, 0, 0⟩ k), (16, iT (k : Int)), (17, iT (i : Int)), (9, iT (i : Int)), (10, .ptr ⟨false, 6, 0, 0⟩), (11, .str true (vU E i x))]) (H1 := [(0, .cells false 8 k (.fn fun j => aP (E j))), (1, .cells true 1 1 (.fn fun _ => [.slc true false ⟨false, 0, 0, 0⟩ k])), (2, .cells true 1 1 (.fn fun _ => [.str true y])), (3, .cells true 1 1 (.fn fun _ => [sL 5 ps.length])), (4, .cells true 1 1 (.fn fun _ => [.fn (.func 67) [] [.ptr ⟨false, 2, 0, 0⟩, .ptr ⟨false, 1, 0, 0⟩, .ptr ⟨false, 3, 0, 0⟩, .ptr ⟨false, 4, 0, 0⟩]])), (5, .cells true 1 m (.fn (aU f))), (6, .cells true 8 1 (.fn fun _ => aP (E i)))]) ((waH 5 (by omega) i k ps.length m E f x y cm).post fun e fr' H' h => ?_) (by omega) ?_
 ·have key : e = .normal ∧ fr' = aV [(0, .str true x), (1, iT cm), (2, .ptr ⟨false, 2, 0, 0⟩), (3, .ptr ⟨false, 1, 0, 0⟩), (4, .ptr ⟨false, 3, 0, 0⟩), (5, .ptr ⟨false, 4, 0, 0⟩), (9, iT (i : Int)), (10, .ptr ⟨false, 6, 0, 0⟩), (11, .str true (vU E i x)), (15, .slc true false ⟨false, 0, 0, 0⟩ k), (16, iT (k : Int)), (17, iT (i : Int))] ∧ H' = hpL [(0, .cells false 8 k (.fn fun j => aP (E j))), (1, .cells true 1 1 (.fn fun _ => [.slc true false ⟨false, 0, 0, 0⟩ k])), (2, .cells true 1 1 (.fn fun _ => [.str true y])), (3, .cells true 1 1 (.fn fun _ => [sL 5 ps.length])), (4, .cells true 1 1 (.fn fun _ => [.fn (.func 67) [] [.ptr ⟨false, 2, 0, 0⟩, .ptr ⟨false, 1, 0, 0⟩, .ptr ⟨false, 3, 0, 0⟩, .ptr ⟨false, 4, 0, 0⟩]])), (5, .cells true 1 m (.fn (aU f))), (6, .cells true 8 1 (.fn fun _ => aP (E i)))] := by
   unfold vU
   cases q : (E i).a == x with
   | true => rw [q, cond_true] at h; rw [cond_true]; exact h
   | false => rw [q, cond_false] at h; rw [cond_false]; exact h
  obtain ⟨rfl, rfl, rfl⟩ := key
  exact ⟨[(0, .str true x), (1, iT cm), (2, .ptr ⟨false, 2, 0, 0⟩), (3, .ptr ⟨false, 1, 0, 0⟩), (4, .ptr ⟨false, 3, 0, 0⟩), (5, .ptr ⟨false, 4, 0, 0⟩), (15, .slc true false ⟨false, 0, 0, 0⟩ k), (16, iT (k : Int)), (17, iT (i : Int)), (9, iT (i : Int)), (10, .ptr ⟨false, 6, 0, 0⟩), (11, .str true (vU E i x))], [(0, .cells false 8 k (.fn fun j => aP (E j))), (1, .cells true 1 1 (.fn fun _ => [.slc true false ⟨false, 0, 0, 0⟩ k])), (2, .cells true 1 1 (.fn fun _ => [.str true y])), (3, .cells true 1 1 (.fn fun _ => [sL 5 ps.length])), (4, .cells true 1 1 (.fn fun _ => [.fn (.func 67) [] [.ptr ⟨false, 2, 0, 0⟩, .ptr ⟨false, 1, 0, 0⟩, .ptr ⟨false, 3, 0, 0⟩, .ptr ⟨false, 4, 0, 0⟩]])), (5, .cells true 1 m (.fn (aU f))), (6, .cells true 8 1 (.fn fun _ => aP (E i)))], (iD rfl), (gq rfl), rfl, rfl, rfl⟩
 have out : Ee E i x cm = true → ∀ (e : Ex) (fr' : Fr) (H' : T aF), (e = .exit 1) → fr' = aV [(0, .str true x), (1, iT cm), (2, .ptr ⟨false, 2, 0, 0⟩), (3, .ptr ⟨false, 1, 0, 0⟩), (4, .ptr ⟨false, 3, 0, 0⟩), (5, .ptr ⟨false, 4, 0, 0⟩), (9, iT (i : Int)), (10, .ptr ⟨false, 6, 0, 0⟩), (11, .str true (vU E i x)), (15, .slc true false ⟨false, 0, 0, 0⟩ k), (16, iT (k : Int)), (17, iT (i : Int))] → H' = hpL [(0, .cells false 8 k (.fn fun j => aP (E j))), (1, .cells true 1 1 (.fn fun _ => [.slc true false ⟨false, 0, 0, 0⟩ k])), (2, .cells true 1 1 (.fn fun _ => [.str true y])), (3, .cells true 1 1 (.fn fun _ => [sL 5 ps.length])), (4, .cells true 1 1 (.fn fun _ => [.fn (.func 67) [] [.ptr ⟨false, 2, 0, 0⟩, .ptr ⟨false, 1, 0, 0⟩, .ptr ⟨false, 3, 0, 0⟩, .ptr ⟨false, 4, 0, 0⟩]])), (5, .cells true 1 m (.fn (aU f))), (6, .cells true 8 1 (.fn fun _ => aP (E i)))] → BPo k i ps (Ee E i x cm) q x y cm E e fr' H' := fun hs e fr' H' h1 h2 h3 => by
  subst h1 h2 h3
  exact .inl ⟨.inl rfl, .inl hs, m, f, hm, (iD rfl), (gq rfl)⟩
 refine aj.seq (K1 := 7) (by omega) ((waI 5 (by omega) i k ps.length m E f x y (vU E i x) cm).mono fun e fr' H' h => ?_)
 cases q1 : decide ((i : Int) = cm) with
 | true =>
  rw [q1, cond_true] at h
  obtain ⟨rfl, h2, h3⟩ := h
  exact out (by unfold Ee; rw [q1]; rfl) _ _ _ rfl h2 h3
 | false =>
  rw [q1, cond_false] at h
  have rest : Ee E i x cm = false → aj Try.prog (.seq ZDB (.seq (.seq ZBW ZCF) ZCH)) Try.f67.ntmps 5 7 7 (aV [(0, .str true x), (1, iT cm), (2, .ptr ⟨false, 2, 0, 0⟩), (3, .ptr ⟨false, 1, 0, 0⟩), (4, .ptr ⟨false, 3, 0, 0⟩), (5, .ptr ⟨false, 4, 0, 0⟩), (9, iT (i : Int)), (10, .ptr ⟨false, 6, 0, 0⟩), (11, .str true (vU E i x)), (15, .slc true false ⟨false, 0, 0, 0⟩ k), (16, iT (k : Int)), (17, iT (i : Int))]) (hpL [(0, .cells false 8 k (.fn fun j => aP (E j))), (1, .cells true 1 1 (.fn fun _ => [.slc true false ⟨false, 0, 0, 0⟩ k])), (2, .cells true 1 1 (.fn fun _ => [.str true y])), (3, .cells true 1 1 (.fn fun _ => [sL 5 ps.length])), (4, .cells true 1 1 (.fn fun _ => [.fn (.func 67) [] [.ptr ⟨false, 2, 0, 0⟩, .ptr ⟨false, 1, 0, 0⟩, .ptr ⟨false, 3, 0, 0⟩, .ptr ⟨false, 4, 0, 0⟩]])), (5, .cells true 1 m (.fn (aU f))), (6, .cells true 8 1 (.fn fun _ => aP (E i)))]) (BPo k i ps (Ee E i x cm) q x y cm E) := fun hs => by
   obtain ⟨s1, s2⟩ := Qv hs
   refine aj.gK (fl := [(0, .str true x), (1, iT cm), (2, .ptr ⟨false, 2, 0, 0⟩), (3, .ptr ⟨false, 1, 0, 0⟩), (4, .ptr ⟨false, 3, 0, 0⟩), (5, .ptr ⟨false, 4, 0, 0⟩), (15, .slc true false ⟨false, 0, 0, 0⟩ k), (16, iT (k : Int)), (17, iT (i : Int)), (9, iT (i : Int)), (10, .ptr ⟨false, 6, 0, 0⟩), (11, .str true (vU E i x))]) (bl := [(0, .cells false 8 k (.fn fun j => aP (E j))), (1, .cells true 1 1 (.fn fun _ => [.slc true false ⟨false, 0, 0, 0⟩ k])), (2, .cells true 1 1 (.fn fun _ => [.str true y])), (3, .cells true 1 1 (.fn fun _ => [sL 5 ps.length])), (4, .cells true 1 1 (.fn fun _ => [.fn (.func 67) [] [.ptr ⟨false, 2, 0, 0⟩, .ptr ⟨false, 1, 0, 0⟩, .ptr ⟨false, 3, 0, 0⟩, .ptr ⟨false, 4, 0, 0⟩]])), (5, .cells true 1 m (.fn (aU f))), (6, .cells true 8 1 (.fn fun _ => aP (E i)))]) (iD rfl) (gq rfl) ?_
   refine aj.bn (K1 := 6) (F1 := [(0, .str true x), (1, iT cm), (2, .ptr ⟨false, 2, 0, 0⟩), (3, .ptr ⟨false, 1, 0, 0⟩), (4, .ptr ⟨false, 3, 0, 0⟩), (5, .ptr ⟨false, 4, 0, 0⟩), (15, .slc true false ⟨false, 0, 0, 0⟩ k), (16, iT (k : Int)), (17, iT (i : Int)), (9, iT (i : Int)), (11, .str true (vU E i x))]) (H1 := [(0, .cells false 8 k (.fn fun j => aP (E j))), (1, .cells true 1 1 (.fn fun _ => [.slc true false ⟨false, 0, 0, 0⟩ k])), (2, .cells true 1 1 (.fn fun _ => [.str true y])), (3, .cells true 1 1 (.fn fun _ => [sL 5 (ps.length + 1)])), (4, .cells true 1 1 (.fn fun _ => [.fn (.func 67) [] [.ptr ⟨false, 2, 0, 0⟩, .ptr ⟨false, 1, 0, 0⟩, .ptr ⟨false, 3, 0, 0⟩, .ptr ⟨false, 4, 0, 0⟩]])), (5, .cells true 1 (ps.length + 1) (.fn (aU (fun j => bif decide (j < ps.length) then f j else (E i).n))))]) ((waJ 5 (by omega) i k ps.length m E f x y (vU E i x) cm hm.1 (by omega) (by omega)).renG fun e fr' H' h => ?_) (by omega) ?_
   ·obtain ⟨rfl, rfl, rfl⟩ := h
    refine ⟨sg 5 8, [(0, .str true x), (1, iT cm), (2, .ptr ⟨false, 2, 0, 0⟩), (3, .ptr ⟨false, 1, 0, 0⟩), (4, .ptr ⟨false, 3, 0, 0⟩), (5, .ptr ⟨false, 4, 0, 0⟩), (15, .slc true false ⟨false, 0, 0, 0⟩ k), (16, iT (k : Int)), (17, iT (i : Int)), (9, iT (i : Int)), (11, .str true (vU E i x))], [(0, .cells false 8 k (.fn fun j => aP (E j))), (1, .cells true 1 1 (.fn fun _ => [.slc true false ⟨false, 0, 0, 0⟩ k])), (2, .cells true 1 1 (.fn fun _ => [.str true y])), (3, .cells true 1 1 (.fn fun _ => [sL 5 (ps.length + 1)])), (4, .cells true 1 1 (.fn fun _ => [.fn (.func 67) [] [.ptr ⟨false, 2, 0, 0⟩, .ptr ⟨false, 1, 0, 0⟩, .ptr ⟨false, 3, 0, 0⟩, .ptr ⟨false, 4, 0, 0⟩]])), (5, .cells true 1 (ps.length + 1) (.fn (aU (fun j => bif decide (j < ps.length) then f j else (E i).n))))], mX (by omega), (yX rfl), ⟨dX rfl rfl (fun j _ => rfl) (fun j _ => rfl) (by omega), dX rfl rfl (fun j _ => rfl) (fun j _ => rfl) (by omega), dX rfl rfl (fun j _ => rfl) (fun j _ => rfl) (by omega), dX rfl rfl (fun j hj => by
     obtain rfl : j = 0 := by omega
     rfl) (fun j _ => rfl) (by omega), dX rfl rfl (fun j _ => rfl) (fun j _ => rfl) (by omega), dX rfl rfl (fun j hj => by
     show (bif decide (j < ps.length) then aU f j else [AV.str true (E i).n]) = [AV.str true (bif decide (j < ps.length) then f j else (E i).n)]
     cases decide (j < ps.length) <;> rfl) (fun j _ => rfl) (by omega), trivial⟩, mY (by omega), rfl, rfl, rfl⟩
   have hps : FP (ps ++ [(E i).n]) (ps.length + 1) (fun j => bif decide (j < ps.length) then f j else (E i).n) := by
    refine ⟨by simp, fun j hj => ?_⟩
    by_cases c : j < ps.length
    ·show (bif decide (j < ps.length) then f j else (E i).n) = _
     rw [decide_eq_true c, cond_true, hm.2 j c]
     simp [List.getElem?_append_left c]
    ·show (bif decide (j < ps.length) then f j else (E i).n) = _
     have : j = ps.length := by simp at hj; omega
     rw [decide_eq_false c, cond_false, this]
     simp
   refine ((Xu i k (ps.length + 1) E _ x y (vU E i x) cm hk ps (E i).n hl q hq (ih (Un hi s2) s1 _ _ hps)).up (by omega)).mono fun e fr' H' h => ?_
   rcases h with ⟨rfl, h0, m', f', h1, rfl, rfl⟩ | ⟨h0, h⟩
   ·exact .inl ⟨.inr rfl, .inr h0, m', f', h1, (iD rfl), (gq rfl)⟩
   ·exact .inr ⟨hs, h0, h⟩
  cases q2 : (E i).a == x with
  | true =>
   rw [q2, cond_true] at h
   obtain ⟨rfl, rfl, rfl⟩ := h
   exact rest (by unfold Ee; rw [q1, q2]; rfl)
  | false =>
   rw [q2, cond_false] at h
   cases q3 : (E i).b == x with
   | true =>
    rw [q3, cond_true] at h
    obtain ⟨rfl, rfl, rfl⟩ := h
    exact rest (by unfold Ee; rw [q1, q2, q3]; rfl)
   | false =>
    rw [q3, cond_false] at h
    obtain ⟨rfl, h2, h3⟩ := h
    exact out (by unfold Ee; rw [q1, q2, q3]; rfl) _ _ _ rfl h2 h3
theorem abj (i k m : Nat) (E : tE) (f : tX) (x y : Tx) (cm : Int) (hk : k ≤ 256) (hi : i < k) (ps : List Tx) (hl : ps.length ≤ 1024) (hm : FP ps m f) (q : Bool × List Tx) (hq : q.1 = false → q.2 = ps ++ [(E i).n]) (ih : IHo k i E ps q x y cm) :
  aj Try.prog (.block 1 ZCC) Try.f67.ntmps 5 6 6 (aV (Vo x cm k i)) (hpL (ZE3 k E y ps m f)) (fun e fr' H' => (e = .normal ∧ (Ee E i x cm = true ∨ q.1 = false) ∧ ∃ (m' : Nat) (f' : tX), FP ps m' f' ∧ fr' = aV (Vo x cm k i) ∧ H' = hpL (Vp k E y ps m' f')) ∨ (Ee E i x cm = false ∧ q.1 = true ∧ QZ k q y E e fr' H')) := by
 have h1 : aj Try.prog (.block 1 ZCC) Try.f67.ntmps 5 6 7 (aV (Vo x cm k i)) (hpL (ZE3 k E y ps m f)) (fun e fr' H' => (e = .normal ∧ (Ee E i x cm = true ∨ q.1 = false) ∧ ∃ (m' : Nat) (f' : tX), FP ps m' f' ∧ Ge fr' (Vo x cm k i) ∧ Ia H' (Vp k E y ps m' f')) ∨ (Ee E i x cm = false ∧ q.1 = true ∧ QZ k q y E e fr' H')) :=
  aj.block ((adI i k m E f x y cm hk hi ps hl hm q hq ih).mono fun e fr' H' h => by
   rcases h with ⟨rfl | rfl, h⟩ | ⟨h0, h1, h⟩
   ·simp only [if_true]; exact .inl ⟨trivial, h⟩
   ·exact .inl ⟨rfl, h⟩
   ·have := h.1
    subst this
    exact .inr ⟨h0, h1, h⟩)
 refine (h1.post (Post' := fun e fr' H' => (e = .normal ∧ (Ee E i x cm = true ∨ q.1 = false) ∧ ∃ (m' : Nat) (f' : tX), FP ps m' f' ∧ fr' = aV (Vo x cm k i) ∧ H' = hpL (Vp k E y ps m' f')) ∨ (Ee E i x cm = false ∧ q.1 = true ∧ QZ k q y E e fr' H')) fun e fr' H' h => ?_).renG fun e fr' H' h => ?_
 ·rcases h with ⟨rfl, h0, m', f', h2, h3, h4⟩ | ⟨h0, h1, rfl, m', f', h2, rfl, h4, h5⟩
  ·exact ⟨_, _, h3, h4, .inl ⟨rfl, h0, m', f', h2, rfl, rfl⟩⟩
  ·exact ⟨[(8, .bool q.1)], [(0, ZC k E), (1, Ie k), (2, ZX y), (3, ZDK q), (4, Ic), (5, Xr m' f')], ⟨⟨_, h2, AV.ge.refl _⟩, trivial⟩, (gq rfl), .inr ⟨h0, h1, rfl, m', f', rfl, rfl, h4, h5⟩⟩
 ·rcases h with ⟨rfl, h0, m', f', h2, rfl, rfl⟩ | ⟨h0, h1, rfl, m', f', h2, rfl, h4, h5⟩
  ·exact ⟨id, (Vo x cm k i), (Vp k E y ps m' f'), fun g hg => rfl, (yX rfl), ⟨dX rfl rfl (fun j _ => rfl) (fun j _ => rfl) (by omega), dX rfl rfl (fun j _ => rfl) (fun j _ => rfl) (by omega), dX rfl rfl (fun j _ => rfl) (fun j _ => rfl) (by omega), dX rfl rfl (fun j _ => rfl) (fun j _ => rfl) (by omega), dX rfl rfl (fun j _ => rfl) (fun j _ => rfl) (by omega), dX rfl rfl (fun j _ => rfl) (fun j _ => rfl) (by omega), trivial⟩, fun i j _ _ h => h, .inl ⟨rfl, h0, m', f', h2, rfl, rfl⟩⟩
  ·exact ⟨id, [(8, .bool q.1)], [(0, ZC k E), (1, Ie k), (2, ZX y), (3, ZDK q), (4, Ic), (5, Xr m' f')], fun g hg => rfl, ⟨⟨_, h2, AV.ge.refl _, rfl⟩, trivial⟩, ⟨dX rfl rfl (fun j _ => rfl) (fun j _ => rfl) (by omega), dX rfl rfl (fun j _ => rfl) (fun j _ => rfl) (by omega), dX rfl rfl (fun j _ => rfl) (fun j _ => rfl) (by omega), dX rfl rfl (fun j _ => rfl) (fun j _ => rfl) (by omega), dX rfl rfl (fun j _ => rfl) (fun j _ => rfl) (by omega), dX rfl rfl (fun j _ => rfl) (fun j _ => rfl) (by omega), trivial⟩, fun i j _ _ h => h, .inr ⟨h0, h1, rfl, m', f', rfl, rfl, h4, h5⟩⟩
theorem Uo (E : tE) (k : Nat) (rec : List Tx → Tx → Int → Bool × List Tx) (ps : List Tx) (x : Tx) (cm : Int) (r : Nat) : Bv E k rec ps x cm (r + 1) = bif Ee E (k - (r + 1)) x cm then Bv E k rec ps x cm r else bif (rec (ps ++ [(E (k - (r + 1))).n]) (vU E (k - (r + 1)) x) ((k - (r + 1) : Nat) : Int)).1 then rec (ps ++ [(E (k - (r + 1))).n]) (vU E (k - (r + 1)) x) ((k - (r + 1) : Nat) : Int) else Bv E k rec ps x cm r := rfl
theorem Ur (i k d m : Nat) (E : tE) (f : tX) (x y : Tx) (cm : Int) (hk : k ≤ 256) (hi : i ≤ k) (ps : List Tx) (hl : ps.length ≤ 1024) (hm : FP ps m f) (ih : ∀ (i : Nat), i < k → IHo k i E ps (nZ E k y d (ps ++ [(E i).n]) (vU E i x) (i : Int)) x y cm) :
  aj Try.prog ZC5 Try.f67.ntmps 5 6 6 (aV (Vo x cm k i)) (hpL (ZE3 k E y ps m f)) (fun e fr' H' => (e = .normal ∧ i < k ∧ (Bv E k (nZ E k y d) ps x cm (k - i)) = (Bv E k (nZ E k y d) ps x cm (k - (i + 1))) ∧ ∃ (m' : Nat) (f' : tX), FP ps m' f' ∧ fr' = aV [(0, .str true x), (1, iT cm), (2, ZA 2), (3, ZA 1), (4, ZA 3), (5, ZA 4), (15, ZE k), (16, iT (k : Int)), (17, Vl i)] ∧ H' = hpL (Vp k E y ps m' f')) ∨ (e = .exit 0 ∧ i = k ∧ fr' = aV (Vo x cm k i) ∧ H' = hpL (ZE3 k E y ps m f)) ∨ QZ k (Bv E k (nZ E k y d) ps x cm (k - i)) y E e fr' H') := by
 rw [Xq]
 refine aj.bn (K1 := 6) (F1 := [(0, .str true x), (1, iT cm), (2, ZA 2), (3, ZA 1), (4, ZA 3), (5, ZA 4), (15, ZE k), (16, iT (k : Int)), (17, iT (i : Int)), (18, .bD (decide ((i : Int) < (k : Int))))]) (H1 := (ZE3 k E y ps m f)) (waD 5 (by omega) i k ps.length m E f x y cm) (by omega) ?_
 refine aj.seq (K1 := 6) (by omega) ((waE 5 (by omega) i k ps.length m E f x y cm (decide ((i : Int) < (k : Int)))).mono fun e fr' H' h => ?_)
 by_cases c : i < k
 ·rw [decide_eq_true (by omega), cond_true] at h
  obtain ⟨rfl, rfl, rfl⟩ := h
  have hstep : (Bv E k (nZ E k y d) ps x cm (k - i)) = bif Ee E i x cm then (Bv E k (nZ E k y d) ps x cm (k - (i + 1))) else bif (nZ E k y d (ps ++ [(E i).n]) (vU E i x) (i : Int)).1 then nZ E k y d (ps ++ [(E i).n]) (vU E i x) (i : Int) else (Bv E k (nZ E k y d) ps x cm (k - (i + 1))) := by
   rw [show k - i = (k - (i + 1)) + 1 by omega, Uo, show k - (k - (i + 1) + 1) = i by omega]
  refine aj.seq (K1 := 6) (by omega) ((abj i k m E f x y cm hk c ps hl hm (nZ E k y d (ps ++ [(E i).n]) (vU E i x) (i : Int)) Qu (ih i c)).mono fun e fr' H' h => ?_)
  rcases h with ⟨rfl, h0, m', f', h1, rfl, rfl⟩ | ⟨h0, h1, h⟩
  ·refine (waN 5 (by omega) i k ps.length m' E f' x y cm (by omega)).post fun e fr' H' h => ?_
   obtain ⟨rfl, rfl, rfl⟩ := h
   refine ⟨[(0, .str true x), (1, iT cm), (2, ZA 2), (3, ZA 1), (4, ZA 3), (5, ZA 4), (15, ZE k), (16, iT (k : Int)), (17, Vl i)], (Vp k E y ps m' f'), ⟨re rfl, re rfl, re rfl, re rfl, re rfl, re rfl, re rfl, re rfl, ⟨_, rfl, AV.ge.int' _ _ _ (by omega)⟩, trivial⟩, (gq rfl), .inl ⟨rfl, c, ?_, m', f', h1, rfl, rfl⟩⟩
   rw [hstep]
   rcases h0 with h0 | h0
   ·rw [h0, cond_true]
   ·rw [h0, cond_false]; cases Ee E i x cm <;> rfl
  ·have := h.1
   subst this
   refine .inr (.inr ?_)
   rw [hstep, h0, cond_false, h1, cond_true]
   exact h
 ·rw [decide_eq_false (by omega), cond_false] at h
  obtain ⟨rfl, rfl, rfl⟩ := h
  exact .inr (.inl ⟨rfl, by omega, rfl, rfl⟩)
noncomputable abbrev ZEN (v0 : Tx) (v1 : Int) (v2 : Nat) (v3) := ([(0, .str true v0), (1, iT v1), (2, ZA 2), (3, ZA 1), (4, ZA 3), (5, ZA 4), (15, ZE v2), (16, iT (v2 : Int)), (17, iT (v3 : Int))] : jU)
theorem Xv (k d m : Nat) (E : tE) (f : tX) (x y : Tx) (cm : Int) (hk : k ≤ 256) (ps : List Tx) (hl : ps.length ≤ 1024) (hm : FP ps m f) (ih : ∀ (i : Nat), i < k → IHo k i E ps (nZ E k y d (ps ++ [(E i).n]) (vU E i x) (i : Int)) x y cm) :
  aj Try.prog (.block 0 (.loop ZC5)) Try.f67.ntmps 5 6 6 (aV [(0, .str true x), (1, iT cm), (2, ZA 2), (3, ZA 1), (4, ZA 3), (5, ZA 4), (15, ZE k), (16, iT (k : Int)), (17, FC)]) (hpL (ZE3 k E y ps m f)) (fun e fr' H' => (e = .normal ∧ (Bv E k (nZ E k y d) ps x cm (k)) = (false, ps) ∧ ∃ (i m' : Nat) (f' : tX), FP ps m' f' ∧ fr' = aV (ZEN x cm k i) ∧ H' = hpL (Vp k E y ps m' f')) ∨ QZ k (Bv E k (nZ E k y d) ps x cm (k)) y E e fr' H') := by
 refine aj.block ((aj.loop (Post := fun e fr' H' => (e = .exit 0 ∧ (Bv E k (nZ E k y d) ps x cm (k)) = (false, ps) ∧ ∃ (i m' : Nat) (f' : tX), FP ps m' f' ∧ fr' = aV (ZEN x cm k i) ∧ H' = hpL (Vp k E y ps m' f')) ∨ QZ k (Bv E k (nZ E k y d) ps x cm (k)) y E e fr' H') (fun r fr' H' => ∃ (i m' : Nat) (f' : tX), r = k - i ∧ i ≤ k ∧ (Bv E k (nZ E k y d) ps x cm (k)) = (Bv E k (nZ E k y d) ps x cm (k - i)) ∧ FP ps m' f' ∧ fr' = aV (ZEN x cm k i) ∧ H' = hpL (Vp k E y ps m' f')) ?_ k _ _ ⟨0, m, f, by omega, by omega, rfl, hm, rfl, rfl⟩).mono fun e fr' H' h => ?_)
 ·rintro r fr' H' ⟨i, m', f', rfl, hi, hq, h1, rfl, rfl⟩
  refine (Ur i k d m' E f' x y cm hk hi ps hl h1 ih).mono fun e fr' H' h => ?_
  rcases h with ⟨rfl, h2, hq2, m'', f'', h3, rfl, rfl⟩ | ⟨rfl, rfl, rfl, rfl⟩ | h
  ·exact ⟨k - (i + 1), by omega, i + 1, m'', f'', rfl, by omega, hq.trans hq2, h3, rfl, rfl⟩
  ·exact .inl ⟨rfl, by rw [hq, Nat.sub_self]; rfl, i, m', f', h1, rfl, rfl⟩
  ·have := h.1
   subst this
   refine .inr ?_
   rw [hq]; exact h
 ·rcases h with ⟨rfl, h⟩ | h
  ·simp only [if_true]; exact .inl ⟨trivial, h⟩
  ·have := h.1
   subst this
   exact .inr h
theorem FQ (k : Nat) (hk : k ≤ 256) (E : tE) {cl : Nat → Tx → Nat} (FR : iq (Ku E k) cl) (st y : Tx) : ∀ (d : Nat) (l : List Nat) (x : Tx) (m : Nat) (f : tX) (ps : List Tx), Way (Ku E k) st l x → l.length + d = k + 1 → ps.length = l.length → FP ps m f →
  aj Try.prog (ak Try.f67) Try.f67.ntmps 5 6 6 (bJ [.str true x, iT (uQ l), ZA 2, ZA 1, ZA 3, ZA 4] 0 .e) (hpL [(0, ZC k E), (1, Ie k), (2, ZX y), (3, .cells true 1 1 (.fn fun _ => [sL 5 ps.length])), (4, Ic), (5, Xr m f)]) (QZ k (nZ E k y d ps x (uQ l)) y E)
 | 0, l, x, m, f, ps, hw, hd, hp, hm => by
  have := FR.short hw
  rw [Hz] at this
  omega
 | d + 1, l, x, m, f, ps, hw, hd, hp, hm => by
  have hl := FR.short hw
  rw [Hz] at hl
  have ih : ∀ (i : Nat), i < k → IHo k i E ps (nZ E k y d (ps ++ [(E i).n]) (vU E i x) (i : Int)) x y (uQ l) := fun i hi hg hc m' f' hm' => by
   have := FQ k hk E FR st y d (l ++ [i]) (vU E i x) m' f' (ps ++ [(E i).n]) (hw.snoc hg (Xp hc)) (by simp; omega) (by simp; omega) hm'
   rw [Qs, show (ps ++ [(E i).n]).length = ps.length + 1 by simp] at this
   exact this
  rw [adF]
  refine aj.gK (fl := [(0, .str true x), (1, iT (uQ l)), (2, ZA 2), (3, ZA 1), (4, ZA 3), (5, ZA 4)]) (bl := [(0, ZC k E), (1, Ie k), (2, ZX y), (3, .cells true 1 1 (.fn fun _ => [sL 5 ps.length])), (4, Ic), (5, Xr m f)]) (iD rfl) (gq rfl) ?_
  refine aj.bn (K1 := 6) (waA 5 (by omega) k ps.length m E f x y (uQ l)) (by omega) ?_
  refine aj.seq (K1 := 6) (by omega) ((waB 5 (by omega) k ps.length m E f x y (uQ l)).mono fun e fr' H' h => ?_)
  cases hxy : x == y with
  | true =>
   rw [hxy, cond_true] at h
   obtain ⟨rfl, rfl, rfl⟩ := h
   have e1 : nZ E k y (d + 1) ps x (uQ l) = (true, ps) := by unfold nZ; rw [hxy, cond_true]
   rw [e1]
   exact ⟨rfl, m, f, rfl, rfl, hm.2, hm.1⟩
  | false =>
   rw [hxy, cond_false] at h
   obtain ⟨rfl, rfl, rfl⟩ := h
   have e1 : nZ E k y (d + 1) ps x (uQ l) = Bv E k (nZ E k y d) ps x (uQ l) k := by conv => lhs; unfold nZ; rw [hxy, cond_false]
   rw [e1]
   refine aj.seq (K1 := 6) (by omega) (aj.bn (K1 := 6) (F1 := [(0, .str true x), (1, iT (uQ l)), (2, ZA 2), (3, ZA 1), (4, ZA 3), (5, ZA 4), (15, ZE k), (16, iT (k : Int)), (17, FC)]) (H1 := [(0, ZC k E), (1, Ie k), (2, ZX y), (3, .cells true 1 1 (.fn fun _ => [sL 5 ps.length])), (4, Ic), (5, Xr m f)]) (aj.toN (waC 5 (by omega) k ps.length m E f x y (uQ l)) ⟨re rfl, re rfl, re rfl, re rfl, re rfl, re rfl, re rfl, re rfl, ⟨_, rfl, AV.ge.int _ _ _ _⟩, trivial⟩ (gq rfl)) (by omega) ((Xv k d m E f x y (uQ l) hk ps (by omega) hm ih).mono fun e fr' H' h => ?_))
   rcases h with ⟨rfl, hq, i, m', f', h1, rfl, rfl⟩ | h
   ·refine (waO 5 (by omega) i k ps.length m' E f' x y (uQ l)).mono fun e fr' H' h => ?_
    obtain ⟨rfl, rfl, rfl⟩ := h
    rw [hq]
    exact ⟨rfl, m', f', rfl, rfl, h1.2, h1.1⟩
   ·have := h.1
    subst this
    exact h


theorem boA (B : Nat) (hB : B ≤ 1) (k : Nat) (E : tE) (f : Nat → List UInt8) (z y : List UInt8) : aj Try.prog ((aT [0] (ak Try.f46))) Try.f46.ntmps B 1 3 (bJ [.slc true false ⟨false, 0, 0, 0⟩ k, .str true z, .str true y] 0 .e) (hpL [(0, .cells false 8 k (.fn fun j => aP (E j)))]) (pP .normal [(0, .slc true false ⟨false, 0, 0, 0⟩ k), (1, .str true z), (3, .ptr ⟨false, 1, 0, 0⟩), (5, .ptr ⟨false, 2, 0, 0⟩)] [(0, .cells false 8 k (.fn fun j => (aP (E j)))), (1, .cells true 1 1 (.lit [] (.n .e (some [.slc true false ⟨false, 0, 0, 0⟩ k]) .e))), (2, .cells true 1 1 (.lit [] (.n .e (some [.str true y]) .e)))]) := jW [] trivial hB
theorem boB (B : Nat) (hB : B ≤ 3) (k : Nat) (E : tE) (f : Nat → List UInt8) (z y : List UInt8) : aj Try.prog ((aT [1,0] (ak Try.f46))) Try.f46.ntmps B 3 4 (aV [(0, .slc true false ⟨false, 0, 0, 0⟩ k), (1, .str true z), (3, .ptr ⟨false, 1, 0, 0⟩), (5, .ptr ⟨false, 2, 0, 0⟩)]) (hpL [(0, .cells false 8 k (.fn fun j => aP (E j))), (1, .cells true 1 1 (.fn fun _ => [.slc true false ⟨false, 0, 0, 0⟩ k])), (2, .cells true 1 1 (.fn fun _ => [.str true y]))]) (pP .normal [(0, .slc true false ⟨false, 0, 0, 0⟩ k), (1, .str true z), (3, .ptr ⟨false, 1, 0, 0⟩), (5, .ptr ⟨false, 2, 0, 0⟩), (7, .ptr ⟨false, 3, 0, 0⟩)] [(0, .cells false 8 k (.fn fun j => (aP (E j)))), (1, .cells true 1 1 (.fn fun x => [.slc true false ⟨false, 0, 0, 0⟩ k])), (2, .cells true 1 1 (.fn fun x => [.str true y])), (3, .cells true 1 1 (.lit [] (.n .e (some [.dL]) .e)))]) := jW [] trivial hB
noncomputable abbrev ZCm := (.cells true 1 1 (.fn fun _ => [.dL]) : aF)
theorem boC (B : Nat) (hB : B ≤ 4) (k : Nat) (E : tE) (f : Nat → List UInt8) (z y : List UInt8) : aj Try.prog ((aT [1,1,0] (ak Try.f46))) Try.f46.ntmps B 4 5 (aV [(0, .slc true false ⟨false, 0, 0, 0⟩ k), (1, .str true z), (3, .ptr ⟨false, 1, 0, 0⟩), (5, .ptr ⟨false, 2, 0, 0⟩), (7, .ptr ⟨false, 3, 0, 0⟩)]) (hpL [(0, .cells false 8 k (.fn fun j => aP (E j))), (1, .cells true 1 1 (.fn fun _ => [.slc true false ⟨false, 0, 0, 0⟩ k])), (2, .cells true 1 1 (.fn fun _ => [.str true y])), (3, .cells true 1 1 (.fn fun _ => [.dL]))]) (pP .normal [(0, .slc true false ⟨false, 0, 0, 0⟩ k), (1, .str true z), (3, .ptr ⟨false, 1, 0, 0⟩), (5, .ptr ⟨false, 2, 0, 0⟩), (7, .ptr ⟨false, 3, 0, 0⟩), (8, .ptr ⟨false, 4, 0, 0⟩)] [(0, .cells false 8 k (.fn fun j => (aP (E j)))), (1, .cells true 1 1 (.fn fun x => [.slc true false ⟨false, 0, 0, 0⟩ k])), (2, .cells true 1 1 (.fn fun x => [.str true y])), (3, .cells true 1 1 (.fn fun x => [.dL])), (4, .cells true 1 1 (.lit [] (.n .e (some [.qV]) .e)))]) := jW [] trivial hB
theorem boD (B : Nat) (hB : B ≤ 5) (k : Nat) (E : tE) (f : Nat → List UInt8) (z y : List UInt8) : aj Try.prog ((aT [1,1,1,0] (ak Try.f46))) Try.f46.ntmps B 5 5 (aV [(0, .slc true false ⟨false, 0, 0, 0⟩ k), (1, .str true z), (3, .ptr ⟨false, 1, 0, 0⟩), (5, .ptr ⟨false, 2, 0, 0⟩), (7, .ptr ⟨false, 3, 0, 0⟩), (8, .ptr ⟨false, 4, 0, 0⟩)]) (hpL [(0, .cells false 8 k (.fn fun j => aP (E j))), (1, .cells true 1 1 (.fn fun _ => [.slc true false ⟨false, 0, 0, 0⟩ k])), (2, .cells true 1 1 (.fn fun _ => [.str true y])), (3, .cells true 1 1 (.fn fun _ => [.dL])), (4, .cells true 1 1 (.fn fun _ => [.qV]))]) (pP .normal [(0, .slc true false ⟨false, 0, 0, 0⟩ k), (1, .str true z), (7, .ptr ⟨false, 3, 0, 0⟩), (8, .ptr ⟨false, 4, 0, 0⟩)] [(0, .cells false 8 k (.fn fun j => (aP (E j)))), (1, .cells true 1 1 (.fn fun x => [.slc true false ⟨false, 0, 0, 0⟩ k])), (2, .cells true 1 1 (.fn fun x => [.str true y])), (3, .cells true 1 1 (.fn fun x => [.dL])), (4, .cells true 1 1 (.fn fun j => bif Nat.beq j 0 then [.fn (Go.Fn.func 67) [] [.ptr ⟨false, 2, 0, 0⟩, .ptr ⟨false, 1, 0, 0⟩, .ptr ⟨false, 3, 0, 0⟩, .ptr ⟨false, 4, 0, 0⟩]] else [.qV]))]) := jW [] trivial hB
noncomputable abbrev ZCb := aT [1,1,1,1,0] (ak Try.f46)
theorem abk (k L m : Nat) (E : tE) (f : Nat → List UInt8) (z y : List UInt8) : cO 6 (Ex.normal) [(7, ZA 3), (10, .fn (Go.Fn.func (67 : Go.FuncId)) [] [ZA 2, ZA 1, ZA 3, ZA 4]), (11, .str true z)] [(0, ZS k E), (1, Bf k), (2, Zm y), (3, Zy L), (4, .cells true 1 1 (.fn fun x => [.fn (Go.Fn.func (67 : Go.FuncId)) [] [ZA 2, ZA 1, ZA 3, ZA 4]])), (5, ZT m f)] (jB Try.f46 ((wZ 2 ZCb)) (aV [(0, ZE k), (1, .str true z), (7, ZA 3), (8, ZA 4)]) (OE k E y L m f) 6 []) := eN trivial
theorem abl (k L m : Nat) (E : tE) (f : Nat → List UInt8) (y : List UInt8) (b : Bool) : cO 6 (Ex.normal) [(7, ZA 3)] [(0, ZS k E), (1, Bf k), (2, Zm y), (3, Zy L), (4, .cells true 1 1 (.fn fun x => [.fn (Go.Fn.func (67 : Go.FuncId)) [] [ZA 2, ZA 1, ZA 3, ZA 4]])), (5, ZT m f)] (jB Try.f46 ((rY 3 ZCb)) (aV [(12, .bD b), (7, ZA 3)]) (OE k E y L m f) 6 []) := eN trivial
theorem boF (B : Nat) (hB : B ≤ 6) (k L m : Nat) (E : tE) (f : Nat → List UInt8) (y : List UInt8) : aj Try.prog ((aT [1,1,1,1,1] (ak Try.f46))) Try.f46.ntmps B 6 6 (aV [(7, .ptr ⟨false, 3, 0, 0⟩)]) (hpL [(0, .cells false 8 k (.fn fun j => aP (E j))), (1, .cells true 1 1 (.fn fun _ => [.slc true false ⟨false, 0, 0, 0⟩ k])), (2, .cells true 1 1 (.fn fun _ => [.str true y])), (3, .cells true 1 1 (.fn fun _ => [sL 5 L])), (4, .cells true 1 1 (.fn fun _ => [.fn (.func 67) [] [.ptr ⟨false, 2, 0, 0⟩, .ptr ⟨false, 1, 0, 0⟩, .ptr ⟨false, 3, 0, 0⟩, .ptr ⟨false, 4, 0, 0⟩]])), (5, .cells true 1 m (.fn (aU f)))]) (pP .ret [(6, sL 5 L)] [(5, .cells true 1 m (.fn (aU f)))]) := jW [] trivial hB
theorem adK : (ak Try.f46) = .seq (aT [0] (ak Try.f46)) (.seq (aT [1,0] (ak Try.f46)) (.seq (aT [1,1,0] (ak Try.f46)) (.seq (aT [1,1,1,0] (ak Try.f46)) (.seq ZCb (aT [1,1,1,1,1] (ak Try.f46)))))) := by kernel_rfl
noncomputable def Iy : Oper := ((jS ZCb).drop 2).headD ⟨none, .move (.tmp 0), 0, "", #[], none⟩
def clA : Call := ⟨.value (.tmp 10), #[.tmp 11, .const (.int .i64 (-1))], #[9, 3]⟩
noncomputable abbrev ZE4 (v0 : Nat) (v1 : tE) (v2 : Tx) := ([(0, ZC v0 v1), (1, Ie v0), (2, ZX v2), (3, .cells true 1 1 (.fn fun _ => [sL 5 0])), (4, Ic), (5, .cells true 1 0 (.fn (aU (fun _ => []))))] : tH)
noncomputable abbrev ZE5 (v0 : Nat) (v1 : tE) (v2 v3 : Tx) (v4 v5) := ([(0, ZC v0 v1), (1, Ie v0), (2, ZX v2), (3, .cells true 1 1 (.fn fun _ => [sL 5 (nZ v1 v0 v2 (v0 + 1) [] v3 (-1)).2.length])), (4, Ic), (5, Xr v4 v5)] : tH)
theorem Xw (k : Nat) (hk : k ≤ 256) (E : tE) {cl : Nat → Tx → Nat} (FR : iq (Ku E k) cl) (z y : Tx) :
  aj Try.prog ZCb Try.f46.ntmps 1 6 6 (aV [(0, .slc true false ⟨false, 0, 0, 0⟩ k), (1, .str true z), (7, .ptr ⟨false, 3, 0, 0⟩), (8, .ptr ⟨false, 4, 0, 0⟩)]) (hpL [(0, .cells false 8 k (.fn fun j => aP (E j))), (1, .cells true 1 1 (.fn fun _ => [.slc true false ⟨false, 0, 0, 0⟩ k])), (2, .cells true 1 1 (.fn fun _ => [.str true y])), (3, .cells true 1 1 (.fn fun _ => [sL 5 0])), (4, .cells true 1 1 (.fn fun _ => [.fn (.func 67) [] [.ptr ⟨false, 2, 0, 0⟩, .ptr ⟨false, 1, 0, 0⟩, .ptr ⟨false, 3, 0, 0⟩, .ptr ⟨false, 4, 0, 0⟩]])), (5, .cells true 1 0 (.fn (aU (fun _ => []))))]) (fun e fr' H' => e = .normal ∧ ∃ (m' : Nat) (f' : tX), fr' = aV [(7, .ptr ⟨false, 3, 0, 0⟩)] ∧ H' = hpL [(0, .cells false 8 k (.fn fun j => aP (E j))), (1, .cells true 1 1 (.fn fun _ => [.slc true false ⟨false, 0, 0, 0⟩ k])), (2, .cells true 1 1 (.fn fun _ => [.str true y])), (3, .cells true 1 1 (.fn fun _ => [sL 5 (nZ E k y (k + 1) [] z (-1)).2.length])), (4, .cells true 1 1 (.fn fun _ => [.fn (.func 67) [] [.ptr ⟨false, 2, 0, 0⟩, .ptr ⟨false, 1, 0, 0⟩, .ptr ⟨false, 3, 0, 0⟩, .ptr ⟨false, 4, 0, 0⟩]])), (5, .cells true 1 m' (.fn (aU f')))] ∧ FP (nZ E k y (k + 1) [] z (-1)).2 m' f') := by
 refine aj.NZ (o := Iy) (cl := clA) (Bg := .tmp 10) (f := 67) (fn := Try.f67) (body := (ak Try.f67)) (pre := []) (cap := [.ptr ⟨false, 2, 0, 0⟩, .ptr ⟨false, 1, 0, 0⟩, .ptr ⟨false, 3, 0, 0⟩, .ptr ⟨false, 4, 0, 0⟩]) (args := [.str true z, .int false .i64 (-1), .ptr ⟨false, 2, 0, 0⟩, .ptr ⟨false, 1, 0, 0⟩, .ptr ⟨false, 3, 0, 0⟩, .ptr ⟨false, 4, 0, 0⟩]) y7 2 (by kernel_rfl) (by kernel_rfl) (by kernel_rfl) (by kernel_rfl) rfl (d := 12) (by kernel_rfl) (Nat.le_of_ble_eq_true (by kernel_rfl)) (K1 := 6) (K2 := 6) (by omega) (abk k 0 0 E (fun _ => []) z y) Try.func67 (by kernel_rfl) (by kernel_rfl) rfl (B0 := 5) (by omega) (by omega) (by omega) [(7, .ptr ⟨false, 3, 0, 0⟩)] rfl ⟨re rfl, trivial⟩ rfl
  (V := fun v H' => ∃ (m' : Nat) (f' : tX), v = .bD (nZ E k y (k + 1) [] z (-1)).1 ∧ H' = hpL [(0, .cells false 8 k (.fn fun j => aP (E j))), (1, .cells true 1 1 (.fn fun _ => [.slc true false ⟨false, 0, 0, 0⟩ k])), (2, .cells true 1 1 (.fn fun _ => [.str true y])), (3, .cells true 1 1 (.fn fun _ => [sL 5 (nZ E k y (k + 1) [] z (-1)).2.length])), (4, .cells true 1 1 (.fn fun _ => [.fn (.func 67) [] [.ptr ⟨false, 2, 0, 0⟩, .ptr ⟨false, 1, 0, 0⟩, .ptr ⟨false, 3, 0, 0⟩, .ptr ⟨false, 4, 0, 0⟩]])), (5, .cells true 1 m' (.fn (aU f')))] ∧ FP (nZ E k y (k + 1) [] z (-1)).2 m' f') ?_ (fun v H' hv => by
   obtain ⟨m', f', rfl, rfl, h1⟩ := hv
   exact ⟨[], _, _, abl k _ m' E f' y (nZ E k y (k + 1) [] z (-1)).1, rfl, m', f', rfl, rfl, h1⟩)
 refine aj.gK (fl := [(5, .ptr ⟨false, 4, 0, 0⟩), (4, .ptr ⟨false, 3, 0, 0⟩), (3, .ptr ⟨false, 1, 0, 0⟩), (2, .ptr ⟨false, 2, 0, 0⟩), (1, iT (-1)), (0, .str true z)]) (bl := [(0, .cells false 8 k (.fn fun j => aP (E j))), (1, .cells true 1 1 (.fn fun _ => [.slc true false ⟨false, 0, 0, 0⟩ k])), (2, .cells true 1 1 (.fn fun _ => [.str true y])), (3, .cells true 1 1 (.fn fun _ => [sL 5 0])), (4, .cells true 1 1 (.fn fun _ => [.fn (.func 67) [] [.ptr ⟨false, 2, 0, 0⟩, .ptr ⟨false, 1, 0, 0⟩, .ptr ⟨false, 3, 0, 0⟩, .ptr ⟨false, 4, 0, 0⟩]])), (5, .cells true 1 0 (.fn (aU (fun _ => []))))]) ⟨re rfl, re rfl, re rfl, re rfl, ⟨_, rfl, AV.ge.int _ _ _ _⟩, re rfl, trivial⟩ (gq rfl) ?_
 refine (FQ k hk E FR z y (k + 1) [] z 0 (fun _ => []) [] (.nil _) (by simp) rfl ⟨Nat.le_refl _, fun j hj => by simp at hj⟩).mono fun e fr' H' h => ?_
 obtain ⟨he, m', f', hb, hH, h1, h2⟩ := h
 have hres : Try.f67.results.toList = [.tmp 8] := by kernel_rfl
 refine ⟨.inl he, [.bool (nZ E k y (k + 1) [] z (-1)).1], ⟨H', 6, [], [], True⟩, ?_, trivial, .bD (nZ E k y (k + 1) [] z (-1)).1, fun N μ c h => by simpa only [Rep, jZ] using h, m', f', rfl, hH, h2, h1⟩
 rw [hres]
 show M.andThen (M.ret ((fr'.get 8).getD .top)) _ _ = _
 rw [hb]
 rfl
theorem Nb (k : Nat) (hk : k ≤ 256) (E : tE) {cl : Nat → Tx → Nat} (FR : iq (Ku E k) cl) (z y : Tx) :
  aj Try.prog (ak Try.f46) Try.f46.ntmps 1 1 6 (bJ [.slc true false ⟨false, 0, 0, 0⟩ k, .str true z, .str true y] 0 .e) (hpL [(0, .cells false 8 k (.fn fun j => aP (E j)))]) (fun e fr' H' => e = .ret ∧ fr' = aV [(6, sL 5 (nZ E k y (k + 1) [] z (-1)).2.length)] ∧ H' = hpL [(5, .cells true 1 (nZ E k y (k + 1) [] z (-1)).2.length (.fn (aU (fun j => (nZ E k y (k + 1) [] z (-1)).2.getD j []))))]) := by
 rw [adK]
 refine aj.bn (K1 := 3) (F1 := [(0, .slc true false ⟨false, 0, 0, 0⟩ k), (1, .str true z), (3, .ptr ⟨false, 1, 0, 0⟩), (5, .ptr ⟨false, 2, 0, 0⟩)]) (H1 := [(0, .cells false 8 k (.fn fun j => aP (E j))), (1, .cells true 1 1 (.fn fun _ => [.slc true false ⟨false, 0, 0, 0⟩ k])), (2, .cells true 1 1 (.fn fun _ => [.str true y]))]) (aj.toN (boA 1 (by omega) k E (fun _ => []) z y) (iD rfl) ⟨hs rfl, wG rfl rfl, wG rfl rfl, trivial⟩) (by omega) ?_
 refine aj.bn (K1 := 4) (F1 := [(0, .slc true false ⟨false, 0, 0, 0⟩ k), (1, .str true z), (3, .ptr ⟨false, 1, 0, 0⟩), (5, .ptr ⟨false, 2, 0, 0⟩), (7, .ptr ⟨false, 3, 0, 0⟩)]) (H1 := [(0, .cells false 8 k (.fn fun j => aP (E j))), (1, .cells true 1 1 (.fn fun _ => [.slc true false ⟨false, 0, 0, 0⟩ k])), (2, .cells true 1 1 (.fn fun _ => [.str true y])), (3, .cells true 1 1 (.fn fun _ => [.dL]))]) (aj.toN (boB 1 (by omega) k E (fun _ => []) z y) (iD rfl) ⟨hs rfl, hs rfl, hs rfl, wG rfl rfl, trivial⟩) (by omega) ?_
 refine aj.bn (K1 := 5) (F1 := [(0, .slc true false ⟨false, 0, 0, 0⟩ k), (1, .str true z), (3, .ptr ⟨false, 1, 0, 0⟩), (5, .ptr ⟨false, 2, 0, 0⟩), (7, .ptr ⟨false, 3, 0, 0⟩), (8, .ptr ⟨false, 4, 0, 0⟩)]) (H1 := [(0, .cells false 8 k (.fn fun j => aP (E j))), (1, .cells true 1 1 (.fn fun _ => [.slc true false ⟨false, 0, 0, 0⟩ k])), (2, .cells true 1 1 (.fn fun _ => [.str true y])), (3, .cells true 1 1 (.fn fun _ => [.dL])), (4, .cells true 1 1 (.fn fun _ => [.qV]))]) (aj.toN (boC 1 (by omega) k E (fun _ => []) z y) (iD rfl) ⟨hs rfl, hs rfl, hs rfl, hs rfl, wG rfl rfl, trivial⟩) (by omega) ?_
 refine aj.bn (K1 := 5) (F1 := [(0, .slc true false ⟨false, 0, 0, 0⟩ k), (1, .str true z), (7, .ptr ⟨false, 3, 0, 0⟩), (8, .ptr ⟨false, 4, 0, 0⟩)]) (H1 := [(0, .cells false 8 k (.fn fun j => aP (E j))), (1, .cells true 1 1 (.fn fun _ => [.slc true false ⟨false, 0, 0, 0⟩ k])), (2, .cells true 1 1 (.fn fun _ => [.str true y])), (3, .cells true 1 1 (.fn fun _ => [.dL])), (4, .cells true 1 1 (.fn fun _ => [.fn (.func 67) [] [.ptr ⟨false, 2, 0, 0⟩, .ptr ⟨false, 1, 0, 0⟩, .ptr ⟨false, 3, 0, 0⟩, .ptr ⟨false, 4, 0, 0⟩]]))]) (aj.toN (boD 1 (by omega) k E (fun _ => []) z y) (iD rfl) ⟨hs rfl, hs rfl, hs rfl, hs rfl, ⟨_, rfl, rfl, rfl, rfl, fun j hj => by
  obtain rfl : j = 0 := by omega
  rfl⟩, trivial⟩) (by omega) ?_
 refine aj.Td (c0 := .fn fun _ => [.dL]) (own := true) 3 1 (aU (fun _ => [])) rfl rfl (by omega) (by omega) ?_
 refine aj.gK (fl := [(0, .slc true false ⟨false, 0, 0, 0⟩ k), (1, .str true z), (7, .ptr ⟨false, 3, 0, 0⟩), (8, .ptr ⟨false, 4, 0, 0⟩)]) (bl := [(0, .cells false 8 k (.fn fun j => aP (E j))), (1, .cells true 1 1 (.fn fun _ => [.slc true false ⟨false, 0, 0, 0⟩ k])), (2, .cells true 1 1 (.fn fun _ => [.str true y])), (3, .cells true 1 1 (.fn fun _ => [sL 5 0])), (4, .cells true 1 1 (.fn fun _ => [.fn (.func 67) [] [.ptr ⟨false, 2, 0, 0⟩, .ptr ⟨false, 1, 0, 0⟩, .ptr ⟨false, 3, 0, 0⟩, .ptr ⟨false, 4, 0, 0⟩]])), (5, .cells true 1 0 (.fn (aU (fun _ => []))))]) (iD rfl) (gq rfl) ?_
 refine aj.seq (K1 := 6) (by omega) ((Xw k hk E FR z y).mono fun e fr' H' h => ?_)
 obtain ⟨rfl, m', f', rfl, rfl, h1, h2⟩ := h
 refine aj.gK (fl := [(7, .ptr ⟨false, 3, 0, 0⟩)]) (bl := [(0, .cells false 8 k (.fn fun j => aP (E j))), (1, .cells true 1 1 (.fn fun _ => [.slc true false ⟨false, 0, 0, 0⟩ k])), (2, .cells true 1 1 (.fn fun _ => [.str true y])), (3, .cells true 1 1 (.fn fun _ => [sL 5 (nZ E k y (k + 1) [] z (-1)).2.length])), (4, .cells true 1 1 (.fn fun _ => [.fn (.func 67) [] [.ptr ⟨false, 2, 0, 0⟩, .ptr ⟨false, 1, 0, 0⟩, .ptr ⟨false, 3, 0, 0⟩, .ptr ⟨false, 4, 0, 0⟩]])), (5, .cells true 1 m' (.fn (aU f')))]) ⟨re rfl, trivial⟩ (gq rfl) ?_
 refine (boF 1 (by omega) k _ m' E f' y).less fun e fr' H' h => ?_
 obtain ⟨rfl, rfl, rfl⟩ := h
 refine ⟨[(5, .cells true 1 (nZ E k y (k + 1) [] z (-1)).2.length (.fn (aU (fun j => (nZ E k y (k + 1) [] z (-1)).2.getD j []))))], ⟨⟨_, rfl, .inr ⟨true, 1, m', _, _, _, rfl, rfl, rfl, h1, fun i hi => ?_⟩⟩, trivial⟩, rfl, rfl, rfl⟩
 show [AV.str true (f' i)] = [AV.str true ((nZ E k y (k + 1) [] z (-1)).2.getD i [])]
 rw [h2 i hi]
def PEs (n : Nat) (f : Nat → List AV) : Prop := n ≤ 256 ∧ (∀ j, j < n → dQ (f j) (aP (aK f j))) ∧ ∃ cl : Nat → Tx → Nat, iq (Ku (aK f) n) cl
/-- along's names, kept from unfolding -/
noncomputable def YC (E : tE) (k : Nat) (z y : Tx) : List Tx := Classical.choose (⟨_, rfl⟩ : ∃ l : List Tx, l = (nZ E k y (k + 1) [] z (-1)).2)
theorem Us (E : tE) (k : Nat) (z y : Tx) : YC E k z y = (nZ E k y (k + 1) [] z (-1)).2 := Classical.choose_spec (⟨_, rfl⟩ : ∃ l : List Tx, l = (nZ E k y (k + 1) [] z (-1)).2)
theorem Xx (E : tE) (k : Nat) (z y : Tx) : (YC E k z y).length ≤ k + 1 := by
 rw [Us]
 have := OI E k y (k + 1) [] z (-1)
 simpa using this
noncomputable def Nc (E : tE) (k : Nat) (z y : Tx) : Nat := Classical.choose (⟨_, rfl⟩ : ∃ m : Nat, m = (YC E k z y).length)
theorem Ut (E : tE) (k : Nat) (z y : Tx) : Nc E k z y = (YC E k z y).length := Classical.choose_spec (⟨_, rfl⟩ : ∃ m : Nat, m = (YC E k z y).length)
noncomputable def alG (E : tE) (k : Nat) (z y : Tx) : Nat → Tx := Classical.choose (⟨_, rfl⟩ : ∃ f : Nat → Tx, f = fun j => (YC E k z y).getD j [])
theorem abm (E : tE) (k : Nat) (z y : Tx) : alG E k z y = fun j => (YC E k z y).getD j [] := Classical.choose_spec (⟨_, rfl⟩ : ∃ f : Nat → Tx, f = fun j => (YC E k z y).getD j [])
noncomputable def mQ : List AV → M AV
 | [x, .str _ z, .str _ y] => (rd 8 x PEs).andThen fun q => newS 1 (Nc (aK q.2) q.1 z y) (aU (alG (aK q.2) q.1 z y))
 | _ => M.no
theorem iU : ∀ args, aC (mQ args) := by
 intro args
 unfold mQ
 split
 ·exact (aC.rd _ _ _).andThen fun _ => aC.newS _ _ _
 ·exact aC.no
theorem jM : ∀ args v g g', mQ args g = .done v g' → bZ Try.prog 46 args v g g' := by
 intro args v g g' h
 unfold mQ at h
 split at h
 case h_2 => exact (bC h).elim
 rename_i x s z s' y
 obtain ⟨⟨n, f⟩, g1, a1, h1⟩ := au h
 clear h
 obtain ⟨qv, kv, fv⟩ := NW a1 (by omega)
 dsimp only at h1 fv
 obtain ⟨rfl, e1, e2, e3⟩ := Fg h1
 rw [kv.1, kv.2.1] at e1
 rw [kv.2.1] at e2 ⊢
 refine G5 (c := (ak Try.f46)) Try.func46 (by kernel_rfl) (by kernel_rfl) kv [⟨x, 8, n, f⟩] (fun hp v hv => by rw [List.mem_singleton.1 hv]; exact (fv hp).1) (gG := [zM 0 n, .str true z, .str true y]) (fun hp N μ cs hcs => by
  simp only [aO] at hcs ⊢
  obtain ⟨c, r, rfl, hc, c2, r2, rfl, hc2, c3, r3, rfl, hc3, rfl⟩ := hcs
  exact ⟨c, _, rfl, LW (l := [⟨x, 8, n, f⟩]) (fv hp).1 rfl hc, c2, _, rfl, by simpa only [Rep] using hc2, c3, [], rfl, by simpa only [Rep] using hc3, rfl⟩) (nms := [5]) (bs := [.cells true 1 (Nc (aK f) n z y) (.fn (aU (alG (aK f) n z y)))]) (K' := 6) (fun hp => ?_) ?_ ?_ e1 (by rw [e2]; rfl) (fun hc => by rw [← e3]; exact hc)
 ·obtain ⟨_, hn, hr, cl, FR⟩ := fv hp
  have hg := aj.SE (H0 := hpL [(0, .cells false 8 n (.fn fun j => aP (aK f j)))]) (H := hpL [(0, .cells false 8 n (.fn f))]) (fun t v ht => ⟨v, ht, AV.ge.refl _⟩) (fun i b hb => by
   have hm := aY hb
   simp only [List.mem_cons, List.not_mem_nil, or_false] at hm
   cases hm
   exact ⟨_, rfl, rfl, rfl, rfl, fun j hj => hr j hj⟩) (Nb n hn (aK f) FR z y)
  refine hg.mono fun e fr' H' h => ?_
  obtain ⟨rfl, rfl, rfl⟩ := h
  rw [Ut, abm, Us]
  refine ⟨.inl rfl, [sL 5 (nZ (aK f) n y (n + 1) [] z (-1)).2.length], _, rfl, trivial, ?_, rfl, ?_, by decide⟩
  ·simp only [AV.ren, AA.ren, zW]
   exact AV.ge.refl _
  ·intro i b hb
   match i, hb with
   | 0, hb =>
    cases hb
    exact ⟨5, _, rfl, rfl, ⟨rfl, rfl, rfl, fun j hj => rfl⟩, rfl, fun j hj v hv => by
     rw [List.mem_singleton.1 hv]; rfl, fun j hj o v hv => by
     rw [List.mem_singleton.1 (List.mem_of_getElem? hv)]; trivial⟩
 ·exact Nat.ble_eq_true_of_le (show Nat.succ g.nx ≤ g.nx + 1 by omega)
 ·show g.nx ≤ g.nx; omega


noncomputable abbrev Zs (v0 : Nat) (w0 w1) := (.cells false 2 1 (.fn fun _ => [.mp w0, .slc true false ⟨false, w1, 0, 0⟩ v0]) : aF)
noncomputable abbrev YD (v0 : Nat) (w0 w1) := (.cells false 2 1 (.fn fun x => [.mp w0, .slc true false ⟨false, w1, 0, 0⟩ v0]) : aF)
noncomputable abbrev ZBp (v0 : Nat) (v1 : Nat → Nat) := (.cells false 1 v0 (.fn fun j => [iT ((v1 j : Nat) : Int)]) : aF)
noncomputable abbrev ZDL (v0 : Nat) (v1 : Nat → Nat) := (.cells false 1 v0 (.fn fun j => [iT (↑(v1 j) : Int)]) : aF)
theorem roA (B : Nat) (hB : B ≤ 3) (n x : Nat) (u : Nat → Nat) : aj Try.prog ((aT [0] (ak Try.f44))) Try.f44.ntmps B 3 3 (bJ [ZA 0, iT (x : Int)] 0 .e) (hpL [(0, Zs n 2 1), (1, ZBp n u)]) (pP .normal [(0, ZA 0), (1, iT (↑x : Int))] [(0, YD n 2 1), (1, ZDL n u)]) := jW [] trivial hB
theorem roL (B : Nat) (hB : B ≤ 3) (n x : Nat) (u : Nat → Nat) (x0 : ((↑x : Int) < (↑n : Int))) (x1 : (0 + x < n)) : aj Try.prog ((aT [1,0,0,0] (ak Try.f44))) Try.f44.ntmps B 3 3 (aV [(0, ZA 0), (1, iT (x : Int))]) (hpL [(0, Zs n 2 1), (1, ZBp n u)]) fun e fr' H' => (cond (decide ((↑(u (0 + x)) : Int) = (↑x : Int))) (pP (.exit 0) [(0, ZA 0), (1, iT (↑x : Int))] [(0, YD n 2 1), (1, ZDL n u)] e fr' H') (pP .normal [(0, ZA 0), (1, iT (↑(u (0 + x)) : Int))] [(0, YD n 2 1), (1, ZDL n u)] e fr' H')) := cD (fun q0 t0 => jW [fF] (I3 (ai (show 0 ≤ (↑x : Int) by omega) x0) x1 (nt t0)) hB) (fun q0 t0 => jW [tT] (I5 (ai (show 0 ≤ (↑x : Int) by omega) x0) x1 (nf t0) (ai (show 0 ≤ (↑x : Int) by omega) x0) x1) hB)
theorem roE (B : Nat) (hB : B ≤ 3) (n x : Nat) (u : Nat → Nat) : aj Try.prog ((aT [1,1] (ak Try.f44))) Try.f44.ntmps B 3 3 (aV [(0, ZA 0), (1, iT (x : Int))]) (hpL [(0, Zs n 2 1), (1, ZBp n u)]) (pP .ret [(4, iT (↑x : Int))] [(0, YD n 2 1), (1, ZDL n u)]) := jW [] trivial hB
theorem adL : (ak Try.f44) = .seq (aT [0] (ak Try.f44)) (.seq (.block 0 (.loop (aT [1,0,0,0] (ak Try.f44)))) (aT [1,1] (ak Try.f44))) := by kernel_rfl
theorem Qw (n x : Nat) (u : Nat → Nat) (hu : ∀ j, u j ≤ j) (hx : x < n) (hn : n ≤ 9223372036854775807) : aj Try.prog (ak Try.f44) Try.f44.ntmps 3 3 3 (bJ [ZA 0, iT (x : Int)] 0 .e) (hpL [(0, Zs n 2 1), (1, ZBp n u)]) (fun e fr' H' => e = .ret ∧ fr' = aV [(4, iT ((root u x : Nat) : Int))]) := by
 rw [adL]
 refine aj.bn (K1 := 3) (F1 := [(0, ZA 0), (1, iT (x : Int))]) (H1 := [(0, Zs n 2 1), (1, ZBp n u)]) (roA 3 (by omega) n x u) (by omega) ?_
 refine aj.seq (K1 := 3) (by omega) (aj.block ((aj.loop (Post := fun e fr' H' => e = .exit 0 ∧ fr' = aV [(0, ZA 0), (1, iT ((root u x : Nat) : Int))] ∧ H' = hpL [(0, Zs n 2 1), (1, ZBp n u)]) (fun r fr' H' => r < n ∧ root u r = root u x ∧ fr' = aV [(0, ZA 0), (1, iT (r : Int))] ∧ H' = hpL [(0, Zs n 2 1), (1, ZBp n u)]) ?_ x _ _ ⟨hx, rfl, rfl, rfl⟩).mono fun e fr' H' h => ?_))
 ·rintro r fr' H' ⟨hr, hq, rfl, rfl⟩
  refine (roL 3 (by omega) n r u (by omega) (by omega)).mono fun e fr' H' h => ?_
  rw [Nat.zero_add] at h
  have hur := hu r
  by_cases c : u r = r
  ·rw [decide_eq_true (by omega), cond_true] at h
   obtain ⟨rfl, rfl, rfl⟩ := h
   refine ⟨rfl, ?_, rfl⟩
   rw [← hq, kZ c]
  ·rw [decide_eq_false (by omega), cond_false] at h
   obtain ⟨rfl, rfl, rfl⟩ := h
   exact ⟨u r, by omega, by omega, (vP hu r).trans hq, rfl, rfl⟩
 ·obtain ⟨rfl, rfl, rfl⟩ := h
  simp only [if_true]
  refine (roE 3 (by omega) n (root u x) u).mono fun e fr' H' h => ?_
  obtain ⟨rfl, rfl, rfl⟩ := h
  exact ⟨rfl, rfl⟩
/-- the sets' places, by their rows -/
def uO (n : Nat) (c : Nat → List AV) (j : Nat) : Nat := if j < n then (match c j with | [.int _ _ v] => v.toNat | _ => 0) else 0
def RQ (n m : Nat) (c : Nat → List AV) (v : Int) : Prop := n ≤ m ∧ n ≤ 4096 ∧ 0 ≤ v ∧ v < n ∧ ∀ j, j < n → dQ (c j) [iT ((uO n c j : Nat) : Int)] ∧ uO n c j ≤ j
theorem kD {N K0 i : Nat} {μ : MM} {ρ : Nat → Nat} {a : AA} {c : Value} (h : Rep N μ (.ptr a) c) (h1 : a.i = 0) (h2 : a.o = 0) (hi : i < K0) (e : ρ i = a.g) : Rep K0 (μ.via ρ) (.ptr ⟨false, i, 0, 0⟩) c := by
 simp only [Rep] at h ⊢
 refine ⟨hi, h.2.trans ?_⟩
 simp only [MM.addr, MM.via, e, h1, h2]
theorem N9 {N : Nat} {μ : MM} {hp : Array Obj} {g sz n m : Nat} {own : Bool} {c : Cont} {rows : Nat → List AV} (h : bY N μ hp g (.cells own sz m c)) (hn : n ≤ m) (k : ∀ j, j < n → dQ (c.row j) (rows j)) : bY N μ hp g (.cells false sz n (.fn rows)) := by
 refine ⟨h.1, h.2.1, fun hr => ?_⟩
 have hr' : 0 < n := by
  rcases hr with hr | hr
  ·exact hr
  ·cases hr.1
 obtain ⟨cur, ty, fz, p1, p2, p3, p4⟩ := h.2.2 (.inl (by omega))
 exact ⟨cur, ty, fz, p1, Nat.le_trans (Nat.add_le_add_left (Nat.mul_le_mul_right _ hn) _) p2, fun h => (by cases h), fun i hi => fM.ge (p4 i (by omega)) (k i hi)⟩
theorem Uu {s own : Bool} {a : AA} {len q : Nat} (h1 : a.i = 0) (h2 : a.o = 0) (e : a.g = q) : AV.ge (.slc s own a len) (.slc true false ⟨false, q, 0, 0⟩ len) := fun N μ c h => by
 simp only [Rep, tZ] at h ⊢
 obtain ⟨hg, A, C, rfl, hl, k1, k2, k3⟩ := h
 subst e
 exact ⟨hg, A, C, rfl, hl, fun h0 => (k1 h0).trans (by simp only [MM.addr, h1, h2]), fun h => (by cases h), fun h => (by cases h)⟩
noncomputable def qO : List AV → M AV
 | [.ptr a, .int _ .i64 v] => (jk a.g).andThen fun b =>
  match b.2.2.2.row 0 with
  | [.mp p, .slc s1 o1 a1 len] => (jk a1.g).andThen fun b2 => (M.dh (Nat.beq a.i 0 && Nat.beq a.o 0 && Nat.beq b.2.1 2 && Nat.beq b.2.2.1 1 && Nat.beq a1.i 0 && Nat.beq a1.o 0 && Nat.beq b2.2.1 1 && !Nat.beq a.g a1.g)).andThen fun _ => (M.req (RQ len b2.2.2.1 b2.2.2.2.row v)).andThen fun _ => M.ret (iT ((root (uO len b2.2.2.2.row) v.toNat : Nat) : Int))
  | _ => M.no
 | _ => M.no
theorem jO : ∀ args, aC (qO args) := by
 intro args
 unfold qO
 split
 ·refine (aC.jk _).andThen fun b => ?_
  split
  ·exact (aC.jk _).andThen fun _ => (aC.dh _).andThen fun _ => (aC.req _).andThen fun _ => aC.ret _
  ·exact aC.no
 ·exact aC.no
theorem lQ : ∀ args v g g', qO args g = .done v g' → bZ Try.prog 44 args v g g' := by
 intro args v g g' h
 unfold qO at h
 split at h
 case h_2 => exact (bC h).elim
 rename_i a s v
 obtain ⟨⟨ob, zb, mb, cb⟩, g1, a1, h1⟩ := au h
 clear h
 obtain ⟨t1, rfl⟩ := eu a1
 dsimp only at h1 t1
 generalize r1 : cb.row 0 = R1 at h1
 split at h1
 case h_2 => exact (bC h1).elim
 rename_i p s1 o1 aa len
 obtain ⟨⟨ob2, zb2, mb2, cb2⟩, g2, a2, h2⟩ := au h1
 clear h1
 obtain ⟨t2, rfl⟩ := eu a2
 dsimp only at h2 t2
 obtain ⟨_, g3, a3, h3⟩ := au h2
 clear h2
 obtain ⟨hq, rfl⟩ := aS a3
 simp only [Bool.and_eq_true, Bool.not_eq_true'] at hq
 obtain ⟨⟨⟨⟨⟨⟨⟨q1, q2⟩, q3⟩, q4⟩, q5⟩, q6⟩, q7⟩, q8⟩ := hq
 replace q1 := Nat.eq_of_beq_eq_true q1
 replace q2 := Nat.eq_of_beq_eq_true q2
 obtain rfl := Nat.eq_of_beq_eq_true q3
 obtain rfl := Nat.eq_of_beq_eq_true q4
 replace q5 := Nat.eq_of_beq_eq_true q5
 replace q6 := Nat.eq_of_beq_eq_true q6
 obtain rfl := Nat.eq_of_beq_eq_true q7
 replace q8 := Nat.ne_of_beq_eq_false q8
 obtain ⟨_, g4, a4, h4⟩ := au h3
 have kk := iZ a4
 obtain ⟨rfl, rfl⟩ := aB h4
 refine zQ (c := (ak Try.f44)) Try.func44 (by kernel_rfl) (by kernel_rfl) (gG := [ZA 0, iT ((v.toNat : Nat) : Int)]) (bl := [(0, .cells false 2 1 (.fn fun _ => [.mp 2, .slc true false ⟨false, 1, 0, 0⟩ len])), (1, .cells false 1 len (.fn fun j => [iT ((uO len cb2.row j : Nat) : Int)]))]) (mM := []) (B0 := 3) (K0 := 3) (K' := 3) (p := _) (fun hc => kk.2.2 hc) kk.2.1 (fun i => if i = 0 then a.g else if i = 1 then aa.g else p) ?_ ?_ ?_ ?_ rfl ?_
 ·intro hp N μ cs hr
  simp only [aO] at hr ⊢
  obtain ⟨c1, r, rfl, h1, c2, r', rfl, h2, h3⟩ := hr
  refine ⟨c1, _, rfl, kD h1 q1 q2 (by omega) rfl, c2, _, rfl, ?_, h3⟩
  simp only [Rep] at h2 ⊢
  rw [h2, Int.toNat_of_nonneg hp.2.2.1]
 ·intro hp i b hbb
  have hm := aY hbb
  simp only [List.mem_cons, List.not_mem_nil, or_false] at hm
  rcases hm with hm | hm <;> cases hm
  ·exact ⟨by omega, fun i0 _ v hv => by
    rcases List.mem_cons.1 hv with rfl | hv
    ·rfl
    ·rw [List.mem_singleton.1 hv]; rfl, _, t1, fun N μ hpp k => N9 k (Nat.le_refl _) (fun j hj => by
    obtain rfl : j = 0 := by omega
    rw [r1]
    exact ⟨AV.ge.refl _, rfl, Uu q5 q6 rfl, rfl, trivial⟩), fun h => (by cases h), fun μ j hr => .inl (by omega)⟩
  ·exact ⟨by omega, fun i0 _ v hv => by rw [List.mem_singleton.1 hv]; rfl, _, t2, fun N μ hpp k => N9 k hp.1 (fun j hj => (hp.2.2.2.2 j hj).1), fun h => (by cases h), fun μ j hr => by
    rcases hr with hr | hr
    ·exact .inl (by have := hp.1; omega)
    ·cases hr.1⟩
 ·intro hp i j b b' hi hj e
  have hm := aY hi
  have hm' := aY hj
  simp only [List.mem_cons, List.not_mem_nil, or_false] at hm hm'
  rcases hm with hm | hm <;> rcases hm' with hm' | hm' <;> cases hm <;> cases hm'
  ·rfl
  ·exact absurd e q8
  ·exact absurd e.symm q8
  ·rfl
 ·intro hp
  refine (Qw len v.toNat (uO len cb2.row) (fun j => ?_) (by have := hp.2.2.1; have := hp.2.2.2.1; omega) (by have := hp.2.1; omega)).mono fun e fr' H' h => ?_
  ·by_cases c : j < len
   ·exact (hp.2.2.2.2 j c).2
   ·unfold uO; rw [if_neg c]; omega
  ·obtain ⟨rfl, rfl⟩ := h
   exact ⟨.inl rfl, _, _, res1 (t := 4) (by kernel_rfl) rfl, trivial, AV.ge.refl _, trivial⟩
 ·intro hp i b hi
  refine .inl ⟨by rw [← kk.1]; exact hi, fun j bj hj ho => ?_⟩
  have hm := aY hj
  simp only [List.mem_cons, List.not_mem_nil, or_false] at hm
  rcases hm with hm | hm <;> cases hm <;> cases ho


noncomputable def abo : Known := kc 71 ofBits (kc 74 toBits (kc 72 jw (kc 61 nM (kc 58 jT (kc 73 KP (kc 59 pq (kc 60 pz (kc 35 yS (kc 12 mP (kc 29 zT (kc 46 mQ (kc 44 qO (kn)))))))))))))
theorem OJ : fK Try.prog abo := aH ((fQ Try.prog).fE Try.func71 (by kernel_rfl) (by kernel_rfl) (by kernel_rfl) (by kernel_rfl)) (aH ((fP Try.prog).fE Try.func74 (by kernel_rfl) (by kernel_rfl) (by kernel_rfl) (by kernel_rfl)) (aH gI (aH iK (aH gU (aH nX (aH jy (aH jA (aH nC (aH jL (aH oG (aH jM (aH lQ (qj)))))))))))))
theorem Kv : gY abo := aG aC.ofBits (aG aC.toBits (aG fJ (aG gJ (aG fZ (aG kH (aG iL (aG iM (aG ku (aG iR (aG lS (aG iU (aG jO (lJ)))))))))))))
noncomputable def JD : Calls' := Sx.runN Try.prog abo (bK Try.prog) 1000 50
theorem Uw : dw Try.prog JD := iQ OJ Kv (by kernel_rfl) (by kernel_rfl) 1000 50
theorem Qx (n : Nat) : eF Try.prog (bK Try.prog JD n) n := eX OJ Kv (by kernel_rfl) (by kernel_rfl) 1000 50 n
noncomputable abbrev xB (f : Func) (c : Code) (fr : Fr) (H : T aF) (K : Nat) (path : List Bool) : Aa (Ex × Fr) :=
 bV Try.prog JD (bK Try.prog JD f.ntmps) jH f.ntmps 1000 c fr ⟨H, K, [], path, True⟩


theorem rcR {fn : Func} {K K' B : Nat} {e : Ex} {F : jU} {Hl : tH} {c : Code} {fr : Fr} {H : T aF} {path : List Bool} (h : cO K' e F Hl (xB fn c fr H K path)) (hB : B ≤ K) : aj Try.prog c fn.ntmps B K K' fr H fun e' fr' H' => e' = e ∧ fr' = aV F ∧ H' = hpL Hl := aj.runN Uw (Qx _) (gu.none _ _ _) h hB
theorem Ig {fn : Func} {K K' B : Nat} {e : Ex} {F : jU} {Hl : tH} {c : Code} {fr : Fr} {H : T aF} (path : List Bool) {q : Prop} (hq : q) (hB : B ≤ K) (h : jg K' e F Hl (xB fn c fr H K path) = (e = e ∧ ql F ∧ qm Hl ∧ true = true ∧ q) := by kernel_rfl) : aj Try.prog c fn.ntmps B K K' fr H fun e' fr' H' => e' = e ∧ fr' = aV F ∧ H' = hpL Hl := rcR (eqn h hq) hB
noncomputable abbrev ZL (v0 : Nat) (v1 : Nat → Nat) := (.cells true 1 v0 (.fn fun k => [iT ((v1 k : Nat) : Int)]) : aF)
noncomputable abbrev ZU (v0 : Nat) (v1 : Nat → Nat) := (.cells true 1 v0 (.fn fun k => [iT (↑(v1 k) : Int)]) : aF)
theorem jnA (B : Nat) (hB : B ≤ 12) (n : Nat) (u : Nat → Nat) (zl : List (List UInt8 × Int)) (x y : List UInt8) (sb : Bool) : aj Try.prog ((aT [0] (ak Try.f41))) Try.f41.ntmps B 12 12 (bJ [ZA 9, .str true x, .str true y] 0 .e) (hpL [(9, Zs n 11 10), (10, ZL n u), (11, .aJ sb zl)]) (pP .normal [(0, ZA 9), (1, .str true x), (2, .str true y)] [(9, YD n 11 10), (10, ZU n u), (11, aF.aJ sb zl)]) := Ig [] trivial hB
noncomputable abbrev YE (v0 : Nat → Nat) (v1) := (.int true .i64 (↑(v0 v1) : Int) : AV)
theorem jnB (B : Nat) (hB : B ≤ 12) (n : Nat) (u : Nat → Nat) (zl : List (List UInt8 × Int)) (x y : List UInt8) (j : Nat) (sb : Bool) (x0 : (n ≤ 4096)) (x1 : ((0 : Int) ≤ Option.getD (cZ seq x zl) (0 : Int))) (x2 : (Option.getD (cZ seq x zl) 0 < (↑n : Int))) (x3 : (∀ (j : Nat), j < n → dQ [iT (↑(u j) : Int)] [iT (↑(uO n (Cont.row (.fn fun k => [YE u k])) j) : Int)] ∧ uO n (Cont.row (.fn fun k => [iT (↑(u k) : Int)])) j ≤ j)) (x4 : ((0 : Int) ≤ Option.getD (cZ seq y zl) (0 : Int))) (x5 : (Option.getD (cZ seq y zl) 0 < (↑n : Int))) : aj Try.prog ((aT [1,0] (ak Try.f41))) Try.f41.ntmps B 12 12 (aV [(0, ZA 9), (1, .str true x), (2, .str true y)]) (hpL [(9, Zs n 11 10), (10, ZL n u), (11, .aJ sb zl)]) (pP .normal [(0, ZA 9), (7, iT (↑(root (uO n (Cont.row (.fn fun k => [YE u k]))) (Int.toNat (Option.getD (cZ seq x zl) (0 : Int)))) : Int)), (8, iT (↑(root (uO n (Cont.row (.fn fun k => [YE u k]))) (Int.toNat (Option.getD (cZ seq y zl) (0 : Int)))) : Int))] [(9, YD n 11 10), (10, ZU n u), (11, aF.aJ sb zl)]) := Ig [] (I2 (ai (show n ≤ n by omega) (ai x0 (ai x1 (ai x2 x3)))) (ai (show n ≤ n by omega) (ai x0 (ai x4 (ai x5 x3))))) hB
theorem jnC (B : Nat) (hB : B ≤ 12) (n : Nat) (u : Nat → Nat) (zl : List (List UInt8 × Int)) (x : List UInt8) (i j : Nat) (sb : Bool) (x0 : ((if (↑j : Int) > (↑i : Int) then (↑j : Int) else (↑i : Int)) < (↑n : Int))) (x1 : (0 + Int.toNat (if (↑j : Int) > (↑i : Int) then (↑j : Int) else (↑i : Int)) < n)) : aj Try.prog ((aT [1,1,0] (ak Try.f41))) Try.f41.ntmps B 12 12 (aV [(0, ZA 9), (7, iT (i : Int)), (8, iT (j : Int))]) (hpL [(9, Zs n 11 10), (10, ZL n u), (11, .aJ sb zl)]) (pP .normal [(7, iT (↑i : Int)), (8, iT (↑j : Int))] [(9, YD n 11 10), (10, .cells true 1 n (.fn fun j_1 => bif Nat.beq j_1 (0 + Int.toNat (if (↑j : Int) > (↑i : Int) then (↑j : Int) else (↑i : Int))) then [iT (if (↑j : Int) < (↑i : Int) then (↑j : Int) else (↑i : Int))] else [iT (↑(u j_1) : Int)])), (11, aF.aJ sb zl)]) := Ig [] (I3 (ai (show (0 : Int) ≤ if (↑j : Int) > (↑i : Int) then (↑j : Int) else (↑i : Int) by omega) x0) x1 (show 1 ≤ 1 by omega)) hB
theorem jnD (B : Nat) (hB : B ≤ 12) (n : Nat) (u : Nat → Nat) (zl : List (List UInt8 × Int)) (x : List UInt8) (i j : Nat) (sb : Bool) : aj Try.prog ((aT [1,1,1] (ak Try.f41))) Try.f41.ntmps B 12 12 (aV [(7, iT (i : Int)), (8, iT (j : Int))]) (hpL [(9, Zs n 11 10), (10, ZL n u), (11, .aJ sb zl)]) (pP .ret [(6, .bD !decide ((↑i : Int) = (↑j : Int)))] [(9, YD n 11 10), (10, ZU n u), (11, aF.aJ sb zl)]) := Ig [] trivial hB
theorem Kw {u u' : Nat → Nat} (hu : ∀ j, u j ≤ j) : ∀ (f k : Nat), (∀ j, j ≤ k → u j = u' j) → rt u f k = rt u' f k
 | 0, k, _ => rfl
 | f + 1, k, h => by
  unfold rt
  rw [← h k (Nat.le_refl _)]
  split
  ·rfl
  ·exact Kw hu f _ fun j hj => h j (Nat.le_trans hj (hu k))
theorem xC {u u' : Nat → Nat} (hu : ∀ j, u j ≤ j) {k : Nat} (h : ∀ j, j ≤ k → u j = u' j) : root u k = root u' k := Kw hu k k h
/-- where a name lies in the sets -/
def bU (zl : tM) (x : Tx) : Nat := ((cZ seq x zl).getD 0).toNat
theorem adM : (ak Try.f41) = .seq (aT [0] (ak Try.f41)) (.seq (aT [1,0] (ak Try.f41)) (.seq (aT [1,1,0] (ak Try.f41)) (aT [1,1,1] (ak Try.f41)))) := by kernel_rfl
theorem Qy (n : Nat) (u : Nat → Nat) (zl : tM) (x y : Tx) (sb : Bool) (hn : n ≤ 4096) (hu : ∀ j, u j ≤ j) (hz : ∀ x, 0 ≤ (cZ seq x zl).getD 0 ∧ (cZ seq x zl).getD 0 < (n : Int)) :
  aj Try.prog (ak Try.f41) Try.f41.ntmps 12 12 12 (bJ [ZA 9, .str true x, .str true y] 0 .e) (hpL [(9, Zs n 11 10), (10, ZL n u), (11, .aJ sb zl)]) (fun e fr' H' => e = .ret ∧ fr' = aV [(6, .bD (!decide (((root u (bU zl x) : Nat) : Int) = ((root u (bU zl y) : Nat) : Int))))] ∧ H' = hpL [(9, Zs n 11 10), (10, .cells true 1 n (.fn fun k => [iT (((jn u (bU zl x) (bU zl y)) k : Nat) : Int)])), (11, .aJ sb zl)]) := by
 have hw : ∀ j, j < n → uO n (Cont.row (.fn fun k => [iT ((u k : Nat) : Int)])) j = u j := fun j hj => by
  unfold uO
  rw [if_pos hj]
  show ((u j : Nat) : Int).toNat = u j
  omega
 have lx : (bU zl x) < n := by have := hz x; unfold bU; omega
 have ly : (bU zl y) < n := by have := hz y; unfold bU; omega
 have rx := sH hu (bU zl x)
 have ry := sH hu (bU zl y)
 have ex : root (uO n (Cont.row (.fn fun k => [iT ((u k : Nat) : Int)]))) (bU zl x) = root u (bU zl x) := (xC hu fun j hj => (hw j (by omega)).symm).symm
 have ey : root (uO n (Cont.row (.fn fun k => [iT ((u k : Nat) : Int)]))) (bU zl y) = root u (bU zl y) := (xC hu fun j hj => (hw j (by omega)).symm).symm
 rw [adM]
 refine aj.bn (K1 := 12) (jnA 12 (by omega) n u zl x y sb) (by omega) ?_
 refine aj.bn (K1 := 12) (F1 := [(0, ZA 9), (7, iT ((root u (bU zl x) : Nat) : Int)), (8, iT ((root u (bU zl y) : Nat) : Int))]) (H1 := [(9, Zs n 11 10), (10, ZL n u), (11, .aJ sb zl)]) (aj.toN (jnB 12 (by omega) n u zl x y 0 sb hn (hz x).1 (hz x).2 (fun j hj => ⟨⟨by rw [hw j hj]; exact AV.ge.refl _, rfl, trivial⟩, by rw [hw j hj]; exact hu j⟩) (hz y).1 (hz y).2) ⟨re rfl, ⟨_, rfl, by
  show AV.ge (iT ((root (uO n (Cont.row (.fn fun k => [AV.int true .i64 ((u k : Nat) : Int)]))) (bU zl x) : Nat) : Int)) _
  rw [ex]; exact AV.ge.refl _⟩, ⟨_, rfl, by
  show AV.ge (iT ((root (uO n (Cont.row (.fn fun k => [AV.int true .i64 ((u k : Nat) : Int)]))) (bU zl y) : Nat) : Int)) _
  rw [ey]; exact AV.ge.refl _⟩, trivial⟩ (gq rfl)) (by omega) ?_
 have mx : (if ((root u (bU zl y) : Nat) : Int) > ((root u (bU zl x) : Nat) : Int) then ((root u (bU zl y) : Nat) : Int) else ((root u (bU zl x) : Nat) : Int)) = ((max (root u (bU zl x)) (root u (bU zl y)) : Nat) : Int) := by split <;> omega
 have mn : (if ((root u (bU zl y) : Nat) : Int) < ((root u (bU zl x) : Nat) : Int) then ((root u (bU zl y) : Nat) : Int) else ((root u (bU zl x) : Nat) : Int)) = ((min (root u (bU zl x)) (root u (bU zl y)) : Nat) : Int) := by split <;> omega
 refine aj.bn (K1 := 12) (F1 := [(7, iT ((root u (bU zl x) : Nat) : Int)), (8, iT ((root u (bU zl y) : Nat) : Int))]) (H1 := [(9, Zs n 11 10), (10, .cells true 1 n (.fn fun k => [iT (((jn u (bU zl x) (bU zl y)) k : Nat) : Int)])), (11, .aJ sb zl)]) (aj.toN (jnC 12 (by omega) n u zl x (root u (bU zl x)) (root u (bU zl y)) sb (by rw [mx]; omega) (by rw [mx]; omega)) (iD rfl) ⟨hs rfl, ⟨_, rfl, rfl, rfl, rfl, fun k hk => ?_⟩, hs rfl, trivial⟩) (by omega) ?_
 ·show (bif Nat.beq k (0 + Int.toNat (if ((root u (bU zl y) : Nat) : Int) > ((root u (bU zl x) : Nat) : Int) then ((root u (bU zl y) : Nat) : Int) else ((root u (bU zl x) : Nat) : Int))) then [iT (if ((root u (bU zl y) : Nat) : Int) < ((root u (bU zl x) : Nat) : Int) then ((root u (bU zl y) : Nat) : Int) else ((root u (bU zl x) : Nat) : Int))] else [iT ((u k : Nat) : Int)]) = [iT ((jn u (bU zl x) (bU zl y) k : Nat) : Int)]
  rw [mx, mn, Nat.zero_add, Int.toNat_natCast]
  unfold jn
  cases q : Nat.beq k (max (root u (bU zl x)) (root u (bU zl y))) with
  | true => rw [cond_true, if_pos (Nat.eq_of_beq_eq_true q)]
  | false => rw [cond_false, if_neg (Nat.ne_of_beq_eq_false q)]
 ·exact (jnD 12 (by omega) n _ zl x (root u (bU zl x)) (root u (bU zl y)) sb).mono fun e fr' H' h => h


def JQ (len m : Nat) (c2 : Nat → List AV) (zl : tM) : Prop := len = m ∧ len ≤ 4096 ∧ (∀ j, j < len → dQ (c2 j) [iT ((uO len c2 j : Nat) : Int)] ∧ uO len c2 j ≤ j) ∧ ∀ z, 0 ≤ (cZ seq z zl).getD 0 ∧ (cZ seq z zl).getD 0 < (len : Int)
noncomputable def sS : List AV → M AV
 | [.ptr a, .str _ x, .str _ y] => (jk a.g).andThen fun b =>
  match b.2.2.2.row 0 with
  | [.mp p, .slc s1 o1 a1 len] => (M.pK p).andThen fun mb => (M.bf (Eu mb)).andThen fun my => (jk a1.g).andThen fun b2 => (M.dh (Nat.beq a.i 0 && Nat.beq a.o 0 && Nat.beq b.2.1 2 && Nat.beq b.2.2.1 1 && Nat.beq a1.i 0 && Nat.beq a1.o 0 && Nat.beq b2.2.1 1 && !Nat.beq a.g a1.g && b2.1)).andThen fun _ => (M.req (JQ len b2.2.2.1 b2.2.2.2.row my.2)).andThen fun _ =>
   (M.setB a1.g (.cells true 1 len (.fn fun k => [iT ((jn (uO len b2.2.2.2.row) (bU my.2 x) (bU my.2 y) k : Nat) : Int)]))).andThen fun _ => M.ret (.bD (!decide (((root (uO len b2.2.2.2.row) (bU my.2 x) : Nat) : Int) = ((root (uO len b2.2.2.2.row) (bU my.2 y) : Nat) : Int))))
  | _ => M.no
 | _ => M.no
theorem kY : ∀ args, aC (sS args) := by
 intro args
 unfold sS
 split
 ·refine (aC.jk _).andThen fun b => ?_
  split
  ·exact (aC.pK _).andThen fun _ => (aC.bf _).andThen fun _ => (aC.jk _).andThen fun _ => (aC.dh _).andThen fun _ => (aC.req _).andThen fun _ => (aC.setB _ _).andThen fun _ => aC.ret _
  ·exact aC.no
 ·exact aC.no
theorem l9 {b : aF} {y : Bool × List (Tx × Int)} (h : Eu b = some y) : b = .aJ y.1 y.2 := by
 cases b <;> simp [Eu] at h
 subst h; rfl
theorem nN : ∀ args v g g', sS args g = .done v g' → bZ Try.prog 41 args v g g' := by
 intro args v g g' h
 unfold sS at h
 split at h
 case h_2 => exact (bC h).elim
 rename_i a s x s' y
 obtain ⟨⟨ob, zb, mb, cb⟩, g1, a1, h1⟩ := au h
 clear h
 obtain ⟨t1, rfl⟩ := eu a1
 dsimp only at h1 t1
 generalize r1 : cb.row 0 = R1 at h1
 split at h1
 case h_2 => exact (bC h1).elim
 rename_i p s1 o1 aa len
 obtain ⟨mbk, g2, a2, h2⟩ := au h1
 clear h1
 obtain ⟨tp, rfl⟩ := iG a2
 obtain ⟨⟨sb, zl⟩, g3, a3, h3⟩ := au h2
 clear h2
 obtain ⟨ts, rfl⟩ := aI a3
 obtain rfl := l9 ts
 obtain ⟨⟨ob2, zb2, mb2, cb2⟩, g4, a4, h4⟩ := au h3
 clear h3
 obtain ⟨t2, rfl⟩ := eu a4
 dsimp only at h4 t2 tp
 obtain ⟨_, g5, a5, h5⟩ := au h4
 clear h4
 obtain ⟨hq, rfl⟩ := aS a5
 simp only [Bool.and_eq_true, Bool.not_eq_true'] at hq
 obtain ⟨⟨⟨⟨⟨⟨⟨⟨q1, q2⟩, q3⟩, q4⟩, q5⟩, q6⟩, q7⟩, q8⟩, rfl⟩ := hq
 replace q1 := Nat.eq_of_beq_eq_true q1
 replace q2 := Nat.eq_of_beq_eq_true q2
 obtain rfl := Nat.eq_of_beq_eq_true q3
 obtain rfl := Nat.eq_of_beq_eq_true q4
 replace q5 := Nat.eq_of_beq_eq_true q5
 replace q6 := Nat.eq_of_beq_eq_true q6
 obtain rfl := Nat.eq_of_beq_eq_true q7
 replace q8 := Nat.ne_of_beq_eq_false q8
 obtain ⟨_, g6, a6, h6⟩ := au h5
 have kk := iZ a6
 obtain ⟨_, g7, a7, h7⟩ := au h6
 obtain ⟨rfl, rfl⟩ := aB h7
 obtain ⟨e1, e2, e3⟩ := bM a7
 have hu : JQ len mb2 cb2.row zl → ∀ j, uO len cb2.row j ≤ j := fun hp j => by
  by_cases c : j < len
  ·exact (hp.2.2.1 j c).2
  ·unfold uO; rw [if_neg c]; omega
 have pa : p ≠ a.g := fun e => by rw [e, t1] at tp; cases tp
 have pb : p ≠ aa.g := fun e => by rw [e, t2] at tp; cases tp
 refine zQ (c := (ak Try.f41)) Try.func41 (by kernel_rfl) (by kernel_rfl) (gG := [ZA 9, .str true x, .str true y]) (bl := [(9, .cells false 2 1 (.fn fun _ => [.mp 11, .slc true false ⟨false, 10, 0, 0⟩ len])), (10, .cells true 1 len (.fn fun k => [iT ((uO len cb2.row k : Nat) : Int)])), (11, .aJ sb zl)]) (mM := [(10, .cells true 1 len (.fn fun k => [iT ((jn (uO len cb2.row) (bU zl x) (bU zl y) k : Nat) : Int)])), (11, .aJ sb zl)]) (B0 := 12) (K0 := 12) (K' := 12) (p := JQ len mb2 cb2.row zl) (fun hc => kk.2.2 (by rw [← e3]; exact hc)) (by rw [e2]; exact kk.2.1) (fun i => if i = 9 then a.g else if i = 10 then aa.g else p) ?_ ?_ ?_ ?_ rfl ?_
 ·intro hp N μ cs hr
  simp only [aO] at hr ⊢
  obtain ⟨c1, r, rfl, h1, c2, r', rfl, h2, c3, r3, rfl, h3, h4⟩ := hr
  exact ⟨c1, _, rfl, kD h1 q1 q2 (by omega) rfl, c2, _, rfl, by simpa only [Rep] using h2, c3, _, rfl, by simpa only [Rep] using h3, h4⟩
 ·intro hp i b hbb
  have hm := aY hbb
  simp only [List.mem_cons, List.not_mem_nil, or_false] at hm
  rcases hm with hm | hm | hm <;> cases hm
  ·exact ⟨by omega, fun i0 _ v hv => by
    rcases List.mem_cons.1 hv with rfl | hv
    ·rfl
    ·rw [List.mem_singleton.1 hv]; rfl, _, t1, fun N μ hpp k => N9 k (Nat.le_refl _) (fun j hj => by
    obtain rfl : j = 0 := by omega
    rw [r1]
    exact ⟨AV.ge.refl _, rfl, Uu q5 q6 rfl, rfl, trivial⟩), fun h => (by cases h), fun μ j hr => .inl (by omega)⟩
  ·obtain ⟨rfl, hp2⟩ := hp
   refine ⟨by omega, fun i0 _ v hv => by rw [List.mem_singleton.1 hv]; rfl, _, t2, fun N μ hpp k => ?_, fun h => rfl, fun μ j hr => hr⟩
   refine ⟨k.1, k.2.1, fun hr => ?_⟩
   obtain ⟨cur, ty, fz, p1, p2, p3, p4⟩ := k.2.2 hr
   exact ⟨cur, ty, fz, p1, p2, p3, fun i hi => fM.ge (p4 i hi) (hp2.2.1 i hi).1⟩
  ·exact ⟨by omega, trivial, _, tp, fun N μ hpp k => k, fun h => rfl, fun μ j hr => hr⟩
 ·intro hp i j b b' hi hj e
  have hm := aY hi
  have hm' := aY hj
  simp only [List.mem_cons, List.not_mem_nil, or_false] at hm hm'
  rcases hm with hm | hm | hm <;> rcases hm' with hm' | hm' | hm' <;> cases hm <;> cases hm' <;> first | rfl | exact absurd e q8 | exact absurd e.symm q8 | exact absurd e pa | exact absurd e.symm pa | exact absurd e pb | exact absurd e.symm pb
 ·intro hp
  refine (Qy len (uO len cb2.row) zl x y sb hp.2.1 (hu hp) hp.2.2.2).mono fun e fr' H' h => ?_
  obtain ⟨rfl, rfl, rfl⟩ := h
  exact ⟨.inl rfl, _, _, res1 (t := 6) (by kernel_rfl) rfl, trivial, AV.ge.refl _, gq rfl⟩
 ·intro hp i b hi
  rw [e1, T.bF] at hi
  split at hi
  ·rename_i e
   cases hi
   refine .inr ⟨10, _, by omega, e.symm, rfl, fun j hj v hv => ?_, rfl, rfl, fun μ m hr => hr⟩
   rw [List.mem_singleton.1 hv]; rfl
  ·rename_i e
   rw [kk.1] at hi
   by_cases c : i = p
   ·subst c
    rw [tp] at hi
    cases hi
    exact .inr ⟨11, _, by omega, rfl, rfl, trivial, rfl, rfl, fun μ m hr => hr⟩
   ·refine .inl ⟨hi, fun j bj hj ho => ?_⟩
    have hm := aY hj
    simp only [List.mem_cons, List.not_mem_nil, or_false] at hm
    rcases hm with hm | hm | hm <;> cases hm
    ·cases ho
    ·exact fun k => e k.symm
    ·exact fun k => c k.symm


noncomputable abbrev ZK (v0 : Nat) (v1 : Nat → List UInt8) := (.cells false 1 v0 (.fn (aU v1)) : aF)
noncomputable abbrev ZV (v0 v1 v2 : Nat) := (.cells false 7 1 (.fn fun _ => bQ 6 7 8 v0 v1 v2) : aF)
noncomputable abbrev Za (v0 v1 v2 : Nat) := (.cells false 7 1 (.fn fun x => (bQ 6 7 8 v0 v1 v2)) : aF)
noncomputable abbrev Zb (v0 : List (List UInt8 × Int)) := aF.aJ true v0
noncomputable abbrev D9 (v0 v1 v2 : Nat) (v3 v4 v5 : List (List UInt8 × Int)) (v6 : tE) (v7 v8 : Nat → List UInt8) := hpL [(2, ZV v0 v1 v2), (3, .aJ true v3), (4, .aJ true v4), (5, .aJ true v5), (6, ZC v0 v6), (7, ZK v1 v7), (8, ZK v2 v8)]
noncomputable abbrev YF (v0 v1 v2 : Nat) (v3 v4 v5 : List (List UInt8 × Int)) (v6 : tE) (v7 v8 : Nat → List UInt8) := pP .normal [(0, ZA 2)] [(2, Za v0 v1 v2), (3, Zb v3), (4, Zb v4), (5, Zb v5), (6, ZS v0 v6), (7, ZK v1 v7), (8, ZK v2 v8)]
noncomputable abbrev JI := bJ [ZA 2] 0 .e
theorem agq (B : Nat) (hB : B ≤ 9) (n q r : Nat) (E : tE) (nd br : Nat → List UInt8) (M1 M2 M3 zl : List (List UInt8 × Int)) (x : List UInt8) : aj Try.prog ((aT [0] (ak Try.f40))) Try.f40.ntmps B 9 9 JI (D9 n q r M1 M2 M3 E nd br) (YF n q r M1 M2 M3 E nd br) := Ig [] trivial hB
theorem agr (B : Nat) (hB : B ≤ 9) (n q r : Nat) (E : tE) (nd br : Nat → List UInt8) (M1 M2 M3 zl : List (List UInt8 × Int)) (x : List UInt8) : aj Try.prog ((aT [1,0] (ak Try.f40))) Try.f40.ntmps B 9 12 (zq 0 2) (D9 n q r M1 M2 M3 E nd br) (pP .normal (sQ 0 2 3 11) [(2, Za n q r), (3, Zb M1), (4, Zb M2), (5, Zb M3), (6, ZS n E), (7, ZK q nd), (8, ZK r br), (9, aF.aJ false (oh seq [(48 : UInt8)] (0 : Int) [])), (10, .cells true 1 1 (.lit [Zg] (.n .e (some [Zg]) .e))), (11, .cells true 2 1 (.lit [] (.n .e (some [.mp 9, .slc false true ⟨false, 10, 0, 0⟩ 1]) .e)))]) := Ig [] trivial hB
noncomputable abbrev Z8 (v0 : Nat) := (.cells true 1 (v0 + 1) (.fn fun k => [iT ((k : Nat) : Int)]) : aF)
noncomputable abbrev ZBC (v0 : Nat) := (.cells true 2 1 (.fn fun _ => [.mp 9, sL 10 (v0 + 1)]) : aF)
noncomputable abbrev YG (v0 : Nat) := (.cells true 2 1 (.fn fun x => [.mp 9, sL 10 (v0 + 1)]) : aF)
noncomputable abbrev YH (v0 : Nat) := (.cells true 1 (v0 + 1) (.fn fun k => [iT (↑k : Int)]) : aF)
theorem ags (B : Nat) (hB : B ≤ 12) (n q r i : Nat) (E : tE) (nd br : Nat → List UInt8) (M1 M2 M3 zl : List (List UInt8 × Int)) (x : List UInt8) (x0 : (q * 16 ≤ 140737488355328)) (x1 : (q ≤ 9223372036854775807)) : aj Try.prog ((aT [1,1,0,0] (ak Try.f40))) Try.f40.ntmps B 12 13 (aV (sQ 0 2 3 11)) (hpL [(2, ZV n q r), (3, .aJ true M1), (4, .aJ true M2), (5, .aJ true M3), (6, ZC n E), (7, ZK q nd), (8, ZK r br), (9, .aJ true zl), (10, Z8 i), (11, ZBC i)]) (pP .normal [(3, ZA 11), (12, sL 12 q), (13, iT (↑q : Int)), (14, Zg)] [(2, Za n q r), (3, Zb M1), (4, Zb M2), (5, Zb M3), (6, ZS n E), (7, ZK q nd), (8, ZK r br), (9, Zb zl), (10, YH i), (11, YG i), (12, .cells true 1 q (.fn fun j => [.str true (nd (0 + j))]))]) := Ig [] (I2 (show 0 + q ≤ q by omega) (ai x0 x1)) hB
noncomputable abbrev zY (v0 v1 : Nat) (w0 w1 w2 w3) := ([(3, ZA w0), (w1, sL 12 v0), (w2, iT (v0 : Int)), (w3, iT (v1 : Int))] : jU)
noncomputable abbrev ZEM (v0 : List (List UInt8 × Int)) (v1 v2 : Nat) (v3 : Nat → List UInt8) := hpL [(9, .aJ true v0), (10, Z8 v1), (11, ZBC v1), (12, ZT v2 v3)]
theorem adO (B : Nat) (hB : B ≤ 13) (q i : Nat) (nd br : Nat → List UInt8) (M1 M2 M3 zl : List (List UInt8 × Int)) (x : List UInt8) : aj Try.prog ((aT [1,1,0,1,0,0,0] (ak Try.f40))) Try.f40.ntmps B 13 13 (aV (zY q i 11 12 13 14)) (ZEM zl i q nd) (pP .normal [(3, ZA 11), (12, sL 12 q), (13, iT (↑q : Int)), (14, iT (↑i : Int)), (15, .bD (decide ((↑i : Int) < (↑q : Int))))] [(9, Zb zl), (10, YH i), (11, YG i), (12, ZT q nd)]) := Ig [] trivial hB
noncomputable abbrev Q5 (v0 v1 : Nat) (w0 w1 w2 w3) := ([(3, ZA w0), (w1, sL 12 v0), (w2, EM v0), (w3, EM v1)] : jU)
noncomputable abbrev ZEe (v0 v1 : Nat) (v2 : Bool) (w0 w1 w2 w3 w4) := aV [(3, ZA w0), (w1, sL 12 v0), (w2, iT (v0 : Int)), (w3, iT (v1 : Int)), (w4, .bD v2)]
theorem adP (B : Nat) (hB : B ≤ 13) (q i : Nat) (nd br : Nat → List UInt8) (M1 M2 M3 zl : List (List UInt8 × Int)) (x : List UInt8) (b : Bool) : aj Try.prog ((aT [1,1,0,1,0,0,1,0] (ak Try.f40))) Try.f40.ntmps B 13 13 (ZEe q i b 11 12 13 14 15) (ZEM zl i q nd) fun e fr' H' => (cond (b) (pP .normal (Q5 q i 11 12 13 14) [(9, Zb zl), (10, YH i), (11, YG i), (12, ZT q nd)] e fr' H') (pP (.exit 0) (Q5 q i 11 12 13 14) [(9, Zb zl), (10, YH i), (11, YG i), (12, ZT q nd)] e fr' H')) := cI (fun t0 => Ig [tT] (I1 t0) hB) (fun t0 => Ig [fF] (I1 t0) hB)
theorem agt (B : Nat) (hB : B ≤ 13) (q i : Nat) (nd br : Nat → List UInt8) (M1 M2 M3 zl : List (List UInt8 × Int)) (x : List UInt8) (x0 : ((↑i : Int) < (↑q : Int))) (x1 : (0 + i < q)) : aj Try.prog ((aT [1,1,0,1,0,0,1,1,0,0,0] (ak Try.f40))) Try.f40.ntmps B 13 13 (aV (zY q i 11 12 13 14)) (ZEM zl i q nd) (pP .normal [(3, ZA 11), (5, .str true (nd (0 + i))), (12, sL 12 q), (13, iT (↑q : Int)), (14, iT (↑i : Int))] [(9, Zb zl), (10, YH i), (11, YG i), (12, ZT q nd)]) := Ig [] (I2 (ai (show 0 ≤ (↑i : Int) by omega) x0) x1) hB
theorem agu (B : Nat) (hB : B ≤ 13) (q i : Nat) (nd br : Nat → List UInt8) (M1 M2 M3 zl : List (List UInt8 × Int)) (x : List UInt8) : aj Try.prog ((aT [1,1,0,1,0,0,1,1,0,0,1,0] (ak Try.f40))) Try.f40.ntmps B 13 13 (aV [(3, ZA 11), (12, sL 12 q), (13, iT (q : Int)), (14, iT (i : Int)), (5, .str true x)]) (ZEM zl i q nd) (pP .normal (Q5 q i 11 12 13 14) [(9, aF.aJ true (oh seq x (↑(i + 1) : Int) zl)), (10, YH i), (11, YG i), (12, ZT q nd)]) := Ig [] trivial hB
theorem agv (B : Nat) (hB : B ≤ 13) (q i : Nat) (nd br : Nat → List UInt8) (M1 M2 M3 zl : List (List UInt8 × Int)) (x0 : ((i + 1 + 1) * 8 ≤ 140737488355328)) (x1 : (i + 1 + 1 ≤ 9223372036854775807)) : aj Try.prog ((aT [1,1,0,1,0,0,1,1,0,0,1,1] (ak Try.f40))) Try.f40.ntmps B 13 15 (aV (zY q i 11 12 13 14)) (ZEM zl i q nd) (pP .normal (Q5 q i 11 12 13 14) [(9, Zb zl), (11, .cells true 2 1 (.fn fun j => bif Nat.beq j 0 then [.mp 9, sL 14 (i + 1 + 1)] else [.mp 9, sL 10 (i + 1)])), (12, ZT q nd), (14, .cells true 1 (i + 1 + 1) (.fn fun j => bif decide (j < i + 1) then [iT (↑j : Int)] else [iT (↑(i + 1) : Int)]))]) := Ig [] (I1 (ai (show i + 1 ≤ i + 1 by omega) (ai x0 x1))) hB
theorem agw (B : Nat) (hB : B ≤ 13) (n q i : Nat) (nd br : Nat → List UInt8) (M1 M2 M3 zl : List (List UInt8 × Int)) (x : List UInt8) (x0 : ((↑i : Int) + 1 ≤ (9223372036854775807 : Int))) : aj Try.prog ((aT [1,1,0,1,0,0,1,1,1] (ak Try.f40))) Try.f40.ntmps B 13 13 (aV (zY q i 11 12 13 14)) (ZEM zl n q nd) (pP .normal [(3, ZA 11), (12, sL 12 q), (13, iT (↑q : Int)), (14, JJ i)] [(9, Zb zl), (10, YH n), (11, YG n), (12, ZT q nd)]) := Ig [] (I1 (ai (show -9223372036854775808 ≤ (↑i : Int) + 1 by omega) x0)) hB
theorem agx (B : Nat) (hB : B ≤ 13) (n q r i : Nat) (E : tE) (nd br : Nat → List UInt8) (M1 M2 M3 zl : List (List UInt8 × Int)) (x : List UInt8) : aj Try.prog ((aT [1,1,1] (ak Try.f40))) Try.f40.ntmps B 13 13 (zq 3 11) (hpL [(2, ZV n q r), (3, .aJ true M1), (4, .aJ true M2), (5, .aJ true M3), (6, ZC n E), (7, ZK q nd), (8, ZK r br), (9, .aJ true zl), (10, Z8 i), (11, ZBC i)]) (pP .ret [(2, ZA 11)] [(2, Za n q r), (3, Zb M1), (4, Zb M2), (5, Zb M3), (6, ZS n E), (7, ZK q nd), (8, ZK r br), (9, Zb zl), (10, YH i), (11, YG i)]) := Ig [] trivial hB
def g0 : Tx := [48]
noncomputable abbrev ZC6 := aT [1,1,0,1,0,0] (ak Try.f40)
theorem adQ : (ak Try.f40) = .seq (aT [0] (ak Try.f40)) (.seq (aT [1,0] (ak Try.f40)) (.seq (.seq (aT [1,1,0,0] (ak Try.f40)) (.block 0 (.loop ZC6))) (aT [1,1,1] (ak Try.f40)))) := by kernel_rfl
theorem OL : ZC6 = .seq (aT [1,1,0,1,0,0,0] (ak Try.f40)) (.seq (aT [1,1,0,1,0,0,1,0] (ak Try.f40)) (.seq (.block 1 (.seq (aT [1,1,0,1,0,0,1,1,0,0,0] (ak Try.f40)) (.seq (aT [1,1,0,1,0,0,1,1,0,0,1,0] (ak Try.f40)) (aT [1,1,0,1,0,0,1,1,0,0,1,1] (ak Try.f40))))) (aT [1,1,0,1,0,0,1,1,1] (ak Try.f40)))) := by kernel_rfl
instance : Inhabited El := ⟨⟨0, [], [], [], [], [], 0, 0⟩⟩
theorem take_snoc (l : List Tx) (i : Nat) (h : i < l.length) : l.take (i + 1) = l.take i ++ [l.getD i []] := by
 rw [List.take_add_one, List.getElem?_eq_getElem h]
 simp [List.getElem?_eq_getElem h]
noncomputable abbrev YI (v0 : List Tx) := (.cells true 1 v0.length (.fn (aU (aA v0))) : aF)
noncomputable abbrev Ux (v0 : List Tx) := iT (v0.length : Int)
noncomputable abbrev ZDG (v0 : Nat) := (.cells true 1 ((v0 + 1) + 1) (.fn fun k => [iT ((k : Nat) : Int)]) : aF)
noncomputable abbrev ZEC (v0 : List Tx) (v1 : Nat) := ([(9, .aJ true (ay 0 (g0 :: v0.take (v1 + 1)))), (10, ZDG v1), (11, .cells true 2 1 (.fn fun _ => [.mp 9, sL 10 ((v1 + 1) + 1)])), (12, YI v0)] : tH)
noncomputable abbrev ZEL (v0 : List Tx) (v1 : Nat) := ([(3, ZA 11), (12, sL 12 v0.length), (13, Ux v0), (14, iT (v1 : Int))] : jU)
noncomputable abbrev ZEv (v0 : List Tx) (v1 : Nat) := ([(9, .aJ true (ay 0 (g0 :: v0.take v1))), (10, Z8 v1), (11, ZBC v1), (12, YI v0)] : tH)
theorem Xy (l : List Tx) (i : Nat) (hi : i < l.length) (hq : l.length ≤ 1024) (hp : pos (aA l i) (g0 :: l.take i) = none) :
  aj Try.prog ZC6 Try.f40.ntmps 9 13 13 (aV (ZEL l i)) (hpL (ZEv l i)) (Nm [(3, ZA 11), (12, sL 12 l.length), (13, Ux l), (14, Vl i)] (ZEC l i)) := by
 rw [OL]
 refine aj.bn (K1 := 13) (adO 9 (by omega) l.length i (aA l) (fun _ => []) [] [] [] (ay 0 (g0 :: l.take i)) []) (by omega) ?_
 refine aj.bn (K1 := 13) (F1 := (ZEL l i)) (H1 := (ZEv l i)) ((adP 9 (by omega) l.length i (aA l) (fun _ => []) [] [] [] (ay 0 (g0 :: l.take i)) [] (decide ((i : Int) < (l.length : Int)))).mono fun e fr' H' h => ?_) (by omega) ?_
 ·rw [decide_eq_true (by omega), cond_true] at h
  exact h
 refine aj.bn (K1 := 13) (F1 := (ZEL l i)) (H1 := (ZEC l i)) (aj.nV ?_) (by omega) ?_
 ·refine aj.bn (K1 := 13) (F1 := [(3, ZA 11), (12, sL 12 l.length), (13, Ux l), (14, iT (i : Int)), (5, .str true (aA l i))]) (H1 := (ZEv l i)) (aj.toN (agt 9 (by omega) l.length i (aA l) (fun _ => []) [] [] [] (ay 0 (g0 :: l.take i)) [] (by omega) (by omega)) ⟨re rfl, re rfl, re rfl, re rfl, ⟨_, rfl, by
   show AV.ge (.str true (aA l (0 + i))) _
   rw [Nat.zero_add]; exact AV.ge.refl _⟩, trivial⟩ (gq rfl)) (by omega) ?_
  refine aj.bn (K1 := 13) (F1 := (ZEL l i)) (H1 := [(9, .aJ true (ay 0 (g0 :: l.take (i + 1)))), (10, Z8 i), (11, ZBC i), (12, YI l)]) (aj.toN (agu 9 (by omega) l.length i (aA l) (fun _ => []) [] [] [] (ay 0 (g0 :: l.take i)) (aA l i)) (iD rfl) ⟨⟨_, rfl, by
   rw [y9 (l := g0 :: l.take i) (by simp; omega) hp, take_snoc l i hi]
   exact dD.refl _⟩, gq rfl⟩) (by omega) ?_
  refine (agv 9 (by omega) l.length i (aA l) (fun _ => []) [] [] [] (ay 0 (g0 :: l.take (i + 1))) (by omega) (by omega)).renG fun e fr' H' h => ?_
  obtain ⟨rfl, rfl, rfl⟩ := h
  exact ⟨sg 10 14, (ZEL l i), (ZEC l i), mX (by omega), (yX rfl), ⟨lW rfl rfl (by omega), dX rfl rfl (fun j hj => by
   show (bif decide (j < i + 1) then [iT (j : Int)] else [Vl i]) = [iT (j : Int)]
   by_cases c : j < i + 1
   ·rw [decide_eq_true c, cond_true]
   ·rw [decide_eq_false c, cond_false]
    have : j = i + 1 := by omega
    rw [this]) (fun j _ => rfl) (by omega), dX rfl rfl (fun j hj => by
   obtain rfl : j = 0 := by omega
   rfl) (fun j _ => rfl) (by omega), dX rfl rfl (fun j _ => rfl) (fun j _ => rfl) (by omega), trivial⟩, mY (by omega), rfl, rfl, rfl⟩
 ·refine (aj.toN (agw 9 (by omega) (i + 1) l.length i (aA l) (fun _ => []) [] [] [] (ay 0 (g0 :: l.take (i + 1))) [] (by omega)) ⟨re rfl, re rfl, re rfl, ⟨_, rfl, AV.ge.int' _ _ _ (by omega)⟩, trivial⟩ (gq rfl))
noncomputable abbrev Z6 (v0 : List Tx) := (.cells true 1 (v0.length + 1) (.fn fun k => [iT ((k : Nat) : Int)]) : aF)
noncomputable abbrev Xz (v0 : List Tx) (w0 w1) := (.cells true 2 1 (.fn fun _ => [.mp w0, sL w1 (v0.length + 1)]) : aF)
theorem abp (l : List Tx) (hq : l.length ≤ 1024) :
  aj Try.prog ZC6 Try.f40.ntmps 9 13 13 (aV [(3, ZA 11), (12, sL 12 l.length), (13, Ux l), (14, Ux l)]) (hpL [(9, .aJ true (ay 0 (g0 :: l.take l.length))), (10, Z6 l), (11, Xz l 9 10), (12, YI l)]) (Xm 0 [(3, ZA 11), (12, sL 12 l.length), (13, Ux l), (14, Ux l)] [(9, .aJ true (ay 0 (g0 :: l.take l.length))), (10, Z6 l), (11, Xz l 9 10), (12, YI l)]) := by
 rw [OL]
 refine aj.bn (K1 := 13) (adO 9 (by omega) l.length l.length (aA l) (fun _ => []) [] [] [] (ay 0 (g0 :: l.take l.length)) []) (by omega) ?_
 refine aj.DY (K1 := 13) ((adP 9 (by omega) l.length l.length (aA l) (fun _ => []) [] [] [] (ay 0 (g0 :: l.take l.length)) [] (decide ((l.length : Int) < (l.length : Int)))).mono fun e fr' H' h => ?_) (by omega)
 rw [decide_eq_false (by omega), cond_false] at h
 exact h
theorem abq {own : Bool} {a : AA} {len : Nat} : AV.ge (.slc false own a len) (.slc true own a len) := fun N μ c h => by
 simp only [Rep, tZ] at h ⊢
 obtain ⟨hg, A, C, e, hl, k1, k2, k3⟩ := h
 exact ⟨hg, A, C, e, hl, k1, fun h => (by cases h), k3⟩
def sw9 (x : Nat) : Nat := if x = 9 then 11 else if x = 11 then 9 else x
noncomputable abbrev Ih (v0 : Nat) (v1 : tX) := (.cells false 1 v0 (.fn (aU v1)) : aF)
noncomputable abbrev YJ (v0 : Nat) (v1 : List Tx) (v2 : Nat) := (.cells false 7 1 (.fn fun _ => bQ 6 7 8 v0 v1.length v2) : aF)
noncomputable abbrev YK (v0 : List Tx) := (.cells false 1 v0.length (.fn (aU (aA v0))) : aF)
noncomputable abbrev ZCz (v0 : List Tx) := (.aJ true (ay 0 (g0 :: v0)) : aF)
theorem XA (l : List Tx) (n r : Nat) (E : tE) (br : tX) (M1 M2 M3 : tM) (hq : l.length ≤ 1024) (hp : ∀ i, i < l.length → pos (aA l i) (g0 :: l.take i) = none) :
  aj Try.prog (ak Try.f40) Try.f40.ntmps 9 9 13 JI (hpL [(2, YJ n l r), (3, .aJ true M1), (4, .aJ true M2), (5, .aJ true M3), (6, ZC n E), (7, YK l), (8, Ih r br)]) (fun e fr' H' => e = .ret ∧ fr' = aV [(2, ZA 9)] ∧ H' = hpL [(2, YJ n l r), (3, .aJ true M1), (4, .aJ true M2), (5, .aJ true M3), (6, ZC n E), (7, YK l), (8, Ih r br), (9, Xz l 11 10), (10, Z6 l), (11, ZCz l)]) := by
 rw [adQ]
 refine aj.bn (K1 := 9) (agq 9 (by omega) n l.length r E (aA l) br M1 M2 M3 [] []) (by omega) ?_
 refine aj.seq (K1 := 12) (by omega) ((agr 9 (by omega) n l.length r E (aA l) br M1 M2 M3 [] []).mono fun e fr' H' h => ?_)
 obtain ⟨rfl, rfl, rfl⟩ := h
 refine aj.D6 (fl := (sQ 0 2 3 11)) (bl := [(2, YJ n l r), (3, .aJ true M1), (4, .aJ true M2), (5, .aJ true M3), (6, ZC n E), (7, YK l), (8, Ih r br), (9, .aJ true (ay 0 (g0 :: l.take 0))), (10, .cells true 1 (0 + 1) (.fn fun k => [iT ((k : Nat) : Int)])), (11, .cells true 2 1 (.fn fun _ => [.mp 9, sL 10 (0 + 1)]))]) (iD rfl) ⟨⟨_, rfl, .inl ⟨rfl, rfl, rfl, fun j _ => aQ _ rfl⟩⟩, ⟨_, rfl, .inr ⟨_, _, _, rfl, rfl⟩⟩, ⟨_, rfl, .inr ⟨_, _, _, rfl, rfl⟩⟩, ⟨_, rfl, .inr ⟨_, _, _, rfl, rfl⟩⟩, ⟨_, rfl, .inl ⟨rfl, rfl, rfl, fun j _ => aQ _ rfl⟩⟩, ⟨_, rfl, .inl ⟨rfl, rfl, rfl, fun j _ => aQ _ rfl⟩⟩, ⟨_, rfl, .inl ⟨rfl, rfl, rfl, fun j _ => aQ _ rfl⟩⟩, ⟨_, rfl, .inr ⟨_, _, _, rfl, rfl⟩⟩, ⟨_, rfl, .inl ⟨rfl, rfl, rfl, fun j hj => by
  obtain rfl : j = 0 := by omega
  exact ⟨AV.ge.int _ _ _ _, rfl, trivial⟩⟩⟩, ⟨_, rfl, .inl ⟨rfl, rfl, rfl, fun j hj => by
  obtain rfl : j = 0 := by omega
  exact ⟨AV.ge.refl _, rfl, abq, rfl, trivial⟩⟩⟩, trivial⟩ ?_
 refine aj.bn (K1 := 13) (F1 := [(3, ZA 11), (12, sL 12 l.length), (13, Ux l), (14, Ux l)]) (H1 := [(9, .aJ true (ay 0 (g0 :: l.take l.length))), (10, Z6 l), (11, Xz l 9 10), (12, YI l), (2, YJ n l r), (3, .aJ true M1), (4, .aJ true M2), (5, .aJ true M3), (6, ZC n E), (7, YK l), (8, Ih r br)]) ?_ (by omega) ?_
 ·refine aj.bn (K1 := 13) (F1 := [(3, ZA 11), (12, sL 12 l.length), (13, Ux l), (14, FC)]) (H1 := [(9, .aJ true (ay 0 (g0 :: l.take 0))), (10, .cells true 1 (0 + 1) (.fn fun k => [iT ((k : Nat) : Int)])), (11, .cells true 2 1 (.fn fun _ => [.mp 9, sL 10 (0 + 1)])), (12, YI l), (2, YJ n l r), (3, .aJ true M1), (4, .aJ true M2), (5, .aJ true M3), (6, ZC n E), (7, YK l), (8, Ih r br)]) (aj.toN (ags 9 (by omega) n l.length r 0 E (aA l) br M1 M2 M3 (ay 0 (g0 :: l.take 0)) [] (by omega) (by omega)) ⟨re rfl, re rfl, re rfl, ⟨_, rfl, AV.ge.int _ _ _ _⟩, trivial⟩ ⟨hs rfl, hs rfl, hs rfl, ⟨_, rfl, rfl, rfl, rfl, fun j hj => by
   show [AV.str true (aA l (0 + j))] = [AV.str true (aA l j)]
   rw [Nat.zero_add]⟩, gq rfl⟩) (by omega) ?_
  have hr := aj.rounds (P := Try.prog) (n := Try.f40.ntmps) (B := 9) (K := 13) (id := 0) l.length (fun i => [(3, ZA 11), (12, sL 12 l.length), (13, Ux l), (14, iT (i : Int))]) (fun i => [(9, .aJ true (ay 0 (g0 :: l.take i))), (10, .cells true 1 (i + 1) (.fn fun k => [iT ((k : Nat) : Int)])), (11, .cells true 2 1 (.fn fun _ => [.mp 9, sL 10 (i + 1)])), (12, YI l)]) (fun i hi => Xy l i hi hq (hp i hi)) (abp l hq)
  exact hr.jR (xl := [(2, YJ n l r), (3, .aJ true M1), (4, .aJ true M2), (5, .aJ true M3), (6, ZC n E), (7, YK l), (8, Ih r br)]) (by omega) ⟨⟨by omega, fun j hj v hv => List.all_eq_true.1 (show (bQ 6 7 8 n l.length r).all (fun v => v.low 9) = true from rfl) v hv⟩, ⟨by omega, trivial⟩, ⟨by omega, trivial⟩, ⟨by omega, trivial⟩, ⟨by omega, fun j hj v hv => List.all_eq_true.1 (show (aP (E j)).all (fun v => v.low 9) = true from rfl) v hv⟩, ⟨by omega, fun j hj v hv => List.all_eq_true.1 (show (aU (aA l) j).all (fun v => v.low 9) = true from rfl) v hv⟩, ⟨by omega, fun j hj v hv => List.all_eq_true.1 (show (aU br j).all (fun v => v.low 9) = true from rfl) v hv⟩, trivial⟩ rfl rfl ⟨.inl rfl, .inl rfl, .inl rfl, .inl rfl, trivial⟩
 ·refine aj.gK (fl := [(3, ZA 11)]) (bl := [(2, YJ n l r), (3, .aJ true M1), (4, .aJ true M2), (5, .aJ true M3), (6, ZC n E), (7, YK l), (8, Ih r br), (9, .aJ true (ay 0 (g0 :: l.take l.length))), (10, Z6 l), (11, Xz l 9 10)]) ⟨re rfl, trivial⟩ (gq rfl) ?_
  refine (agx 9 (by omega) n l.length r l.length E (aA l) br M1 M2 M3 (ay 0 (g0 :: l.take l.length)) []).renG fun e fr' H' h => ?_
  obtain ⟨rfl, rfl, rfl⟩ := h
  refine ⟨sw9, [(2, ZA 9)], [(2, YJ n l r), (3, .aJ true M1), (4, .aJ true M2), (5, .aJ true M3), (6, ZC n E), (7, YK l), (8, Ih r br), (9, Xz l 11 10), (10, Z6 l), (11, ZCz l)], fun g hg => by unfold sw9; rw [if_neg (by omega), if_neg (by omega)], ⟨⟨_, rfl, AV.ge.refl _, rfl⟩, trivial⟩, ⟨dX rfl rfl (fun j _ => rfl) (fun j _ => rfl) (by omega), lW rfl rfl (by omega), lW rfl rfl (by omega), lW rfl rfl (by omega), dX rfl rfl (fun j _ => rfl) (fun j _ => rfl) (by omega), dX rfl rfl (fun j _ => rfl) (fun j _ => rfl) (by omega), dX rfl rfl (fun j _ => rfl) (fun j _ => rfl) (by omega), dX rfl rfl (fun j _ => rfl) (fun j _ => rfl) (by omega), dX rfl rfl (fun j _ => rfl) (fun j _ => rfl) (by omega), lW rfl (by rw [List.take_length]) (by omega), trivial⟩, fun i j _ _ e => by
   unfold sw9 at e
   split at e <;> split at e <;> (try split at e) <;> (try split at e) <;> omega, rfl, rfl, rfl⟩


/-- the zero element, as it is built -/
noncomputable def P9 : List AV := [AV.int false .u8 0, AV.str false [], AV.str false [], AV.str false [], AV.str false [], AV.str false [], AV.flt false 0, KQ 0]
/-- a net's elements and the zero element -/
noncomputable def FT (E : tE) (n j : Nat) : List AV := bif decide (0 + j < n) then aP (E (0 + (0 + j))) else P9
noncomputable def abt (E : tE) (n j : Nat) : List AV := bif decide (j < n) then aP (E (0 + j)) else P9
theorem cz1 {b : Bool} {x y : Int} (hx : x ≠ 1) (hy : y ≠ 1) : (bif b then x else y) ≠ 1 := by cases b <;> assumption
theorem XB (k : Int) (n a b c d : List UInt8) (v : Nat) (ph : Int) : sV k n a b c d v ph ≠ 1 := by
 unfold sV
 repeat' (first | decide | apply cz1)
theorem XC (E : tE) (i : Nat) : jh fG E i ≠ 1 := by
 unfold jh
 refine cz1 (cz1 (by decide) (by decide)) (XB _ _ _ _ _ _ _ _)
theorem OM (E : tE) (n : Nat) : ∀ m, (Hq fG E n m).1 ≠ 1
 | 0 => by
  unfold Hq
  cases decide (32 < (ND E n).length) || decide (64 < (ND E n).length + (BR E n).length) <;> decide
 | m + 1 => by
  unfold Hq
  cases decide (jh fG E (n - (m + 1)) = 0)
  ·exact XC _ _
  ·exact OM E n m
theorem XD (E : tE) (n : Nat) : (ofR fG E n).1 ≠ 1 := by
 unfold ofR
 cases decide (256 < n)
 ·exact OM _ _ _
 ·show (3 : Int) ≠ 1
  decide
theorem Ky {E : tE} {n : Nat} : ∀ m, m ≤ n → (Hq fG E n m).1 = 0 → ∀ j, n - m ≤ j → j < n → jh fG E j = 0
 | 0, _, _, j, h1, h2 => by omega
 | m + 1, hm, h, j, h1, h2 => by
  unfold Hq at h
  by_cases c : jh fG E (n - (m + 1)) = 0
  ·rw [decide_eq_true c, cond_true] at h
   by_cases q : j = n - (m + 1)
   ·rw [q]; exact c
   ·exact Ky m (by omega) h j (by omega) h2
  ·rw [decide_eq_false c, cond_false] at h
   exact absurd h c
theorem Uy {E : tE} {n : Nat} (h : (ofR fG E n).1 = 0) : n ≤ 256 ∧ ∀ j, j < n → jh fG E j = 0 := by
 unfold ofR at h
 by_cases c : 256 < n
 ·rw [decide_eq_true c] at h; exact absurd (show (3 : Int) = 0 from h) (by decide)
 ·rw [decide_eq_false c, cond_false] at h
  exact ⟨by omega, fun j hj => Ky n (Nat.le_refl _) h j (by omega) hj⟩
theorem Uz (E : tE) (n : Nat) : aK (FT E n) n = ⟨0, [], [], [], [], [], 0, 0⟩ := by
 unfold aK FT
 rw [decide_eq_false (by omega), cond_false]; rfl
theorem XE (E : tE) (n : Nat) : (yU (aK (FT E n)) (n + 1)).1 ≠ 0 ∧ (yU (aK (FT E n)) (n + 1)).1 ≠ 1 := by
 rw [Na]
 refine ⟨fun h => ?_, XD _ _⟩
 have := (Uy h).2 n (by omega)
 have c : fG (aK (FT E n) n) ≠ 0 := by rw [Uz]; decide +kernel
 rw [Hw c] at this
 exact c this
theorem Qz (s s' : Bool) : AV.ge (.flt s 0) (.raw s' 0) := fun N μ c h => by
 simp only [Rep] at h ⊢
 obtain ⟨x, rfl, h2, h3⟩ := h
 cases q : isnan x with
 | true => unfold cn at h2; rw [q] at h2; exact absurd (show qn = 0 from h2) (by decide)
 | false =>
  rw [kU q] at h2
  subst h2
  exact ⟨rfl, h3⟩
theorem XF (E : tE) (n : Nat) : PEQ (n + 1) (FT E n) := by
 refine ⟨⟨fun j hj => ?_⟩, fun j hj u hu => ?_⟩
 ·unfold aK FT
  by_cases c : 0 + j < n
  ·rw [decide_eq_true c, cond_true]; exact aQ _ rfl
  ·rw [decide_eq_false c, cond_false]
   exact ⟨AV.ge.int _ _ _ _, rfl, AV.ge.str' _ _ rfl, rfl, AV.ge.str' _ _ rfl, rfl, AV.ge.str' _ _ rfl, rfl, AV.ge.str' _ _ rfl, rfl, AV.ge.str' _ _ rfl, rfl, Qz _ _, rfl, AV.ge.int _ _ _ _, rfl, trivial⟩
 ·unfold FT at hu
  by_cases c : 0 + j < n
  ·rw [decide_eq_true c, cond_true] at hu; exact List.all_eq_true.1 (sJ 0 _) u hu
  ·rw [decide_eq_false c, cond_false] at hu; exact List.all_eq_true.1 (show P9.all (fun v => v.low 0) = true from rfl) u hu
theorem UA {S : Nat → Prop} {E : tE} {n i o : Nat} {v : AV} (h : (abt E n i)[o]? = some v) : v.iy S := by
 unfold abt at h
 by_cases c : i < n
 ·rw [decide_eq_true c] at h
  exact Bq h
 ·rw [decide_eq_false c, cond_false] at h
  unfold P9 at h
  match o, h with
  | 0, h => cases h; trivial
  | 1, h => cases h; trivial
  | 2, h => cases h; trivial
  | 3, h => cases h; trivial
  | 4, h => cases h; trivial
  | 5, h => cases h; trivial
  | 6, h => cases h; trivial
  | 7, h => cases h; trivial



theorem noB (B : Nat) (hB : B ≤ 9) (n q r : Nat) (E : tE) (nd br : Nat → List UInt8) (M1 M2 M3 : List (List UInt8 × Int)) : aj Try.prog ((aT [0] (ak Try.f39))) Try.f39.ntmps B 9 9 JI (D9 n q r M1 M2 M3 E nd br) (YF n q r M1 M2 M3 E nd br) := Ig [] trivial hB
theorem noC (B : Nat) (hB : B ≤ 9) (n q r : Nat) (E : tE) (nd br : Nat → List UInt8) (M1 M2 M3 : List (List UInt8 × Int)) : aj Try.prog ((aT [1,0] (ak Try.f39))) Try.f39.ntmps B 9 9 (zq 0 2) (D9 n q r M1 M2 M3 E nd br) (YF n q r M1 M2 M3 E nd br) := Ig [] trivial hB
noncomputable abbrev TA (v0 v1 : Int) := (.cells true 2 1 (.fn fun _ => [iT v0, iT v1]) : aF)
theorem noE (B : Nat) (hB : B ≤ 10) (n q r : Nat) (E : tE) (nd br : Nat → List UInt8) (M1 M2 M3 : List (List UInt8 × Int)) (u v : Int) : aj Try.prog ((aT [1,1,1] (ak Try.f39))) Try.f39.ntmps B 10 10 (zq 4 9) (hpL [(2, ZV n q r), (3, .aJ true M1), (4, .aJ true M2), (5, .aJ true M3), (6, ZC n E), (7, ZK q nd), (8, ZK r br), (9, TA u v)]) (pP .ret [(2, .bD (decide (u = (1 : Int))))] [(2, Za n q r), (3, Zb M1), (4, Zb M2), (5, Zb M3), (6, ZS n E), (7, ZK q nd), (8, ZK r br)]) := Ig [] trivial hB
theorem abu (n q r : Nat) (E : tE) (nd br : Nat → List UInt8) (M1 M2 M3 : List (List UInt8 × Int)) (c0 : 0 + n ≤ n) (c1 : n * 104 ≤ 140737488355328) (c2 : n ≤ 9223372036854775807) (c3 : ∀ (i : Nat), i < n → ∀ (o : Nat) (v : AV), (aP (E (0 + i)))[o]? = Option.some v → AV.iy (fun g => H9 [(0, 11), (11, 12), (11, 11)] g = true) v) (c4 : n ≤ n) (c5 : (n + 1) * 104 ≤ 140737488355328) (c6 : n + 1 ≤ 9223372036854775807) (c7 : ∀ (i : Nat), i < n + 1 → ∀ (o : Nat) (v : AV), (abt E n i)[o]? = Option.some v → AV.iy (fun g => H9 [(0, 11), (13, 14), (12, 13), (12, 12), (11, 12), (11, 11)] g = true) v) (c8 : 0 + (n + 1) ≤ n + 1) (c9 : PEQ (n + 1) (FT E n)) (c10 : decide (Prod.fst (yU (aK (FT E n)) (n + 1)) = (0 : Int)) = false) : cO 40 (Ex.normal) [(4, ZA 14)] [(2, Za n q r), (3, Zb M1), (4, Zb M2), (5, Zb M3), (6, ZS n E), (7, ZK q nd), (8, ZK r br), (14, .cells true 2 1 (.lit [] (.n .e (some [iT (Prod.fst (yU (aK (FT E n)) (n + 1))), iT (Prod.snd (yU (aK (FT E n)) (n + 1)))]) .e)))] (xB Try.f39 ((aT [1,1,0] (ak Try.f39))) (zq 0 2) (D9 n q r M1 M2 M3 E nd br) 9 [false]) := eN (I8 c0 (ai c1 c2) c3 (ai c4 (ai c5 c6)) c7 c8 c9 c10)


theorem adS : (ak Try.f39) = .seq (aT [0] (ak Try.f39)) (.seq (aT [1,0] (ak Try.f39)) (.seq (aT [1,1,0] (ak Try.f39)) (aT [1,1,1] (ak Try.f39)))) := by kernel_rfl
theorem QA (n q r : Nat) (E : tE) (nd br : tX) (M1 M2 M3 : tM) (hn : n ≤ 1024) :
  aj Try.prog (ak Try.f39) Try.f39.ntmps 9 9 40 JI (hpL [(2, ZV n q r), (3, .aJ true M1), (4, .aJ true M2), (5, .aJ true M3), (6, ZC n E), (7, Ih q nd), (8, Ih r br)]) (fun e fr' H' => e = .ret ∧ fr' = aV [(2, .bool false)] ∧ H' = hpL [(2, ZV n q r), (3, .aJ true M1), (4, .aJ true M2), (5, .aJ true M3), (6, ZC n E), (7, Ih q nd), (8, Ih r br)]) := by
 obtain ⟨z0, z1⟩ := XE E n
 rw [adS]
 refine aj.bn (K1 := 9) (noB 9 (by omega) n q r E nd br M1 M2 M3) (by omega) ?_
 refine aj.bn (K1 := 9) (noC 9 (by omega) n q r E nd br M1 M2 M3) (by omega) ?_
 refine aj.bn (K1 := 10) (F1 := [(4, ZA 9)]) (H1 := [(2, ZV n q r), (3, .aJ true M1), (4, .aJ true M2), (5, .aJ true M3), (6, ZC n E), (7, Ih q nd), (8, Ih r br), (9, .cells true 2 1 (.fn fun _ => [iT (yU (aK (FT E n)) (n + 1)).1, iT (yU (aK (FT E n)) (n + 1)).2]))]) ((rcR (abu n q r E nd br M1 M2 M3 (by omega) (by omega) (by omega) (fun i hi o v hv => Bq hv) (Nat.le_refl _) (by omega) (by omega) (fun i hi o v hv => UA hv) (by omega) (XF E n) (decide_eq_false z0)) (show 9 ≤ 9 by omega)).renG fun e fr' H' h => ?_) (by omega) ?_
 ·obtain ⟨rfl, rfl, rfl⟩ := h
  exact ⟨sg 9 14, [(4, ZA 9)], [(2, ZV n q r), (3, .aJ true M1), (4, .aJ true M2), (5, .aJ true M3), (6, ZC n E), (7, Ih q nd), (8, Ih r br), (9, .cells true 2 1 (.fn fun _ => [iT (yU (aK (FT E n)) (n + 1)).1, iT (yU (aK (FT E n)) (n + 1)).2]))], mX (by omega), ⟨⟨_, rfl, AV.ge.refl _, rfl⟩, trivial⟩, ⟨dX rfl rfl (fun j _ => rfl) (fun j _ => rfl) (by omega), lW rfl rfl (by omega), lW rfl rfl (by omega), lW rfl rfl (by omega), dX rfl rfl (fun j _ => rfl) (fun j _ => rfl) (by omega), dX rfl rfl (fun j _ => rfl) (fun j _ => rfl) (by omega), dX rfl rfl (fun j _ => rfl) (fun j _ => rfl) (by omega), ⟨_, rfl, ⟨rfl, rfl, rfl, fun j hj => by
   obtain rfl : j = 0 := by omega
   rfl⟩, fun j hj v hv => List.all_eq_true.1 (show ([iT (yU (aK (FT E n)) (n + 1)).1, iT (yU (aK (FT E n)) (n + 1)).2] : List AV).all (fun v => v.low 10) = true from rfl) v hv, by omega⟩, trivial⟩, mY (by omega), rfl, rfl, rfl⟩
 refine ((noE 9 (by omega) n q r E nd br M1 M2 M3 (yU (aK (FT E n)) (n + 1)).1 (yU (aK (FT E n)) (n + 1)).2).up (by omega)).post fun e fr' H' h => ?_
 obtain ⟨rfl, rfl, rfl⟩ := h
 refine ⟨[(2, .bool false)], [(2, ZV n q r), (3, .aJ true M1), (4, .aJ true M2), (5, .aJ true M3), (6, ZC n E), (7, Ih q nd), (8, Ih r br)], ⟨⟨_, rfl, fun N μ c h => ?_⟩, trivial⟩, (gq rfl), rfl, rfl, rfl⟩
 simp only [Rep] at h ⊢
 rw [h, decide_eq_false z1]


noncomputable def abv : Known := kc 71 ofBits (kc 74 toBits (kc 72 jw (kc 61 nM (kc 58 jT (kc 73 KP (kc 59 pq (kc 60 pz (kc 35 yS (kc 12 mP (kc 29 zT (kc 46 mQ (kc 44 qO (kc 41 sS (kn))))))))))))))
theorem OO : fK Try.prog abv := aH ((fQ Try.prog).fE Try.func71 (by kernel_rfl) (by kernel_rfl) (by kernel_rfl) (by kernel_rfl)) (aH ((fP Try.prog).fE Try.func74 (by kernel_rfl) (by kernel_rfl) (by kernel_rfl) (by kernel_rfl)) (aH gI (aH iK (aH gU (aH nX (aH jy (aH jA (aH nC (aH jL (aH oG (aH jM (aH lQ (aH nN (qj))))))))))))))
theorem Kz : gY abv := aG aC.ofBits (aG aC.toBits (aG fJ (aG gJ (aG fZ (aG kH (aG iL (aG iM (aG ku (aG iR (aG lS (aG iU (aG jO (aG kY (lJ))))))))))))))
noncomputable def OQ : Calls' := Sx.runN Try.prog abv (bK Try.prog) 1000 50
theorem UC : dw Try.prog OQ := iQ OO Kz (by kernel_rfl) (by kernel_rfl) 1000 50
theorem QB (n : Nat) : eF Try.prog (bK Try.prog OQ n) n := eX OO Kz (by kernel_rfl) (by kernel_rfl) 1000 50 n
noncomputable abbrev Ef (f : Func) (c : Code) (fr : Fr) (H : T aF) (K : Nat) (path : List Bool) : Aa (Ex × Fr) :=
 bV Try.prog OQ (bK Try.prog OQ f.ntmps) jH f.ntmps 1000 c fr ⟨H, K, [], path, True⟩


theorem rcS {fn : Func} {K K' B : Nat} {e : Ex} {F : jU} {Hl : tH} {c : Code} {fr : Fr} {H : T aF} {path : List Bool} (h : cO K' e F Hl (Ef fn c fr H K path)) (hB : B ≤ K) : aj Try.prog c fn.ntmps B K K' fr H fun e' fr' H' => e' = e ∧ fr' = aV F ∧ H' = hpL Hl := aj.runN UC (QB _) (gu.none _ _ _) h hB
theorem UD {fn : Func} {K K' B : Nat} {e : Ex} {F : jU} {Hl : tH} {c : Code} {fr : Fr} {H : T aF} (path : List Bool) {q : Prop} (hq : q) (hB : B ≤ K) (h : jg K' e F Hl (Ef fn c fr H K path) = (e = e ∧ ql F ∧ qm Hl ∧ true = true ∧ q) := by kernel_rfl) : aj Try.prog c fn.ntmps B K K' fr H fun e' fr' H' => e' = e ∧ fr' = aV F ∧ H' = hpL Hl := rcS (eqn h hq) hB
noncomputable abbrev ZI (v0 : Nat) (w0 w1) := (.cells true 2 1 (.fn fun _ => [.mp w0, sL w1 v0]) : aF)
noncomputable abbrev ZZ (v0 : Nat) (w0 w1) := (.cells true 2 1 (.fn fun x => [.mp w0, sL w1 v0]) : aF)
noncomputable abbrev ZEI (v0 : Nat) (v1 : Nat → Nat) (v2 : List (List UInt8 × Int)) (v3 : Nat) (v4 : tE) := hpL [(9, ZI v0 11 10), (10, ZL v0 v1), (11, .aJ true v2), (12, ZF v3 v4)]
theorem voD (B : Nat) (hB : B ≤ 13) (n m i : Nat) (u : Nat → Nat) (E : tE) (zl : List (List UInt8 × Int)) : aj Try.prog ((aT [1,1,1,0,1,0,0,0] (ak Try.f15))) Try.f15.ntmps B 13 13 (aV (zY n i 9 11 12 13)) (ZEI m u zl n E) (pP .normal [(3, ZA 9), (11, sL 12 n), (12, iT (↑n : Int)), (13, iT (↑i : Int)), (14, .bD (decide ((↑i : Int) < (↑n : Int))))] [(9, ZZ m 11 10), (10, ZU m u), (11, Zb zl), (12, ZQ n E)]) := UD [] trivial hB
theorem voX (B : Nat) (hB : B ≤ 13) (n m i : Nat) (u : Nat → Nat) (E : tE) (zl : List (List UInt8 × Int)) (b : Bool) : aj Try.prog ((aT [1,1,1,0,1,0,0,1,0] (ak Try.f15))) Try.f15.ntmps B 13 13 (ZEe n i b 9 11 12 13 14) (ZEI m u zl n E) fun e fr' H' => (cond (b) (pP .normal (Q5 n i 9 11 12 13) [(9, ZZ m 11 10), (10, ZU m u), (11, Zb zl), (12, ZQ n E)] e fr' H') (pP (.exit 0) (Q5 n i 9 11 12 13) [(9, ZZ m 11 10), (10, ZU m u), (11, Zb zl), (12, ZQ n E)] e fr' H')) := cI (fun t0 => UD [tT] (I1 t0) hB) (fun t0 => UD [fF] (I1 t0) hB)
noncomputable abbrev ZCY := aT [1,1,1,0,1,0,0,1,1,0,0,0] (ak Try.f15)
theorem voE (B : Nat) (hB : B ≤ 13) (n m i : Nat) (u : Nat → Nat) (E : tE) (zl : List (List UInt8 × Int)) (x0 : ((↑i : Int) < (↑n : Int))) (x1 : (0 + i < n)) : aj Try.prog (ZCY) Try.f15.ntmps B 13 14 (aV (zY n i 9 11 12 13)) (ZEI m u zl n E) (pP .normal [(3, ZA 9), (5, ZA 13), (11, sL 12 n), (12, iT (↑n : Int)), (13, iT (↑i : Int))] [(9, ZZ m 11 10), (10, ZU m u), (11, Zb zl), (12, ZQ n E), (13, ZBP E i)]) := UD [] (I3 (ai (show 0 ≤ (↑i : Int) by omega) x0) x1 (show 8 ≤ 8 by omega)) hB
noncomputable abbrev ZBB (v0 : Nat) (v1 : Nat → Nat) (v2 : List (List UInt8 × Int)) (v3 : tE) (v4 : Nat) := (.cells true 1 v0 (.fn fun k => [iT (↑(jn (uO v0 (Cont.row (.fn fun k => [YE v1 k]))) (bU v2 (El.a (v3 v4))) (bU v2 (El.b (v3 v4))) k) : Int)]) : aF)
noncomputable abbrev ZB0 := aT [1,1,1,0,1,0,0,1,1,0,0,1,0] (ak Try.f15)
noncomputable abbrev ZD9 (v0 v1 : Nat) (w0 w1 w2 w3) := ([(3, ZA w0), (w1, sL 12 v0), (w2, iT (v0 : Int)), (w3, iT (v1 : Int)), (5, ZA 13)] : jU)
theorem voF (B : Nat) (hB : B ≤ 14) (n m i : Nat) (u : Nat → Nat) (E : tE) (zl : List (List UInt8 × Int)) (x0 : (m = m)) (x1 : (m ≤ 4096)) (x2 : (∀ (j : Nat), j < m → dQ [iT (↑(u j) : Int)] [iT (↑(uO m (Cont.row (.fn fun k => [YE u k])) j) : Int)] ∧ uO m (Cont.row (.fn fun k => [iT (↑(u k) : Int)])) j ≤ j)) (x3 : (∀ (z : List UInt8), (0 : Int) ≤ Option.getD (cZ seq z zl) (0 : Int) ∧ Option.getD (cZ seq z zl) 0 < (↑m : Int))) : aj Try.prog (ZB0) Try.f15.ntmps B 14 14 (aV (ZD9 n i 9 11 12 13)) (hpL [(9, ZI m 11 10), (10, ZL m u), (11, .aJ true zl), (12, ZF n E), (13, Zl E i)]) fun e fr' H' => (cond (decide (El.k (E i) = (5 : Int))) (pP .normal [(3, ZA 9), (11, sL 12 n), (12, iT (↑n : Int)), (13, iT (↑i : Int)), (33, .bD !!decide ((↑(root (uO m (Cont.row (.fn fun k => [iT (↑(u k) : Int)]))) (bU zl (El.a (E i)))) : Int) = (↑(root (uO m (Cont.row (.fn fun k => [iT (↑(u k) : Int)]))) (bU zl (El.b (E i)))) : Int)))] [(9, ZZ m 11 10), (10, ZBB m u zl E i), (11, Zb zl), (12, ZQ n E)] e fr' H') (cond (decide (El.k (E i) = (7 : Int))) (pP .normal [(3, ZA 9), (11, sL 12 n), (12, iT (↑n : Int)), (13, iT (↑i : Int)), (33, .bD !!decide ((↑(root (uO m (Cont.row (.fn fun k => [iT (↑(u k) : Int)]))) (bU zl (El.a (E i)))) : Int) = (↑(root (uO m (Cont.row (.fn fun k => [iT (↑(u k) : Int)]))) (bU zl (El.b (E i)))) : Int)))] [(9, ZZ m 11 10), (10, ZBB m u zl E i), (11, Zb zl), (12, ZQ n E)] e fr' H') (pP .normal [(3, ZA 9), (11, sL 12 n), (12, iT (↑n : Int)), (13, iT (↑i : Int)), (33, .bool false)] [(9, ZZ m 11 10), (10, ZU m u), (11, Zb zl), (12, ZQ n E)] e fr' H'))) := cD (fun q0 t0 => UD [tT] (I2 t0 (ai x0 (ai x1 (ai x2 x3)))) hB) (fun q0 t0 => cD (fun q1 t1 => UD [fF, tT] (I3 t0 t1 (ai x0 (ai x1 (ai x2 x3)))) hB) (fun q1 t1 => UD [fF, fF] (I2 t0 t1) hB))
noncomputable abbrev ZCN := aT [1,1,1,0,1,0,0,1,1,0,0,1,1] (ak Try.f15)
theorem voG (B : Nat) (hB : B ≤ 13) (n m i : Nat) (u : Nat → Nat) (E : tE) (zl : List (List UInt8 × Int)) (b : Bool) : aj Try.prog (ZCN) Try.f15.ntmps B 13 13 (ZEe n i b 9 11 12 13 33) (ZEI m u zl n E) fun e fr' H' => (cond (b) (pP .ret [(2, .bool true), (3, ZA 9), (11, sL 12 n), (12, iT (↑n : Int)), (13, iT (↑i : Int))] [(9, ZZ m 11 10), (10, ZU m u), (11, Zb zl), (12, ZQ n E)] e fr' H') (pP .normal (Q5 n i 9 11 12 13) [(9, ZZ m 11 10), (10, ZU m u), (11, Zb zl), (12, ZQ n E)] e fr' H')) := cI (fun t0 => UD [tT] (I1 t0) hB) (fun t0 => UD [fF] (I1 t0) hB)
theorem voH (B : Nat) (hB : B ≤ 13) (n m i : Nat) (u : Nat → Nat) (E : tE) (zl : List (List UInt8 × Int)) (x0 : ((↑i : Int) + 1 ≤ (9223372036854775807 : Int))) : aj Try.prog ((aT [1,1,1,0,1,0,0,1,1,1] (ak Try.f15))) Try.f15.ntmps B 13 13 (aV (zY n i 9 11 12 13)) (ZEI m u zl n E) (pP .normal [(3, ZA 9), (11, sL 12 n), (12, iT (↑n : Int)), (13, JJ i)] [(9, ZZ m 11 10), (10, ZU m u), (11, Zb zl), (12, ZQ n E)]) := UD [] (I1 (ai (show -9223372036854775808 ≤ (↑i : Int) + 1 by omega) x0)) hB
theorem voI (B : Nat) (hB : B ≤ 13) (n m i : Nat) (u : Nat → Nat) (E : tE) (zl : List (List UInt8 × Int)) : aj Try.prog ((aT [1,1,1,1] (ak Try.f15))) Try.f15.ntmps B 13 13 (aV (zY n i 9 11 12 13)) (ZEI m u zl n E) (pP .ret [(2, .bool false)] [(9, ZZ m 11 10)]) := UD [] trivial hB
/-- is it a Voltage or an Amplifier? -/
def Nh (z : El) : Bool := decide (z.k = 5) || decide (z.k = 7)
/-- their ends, of the first so many elements -/
def vl (E : tE) : Nat → List (Tx × Tx)
 | 0 => []
 | i + 1 => bif Nh (E i) then vl E i ++ [((E i).a, (E i).b)] else vl E i
/-- element i closes a loop -/
def jC (zl : tM) (E : tE) (i : Nat) : Bool := Nh (E i) && decide (cls (bU zl) (vl E i) (E i).a = cls (bU zl) (vl E i) (E i).b)
theorem nY {m : Nat} {u : Nat → Nat} {j : Nat} (hj : j < m) : uO m (Cont.row (.fn fun k => [iT ((u k : Nat) : Int)])) j = u j := by
 unfold uO
 rw [if_pos hj]
 show ((u j : Nat) : Int).toNat = u j
 omega
theorem qw {m : Nat} {u : Nat → Nat} (hu : ∀ j, u j ≤ j) {x : Nat} (hx : x < m) : root (uO m (Cont.row (.fn fun k => [iT ((u k : Nat) : Int)]))) x = root u x :=
 (xC hu fun j hj => (nY (by omega)).symm).symm
theorem OT {m : Nat} {u : Nat → Nat} (hu : ∀ j, u j ≤ j) {x y k : Nat} (hx : x < m) (hy : y < m) (hk : k < m) : jn (uO m (Cont.row (.fn fun k => [iT ((u k : Nat) : Int)]))) x y k = jn u x y k := by
 unfold jn
 rw [qw hu hx, qw hu hy, nY hk]
noncomputable abbrev ZBE (v0 : Nat) (v1 : tM) (v2 : tE) (v3 : Nat) := (.cells true 1 v0 (.fn fun k => [iT (((Ul (bU v1) (vl v2 (v3 + 1))) k : Nat) : Int)]) : aF)
noncomputable abbrev ZBq (v0 : Nat) (v1 : tM) (v2 : tE) (v3 : Nat) := (.cells true 1 v0 (.fn fun k => [iT (((Ul (bU v1) (vl v2 v3)) k : Nat) : Int)]) : aF)
noncomputable abbrev XG (v0 : Nat) (v1 : tM) (v2 : tE) (v3 v4 : Nat) := ([(9, ZI v0 11 10), (10, ZBE v0 v1 v2 v3), (11, .aJ true v1), (12, ZF v4 v2)] : tH)
theorem adV (n m i : Nat) (E : tE) (zl : tM) (hm : m ≤ 4096) (hz : ∀ x, 0 ≤ (cZ seq x zl).getD 0 ∧ (cZ seq x zl).getD 0 < (m : Int)) :
  aj Try.prog ZB0 Try.f15.ntmps 9 14 14 (aV (ZD9 n i 9 11 12 13)) (hpL [(9, ZI m 11 10), (10, ZBq m zl E i), (11, .aJ true zl), (12, ZF n E), (13, Zl E i)]) (fun e fr' H' => e = .normal ∧ fr' = aV [(3, ZA 9), (11, sL 12 n), (12, iT (n : Int)), (13, iT (i : Int)), (33, .bD (jC zl E i))] ∧ H' = hpL (XG m zl E i n)) := by
 have hu := AX (bU zl) (vl E i)
 have la : bU zl (E i).a < m := by have := hz (E i).a; unfold bU; omega
 have lb : bU zl (E i).b < m := by have := hz (E i).b; unfold bU; omega
 refine (voF 9 (by omega) n m i (Ul (bU zl) (vl E i)) E zl rfl hm (fun j hj => ⟨⟨by rw [nY hj]; exact AV.ge.refl _, rfl, trivial⟩, by rw [nY hj]; exact hu j⟩) hz).post fun e fr' H' h => ?_
 have sel : Nh (E i) = true → (e = .normal ∧ fr' = aV [(3, ZA 9), (11, sL 12 n), (12, iT (n : Int)), (13, iT (i : Int)), (33, .bD (!!decide (((root (uO m (Cont.row (.fn fun k => [iT (((Ul (bU zl) (vl E i)) k : Nat) : Int)]))) (bU zl (E i).a) : Nat) : Int) = ((root (uO m (Cont.row (.fn fun k => [iT (((Ul (bU zl) (vl E i)) k : Nat) : Int)]))) (bU zl (E i).b) : Nat) : Int))))] ∧ H' = hpL [(9, ZI m 11 10), (10, .cells true 1 m (.fn fun k => [iT ((jn (uO m (Cont.row (.fn fun k => [AV.int true .i64 (((Ul (bU zl) (vl E i)) k : Nat) : Int)]))) (bU zl (E i).a) (bU zl (E i).b) k : Nat) : Int)])), (11, .aJ true zl), (12, ZF n E)]) → ∃ fl bl, Ge fr' fl ∧ Ia H' bl ∧ (e = .normal ∧ aV fl = aV [(3, ZA 9), (11, sL 12 n), (12, iT (n : Int)), (13, iT (i : Int)), (33, .bD (jC zl E i))] ∧ hpL bl = hpL (XG m zl E i n)) := fun hs h => by
  obtain ⟨rfl, rfl, rfl⟩ := h
  refine ⟨[(3, ZA 9), (11, sL 12 n), (12, iT (n : Int)), (13, iT (i : Int)), (33, .bD (jC zl E i))], (XG m zl E i n), ⟨re rfl, re rfl, re rfl, re rfl, ⟨_, rfl, ?_⟩, trivial⟩, ⟨(Sx.hs rfl), ⟨_, rfl, rfl, rfl, rfl, fun k hk => ?_⟩, gq rfl⟩, rfl, rfl, rfl⟩
  ·rw [qw hu la, qw hu lb]
   unfold jC
   rw [hs, Bool.true_and, Bool.not_not]
   have : decide (((root (Ul (bU zl) (vl E i)) (bU zl (E i).a) : Nat) : Int) = ((root (Ul (bU zl) (vl E i)) (bU zl (E i).b) : Nat) : Int)) = decide (cls (bU zl) (vl E i) (E i).a = cls (bU zl) (vl E i) (E i).b) := decide_eq_decide.2 (by unfold cls; omega)
   rw [this]
   exact AV.ge.refl _
  ·show [iT ((jn (uO m (Cont.row (.fn fun k => [AV.int true .i64 (((Ul (bU zl) (vl E i)) k : Nat) : Int)]))) (bU zl (E i).a) (bU zl (E i).b) k : Nat) : Int)] = [iT (((Ul (bU zl) (vl E (i + 1))) k : Nat) : Int)]
   rw [OT hu la lb hk]
   conv => rhs; unfold vl
   rw [hs, cond_true, vM]
 cases q1 : decide ((E i).k = 5) with
 | true =>
  rw [q1, cond_true] at h
  exact sel (by unfold Nh; rw [q1]; rfl) h
 | false =>
  rw [q1, cond_false] at h
  cases q2 : decide ((E i).k = 7) with
  | true =>
   rw [q2, cond_true] at h
   exact sel (by unfold Nh; rw [q1, q2]; rfl) h
  | false =>
   rw [q2, cond_false] at h
   obtain ⟨rfl, rfl, rfl⟩ := h
   have hs : Nh (E i) = false := by unfold Nh; rw [q1, q2]; rfl
   refine ⟨[(3, ZA 9), (11, sL 12 n), (12, iT (n : Int)), (13, iT (i : Int)), (33, .bD (jC zl E i))], (XG m zl E i n), ⟨re rfl, re rfl, re rfl, re rfl, ⟨_, rfl, fun N μ c h => ?_⟩, trivial⟩, ⟨(Sx.hs rfl), ⟨_, rfl, rfl, rfl, rfl, fun k hk => ?_⟩, gq rfl⟩, rfl, rfl, rfl⟩
   ·unfold jC
    rw [hs, Bool.false_and]
    simpa only [Rep] using h
   ·show [iT (((Ul (bU zl) (vl E i)) k : Nat) : Int)] = [iT (((Ul (bU zl) (vl E (i + 1))) k : Nat) : Int)]
    conv => rhs; unfold vl
    rw [hs, cond_false]
theorem abw (n m i : Nat) (E : tE) (zl : tM) (hi : i < n) (hn : n ≤ 1024) (hm : m ≤ 4096) (hz : ∀ x, 0 ≤ (cZ seq x zl).getD 0 ∧ (cZ seq x zl).getD 0 < (m : Int)) :
  aj Try.prog (.block 1 (.seq ZCY (.seq ZB0 ZCN))) Try.f15.ntmps 9 13 13 (aV (zY n i 9 11 12 13)) (hpL [(9, ZI m 11 10), (10, ZBq m zl E i), (11, .aJ true zl), (12, ZF n E)]) (fun e fr' H' => (e = .normal ∧ jC zl E i = false ∧ fr' = aV (zY n i 9 11 12 13) ∧ H' = hpL (XG m zl E i n)) ∨ (e = .ret ∧ jC zl E i = true ∧ fr' = aV [(2, .bD true)] ∧ H' = hpL [])) := by
 have h1 : aj Try.prog (.block 1 (.seq ZCY (.seq ZB0 ZCN))) Try.f15.ntmps 9 13 14 (aV (zY n i 9 11 12 13)) (hpL [(9, ZI m 11 10), (10, ZBq m zl E i), (11, .aJ true zl), (12, ZF n E)]) (fun e fr' H' => (e = .normal ∧ jC zl E i = false ∧ fr' = aV (zY n i 9 11 12 13) ∧ H' = hpL (XG m zl E i n)) ∨ (e = .ret ∧ jC zl E i = true ∧ fr'.get 2 = some (.bool true))) := by
  refine aj.block ?_
  refine aj.bn (K1 := 14) (F1 := (ZD9 n i 9 11 12 13)) (H1 := [(9, ZI m 11 10), (10, ZBq m zl E i), (11, .aJ true zl), (12, ZF n E), (13, Zl E i)]) (aj.toN (voE 9 (by omega) n m i (Ul (bU zl) (vl E i)) E zl (by omega) (by omega)) (iD rfl) ⟨hs rfl, hs rfl, hs rfl, hs rfl, wG rfl (by show aP (E (0 + i)) = aP (E i); rw [Nat.zero_add]), trivial⟩) (by omega) ?_
  refine aj.bn (K1 := 13) (F1 := [(3, ZA 9), (11, sL 12 n), (12, iT (n : Int)), (13, iT (i : Int)), (33, .bD (jC zl E i))]) (H1 := (XG m zl E i n)) ((adV n m i E zl hm hz).renG fun e fr' H' h => ?_) (by omega) ?_
  ·obtain ⟨rfl, rfl, rfl⟩ := h
   exact ⟨id, [(3, ZA 9), (11, sL 12 n), (12, iT (n : Int)), (13, iT (i : Int)), (33, .bD (jC zl E i))], (XG m zl E i n), fun g hg => rfl, (yX rfl), ⟨dX rfl rfl (fun j _ => rfl) (fun j _ => rfl) (by omega), dX rfl rfl (fun j _ => rfl) (fun j _ => rfl) (by omega), lW rfl rfl (by omega), dX rfl rfl (fun j _ => rfl) (fun j _ => rfl) (by omega), trivial⟩, fun i j _ _ h => h, rfl, rfl, rfl⟩
  refine ((voG 9 (by omega) n m i (Ul (bU zl) (vl E (i + 1))) E zl (jC zl E i)).up (by omega)).mono fun e fr' H' h => ?_
  cases q : jC zl E i with
  | true =>
   rw [q, cond_true] at h
   obtain ⟨rfl, rfl, rfl⟩ := h
   exact .inr ⟨rfl, rfl, rfl⟩
  | false =>
   rw [q, cond_false] at h
   obtain ⟨rfl, rfl, rfl⟩ := h
   exact .inl ⟨rfl, rfl, rfl, rfl⟩
 refine h1.renG fun e fr' H' h => ?_
 rcases h with ⟨rfl, h0, rfl, rfl⟩ | ⟨rfl, h0, h2⟩
 ·exact ⟨id, (zY n i 9 11 12 13), (XG m zl E i n), fun g hg => rfl, (yX rfl), ⟨dX rfl rfl (fun j _ => rfl) (fun j _ => rfl) (by omega), dX rfl rfl (fun j _ => rfl) (fun j _ => rfl) (by omega), lW rfl rfl (by omega), dX rfl rfl (fun j _ => rfl) (fun j _ => rfl) (by omega), trivial⟩, fun i j _ _ h => h, .inl ⟨rfl, h0, rfl, rfl⟩⟩
 ·exact ⟨id, [(2, .bD true)], [], fun g hg => rfl, ⟨⟨_, h2, fun N μ c h => by simpa only [Rep, AV.ren] using h, rfl⟩, trivial⟩, trivial, fun i j _ _ h => h, .inr ⟨rfl, h0, rfl, rfl⟩⟩


theorem adW {N : Nat} {μ : MM} {hp : Array Obj} {g sz : Nat} {own : Bool} {c : Cont} {row : List AV} (h : bY N μ hp g (.cells own sz 1 c)) (k : dQ (c.row 0) row) : bY N μ hp g (.cells false sz 1 (.fn fun _ => row)) := by
 refine ⟨h.1, h.2.1, fun hr => ?_⟩
 obtain ⟨cur, ty, fz, p1, p2, p3, p4⟩ := h.2.2 (.inl (by omega))
 refine ⟨cur, ty, fz, p1, p2, fun h => (by cases h), fun i hi => ?_⟩
 obtain rfl : i = 0 := by omega
 exact fM.ge (p4 0 (by omega)) k
/-- a net's row, read: its slices and maps -/
structure sN where
 n : Nat
 q : Nat
 r : Nat
 l : AA
 nd : AA
 bg : AA
 m1 : Nat
 m2 : Nat
 m3 : Nat
def og (a : AA) : Bool := Nat.beq a.i 0 && Nat.beq a.o 0
def UE : List AV → Option sN
 | [.bool true, .slc _ true a1 n, .mp m1, .slc _ true a2 q, .mp m2, .slc _ true a3 r, .mp m3] => bif og a1 && og a2 && og a3 then some ⟨n, q, r, a1, a2, a3, m1, m2, m3⟩ else none
 | _ => none
/-- the net at a name -/
noncomputable def OU (N : Nat) : M sN := (jk N).andThen fun b => (M.dh (Nat.beq b.2.1 7 && Nat.beq b.2.2.1 1)).andThen fun _ => M.bf (UE (b.2.2.2.row 0))
theorem QC (N : Nat) : aC (OU N) := (aC.jk _).andThen fun _ => (aC.dh _).andThen fun _ => aC.bf _
theorem jD {a : AA} (h : og a = true) : a.i = 0 ∧ a.o = 0 := by
 unfold og at h
 rw [Bool.and_eq_true] at h
 exact ⟨Nat.eq_of_beq_eq_true h.1, Nat.eq_of_beq_eq_true h.2⟩
theorem Nj {l : List AV} {w : sN} (h : UE l = some w) : ∃ s1 s2 s3, l = [.bool true, .slc s1 true w.l w.n, .mp w.m1, .slc s2 true w.nd w.q, .mp w.m2, .slc s3 true w.bg w.r, .mp w.m3] ∧ (w.l.i = 0 ∧ w.l.o = 0) ∧ (w.nd.i = 0 ∧ w.nd.o = 0) ∧ (w.bg.i = 0 ∧ w.bg.o = 0) := by
 unfold UE at h
 split at h
 ·rename_i s1 a1 n m1 s2 a2 q m2 s3 a3 r m3
  cases c : og a1 && og a2 && og a3 with
  | false => rw [c] at h; cases h
  | true =>
   rw [c] at h
   cases h
   simp only [Bool.and_eq_true] at c
   exact ⟨s1, s2, s3, rfl, jD c.1.1, jD c.1.2, jD c.2⟩
 ·cases h
theorem Nk {N : Nat} {w : sN} {g g' : G} (h : OU N g = .done w g') : g = g' ∧ ∃ ob c s1 s2 s3, g.H.get N = some (.cells ob 7 1 c) ∧ c.row 0 = [.bool true, .slc s1 true w.l w.n, .mp w.m1, .slc s2 true w.nd w.q, .mp w.m2, .slc s3 true w.bg w.r, .mp w.m3] ∧ (w.l.i = 0 ∧ w.l.o = 0) ∧ (w.nd.i = 0 ∧ w.nd.o = 0) ∧ (w.bg.i = 0 ∧ w.bg.o = 0) := by
 unfold OU at h
 obtain ⟨⟨ob, zb, mb, cb⟩, g1, a1, h1⟩ := au h
 obtain ⟨t1, rfl⟩ := eu a1
 obtain ⟨_, g2, a2, h2⟩ := au h1
 obtain ⟨hq, rfl⟩ := aS a2
 obtain ⟨h3, rfl⟩ := aI h2
 simp only [Bool.and_eq_true] at hq
 obtain rfl := Nat.eq_of_beq_eq_true hq.1
 obtain rfl := Nat.eq_of_beq_eq_true hq.2
 obtain ⟨s1, s2, s3, e, x⟩ := Nj h3
 exact ⟨rfl, ob, cb, s1, s2, s3, t1, e, x⟩
/-- the great names of a net's blocks -/
def zZ (N : Nat) (w : sN) (i : Nat) : Nat := if i = 2 then N else if i = 3 then w.m1 else if i = 4 then w.m2 else if i = 5 then w.m3 else if i = 6 then w.l.g else if i = 7 then w.nd.g else w.bg.g
theorem XH {c : Cont} {w : sN} {s1 s2 s3 : Bool} (e : c.row 0 = [.bool true, .slc s1 true w.l w.n, .mp w.m1, .slc s2 true w.nd w.q, .mp w.m2, .slc s3 true w.bg w.r, .mp w.m3]) (h1 : w.l.i = 0 ∧ w.l.o = 0) (h2 : w.nd.i = 0 ∧ w.nd.o = 0) (h3 : w.bg.i = 0 ∧ w.bg.o = 0) {ρ : Nat → Nat} (p3 : ρ 3 = w.m1) (p4 : ρ 4 = w.m2) (p5 : ρ 5 = w.m3) (p6 : ρ 6 = w.l.g) (p7 : ρ 7 = w.nd.g) (p8 : ρ 8 = w.bg.g) : dQ (c.row 0) (kQ ρ (bQ 6 7 8 w.n w.q w.r)) := by
 rw [e]
 refine ⟨AV.ge.refl _, rfl, AV.ge.hdr p6.symm h1.1 h1.2, rfl, ?_, rfl, AV.ge.hdr p7.symm h2.1 h2.2, rfl, ?_, rfl, AV.ge.hdr p8.symm h3.1 h3.2, rfl, ?_, rfl, trivial⟩
 ·show AV.ge (.mp w.m1) (.mp (ρ 3)); rw [p3]; exact AV.ge.refl _
 ·show AV.ge (.mp w.m2) (.mp (ρ 4)); rw [p4]; exact AV.ge.refl _
 ·show AV.ge (.mp w.m3) (.mp (ρ 5)); rw [p5]; exact AV.ge.refl _
/-- what a net's blocks hold -/
structure qI (n q r nl nn nb : Nat) (M1 M2 M3 : tM) (cl cn cb : Nat → List AV) : Prop where
 n256 : n ≤ 256
 ln : nl = n
 lq : nn = q
 lr : nb = r
 XI : q = (ND (aK cl) n).length
 abx : r = (BR (aK cl) n).length
 m1 : M1 = ay 0 (NM (aK cl) n)
 m2 : M2 = ay 0 (ND (aK cl) n)
 m3 : M3 = ay 0 (BR (aK cl) n)
 rl : ∀ j, j < n → dQ (cl j) (aP (aK cl j))
 rn : ∀ j, j < q → dQ (cn j) (aU (aA (ND (aK cl) n)) j)
 rb : ∀ j, j < r → dQ (cb j) (aU (aA (BR (aK cl) n)) j)
/-- the net at a name, its elements -/
noncomputable def netRd (N : Nat) : M (sN × (Nat → El)) :=
 (OU N).andThen fun w => (M.dh (nodupB [N, w.m1, w.m2, w.m3, w.l.g, w.nd.g, w.bg.g])).andThen fun _ => (M.pK w.m1).andThen fun b1 => (M.bf (Eu b1)).andThen fun M1 => (M.pK w.m2).andThen fun b2 => (M.bf (Eu b2)).andThen fun M2 => (M.pK w.m3).andThen fun b3 => (M.bf (Eu b3)).andThen fun M3 =>
  (jk w.l.g).andThen fun cl => (jk w.nd.g).andThen fun cn => (jk w.bg.g).andThen fun cb => (M.dh (Nat.beq cl.2.1 8 && Nat.beq cn.2.1 1 && Nat.beq cb.2.1 1)).andThen fun _ =>
   (M.req (qI w.n w.q w.r cl.2.2.1 cn.2.2.1 cb.2.2.1 M1.2 M2.2 M3.2 cl.2.2.2.row cn.2.2.2.row cb.2.2.2.row)).andThen fun _ => M.ret (w, aK cl.2.2.2.row)
theorem lu (N : Nat) : aC (netRd N) := (QC _).andThen fun _ => (aC.dh _).andThen fun _ => (aC.pK _).andThen fun _ => (aC.bf _).andThen fun _ => (aC.pK _).andThen fun _ => (aC.bf _).andThen fun _ => (aC.pK _).andThen fun _ => (aC.bf _).andThen fun _ => (aC.jk _).andThen fun _ => (aC.jk _).andThen fun _ => (aC.jk _).andThen fun _ => (aC.dh _).andThen fun _ => (aC.req _).andThen fun _ => aC.ret _
/-- what netRd found -/
structure UF (g : G) (N : Nat) (w : sN) (E : tE) : Prop where
 net : ∃ ob c s1 s2 s3, g.H.get N = some (.cells ob 7 1 c) ∧ c.row 0 = [.bool true, .slc s1 true w.l w.n, .mp w.m1, .slc s2 true w.nd w.q, .mp w.m2, .slc s3 true w.bg w.r, .mp w.m3]
 l0 : w.l.i = 0 ∧ w.l.o = 0
 nd0 : w.nd.i = 0 ∧ w.nd.o = 0
 bg0 : w.bg.i = 0 ∧ w.bg.o = 0
 dup : [N, w.m1, w.m2, w.m3, w.l.g, w.nd.g, w.bg.g].Nodup
 n256 : w.n ≤ 256
 XI : w.q = (ND E w.n).length
 abx : w.r = (BR E w.n).length
 m1 : ∃ s, g.H.get w.m1 = some (.aJ s (ay 0 (NM E w.n)))
 m2 : ∃ s, g.H.get w.m2 = some (.aJ s (ay 0 (ND E w.n)))
 m3 : ∃ s, g.H.get w.m3 = some (.aJ s (ay 0 (BR E w.n)))
 l : ∃ o c, g.H.get w.l.g = some (.cells o 8 w.n c) ∧ ∀ j, j < w.n → dQ (c.row j) (aP (E j))
 nd : ∃ o c, g.H.get w.nd.g = some (.cells o 1 w.q c) ∧ ∀ j, j < w.q → dQ (c.row j) (aU (aA (ND E w.n)) j)
 bg : ∃ o c, g.H.get w.bg.g = some (.cells o 1 w.r c) ∧ ∀ j, j < w.r → dQ (c.row j) (aU (aA (BR E w.n)) j)
theorem jE {N : Nat} {y : sN × (Nat → El)} {g g' : G} (h : netRd N g = .done y g') : ∃ q, Keep g g' q ∧ (q → UF g N y.1 y.2) := by
 unfold netRd at h
 obtain ⟨w, g1, a1, h⟩ := au h
 obtain ⟨rfl, ob, c, s1, s2, s3, hN, eN, f1, f2, f3⟩ := Nk a1
 obtain ⟨_, g2, a2, h⟩ := au h
 obtain ⟨dd, rfl⟩ := aS a2
 obtain ⟨b1, g3, a3, h⟩ := au h
 obtain ⟨hb1, rfl⟩ := iG a3
 obtain ⟨⟨t1, M1⟩, g4, a4, h⟩ := au h
 obtain ⟨e1, rfl⟩ := aI a4
 obtain ⟨b2, g5, a5, h⟩ := au h
 obtain ⟨hb2, rfl⟩ := iG a5
 obtain ⟨⟨t2, M2⟩, g6, a6, h⟩ := au h
 obtain ⟨e2, rfl⟩ := aI a6
 obtain ⟨b3, g7, a7, h⟩ := au h
 obtain ⟨hb3, rfl⟩ := iG a7
 obtain ⟨⟨t3, M3⟩, g8, a8, h⟩ := au h
 obtain ⟨e3, rfl⟩ := aI a8
 obtain ⟨⟨o1, z1, k1, cl⟩, g9, a9, h⟩ := au h
 obtain ⟨hl, rfl⟩ := eu a9
 obtain ⟨⟨o2, z2, k2, cn⟩, g10, a10, h⟩ := au h
 obtain ⟨hn, rfl⟩ := eu a10
 obtain ⟨⟨o3, z3, k3, cb⟩, g11, a11, h⟩ := au h
 obtain ⟨hbb, rfl⟩ := eu a11
 obtain ⟨_, g12, a12, h⟩ := au h
 obtain ⟨zz, rfl⟩ := aS a12
 obtain ⟨_, g13, a13, h⟩ := au h
 have kk := iZ a13
 obtain ⟨rfl, rfl⟩ := aB h
 have e1 := Sx.l9 e1
 have e2 := Sx.l9 e2
 have e3 := Sx.l9 e3
 subst e1 e2 e3
 simp only [Bool.and_eq_true] at zz
 obtain ⟨⟨y1, y2⟩, y3⟩ := zz
 obtain rfl := Nat.eq_of_beq_eq_true y1
 obtain rfl := Nat.eq_of_beq_eq_true y2
 obtain rfl := Nat.eq_of_beq_eq_true y3
 refine ⟨_, kk, fun Q => ?_⟩
 dsimp only at Q hl hn hbb hb1 hb2 hb3 ⊢
 have i1 := Q.ln
 have i2 := Q.lq
 have i3 := Q.lr
 subst i1 i2 i3
 refine ⟨⟨ob, c, s1, s2, s3, hN, eN⟩, f1, f2, f3, JC dd, Q.n256, Q.XI, Q.abx, ⟨t1, by rw [hb1, Q.m1]⟩, ⟨t2, by rw [hb2, Q.m2]⟩, ⟨t3, by rw [hb3, Q.m3]⟩, ⟨_, _, hl, Q.rl⟩, ⟨_, _, hn, Q.rn⟩, ⟨_, _, hbb, Q.rb⟩⟩
theorem UG {N : Nat} {μ : MM} {hp : Array Obj} {g sz m : Nat} {own : Bool} {c : Cont} {rows : Nat → List AV} (h : bY N μ hp g (.cells own sz m c)) (k : ∀ j, j < m → dQ (c.row j) (rows j)) : bY N μ hp g (.cells false sz m (.fn rows)) := by
 refine ⟨h.1, h.2.1, fun hr => ?_⟩
 obtain ⟨cur, ty, fz, p1, p2, p3, p4⟩ := h.2.2 (hr.elim .inl fun c => by cases c.1)
 exact ⟨cur, ty, fz, p1, p2, fun h => (by cases h), fun i hi => fM.ge (p4 i hi) (k i hi)⟩

/-- the net's blocks, told in the small heap -/
noncomputable abbrev Zq (v0 : sN) (v1 : tE) := ([(2, .cells false 7 1 (.fn fun _ => bQ 6 7 8 v0.n v0.q v0.r)), (3, .aJ true (ay 0 (NM v1 v0.n))), (4, .aJ true (ay 0 (ND v1 v0.n))), (5, .aJ true (ay 0 (BR v1 v0.n))), (6, .cells false 8 v0.n (.fn fun j => aP (v1 j))), (7, .cells false 1 v0.q (.fn (aU (aA (ND v1 v0.n))))), (8, .cells false 1 v0.r (.fn (aU (aA (BR v1 v0.n)))))] : tH)
theorem UH {g : G} {N : Nat} {w : sN} {E : tE} (F : UF g N w E) : ∀ i b, (hpL (Zq w E)).get i = some b → Sx.Told g (zZ N w) 9 i b := by
 intro i b hbb
 have hm' := aY hbb
 simp only [List.mem_cons, List.not_mem_nil, or_false] at hm'
 rcases hm' with h | h | h | h | h | h | h <;> cases h
 ·obtain ⟨ob, c, s1, s2, s3, hN, eN⟩ := F.net
  exact ⟨by omega, fun j hj v hv => List.all_eq_true.1 (show (bQ 6 7 8 w.n w.q w.r).all (fun v => v.low 9) = true from rfl) v hv, _, hN, fun N μ hp k => adW k (XH eN F.l0 F.nd0 F.bg0 rfl rfl rfl rfl rfl rfl), fun h => (by cases h), fun μ m hr => .inl (by omega)⟩
 ·obtain ⟨s, h⟩ := F.m1
  exact ⟨by omega, trivial, _, h, fun N μ hp k => k, fun _ => rfl, fun μ m hr => hr⟩
 ·obtain ⟨s, h⟩ := F.m2
  exact ⟨by omega, trivial, _, h, fun N μ hp k => k, fun _ => rfl, fun μ m hr => hr⟩
 ·obtain ⟨s, h⟩ := F.m3
  exact ⟨by omega, trivial, _, h, fun N μ hp k => k, fun _ => rfl, fun μ m hr => hr⟩
 ·obtain ⟨o, c, h, hr⟩ := F.l
  exact ⟨by omega, fun j hj v hv => List.all_eq_true.1 (sJ 9 _) v hv, _, h, fun N μ hp k => UG k hr, fun h => (by cases h), fun μ m hr => hr.elim .inl fun c => by cases c.1⟩
 ·obtain ⟨o, c, h, hr⟩ := F.nd
  exact ⟨by omega, fun j hj v hv => by rw [List.mem_singleton.1 hv]; rfl, _, h, fun N μ hp k => UG k hr, fun h => (by cases h), fun μ m hr => hr.elim .inl fun c => by cases c.1⟩
 ·obtain ⟨o, c, h, hr⟩ := F.bg
  exact ⟨by omega, fun j hj v hv => by rw [List.mem_singleton.1 hv]; rfl, _, h, fun N μ hp k => UG k hr, fun h => (by cases h), fun μ m hr => hr.elim .inl fun c => by cases c.1⟩
theorem XJ {g : G} {N : Nat} {w : sN} {E : tE} (F : UF g N w E) : ∀ i j b b', (hpL (Zq w E)).get i = some b → (hpL (Zq w E)).get j = some b' → zZ N w i = zZ N w j → i = j := by
 intro i j b b' hi hj e
 have d := F.dup
 simp only [List.nodup_cons, List.mem_cons, List.not_mem_nil, or_false, not_or, not_false_eq_true, List.nodup_nil, and_true] at d
 obtain ⟨⟨d1, d2, d3, d4, d5, d6⟩, ⟨d7, d8, d9, d10, d11⟩, ⟨d12, d13, d14, d15⟩, ⟨d16, d17, d18⟩, ⟨d19, d20⟩, d21⟩ := d
 have hm1 := aY hi
 have hm2 := aY hj
 simp only [List.mem_cons, List.not_mem_nil, or_false] at hm1 hm2
 rcases hm1 with h | h | h | h | h | h | h <;> cases h <;> rcases hm2 with h | h | h | h | h | h | h <;> cases h <;> first | rfl | exact absurd e (by assumption) | exact absurd e.symm (by assumption)



/-- a net's blocks in a small heap -/
noncomputable def nP (w : sN) (E : tE) : List (Nat × aF) := [(2, .cells false 7 1 (.fn fun _ => bQ 6 7 8 w.n w.q w.r)), (3, .aJ true (ay 0 (NM E w.n))), (4, .aJ true (ay 0 (ND E w.n))), (5, .aJ true (ay 0 (BR E w.n))), (6, .cells false 8 w.n (.fn fun j => aP (E j))), (7, .cells false 1 w.q (.fn (aU (aA (ND E w.n))))), (8, .cells false 1 w.r (.fn (aU (aA (BR E w.n)))))]
def roG (N : Nat) (w : sN) (rx : Nat → Nat) (i : Nat) : Nat := if i < 9 then zZ N w i else rx i
def zn (w : sN) (nx : Nat) (nms : List Nat) (i : Nat) : Nat := if i = w.m1 then 3 else if i = w.m2 then 4 else if i = w.m3 then 5 else nms.getD (i - nx) 0
noncomputable def adX (H : T aF) (w : sN) (E : tE) : T aF := ((H.upd w.m1 (some (aF.aJ true (ay 0 (NM E w.n))))).upd w.m2 (some (aF.aJ true (ay 0 (ND E w.n))))).upd w.m3 (some (aF.aJ true (ay 0 (BR E w.n))))
def newL : List aF → Nat → List (Nat × aF)
 | [], _ => []
 | b :: l, i => (i, b) :: newL l (i + 1)
theorem Eh : ∀ {l : List aF} {i : Nat} {q : Nat × aF}, q ∈ newL l i → ∃ j b, l[j]? = some b ∧ q = (i + j, b)
 | [], i, q, h => by cases h
 | b :: l, i, q, h => by
  rcases List.mem_cons.1 h with rfl | h
  ·exact ⟨0, b, rfl, rfl⟩
  ·obtain ⟨j, u, h1, rfl⟩ := Eh h
   exact ⟨j + 1, u, by simpa using h1, by rw [show i + 1 + j = i + (j + 1) by omega]⟩
theorem OV : ∀ {l : List aF} {i j : Nat} {b : aF}, l[j]? = some b → (i + j, b) ∈ newL l i
 | b0 :: l, i, 0, b, h => by cases h; exact List.mem_cons_self
 | b0 :: l, i, j + 1, b, h => by
  have h' : l[j]? = some b := by simpa using h
  have := OV (i := i + 1) h'
  rw [show i + 1 + j = i + (j + 1) by omega] at this
  exact List.mem_cons_of_mem _ this
theorem UJ {N : Nat} {w : sN} {E : tE} {rx : Nat → Nat} : ∀ i b, (hpL (nP w E)).get i = some b → b.ren (roG N w rx) = b.ren (zZ N w) ∧ b.mJ 9 := by
 intro i b hb
 have hm := aY hb
 simp only [nP, List.mem_cons, List.not_mem_nil, or_false] at hm
 rcases hm with h | h | h | h | h | h | h <;> cases h
 ·exact ⟨rfl, fun j hj v hv => List.all_eq_true.1 (show (bQ 6 7 8 w.n w.q w.r).all (fun v => v.low 9) = true from rfl) v hv⟩
 ·exact ⟨rfl, trivial⟩
 ·exact ⟨rfl, trivial⟩
 ·exact ⟨rfl, trivial⟩
 ·exact ⟨rfl, fun j hj v hv => List.all_eq_true.1 (sJ 9 _) v hv⟩
 ·exact ⟨rfl, fun j hj v hv => by rw [List.mem_singleton.1 hv]; rfl⟩
 ·exact ⟨rfl, fun j hj v hv => by rw [List.mem_singleton.1 hv]; rfl⟩
mutual
theorem YL {K K' : Nat} (hK : K ≤ K') : ∀ {v : AV}, v.low K = true → v.low K' = true
 | .top, _ => rfl
 | .bool _, _ => rfl
 | .bD _, _ => rfl
 | .int .., _ => rfl
 | .flt .., _ => rfl
 | .raw .., _ => rfl
 | .bits .., _ => rfl
 | .vW .., _ => rfl
 | .str .., _ => rfl
 | .iW, _ => rfl
 | .dL, _ => rfl
 | .wI, _ => rfl
 | .qV, _ => rfl
 | .BM, _ => rfl
 | .hdr .., _ => rfl
 | .iP, _ => rfl
 | .iw .., h => by simp only [AV.low] at h ⊢; exact Nat.ble_eq_true_of_le (Nat.lt_of_lt_of_le (iJ h) hK)
 | .KJ _, h => by simp only [AV.low] at h ⊢; exact Nat.ble_eq_true_of_le (Nat.lt_of_lt_of_le (iJ h) hK)
 | .ptr a, h => by simp only [AV.low] at h ⊢; exact Nat.ble_eq_true_of_le (Nat.lt_of_lt_of_le (iJ h) hK)
 | .slc _ _ a _, h => by simp only [AV.low] at h ⊢; exact Nat.ble_eq_true_of_le (Nat.lt_of_lt_of_le (iJ h) hK)
 | .mp g, h => by simp only [AV.low] at h ⊢; exact Nat.ble_eq_true_of_le (Nat.lt_of_lt_of_le (iJ h) hK)
 | .fn _ x c, h => by
  simp only [AV.low, Bool.and_eq_true] at h ⊢
  exact ⟨Ei hK h.1, Ei hK h.2⟩
 | .agg l, h => by simp only [AV.low] at h ⊢; exact Ei hK h
 | .lZ l, h => by simp only [AV.low] at h ⊢; exact Ei hK h
theorem Ei {K K' : Nat} (hK : K ≤ K') : ∀ {l : List AV}, mD K l = true → mD K' l = true
 | [], _ => rfl
 | v :: l, h => by
  simp only [mD, Bool.and_eq_true] at h ⊢
  exact ⟨YL hK h.1, Ei hK h.2⟩
end
theorem abz (v : AV) {K K' : Nat} (h : v.low K = true) (hK : K ≤ K') : v.low K' = true := YL hK h
theorem XK {b : aF} {K K' : Nat} (h : b.mJ K) (hK : K ≤ K') : b.mJ K' := by
 cases b with
 | cells own sz m c => exact fun i hi v hv => abz v (h i hi v hv) hK
 | _ => trivial
theorem qx {P : Program} {f : FuncId} {fn : Func} {c : Code} (hf : P.funcs[f]? = some fn) (hb : fn.body = some c) (hname : (fn.name == "runtime.NumGoroutine") = false) {args gG : List AV} {g g' : G} {p : Prop} (hcs : g'.cs → g.cs ∧ p)
  {N : Nat} {w : sN} {E : tE} (ff : p → UF g N w E) {xl : tH} {rx : Nat → Nat} {K0 K' : Nat} (hK0 : 9 ≤ K0)
  (hA : p → ∀ M μ (cs : List Value), aO M μ args cs → aO K0 (μ.via (roG N w rx)) gG cs)
  (tx : p → ∀ i b, (hpL xl).get i = some b → 9 ≤ i ∧ Sx.Told g (roG N w rx) K0 i b ∧ b.owned = false)
  (ix : p → ∀ i j b b', (hpL xl).get i = some b → (hpL (nP w E ++ xl)).get j = some b' → roG N w rx i = roG N w rx j → i = j)
  {bs : List aF} {nms : List Nat} (hl : nms.length = bs.length) (hnew : ∀ nm ∈ nms, K0 ≤ nm) (hnd : nms.Nodup)
  (hH : g'.H = kS (adX g.H w E) g.nx bs) (hnx : g'.nx = g.nx + bs.length)
  (hbs : ∀ b ∈ bs, b.owned = true ∧ b.mJ (g.nx + bs.length) ∧ b.iy fun i => g.nx ≤ i ∧ i < g.nx + bs.length)
  {v : AV} (hv : v.low (g.nx + bs.length) = true) (hvS : v.iy fun i => g.nx ≤ i ∧ i < g.nx + bs.length)
  (h : p → (∀ j, j < nms.length → zn w g.nx nms (g.nx + j) = nms.getD j 0) → aj P c fn.ntmps K0 K0 K' (bJ gG 0 .e) (hpL (nP w E ++ xl)) fun e fr' H' => (e = .ret ∨ e = .normal) ∧ ∃ vs gr, dH P fr' fn.results.toList ⟨H', K', [], [], True⟩ = .done vs gr ∧ gr.cs ∧ AV.ge (jZ vs) (v.ren (zn w g.nx nms)) ∧
   (H'.get 3 = some (.aJ true (ay 0 (NM E w.n))) ∧ H'.get 4 = some (.aJ true (ay 0 (ND E w.n))) ∧ H'.get 5 = some (.aJ true (ay 0 (BR E w.n)))) ∧ ∀ j b, bs[j]? = some b → ∃ b0, H'.get (nms.getD j 0) = some b0 ∧ dD b0 (b.ren (zn w g.nx nms))) :
  bZ P f args v g g' := by
 have nb : ∀ i b, (hpL (nP w E)).get i = some b → 2 ≤ i ∧ i < 9 := fun i b hb => by
  have hm := aY hb
  simp only [nP, List.mem_cons, List.not_mem_nil, or_false] at hm
  rcases hm with h | h | h | h | h | h | h <;> cases h <;> omega
 have ro : ∀ i, i < 9 → roG N w rx i = zZ N w i := fun i hi => if_pos hi
 have split : p → ∀ i b, (hpL (nP w E ++ xl)).get i = some b → ((hpL (nP w E)).get i = some b ∧ i < 9) ∨ ((hpL xl).get i = some b ∧ 9 ≤ i) := fun hp i b hb => by
  rw [jK] at hb
  cases h1 : (hpL (nP w E)).get i with
  | some b1 => rw [h1] at hb; cases hb; exact .inl ⟨rfl, (nb _ _ h1).2⟩
  | none => rw [h1] at hb; exact .inr ⟨hb, (tx hp _ _ hb).1⟩
 refine L9 (c := c) hf hb hname (gG := gG) (bl := nP w E ++ xl) (mM := [(w.m1, .aJ true (ay 0 (NM E w.n))), (w.m2, .aJ true (ay 0 (ND E w.n))), (w.m3, .aJ true (ay 0 (BR E w.n)))] ++ newL bs g.nx) (K0 := K0) (K' := K') (p := p) hcs (roG N w rx) (zn w g.nx nms) (nms := nms) (by rw [hnx, hl]) (v := v) (fun i => i = w.m1 ∨ i = w.m2 ∨ i = w.m3 ∨ (g.nx ≤ i ∧ i < g.nx + bs.length)) (fun hp M μ cs hr => hA hp M μ cs hr) ?_ ?_ hnew hnd ?_ ?_ ?_ ?_ ?_ ?_ ?_
 ·intro hp i b hb
  rcases split hp i b hb with ⟨hb, hi⟩ | ⟨hb, hi⟩
  ·have t := UH (ff hp) i b hb
   obtain ⟨b1, t1, t2, t3, t4⟩ := t.of
   refine ⟨by omega, ?_, b1, by rw [ro i hi]; exact t1, fun M μ hpp k => ?_, t3, t4⟩
   ·exact XK t.low hK0
   ·rw [ro i hi] at k ⊢
    rw [(UJ i b hb).1]
    exact t2 M μ hpp k
  ·exact (tx hp i b hb).2.1
 ·intro hp i j b b' hi hj e
  rcases split hp i b hi with ⟨hi', li⟩ | ⟨hi', li⟩
  ·rcases split hp j b' hj with ⟨hj', lj⟩ | ⟨hj', lj⟩
   ·rw [ro i li, ro j lj] at e
    exact XJ (ff hp) i j b b' hi' hj' e
   ·exact (ix hp j i b' b hj' hi e.symm).symm
  ·exact ix hp i j b b' hi' hj e
 ·-- κ at the new names
  intro hp hL j hj
  obtain ⟨⟨_, h1⟩, ⟨_, h2⟩, ⟨_, h3⟩⟩ := (⟨(ff hp).m1, (ff hp).m2, (ff hp).m3⟩ : _ ∧ _ ∧ _)
  have l1 := hL _ _ h1; have l2 := hL _ _ h2; have l3 := hL _ _ h3
  show zn w g.nx nms (g.nx + j) = _
  unfold zn
  rw [if_neg (by omega), if_neg (by omega), if_neg (by omega), Nat.add_sub_cancel_left]
 ·intro hp hL i hi
  have d := (ff hp).dup
  simp only [List.nodup_cons, List.mem_cons, List.not_mem_nil, or_false, not_or, not_false_eq_true, List.nodup_nil, and_true] at d
  obtain ⟨⟨d1, d2, d3, d4, d5, d6⟩, ⟨d7, d8, d9, d10, d11⟩, ⟨d12, d13, d14, d15⟩, ⟨d16, d17, d18⟩, ⟨d19, d20⟩, d21⟩ := d
  obtain ⟨⟨_, h1⟩, ⟨_, h2⟩, ⟨_, h3⟩⟩ := (⟨(ff hp).m1, (ff hp).m2, (ff hp).m3⟩ : _ ∧ _ ∧ _)
  have l1 := hL _ _ h1; have l2 := hL _ _ h2; have l3 := hL _ _ h3
  have k1 : zn w g.nx nms w.m1 = 3 := if_pos rfl
  have k2 : zn w g.nx nms w.m2 = 4 := (if_neg (fun c => d7 c.symm)).trans (if_pos rfl)
  have k3 : zn w g.nx nms w.m3 = 5 := (if_neg (fun c => d8 c.symm)).trans ((if_neg (fun c => d12 c.symm)).trans (if_pos rfl))
  rcases hi with rfl | rfl | rfl | ⟨h4, h5⟩
  ·exact ⟨by omega, fun _ => by rw [k1]; exact ⟨by omega, ro 3 (by omega)⟩⟩
  ·exact ⟨by omega, fun _ => by rw [k2]; exact ⟨by omega, ro 4 (by omega)⟩⟩
  ·exact ⟨by omega, fun _ => by rw [k3]; exact ⟨by omega, ro 5 (by omega)⟩⟩
  ·exact ⟨by omega, fun h => by omega⟩
 ·-- the walk
  intro hp hL
  have d := (ff hp).dup
  simp only [List.nodup_cons, List.mem_cons, List.not_mem_nil, or_false, not_or, not_false_eq_true, List.nodup_nil, and_true] at d
  obtain ⟨⟨d1, d2, d3, d4, d5, d6⟩, ⟨d7, d8, d9, d10, d11⟩, ⟨d12, d13, d14, d15⟩, ⟨d16, d17, d18⟩, ⟨d19, d20⟩, d21⟩ := d
  obtain ⟨⟨_, h1⟩, ⟨_, h2⟩, ⟨_, h3⟩⟩ := (⟨(ff hp).m1, (ff hp).m2, (ff hp).m3⟩ : _ ∧ _ ∧ _)
  have l1 := hL _ _ h1; have l2 := hL _ _ h2; have l3 := hL _ _ h3
  have k1 : zn w g.nx nms w.m1 = 3 := if_pos rfl
  have k2 : zn w g.nx nms w.m2 = 4 := (if_neg (fun c => d7 c.symm)).trans (if_pos rfl)
  have k3 : zn w g.nx nms w.m3 = 5 := (if_neg (fun c => d8 c.symm)).trans ((if_neg (fun c => d12 c.symm)).trans (if_pos rfl))
  have kN : ∀ j, j < nms.length → zn w g.nx nms (g.nx + j) = nms.getD j 0 := fun j hj => by
   unfold zn
   rw [if_neg (by omega), if_neg (by omega), if_neg (by omega), Nat.add_sub_cancel_left]
  refine (h hp kN).mono fun e fr' H' ⟨e1, vs, gr, e2, e3, e4, ⟨e5, e6, e7⟩, e8⟩ => ⟨e1, vs, gr, e2, e3, e4, fun q hq => ?_⟩
  rcases List.mem_append.1 hq with hq | hq
  ·simp only [List.mem_cons, List.not_mem_nil, or_false] at hq
   rcases hq with rfl | rfl | rfl
   ·exact ⟨_, by rw [k1]; exact e5, dD.refl _⟩
   ·exact ⟨_, by rw [k2]; exact e6, dD.refl _⟩
   ·exact ⟨_, by rw [k3]; exact e7, dD.refl _⟩
  ·obtain ⟨j, b, hj, rfl⟩ := Eh hq
   obtain ⟨b0, q1, q2⟩ := e8 j b hj
   exact ⟨b0, by rw [kN j (by rw [hl]; exact (List.getElem?_eq_some_iff.1 hj).1)]; exact q1, q2⟩
 ·intro hp hL; rw [hnx]; exact hv
 ·intro hp hL
  exact AV.iy.mono (fun i hi => .inr (.inr (.inr hi))) hvS
 ·intro hp hL q hq
  have d := (ff hp).dup
  simp only [List.nodup_cons, List.mem_cons, List.not_mem_nil, or_false, not_or, not_false_eq_true, List.nodup_nil, and_true] at d
  obtain ⟨⟨d1, d2, d3, d4, d5, d6⟩, ⟨d7, d8, d9, d10, d11⟩, ⟨d12, d13, d14, d15⟩, ⟨d16, d17, d18⟩, ⟨d19, d20⟩, d21⟩ := d
  obtain ⟨⟨_, h1⟩, ⟨_, h2⟩, ⟨_, h3⟩⟩ := (⟨(ff hp).m1, (ff hp).m2, (ff hp).m3⟩ : _ ∧ _ ∧ _)
  have l1 := hL _ _ h1; have l2 := hL _ _ h2; have l3 := hL _ _ h3
  have k1 : zn w g.nx nms w.m1 = 3 := if_pos rfl
  have k2 : zn w g.nx nms w.m2 = 4 := (if_neg (fun c => d7 c.symm)).trans (if_pos rfl)
  have k3 : zn w g.nx nms w.m3 = 5 := (if_neg (fun c => d8 c.symm)).trans ((if_neg (fun c => d12 c.symm)).trans (if_pos rfl))
  have nbl : ∀ i b, (hpL (nP w E)).get i = some b → (hpL (nP w E ++ xl)).get i = some b := fun i b hb => by rw [jK, hb]; rfl
  rcases List.mem_append.1 hq with hq | hq
  ·simp only [List.mem_cons, List.not_mem_nil, or_false] at hq
   rcases hq with rfl | rfl | rfl
   ·exact ⟨.inl rfl, trivial, trivial, fun _ => ⟨_, by rw [k1]; exact nbl 3 _ rfl, rfl, fun μ m h => h⟩, fun _ => rfl⟩
   ·exact ⟨.inr (.inl rfl), trivial, trivial, fun _ => ⟨_, by rw [k2]; exact nbl 4 _ rfl, rfl, fun μ m h => h⟩, fun _ => rfl⟩
   ·exact ⟨.inr (.inr (.inl rfl)), trivial, trivial, fun _ => ⟨_, by rw [k3]; exact nbl 5 _ rfl, rfl, fun μ m h => h⟩, fun _ => rfl⟩
  ·obtain ⟨j, b, hj, rfl⟩ := Eh hq
   have hlt := (List.getElem?_eq_some_iff.1 hj).1
   obtain ⟨b1, b2, b3⟩ := hbs b (List.mem_of_getElem? hj)
   exact ⟨.inr (.inr (.inr ⟨by omega, by omega⟩)), aF.iy.mono (fun i hi => .inr (.inr (.inr hi))) b3, by rw [hnx]; exact b2, fun h => absurd h (by omega), fun _ => b1⟩
 ·intro hp hL i b hi
  rw [hH, rV] at hi
  split at hi
  ·rename_i hb
   refine .inr (List.mem_append_right _ ?_)
   have := OV (i := g.nx) hi
   rwa [show g.nx + (i - g.nx) = i by omega] at this
  ·unfold adX at hi
   rw [T.bF] at hi
   split at hi
   ·rename_i e; cases hi; subst e; exact .inr (by simp)
   rename_i n3
   rw [T.bF] at hi
   split at hi
   ·rename_i e; cases hi; subst e; exact .inr (by simp)
   rename_i n2
   rw [T.bF] at hi
   split at hi
   ·rename_i e; cases hi; subst e; exact .inr (by simp)
   rename_i n1
   refine .inl ⟨hi, fun j bj hj ho e => ?_⟩
   rcases split hp j bj hj with ⟨hj, lj⟩ | ⟨hj, lj⟩
   ·rw [ro j lj] at e
    have hm' := aY hj
    simp only [nP, List.mem_cons, List.not_mem_nil, or_false] at hm'
    rcases hm' with h | h | h | h | h | h | h <;> cases h
    ·cases ho
    ·exact n1 e.symm
    ·exact n2 e.symm
    ·exact n3 e.symm
    ·cases ho
    ·cases ho
    ·cases ho
   ·rw [(tx hp j bj hj).2.2] at ho; cases ho


theorem vS {l : List Tx} {x : Tx} (h : ∀ i, i < l.length → pos (aA l i) (g0 :: l.take i) = none) : ∀ i, i < (addN l x).length → pos (aA (addN l x) i) (g0 :: (addN l x).take i) = none := by
 unfold addN
 cases q : (pos x l).isSome || x == [] || x == [48] with
 | true => rw [cond_true]; exact h
 | false =>
  rw [cond_false]
  intro i hi
  simp only [Bool.or_eq_false_iff] at q
  obtain ⟨⟨q1, q2⟩, q3⟩ := q
  have q4 : pos x l = none := by
   cases e : pos x l with
   | none => rfl
   | some j => rw [e] at q1; cases q1
  by_cases c : i < l.length
  ·have h1 := h i c
   have e1 : aA (l ++ [x]) i = aA l i := by
    unfold aA
    rw [List.getD_eq_getElem?_getD, List.getElem?_append_left c, ← List.getD_eq_getElem?_getD]
   rw [e1, List.take_append_of_le_length (by omega)]
   exact h1
  ·have hi' : i = l.length := by simp at hi; omega
   subst hi'
   have e1 : aA (l ++ [x]) l.length = x := by
    unfold aA
    rw [List.getD_eq_getElem?_getD, List.getElem?_append_right (Nat.le_refl _), Nat.sub_self]; rfl
   rw [e1, List.take_append_of_le_length (Nat.le_refl _), List.take_length]
   refine nO.2 fun hm => ?_
   rcases List.mem_cons.1 hm with hm | hm
   ·rw [hm] at q3; exact absurd q3 (by decide)
   ·exact nO.1 q4 hm
theorem OW (E : tE) : ∀ n i, i < (ND E n).length → pos (aA (ND E n) i) (g0 :: (ND E n).take i) = none
 | 0, i, h => absurd h (Nat.not_lt_zero _)
 | n + 1, i, h => by
  unfold ND at h ⊢
  exact vS (vS (vS (vS (OW E n)))) i h
/-- a place among the sets is one -/
theorem He (l : List Tx) (x : Tx) : 0 ≤ (cZ seq x (ay 0 (g0 :: l))).getD 0 ∧ (cZ seq x (ay 0 (g0 :: l))).getD 0 < ((l.length + 1 : Nat) : Int) := by
 rw [y8]
 cases e : pos x (g0 :: l) with
 | none => exact ⟨Int.le_refl _, by show (0 : Int) < _; omega⟩
 | some i =>
  have := (MO e).1
  simp only [List.length_cons] at this
  exact ⟨by show (0 : Int) ≤ ((0 + i : Nat) : Int); omega, by show ((0 + i : Nat) : Int) < _; omega⟩
noncomputable def UK (l : List Tx) : M Nat :=
 (M.fD (Z6 l)).andThen fun N => (M.fD (ZCz l)).andThen fun _ => M.fD (.cells true 2 1 (.fn fun _ => [.mp (N + 1), .slc true true ⟨false, N, 0, 0⟩ (l.length + 1)]))
noncomputable def ogB (N : Nat) (l : List Tx) : List aF := [Z6 l, ZCz l, .cells true 2 1 (.fn fun _ => [.mp (N + 1), .slc true true ⟨false, N, 0, 0⟩ (l.length + 1)])]
theorem QD (l : List Tx) : aC (UK l) := (aC.fD _).andThen fun _ => (aC.fD _).andThen fun _ => aC.fD _
theorem Nl {l : List Tx} {N : Nat} {g g' : G} (h : UK l g = .done N g') : N = g.nx + 2 ∧ g'.H = kS g.H g.nx (ogB g.nx l) ∧ g'.nx = g.nx + 3 ∧ g'.cs = g.cs := by
 cases h
 exact ⟨rfl, rfl, rfl, rfl⟩
noncomputable def uM : List AV → M AV
 | [.ptr aN] => (M.dh (og aN)).andThen fun _ => (netRd aN.g).andThen fun y => (M.setB y.1.m1 (.aJ true (ay 0 (NM y.2 y.1.n)))).andThen fun _ => (M.setB y.1.m2 (.aJ true (ay 0 (ND y.2 y.1.n)))).andThen fun _ => (M.setB y.1.m3 (.aJ true (ay 0 (BR y.2 y.1.n)))).andThen fun _ => M.ret (.bool false)
 | _ => M.no
theorem mV : ∀ args, aC (uM args) := by
 intro args
 unfold uM
 split
 ·exact (aC.dh _).andThen fun _ => (lu _).andThen fun _ => (aC.setB _ _).andThen fun _ => (aC.setB _ _).andThen fun _ => (aC.setB _ _).andThen fun _ => aC.ret _
 ·exact aC.no
theorem pF : ∀ args v g g', uM args g = .done v g' → bZ Try.prog 39 args v g g' := by
 intro args v g g' h
 unfold uM at h
 split at h
 case h_2 => exact (bC h).elim
 rename_i aN
 obtain ⟨_, g1, a1, h⟩ := au h
 obtain ⟨q0, rfl⟩ := aS a1
 have q0 := jD q0
 obtain ⟨⟨w, E⟩, g3, a3, h⟩ := au h
 obtain ⟨qf, kk, ff⟩ := jE a3
 dsimp only at h ff
 obtain ⟨_, g6, a6, h⟩ := au h
 obtain ⟨_, g7, a7, h⟩ := au h
 obtain ⟨_, g8, a8, h⟩ := au h
 obtain ⟨b1, b2, b3⟩ := bM a6
 obtain ⟨b4, b5, b6⟩ := bM a7
 obtain ⟨b7, b8, b9⟩ := bM a8
 have hx : g8.nx = g.nx := by rw [b8, b5, b2, kk.2.1]
 obtain ⟨rfl, rfl⟩ := aB h
 refine qx (K' := 40) (c := (ak Try.f39)) Try.func39 (by kernel_rfl) (by kernel_rfl) (gG := [ZA 2]) (fun hc => kk.2.2 (by rw [← b3, ← b6, ← b9]; exact hc)) (N := aN.g) (w := w) (E := E) (fun hp => ff hp) (xl := []) (rx := fun _ => 0) (K0 := 9) (Nat.le_refl _) (fun hp M μ cs hr => ?_) (fun hp i b hb => by cases hb) (fun hp i j b b' hi => by cases hi) (bs := []) (nms := []) rfl (by decide) (by decide) (by rw [b7, b4, b1, kk.1]; rfl) (by rw [b8, b5, b2, kk.2.1]; rfl) (fun b hb => by cases hb) (by simp [AV.low, mD]) (by simp [AV.iy, lC]) (fun hp kN => ?_)
 ·simp only [aO] at hr ⊢
  obtain ⟨c1, l1, rfl, h1, rfl⟩ := hr
  exact ⟨c1, _, rfl, kD h1 q0.1 q0.2 (by omega) rfl, rfl⟩
 have F := ff hp
 rw [List.append_nil]
 refine (QA w.n w.q w.r E (aA (ND E w.n)) (aA (BR E w.n)) _ _ _ (by have := F.n256; omega)).mono fun e fr' H' h => ?_
 obtain ⟨rfl, rfl, rfl⟩ := h
 exact ⟨.inl rfl, _, _, res1 (t := 2) (by kernel_rfl) rfl, trivial, AV.ge.refl _, ⟨rfl, rfl, rfl⟩, fun j b hb => by cases hb⟩

noncomputable def Tz : List AV → M AV
 | [.ptr aN] => (M.dh (og aN)).andThen fun _ => (netRd aN.g).andThen fun y => (M.setB y.1.m1 (.aJ true (ay 0 (NM y.2 y.1.n)))).andThen fun _ => (M.setB y.1.m2 (.aJ true (ay 0 (ND y.2 y.1.n)))).andThen fun _ => (M.setB y.1.m3 (.aJ true (ay 0 (BR y.2 y.1.n)))).andThen fun _ => (UK (ND y.2 y.1.n)).andThen fun N => M.ret (.ptr ⟨false, N, 0, 0⟩)
 | _ => M.no
theorem sD : ∀ args, aC (Tz args) := by
 intro args
 unfold Tz
 split
 ·exact (aC.dh _).andThen fun _ => (lu _).andThen fun _ => (aC.setB _ _).andThen fun _ => (aC.setB _ _).andThen fun _ => (aC.setB _ _).andThen fun _ => (QD _).andThen fun _ => aC.ret _
 ·exact aC.no
theorem xk : ∀ args v g g', Tz args g = .done v g' → bZ Try.prog 40 args v g g' := by
 intro args v g g' h
 unfold Tz at h
 split at h
 case h_2 => exact (bC h).elim
 rename_i aN
 obtain ⟨_, g1, a1, h⟩ := au h
 obtain ⟨q0, rfl⟩ := aS a1
 have q0 := jD q0
 obtain ⟨⟨w, E⟩, g3, a3, h⟩ := au h
 obtain ⟨qf, kk, ff⟩ := jE a3
 dsimp only at h ff
 obtain ⟨_, g6, a6, h⟩ := au h
 obtain ⟨_, g7, a7, h⟩ := au h
 obtain ⟨_, g8, a8, h⟩ := au h
 obtain ⟨b1, b2, b3⟩ := bM a6
 obtain ⟨b4, b5, b6⟩ := bM a7
 obtain ⟨b7, b8, b9⟩ := bM a8
 have hx : g8.nx = g.nx := by rw [b8, b5, b2, kk.2.1]
 obtain ⟨N, g9, a9, h⟩ := au h
 obtain ⟨e1, e2, e3, e4⟩ := Nl a9
 obtain ⟨rfl, rfl⟩ := aB h
 refine qx (K' := 13) (c := (ak Try.f40)) Try.func40 (by kernel_rfl) (by kernel_rfl) (gG := [.ptr ⟨false, 2, 0, 0⟩]) (fun hc => kk.2.2 (by rw [← b3, ← b6, ← b9, ← e4]; exact hc)) (N := aN.g) (w := w) (E := E) (fun hp => ff hp) (xl := []) (rx := fun _ => 0) (K0 := 9) (Nat.le_refl _) (fun hp M μ cs hr => ?_) (fun hp i b hb => by cases hb) (fun hp i j b b' hi => by cases hi) (bs := ogB g.nx (ND E w.n)) (nms := [10, 11, 9]) rfl (by decide) (by decide) (by rw [e2, b7, b4, b1, kk.1, hx]; rfl) (by rw [e3, hx]; rfl) (fun b hb => by
   simp only [ogB, List.mem_cons, List.not_mem_nil, or_false] at hb
   rcases hb with rfl | rfl | rfl
   ·exact ⟨rfl, fun i hi v hv => by rw [List.mem_singleton.1 hv]; rfl, fun i hi o v hv => by
     match o, hv with
     | 0, hv => cases hv; trivial⟩
   ·exact ⟨rfl, trivial, trivial⟩
   ·refine ⟨rfl, fun i hi v hv => ?_, fun i hi o v hv => ?_⟩
    ·rcases List.mem_cons.1 hv with rfl | hv
     ·exact Nat.ble_eq_true_of_le (show Nat.succ (g.nx + 1) ≤ g.nx + 3 by omega)
     ·rw [List.mem_singleton.1 hv]; exact Nat.ble_eq_true_of_le (show Nat.succ g.nx ≤ g.nx + 3 by omega)
    ·match o, hv with
     | 0, hv => cases hv; exact ⟨by omega, by show _ < g.nx + 3; omega⟩
     | 1, hv => cases hv; exact ⟨by show g.nx ≤ g.nx; omega, by show g.nx < g.nx + 3; omega⟩) (by rw [e1, hx]; exact Nat.ble_eq_true_of_le (show Nat.succ (g.nx + 2) ≤ g.nx + 3 by omega)) (by rw [e1, hx]; exact ⟨by show g.nx ≤ g.nx + 2; omega, by show g.nx + 2 < g.nx + 3; omega⟩) (fun hp kN => ?_)
 ·simp only [aO] at hr ⊢
  obtain ⟨c1, l1, rfl, h1, rfl⟩ := hr
  exact ⟨c1, _, rfl, kD h1 q0.1 q0.2 (by omega) rfl, rfl⟩
 have F := ff hp
 rw [List.append_nil]
 have eB : nP w E = [(2, .cells false 7 1 (.fn fun _ => bQ 6 7 8 w.n (ND E w.n).length w.r)), (3, .aJ true (ay 0 (NM E w.n))), (4, .aJ true (ay 0 (ND E w.n))), (5, .aJ true (ay 0 (BR E w.n))), (6, .cells false 8 w.n (.fn fun j => aP (E j))), (7, .cells false 1 (ND E w.n).length (.fn (aU (aA (ND E w.n))))), (8, .cells false 1 w.r (.fn (aU (aA (BR E w.n)))))] := by unfold nP; rw [F.XI]
 have k0 : zn w g.nx [10, 11, 9] g.nx = 10 := kN 0 (by simp)
 have k1 : zn w g.nx [10, 11, 9] (g.nx + 1) = 11 := kN 1 (by simp)
 have k2 : zn w g.nx [10, 11, 9] (g.nx + 2) = 9 := kN 2 (by simp)
 rw [eB]
 refine (XA (ND E w.n) w.n w.r E (aA (BR E w.n)) (ay 0 (NM E w.n)) (ay 0 (ND E w.n)) (ay 0 (BR E w.n)) (by have := uK E w.n; have := F.n256; omega) (OW E w.n)).mono fun e fr' H' h => ?_
 obtain ⟨rfl, rfl, rfl⟩ := h
 refine ⟨.inl rfl, _, _, res1 (t := 2) (by kernel_rfl) rfl, trivial, ?_, ⟨rfl, rfl, rfl⟩, fun j b hb => ?_⟩
 ·simp only [AV.ren, AA.ren, e1, hx, k2]
  exact AV.ge.refl _
 ·match j, hb with
  | 0, hb => cases hb; exact ⟨_, rfl, rfl, rfl, rfl, fun j hj => rfl⟩
  | 1, hb => cases hb; exact (hs rfl)
  | 2, hb =>
   cases hb
   refine ⟨_, rfl, rfl, rfl, rfl, fun j hj => ?_⟩
   show _ = kQ (zn w g.nx [10, 11, 9]) [.mp (g.nx + 1), .slc true true ⟨false, g.nx, 0, 0⟩ ((ND E w.n).length + 1)]
   simp only [kQ, AV.ren, AA.ren, k0, k1]
   rfl

noncomputable def abA : Known := kc 71 ofBits (kc 74 toBits (kc 72 jw (kc 61 nM (kc 58 jT (kc 73 KP (kc 59 pq (kc 60 pz (kc 35 yS (kc 12 mP (kc 29 zT (kc 46 mQ (kc 44 qO (kc 41 sS (kc 39 uM (kc 40 Tz (kn))))))))))))))))
theorem OX : fK Try.prog abA := aH ((fQ Try.prog).fE Try.func71 (by kernel_rfl) (by kernel_rfl) (by kernel_rfl) (by kernel_rfl)) (aH ((fP Try.prog).fE Try.func74 (by kernel_rfl) (by kernel_rfl) (by kernel_rfl) (by kernel_rfl)) (aH gI (aH iK (aH gU (aH nX (aH jy (aH jA (aH nC (aH jL (aH oG (aH jM (aH lQ (aH nN (aH pF (aH xk (qj))))))))))))))))
theorem KA : gY abA := aG aC.ofBits (aG aC.toBits (aG fJ (aG gJ (aG fZ (aG kH (aG iL (aG iM (aG ku (aG iR (aG lS (aG iU (aG jO (aG kY (aG mV (aG sD (lJ))))))))))))))))
noncomputable def OY : Calls' := Sx.runN Try.prog abA (bK Try.prog) 1000 50
theorem UL : dw Try.prog OY := iQ OX KA (by kernel_rfl) (by kernel_rfl) 1000 50
theorem QE (n : Nat) : eF Try.prog (bK Try.prog OY n) n := eX OX KA (by kernel_rfl) (by kernel_rfl) 1000 50 n
noncomputable abbrev Ej (f : Func) (c : Code) (fr : Fr) (H : T aF) (K : Nat) (path : List Bool) : Aa (Ex × Fr) :=
 bV Try.prog OY (bK Try.prog OY f.ntmps) jH f.ntmps 1000 c fr ⟨H, K, [], path, True⟩


theorem rcX {fn : Func} {K K' B : Nat} {e : Ex} {F : jU} {Hl : tH} {c : Code} {fr : Fr} {H : T aF} {path : List Bool} (h : cO K' e F Hl (Ej fn c fr H K path)) (hB : B ≤ K) : aj Try.prog c fn.ntmps B K K' fr H fun e' fr' H' => e' = e ∧ fr' = aV F ∧ H' = hpL Hl := aj.runN UL (QE _) (gu.none _ _ _) h hB
theorem Ii {fn : Func} {K K' B : Nat} {e : Ex} {F : jU} {Hl : tH} {c : Code} {fr : Fr} {H : T aF} (path : List Bool) {q : Prop} (hq : q) (hB : B ≤ K) (h : jg K' e F Hl (Ej fn c fr H K path) = (e = e ∧ ql F ∧ qm Hl ∧ true = true ∧ q) := by kernel_rfl) : aj Try.prog c fn.ntmps B K K' fr H fun e' fr' H' => e' = e ∧ fr' = aV F ∧ H' = hpL Hl := rcX (eqn h hq) hB
theorem voA (B : Nat) (hB : B ≤ 9) (n q r : Nat) (E : tE) (nd br : Nat → List UInt8) (M1 M2 M3 : List (List UInt8 × Int)) : aj Try.prog ((aT [0] (ak Try.f15))) Try.f15.ntmps B 9 9 JI (D9 n q r M1 M2 M3 E nd br) (YF n q r M1 M2 M3 E nd br) := Ii [] trivial hB
noncomputable abbrev Zt (v0 : tE) (v1 : Nat) := aF.aJ true (ay 0 (NM (aK (Cont.row (.fn fun j => aP (v0 j)))) v1))
noncomputable abbrev Zu (v0 : tE) (v1 : Nat) := aF.aJ true (ay 0 (ND (aK (Cont.row (.fn fun j => aP (v0 j)))) v1))
noncomputable abbrev Zv (v0 : tE) (v1 : Nat) := aF.aJ true (ay 0 (BR (aK (Cont.row (.fn fun j => aP (v0 j)))) v1))
noncomputable abbrev ZEF (v0 v1 v2 : Nat) (v3 : tE) (v4 v5 : Nat → List UInt8) := pP .normal [(0, ZA 2)] [(2, Za v0 v1 v2), (3, Zt v3 v0), (4, Zu v3 v0), (5, Zv v3 v0), (6, ZS v0 v3), (7, ZK v1 v4), (8, ZK v2 v5)]
theorem voB (B : Nat) (hB : B ≤ 9) (n q r : Nat) (E : tE) (nd br : Nat → List UInt8) (M1 M2 M3 : List (List UInt8 × Int)) (x0 : (qI n q r n q r M1 M2 M3 (Cont.row (.fn fun j => aP (E j))) (Cont.row (.fn (aU nd))) (Cont.row (.fn (aU br))))) : aj Try.prog ((aT [1,0] (ak Try.f15))) Try.f15.ntmps B 9 9 (zq 0 2) (D9 n q r M1 M2 M3 E nd br) (ZEF n q r E nd br) := Ii [] (I1 x0) hB
noncomputable abbrev ZBT (v0 : tE) (v1 : Nat) (w0 w1) := (.cells true 2 1 (.fn fun x => [.mp w0, sL w1 (List.length (ND (aK (Cont.row (.fn fun j => aP (v0 j)))) v1) + 1)]) : aF)
noncomputable abbrev ZBl (v0 : tE) (v1 : Nat) := aF.aJ true (ay 0 (g0 :: ND (aK (Cont.row (.fn fun j => aP (v0 j)))) v1))
noncomputable abbrev ZB5 (v0 : tE) (v1 : Nat) := (.cells true 1 (List.length (ND (aK (Cont.row (.fn fun j => aP (v0 j)))) v1) + 1) (.fn fun k => [iT (↑k : Int)]) : aF)
theorem voC (B : Nat) (hB : B ≤ 9) (n q r : Nat) (E : tE) (nd br : Nat → List UInt8) (M1 M2 M3 : List (List UInt8 × Int)) (x0 : (qI n q r n q r M1 M2 M3 (Cont.row (.fn fun j => aP (E j))) (Cont.row (.fn (aU nd))) (Cont.row (.fn (aU br))))) : aj Try.prog ((aT [1,1,0] (ak Try.f15))) Try.f15.ntmps B 9 12 (zq 0 2) (D9 n q r M1 M2 M3 E nd br) (pP .normal (sQ 0 2 3 11) [(2, Za n q r), (3, Zt E n), (4, Zu E n), (5, Zv E n), (6, ZS n E), (7, ZK q nd), (8, ZK r br), (9, ZB5 E n), (10, ZBl E n), (11, ZBT E n 10 9)]) := Ii [] (I1 x0) hB
theorem voJ (B : Nat) (hB : B ≤ 12) (n q r : Nat) (E : tE) (nd br : Nat → List UInt8) (M1 M2 M3 : List (List UInt8 × Int)) (l : List Tx) (x0 : (n * 104 ≤ 140737488355328)) (x1 : (n ≤ 9223372036854775807)) : aj Try.prog ((aT [1,1,1,0,0] (ak Try.f15))) Try.f15.ntmps B 12 13 (aV (sQ 0 2 3 9)) (hpL [(2, ZV n q r), (3, .aJ true M1), (4, .aJ true M2), (5, .aJ true M3), (6, ZC n E), (7, ZK q nd), (8, ZK r br), (9, Xz l 11 10), (10, Z6 l), (11, ZCz l)]) (pP .normal [(0, ZA 2), (3, ZA 9), (11, sL 12 n), (12, iT (↑n : Int)), (13, Zg)] [(2, Za n q r), (3, Zb M1), (4, Zb M2), (5, Zb M3), (6, ZS n E), (7, ZK q nd), (8, ZK r br), (9, .cells true 2 1 (.fn fun x => [.mp 11, sL 10 (List.length l + 1)])), (10, .cells true 1 (List.length l + 1) (.fn fun k => [iT (↑k : Int)])), (11, aF.aJ true (ay 0 (g0 :: l))), (12, .cells true 8 n (.fn fun j => (aP (E (0 + j)))))]) := Ii [] (I2 (show 0 + n ≤ n by omega) (ai x0 x1)) hB
/-- one of them closes a loop -/
def Vq (zl : tM) (E : tE) (n : Nat) : Bool := (List.range n).any fun i => jC zl E i
theorem UM {zl : tM} {E : tE} {n : Nat} (h : ∃ j, j < n ∧ jC zl E j = true) : Vq zl E n = true := by
 obtain ⟨j, h1, h2⟩ := h
 exact List.any_eq_true.2 ⟨j, List.mem_range.2 h1, h2⟩
theorem QG {zl : tM} {E : tE} {n : Nat} (h : ∀ j, j < n → jC zl E j = false) : Vq zl E n = false := by
 cases q : Vq zl E n with
 | false => rfl
 | true =>
  obtain ⟨j, h1, h2⟩ := List.any_eq_true.1 q
  rw [h j (List.mem_range.1 h1)] at h2
  cases h2
theorem XL : (aT [1,1,1,0,1,0,0] (ak Try.f15)) = .seq (aT [1,1,1,0,1,0,0,0] (ak Try.f15)) (.seq (aT [1,1,1,0,1,0,0,1,0] (ak Try.f15)) (.seq (.block 1 (.seq ZCY (.seq ZB0 ZCN))) (aT [1,1,1,0,1,0,0,1,1,1] (ak Try.f15)))) := by kernel_rfl
theorem adY : (ak Try.f15) = .seq (aT [0] (ak Try.f15)) (.seq (aT [1,0] (ak Try.f15)) (.seq (aT [1,1,0] (ak Try.f15)) (.seq (.seq (aT [1,1,1,0,0] (ak Try.f15)) (.block 0 (.loop (aT [1,1,1,0,1,0,0] (ak Try.f15))))) (aT [1,1,1,1] (ak Try.f15))))) := by kernel_rfl
noncomputable abbrev ZEJ (v0 : Nat) (w0 w1 w2 w3) := ([(3, ZA w0), (w1, sL 12 v0), (w2, iT (v0 : Int)), (w3, iT (v0 : Int))] : jU)
theorem XM (n m : Nat) (E : tE) (zl : tM) (hn : n ≤ 1024) (hm : m ≤ 4096) (hz : ∀ x, 0 ≤ (cZ seq x zl).getD 0 ∧ (cZ seq x zl).getD 0 < (m : Int)) :
  aj Try.prog (.block 0 (.loop (aT [1,1,1,0,1,0,0] (ak Try.f15)))) Try.f15.ntmps 9 13 13 (aV [(3, ZA 9), (11, sL 12 n), (12, iT (n : Int)), (13, FC)]) (hpL [(9, ZI m 11 10), (10, .cells true 1 m (.fn fun k => [iT (((Ul (bU zl) (vl E 0)) k : Nat) : Int)])), (11, .aJ true zl), (12, ZF n E)]) (fun e fr H => (e = .normal ∧ (∀ j, j < n → jC zl E j = false) ∧ fr = aV (ZEJ n 9 11 12 13) ∧ H = hpL [(9, ZI m 11 10), (10, ZBq m zl E n), (11, .aJ true zl), (12, ZF n E)]) ∨ (e = .ret ∧ (∃ j, j < n ∧ jC zl E j = true) ∧ fr = aV [(2, .bD true)] ∧ H = hpL [])) := by
 refine aj.count n (fun i => [(3, ZA 9), (11, sL 12 n), (12, iT (n : Int)), (13, iT (i : Int))]) (fun i => [(9, ZI m 11 10), (10, .cells true 1 m (.fn fun k => [iT (((Ul (bU zl) (vl E i)) k : Nat) : Int)])), (11, .aJ true zl), (12, ZF n E)]) (ZEJ n 9 11 12 13) [(9, ZI m 11 10), (10, ZBq m zl E n), (11, .aJ true zl), (12, ZF n E)] (fun i => ∀ j, j < i → jC zl E j = false) (fun fr H => (∃ j, j < n ∧ jC zl E j = true) ∧ fr = aV [(2, .bD true)] ∧ H = hpL []) (fun j hj => absurd hj (Nat.not_lt_zero _)) fun i hi hg => ?_
 rw [XL]
 refine aj.bn (K1 := 13) (voD 9 (by omega) n m i (Ul (bU zl) (vl E i)) E zl) (by omega) ?_
 by_cases c : i < n
 ·refine aj.bn (K1 := 13) (F1 := [(3, ZA 9), (11, sL 12 n), (12, iT (n : Int)), (13, iT (i : Int))]) (H1 := [(9, ZI m 11 10), (10, .cells true 1 m (.fn fun k => [iT (((Ul (bU zl) (vl E i)) k : Nat) : Int)])), (11, .aJ true zl), (12, ZF n E)]) ((voX 9 (by omega) n m i (Ul (bU zl) (vl E i)) E zl (decide ((i : Int) < (n : Int)))).mono fun e fr' H' h => ?_) (by omega) ?_
  ·rw [decide_eq_true (by omega), cond_true] at h
   exact h
  refine aj.seq (K1 := 13) (by omega) ((abw n m i E zl c hn hm hz).mono fun e fr' H' h => ?_)
  rcases h with ⟨rfl, h0, rfl, rfl⟩ | ⟨rfl, h0, rfl, rfl⟩
  ·refine (aj.toN (voH 9 (by omega) n m i (Ul (bU zl) (vl E (i + 1))) E zl (by omega)) (F' := [(3, ZA 9), (11, sL 12 n), (12, iT (n : Int)), (13, iT ((i + 1 : Nat) : Int))]) (Vf := [(9, ZI m 11 10), (10, .cells true 1 m (.fn fun k => [iT (((Ul (bU zl) (vl E (i + 1))) k : Nat) : Int)])), (11, .aJ true zl), (12, ZF n E)]) ⟨re rfl, re rfl, re rfl, ⟨_, rfl, AV.ge.int' _ _ _ (by omega)⟩, trivial⟩ (gq rfl)).mono fun e fr' H' h => ?_
   obtain ⟨rfl, rfl, rfl⟩ := h
   refine .inl ⟨rfl, c, fun j hj => ?_, rfl, rfl⟩
   by_cases d : j < i
   ·exact hg j d
   ·obtain rfl : j = i := by omega
    exact h0
  ·exact .inr (.inr ⟨rfl, ⟨i, c, h0⟩, rfl, rfl⟩)
 ·have hin : n = i := by omega
  subst hin
  refine aj.seq (K1 := 13) (by omega) ((voX 9 (by omega) n m n (Ul (bU zl) (vl E n)) E zl (decide ((n : Int) < (n : Int)))).mono fun e fr' H' h => ?_)
  rw [decide_eq_false (by omega), cond_false] at h
  obtain ⟨rfl, rfl, rfl⟩ := h
  exact .inr (.inl ⟨rfl, hg, rfl, rfl⟩)
theorem AU (n : Nat) (E : tE) (hn : n ≤ 256) : qI n (ND E n).length (BR E n).length n (ND E n).length (BR E n).length (ay 0 (NM E n)) (ay 0 (ND E n)) (ay 0 (BR E n)) (Cont.row (.fn fun j => aP (E j))) (Cont.row (.fn (aU (aA (ND E n))))) (Cont.row (.fn (aU (aA (BR E n))))) :=
 ⟨hn, rfl, rfl, rfl, rfl, rfl, rfl, rfl, rfl, fun j hj => aQ _ rfl, fun j hj => aQ _ rfl, fun j hj => aQ _ rfl⟩
def sw3 (i : Nat) : Nat := if i = 9 then 11 else if i = 10 then 9 else if i = 11 then 10 else i
theorem XO : ∀ i j, i < 12 → j < 12 → sw3 i = sw3 j → i = j := by
 intro i j _ _ e
 unfold sw3 at e
 split at e <;> split at e <;> (try split at e) <;> (try split at e) <;> (try split at e) <;> (try split at e) <;> omega
noncomputable abbrev ZB (v0 : Nat) (v1 : tE) := ([(2, .cells false 7 1 (.fn fun _ => bQ 6 7 8 v0 (ND v1 v0).length (BR v1 v0).length)), (3, .aJ true (ay 0 (NM v1 v0))), (4, .aJ true (ay 0 (ND v1 v0))), (5, .aJ true (ay 0 (BR v1 v0))), (6, .cells false 8 v0 (.fn fun j => aP (v1 j))), (7, .cells false 1 (ND v1 v0).length (.fn (aU (aA (ND v1 v0))))), (8, .cells false 1 (BR v1 v0).length (.fn (aU (aA (BR v1 v0)))))] : tH)
noncomputable abbrev ZD (v0 : Nat) (v1 : tE) := (.cells false 7 1 (.fn fun _ => bQ 6 7 8 v0 (ND v1 v0).length (BR v1 v0).length) : aF)
noncomputable abbrev ZG (v0 : tE) (v1 : Nat) := (.cells false 1 (ND v0 v1).length (.fn (aU (aA (ND v0 v1)))) : aF)
noncomputable abbrev ZH (v0 : tE) (v1 : Nat) := (.cells false 1 (BR v0 v1).length (.fn (aU (aA (BR v0 v1)))) : aF)
noncomputable abbrev Ze (v0 : tE) (v1 : Nat) (w0 w1) := (.cells true 2 1 (.fn fun _ => [.mp w0, sL w1 ((ND v0 v1).length + 1)]) : aF)
noncomputable abbrev G7 (v0 : tE) (v1 : Nat) := (.aJ true (ay 0 (g0 :: ND v0 v1)) : aF)
noncomputable abbrev ZCI (v0 : tE) (v1 : Nat) := (.cells true 1 ((ND v0 v1).length + 1) (.fn fun k => [iT ((k : Nat) : Int)]) : aF)
noncomputable abbrev ZEg (v0 : Nat) (v1 : tE) := ([(2, ZD v0 v1), (3, ZM v1 v0), (4, ZN v1 v0), (5, ZO v1 v0), (6, ZC v0 v1), (7, ZG v1 v0), (8, ZH v1 v0), (9, Ze v1 v0 11 10), (10, ZCI v1 v0), (11, .aJ true (ay 0 (g0 :: (ND v1 v0))))] : tH)
theorem XP (n : Nat) (E : tE) (hn : n ≤ 256) :
  aj Try.prog (ak Try.f15) Try.f15.ntmps 9 9 13 JI (hpL (ZB n E)) (fun e fr' H' => e = .ret ∧ fr' = aV [(2, .bD (Vq (ay 0 (g0 :: ND E n)) E n))] ∧ H' = hpL (ZB n E)) := by
 have hq := AU n E hn
 have ln := uK E n
 rw [adY]
 refine aj.bn (K1 := 9) (voA 9 (by omega) n (ND E n).length (BR E n).length E (aA (ND E n)) (aA (BR E n)) (ay 0 (NM E n)) (ay 0 (ND E n)) (ay 0 (BR E n))) (by omega) ?_
 refine aj.bn (K1 := 9) (voB 9 (by omega) n (ND E n).length (BR E n).length E (aA (ND E n)) (aA (BR E n)) (ay 0 (NM E n)) (ay 0 (ND E n)) (ay 0 (BR E n)) hq) (by omega) ?_
 refine aj.bn (K1 := 12) (F1 := (sQ 0 2 3 9)) (H1 := (ZEg n E)) ((voC 9 (by omega) n (ND E n).length (BR E n).length E (aA (ND E n)) (aA (BR E n)) (ay 0 (NM E n)) (ay 0 (ND E n)) (ay 0 (BR E n)) hq).renG fun e fr' H' h => ?_) (by omega) ?_
 ·obtain ⟨rfl, rfl, rfl⟩ := h
  exact ⟨sw3, (sQ 0 2 3 9), (ZEg n E), fun g hg => by unfold sw3; rw [if_neg (by omega), if_neg (by omega), if_neg (by omega)], (yX rfl), ⟨dX rfl rfl (fun j _ => rfl) (fun j _ => rfl) (by omega), lW rfl rfl (by omega), lW rfl rfl (by omega), lW rfl rfl (by omega), dX rfl rfl (fun j _ => rfl) (fun j _ => rfl) (by omega), dX rfl rfl (fun j _ => rfl) (fun j _ => rfl) (by omega), dX rfl rfl (fun j _ => rfl) (fun j _ => rfl) (by omega), dX rfl rfl (fun j _ => rfl) (fun j _ => rfl) (by omega), dX rfl rfl (fun j _ => rfl) (fun j _ => rfl) (by omega), lW rfl rfl (by omega), trivial⟩, XO, rfl, rfl, rfl⟩
 have hf := (XM n ((ND E n).length + 1) E (ay 0 (g0 :: ND E n)) (by omega) (by omega) (He _)).lM (xl := (ZB n E)) (Post' := fun e fr H => (e = .normal ∧ (∀ j, j < n → jC (ay 0 (g0 :: ND E n)) E j = false) ∧ fr = aV (ZEJ n 9 11 12 13) ∧ H = hpL [(9, Ze E n 11 10), (10, .cells true 1 ((ND E n).length + 1) (.fn fun k => [iT (((Ul (bU (ay 0 (g0 :: ND E n))) (vl E n)) k : Nat) : Int)])), (11, G7 E n), (12, ZF n E), (2, ZD n E), (3, ZM E n), (4, ZN E n), (5, ZO E n), (6, ZC n E), (7, ZG E n), (8, ZH E n)]) ∨ (e = .ret ∧ (∃ j, j < n ∧ jC (ay 0 (g0 :: ND E n)) E j = true) ∧ fr = aV [(2, .bD true)] ∧ H = hpL (ZB n E))) (by omega) ⟨⟨by omega, fun j hj v hv => List.all_eq_true.1 (show (bQ 6 7 8 n (ND E n).length (BR E n).length).all (fun v => v.low 9) = true from rfl) v hv⟩, ⟨by omega, trivial⟩, ⟨by omega, trivial⟩, ⟨by omega, trivial⟩, ⟨by omega, fun j hj v hv => List.all_eq_true.1 (show (aP (E j)).all (fun v => v.low 9) = true from rfl) v hv⟩, ⟨by omega, fun j hj v hv => List.all_eq_true.1 (show (aU (aA (ND E n)) j).all (fun v => v.low 9) = true from rfl) v hv⟩, ⟨by omega, fun j hj v hv => List.all_eq_true.1 (show (aU (aA (BR E n)) j).all (fun v => v.low 9) = true from rfl) v hv⟩, trivial⟩ rfl (fun e fr' H0' h => by
  rcases h with ⟨rfl, h0, rfl, rfl⟩ | ⟨rfl, h0, rfl, rfl⟩
  ·exact ⟨_, rfl, rfl, ⟨.inl rfl, .inl rfl, .inl rfl, .inl rfl, trivial⟩, .inl ⟨rfl, h0, rfl, rfl⟩⟩
  ·exact ⟨[], rfl, rfl, trivial, .inr ⟨rfl, h0, rfl, rfl⟩⟩)
 refine aj.seq (K1 := 13) (by omega) (aj.bn (K1 := 13) (F1 := [(3, ZA 9), (11, sL 12 n), (12, iT (n : Int)), (13, FC)]) (H1 := [(9, Ze E n 11 10), (10, .cells true 1 ((ND E n).length + 1) (.fn fun k => [iT (((Ul (bU (ay 0 (g0 :: ND E n))) (vl E 0)) k : Nat) : Int)])), (11, G7 E n), (12, ZF n E), (2, ZD n E), (3, ZM E n), (4, ZN E n), (5, ZO E n), (6, ZC n E), (7, ZG E n), (8, ZH E n)]) (aj.toN (voJ 9 (by omega) n (ND E n).length (BR E n).length E (aA (ND E n)) (aA (BR E n)) (ay 0 (NM E n)) (ay 0 (ND E n)) (ay 0 (BR E n)) (ND E n) (by omega) (by omega)) ⟨re rfl, re rfl, re rfl, ⟨_, rfl, AV.ge.int _ _ _ _⟩, trivial⟩ ⟨hs rfl, hs rfl, hs rfl, ⟨_, rfl, rfl, rfl, rfl, fun j hj => by
   show aP (E (0 + j)) = aP (E j)
   rw [Nat.zero_add]⟩, gq rfl⟩) (by omega) (hf.mono fun e fr' H' h => ?_))
 rcases h with ⟨rfl, h0, rfl, rfl⟩ | ⟨rfl, h0, rfl, rfl⟩
 ·have hi := (voI 9 (by omega) n ((ND E n).length + 1) n (Ul (bU (ay 0 (g0 :: ND E n))) (vl E n)) E (ay 0 (g0 :: ND E n))).lM (xl := (ZB n E)) (Post' := fun e fr H => e = .ret ∧ fr = aV [(2, .bool false)] ∧ H = hpL [(9, Ze E n 11 10), (2, ZD n E), (3, ZM E n), (4, ZN E n), (5, ZO E n), (6, ZC n E), (7, ZG E n), (8, ZH E n)]) (by omega) ⟨⟨by omega, fun j hj v hv => List.all_eq_true.1 (show (bQ 6 7 8 n (ND E n).length (BR E n).length).all (fun v => v.low 9) = true from rfl) v hv⟩, ⟨by omega, trivial⟩, ⟨by omega, trivial⟩, ⟨by omega, trivial⟩, ⟨by omega, fun j hj v hv => List.all_eq_true.1 (show (aP (E j)).all (fun v => v.low 9) = true from rfl) v hv⟩, ⟨by omega, fun j hj v hv => List.all_eq_true.1 (show (aU (aA (ND E n)) j).all (fun v => v.low 9) = true from rfl) v hv⟩, ⟨by omega, fun j hj v hv => List.all_eq_true.1 (show (aU (aA (BR E n)) j).all (fun v => v.low 9) = true from rfl) v hv⟩, trivial⟩ rfl (fun e fr' H0' h => by
   obtain ⟨rfl, rfl, rfl⟩ := h
   exact ⟨_, rfl, rfl, ⟨.inl rfl, trivial⟩, rfl, rfl, rfl⟩)
  refine hi.post fun e fr' H' h => ?_
  obtain ⟨rfl, rfl, rfl⟩ := h
  refine ⟨[(2, .bD (Vq (ay 0 (g0 :: ND E n)) E n))], (ZB n E), ⟨⟨_, rfl, fun N μ c h => ?_⟩, trivial⟩, (gq rfl), rfl, rfl, rfl⟩
  simp only [Rep] at h ⊢
  rw [h, QG h0]
 ·refine ⟨rfl, ?_, rfl⟩
  rw [UM h0]


/-- is there a loop of volts -/
noncomputable def YM : (Nat → El) → Nat → Bool := Classical.choose (⟨fun E n => Vq (ay 0 (g0 :: ND E n)) E n, rfl⟩ : ∃ f, f = fun (E : tE) (n : Nat) => Vq (ay 0 (g0 :: ND E n)) E n)
theorem UN : YM = fun E n => Vq (ay 0 (g0 :: ND E n)) E n := Classical.choose_spec (⟨fun E n => Vq (ay 0 (g0 :: ND E n)) E n, rfl⟩ : ∃ f, f = fun (E : tE) (n : Nat) => Vq (ay 0 (g0 :: ND E n)) E n)
theorem qU {g : G} {N : Nat} {w : sN} {E : tE} (F : UF g N w E) : nP w E = [(2, .cells false 7 1 (.fn fun _ => bQ 6 7 8 w.n (ND E w.n).length (BR E w.n).length)), (3, .aJ true (ay 0 (NM E w.n))), (4, .aJ true (ay 0 (ND E w.n))), (5, .aJ true (ay 0 (BR E w.n))), (6, .cells false 8 w.n (.fn fun j => aP (E j))), (7, .cells false 1 (ND E w.n).length (.fn (aU (aA (ND E w.n))))), (8, .cells false 1 (BR E w.n).length (.fn (aU (aA (BR E w.n)))))] := by
 unfold nP
 rw [F.XI, F.abx]
noncomputable def wE : List AV → M AV
 | [.ptr aN] => (M.dh (og aN)).andThen fun _ => (netRd aN.g).andThen fun y => (M.setB y.1.m1 (.aJ true (ay 0 (NM y.2 y.1.n)))).andThen fun _ => (M.setB y.1.m2 (.aJ true (ay 0 (ND y.2 y.1.n)))).andThen fun _ => (M.setB y.1.m3 (.aJ true (ay 0 (BR y.2 y.1.n)))).andThen fun _ => M.ret (.bD (YM y.2 y.1.n))
 | _ => M.no
theorem oJ : ∀ args, aC (wE args) := by
 intro args
 unfold wE
 split
 ·exact (aC.dh _).andThen fun _ => (lu _).andThen fun _ => (aC.setB _ _).andThen fun _ => (aC.setB _ _).andThen fun _ => (aC.setB _ _).andThen fun _ => aC.ret _
 ·exact aC.no
theorem qP : ∀ args v g g', wE args g = .done v g' → bZ Try.prog 15 args v g g' := by
 intro args v g g' h
 unfold wE at h
 split at h
 case h_2 => exact (bC h).elim
 rename_i aN
 obtain ⟨_, g1, a1, h⟩ := au h
 obtain ⟨q0, rfl⟩ := aS a1
 have q0 := jD q0
 obtain ⟨⟨w, E⟩, g3, a3, h⟩ := au h
 obtain ⟨qf, kk, ff⟩ := jE a3
 dsimp only at h ff
 obtain ⟨_, g6, a6, h⟩ := au h
 obtain ⟨_, g7, a7, h⟩ := au h
 obtain ⟨_, g8, a8, h⟩ := au h
 obtain ⟨b1, b2, b3⟩ := bM a6
 obtain ⟨b4, b5, b6⟩ := bM a7
 obtain ⟨b7, b8, b9⟩ := bM a8
 have hx : g8.nx = g.nx := by rw [b8, b5, b2, kk.2.1]
 obtain ⟨rfl, rfl⟩ := aB h
 refine qx (K' := 13) (c := (ak Try.f15)) Try.func15 (by kernel_rfl) (by kernel_rfl) (gG := [ZA 2]) (fun hc => kk.2.2 (by rw [← b3, ← b6, ← b9]; exact hc)) (N := aN.g) (w := w) (E := E) (fun hp => ff hp) (xl := []) (rx := fun _ => 0) (K0 := 9) (Nat.le_refl _) (fun hp M μ cs hr => ?_) (fun hp i b hb => by cases hb) (fun hp i j b b' hi => by cases hi) (bs := []) (nms := []) rfl (by decide) (by decide) (by rw [b7, b4, b1, kk.1]; rfl) (by rw [b8, b5, b2, kk.2.1]; rfl) (fun b hb => by cases hb) (by simp [AV.low, mD]) (by simp [AV.iy, lC]) (fun hp kN => ?_)
 ·simp only [aO] at hr ⊢
  obtain ⟨c1, l1, rfl, h1, rfl⟩ := hr
  exact ⟨c1, _, rfl, kD h1 q0.1 q0.2 (by omega) rfl, rfl⟩
 have F := ff hp
 rw [List.append_nil, qU F]
 refine (XP w.n E F.n256).mono fun e fr' H' h => ?_
 obtain ⟨rfl, rfl, rfl⟩ := h
 refine ⟨.inl rfl, _, _, res1 (t := 2) (by kernel_rfl) rfl, trivial, ?_, ⟨rfl, rfl, rfl⟩, fun j b hb => by cases hb⟩
 rw [UN]
 exact AV.ge.refl _



theorem spA (B : Nat) (hB : B ≤ 9) (n q r : Nat) (E : tE) (nd br : Nat → List UInt8) (M1 M2 M3 zl : List (List UInt8 × Int)) : aj Try.prog ((aT [0] (ak Try.f45))) Try.f45.ntmps B 9 9 JI (D9 n q r M1 M2 M3 E nd br) (pP .normal [(0, ZA 2), (2, .dL), (3, .dL)] [(2, Za n q r), (3, Zb M1), (4, Zb M2), (5, Zb M3), (6, ZS n E), (7, ZK q nd), (8, ZK r br)]) := Ii [] trivial hB
theorem spB (B : Nat) (hB : B ≤ 11) (n k q r : Nat) (E T R : tE) (nd br : Nat → List UInt8) (M1 M2 M3 zl : List (List UInt8 × Int)) (x0 : (qI n q r n q r M1 M2 M3 (Cont.row (.fn fun j => aP (E j))) (Cont.row (.fn (aU nd))) (Cont.row (.fn (aU br))))) : aj Try.prog ((aT [1,0] (ak Try.f45))) Try.f45.ntmps B 11 14 (aV [(0, ZA 2), (2, sL 9 0), (3, sL 10 0)]) (hpL [(2, ZV n q r), (3, .aJ true M1), (4, .aJ true M2), (5, .aJ true M3), (6, ZC n E), (7, ZK q nd), (8, ZK r br), (9, ZCT T), (10, ZCT R)]) (pP .normal [(0, ZA 2), (2, sL 9 0), (3, sL 10 0), (4, ZA 13)] [(2, Za n q r), (3, Zt E n), (4, Zu E n), (5, Zv E n), (6, ZS n E), (7, ZK q nd), (8, ZK r br), (9, .cells true 8 0 (.fn fun j => (aP (T j)))), (10, .cells true 8 0 (.fn fun j => (aP (R j)))), (11, ZB5 E n), (12, ZBl E n), (13, ZBT E n 12 11)]) := Ii [] (I1 x0) hB
theorem spC (B : Nat) (hB : B ≤ 14) (n k q r : Nat) (E T R : tE) (nd br : Nat → List UInt8) (M1 M2 M3 zl : List (List UInt8 × Int)) (l : List Tx) (x0 : (n * 104 ≤ 140737488355328)) (x1 : (n ≤ 9223372036854775807)) : aj Try.prog ((aT [1,1,0,0] (ak Try.f45))) Try.f45.ntmps B 14 15 (aV [(0, ZA 2), (2, sL 9 0), (3, sL 10 0), (4, ZA 13)]) (hpL [(2, ZV n q r), (3, .aJ true M1), (4, .aJ true M2), (5, .aJ true M3), (6, ZC n E), (7, ZK q nd), (8, ZK r br), (9, ZCT T), (10, ZCT R), (11, Z6 l), (12, ZCz l), (13, Xz l 12 11)]) (pP .normal [(2, sL 9 0), (3, sL 10 0), (4, ZA 13), (10, sL 14 n), (11, iT (↑n : Int)), (12, Zg)] [(2, Za n q r), (3, Zb M1), (4, Zb M2), (5, Zb M3), (6, ZS n E), (7, ZK q nd), (8, ZK r br), (9, .cells true 8 0 (.fn fun j => (aP (T j)))), (10, .cells true 8 0 (.fn fun j => (aP (R j)))), (11, .cells true 1 (List.length l + 1) (.fn fun k => [iT (↑k : Int)])), (12, aF.aJ true (ay 0 (g0 :: l))), (13, .cells true 2 1 (.fn fun x => [.mp 12, sL 11 (List.length l + 1)])), (14, .cells true 8 n (.fn fun j => (aP (E (0 + j)))))]) := Ii [] (I2 (show 0 + n ≤ n by omega) (ai x0 x1)) hB
noncomputable abbrev ZEa (v0 v1 v2 v3 : Nat) := aV [(2, sL 9 v0), (3, sL 10 v1), (4, ZA 13), (10, sL 14 v2), (11, iT (v2 : Int)), (12, iT (v3 : Int))]
noncomputable abbrev ZEo (v0 : Nat) (v1 : tE) (v2 : Nat) (v3 : tE) (v4 : Nat) (v5 : Nat → Nat) (v6 : List (List UInt8 × Int)) (v7 : Nat) (v8 : tE) := hpL [(9, ZF v0 v1), (10, ZF v2 v3), (11, ZL v4 v5), (12, .aJ true v6), (13, ZI v4 12 11), (14, ZF v7 v8)]
theorem spD (B : Nat) (hB : B ≤ 15) (n m i t k : Nat) (u : Nat → Nat) (E T R : tE) (nd br : Nat → List UInt8) (M1 M2 M3 zl : List (List UInt8 × Int)) : aj Try.prog ((aT [1,1,0,1,0,0,0] (ak Try.f45))) Try.f45.ntmps B 15 15 (ZEa t k n i) (ZEo t T k R m u zl n E) (pP .normal [(2, sL 9 t), (3, sL 10 k), (4, ZA 13), (10, sL 14 n), (11, iT (↑n : Int)), (12, iT (↑i : Int)), (13, .bD (decide ((↑i : Int) < (↑n : Int))))] [(9, ZQ t T), (10, ZQ k R), (11, ZU m u), (12, Zb zl), (13, ZZ m 12 11), (14, ZQ n E)]) := Ii [] trivial hB
noncomputable abbrev ZEj (v0 v1 v2 v3 : Nat) := ([(2, sL 9 v0), (3, sL 10 v1), (4, ZA 13), (10, sL 14 v2), (11, EM v2), (12, EM v3)] : jU)
theorem spX (B : Nat) (hB : B ≤ 15) (n m i t k : Nat) (u : Nat → Nat) (E T R : tE) (nd br : Nat → List UInt8) (M1 M2 M3 zl : List (List UInt8 × Int)) (b : Bool) : aj Try.prog ((aT [1,1,0,1,0,0,1,0] (ak Try.f45))) Try.f45.ntmps B 15 15 (aV [(2, sL 9 t), (3, sL 10 k), (4, ZA 13), (10, sL 14 n), (11, iT (n : Int)), (12, iT (i : Int)), (13, .bD b)]) (ZEo t T k R m u zl n E) fun e fr' H' => (cond (b) (pP .normal (ZEj t k n i) [(9, ZQ t T), (10, ZQ k R), (11, ZU m u), (12, Zb zl), (13, ZZ m 12 11), (14, ZQ n E)] e fr' H') (pP (.exit 0) (ZEj t k n i) [(9, ZQ t T), (10, ZQ k R), (11, ZU m u), (12, Zb zl), (13, ZZ m 12 11), (14, ZQ n E)] e fr' H')) := cI (fun t0 => Ii [tT] (I1 t0) hB) (fun t0 => Ii [fF] (I1 t0) hB)
noncomputable abbrev ZCc := aT [1,1,0,1,0,0,1,1,0,0,0] (ak Try.f45)
theorem spE (B : Nat) (hB : B ≤ 15) (n m i t k : Nat) (u : Nat → Nat) (E T R : tE) (nd br : Nat → List UInt8) (M1 M2 M3 zl : List (List UInt8 × Int)) (x0 : ((↑i : Int) < (↑n : Int))) (x1 : (0 + i < n)) : aj Try.prog (ZCc) Try.f45.ntmps B 15 16 (ZEa t k n i) (ZEo t T k R m u zl n E) (pP .normal [(2, sL 9 t), (3, sL 10 k), (4, ZA 13), (10, sL 14 n), (11, iT (↑n : Int)), (12, iT (↑i : Int)), (6, ZA 15)] [(9, ZQ t T), (10, ZQ k R), (11, ZU m u), (12, Zb zl), (13, ZZ m 12 11), (14, ZQ n E), (15, ZBP E i)]) := Ii [] (I3 (ai (show 0 ≤ (↑i : Int) by omega) x0) x1 (show 8 ≤ 8 by omega)) hB
noncomputable abbrev ZCO := aT [1,1,0,1,0,0,1,1,0,0,1,0,0] (ak Try.f45)
theorem spF (B : Nat) (hB : B ≤ 16) (n m i t k : Nat) (u : Nat → Nat) (E T R : tE) (nd br : Nat → List UInt8) (M1 M2 M3 zl : List (List UInt8 × Int)) : aj Try.prog (ZCO) Try.f45.ntmps B 16 16 (aV [(2, sL 9 t), (3, sL 10 k), (4, ZA 13), (10, sL 14 n), (11, iT (n : Int)), (12, iT (i : Int)), (6, ZA 15)]) (hpL [(9, ZF t T), (10, ZF k R), (11, ZL m u), (12, .aJ true zl), (13, ZI m 12 11), (14, ZF n E), (15, Zl E i)]) fun e fr' H' => (cond (decide (El.k (E i) = (4 : Int))) (pP .normal [(2, sL 9 t), (3, sL 10 k), (4, ZA 13), (10, sL 14 n), (11, iT (↑n : Int)), (12, iT (↑i : Int)), (6, ZA 15), (20, .bool true)] [(9, ZQ t T), (10, ZQ k R), (11, ZU m u), (12, Zb zl), (13, ZZ m 12 11), (14, ZQ n E), (15, Xn E i)] e fr' H') (pP .normal [(2, sL 9 t), (3, sL 10 k), (4, ZA 13), (10, sL 14 n), (11, iT (↑n : Int)), (12, iT (↑i : Int)), (6, ZA 15), (20, .bD !!decide (El.k (E i) = (6 : Int)))] [(9, ZQ t T), (10, ZQ k R), (11, ZU m u), (12, Zb zl), (13, ZZ m 12 11), (14, ZQ n E), (15, Xn E i)] e fr' H')) := cD (fun q0 t0 => Ii [fF] (I1 (nt t0)) hB) (fun q0 t0 => Ii [tT] (I1 (nf t0)) hB)
noncomputable abbrev ZB1 := aT [1,1,0,1,0,0,1,1,0,0,1,0,1] (ak Try.f45)
theorem spY (B : Nat) (hB : B ≤ 16) (n m i t k : Nat) (u : Nat → Nat) (E T R : tE) (nd br : Nat → List UInt8) (M1 M2 M3 zl : List (List UInt8 × Int)) (b : Bool) (x0 : ((b) = false → (m = m))) (x1 : ((b) = false → (m ≤ 4096))) (x2 : ((b) = false → (∀ (j : Nat), j < m → dQ [iT (↑(u j) : Int)] [iT (↑(uO m (Cont.row (.fn fun k => [YE u k])) j) : Int)] ∧ uO m (Cont.row (.fn fun k => [iT (↑(u k) : Int)])) j ≤ j))) (x3 : ((b) = false → (∀ (z : List UInt8), (0 : Int) ≤ Option.getD (cZ seq z zl) (0 : Int) ∧ Option.getD (cZ seq z zl) 0 < (↑m : Int)))) (x4 : ((b) = false → ((decide ((↑(root (uO m (Cont.row (.fn fun k => [iT (↑(u k) : Int)]))) (bU zl (El.a (E i)))) : Int) = (↑(root (uO m (Cont.row (.fn fun k => [iT (↑(u k) : Int)]))) (bU zl (El.b (E i)))) : Int))) = true → ((k + 1) * 104 ≤ 140737488355328)))) (x5 : ((b) = false → ((decide ((↑(root (uO m (Cont.row (.fn fun k => [iT (↑(u k) : Int)]))) (bU zl (El.a (E i)))) : Int) = (↑(root (uO m (Cont.row (.fn fun k => [iT (↑(u k) : Int)]))) (bU zl (El.b (E i)))) : Int))) = true → (k + 1 ≤ 9223372036854775807)))) (x6 : ((b) = false → ((decide ((↑(root (uO m (Cont.row (.fn fun k => [iT (↑(u k) : Int)]))) (bU zl (El.a (E i)))) : Int) = (↑(root (uO m (Cont.row (.fn fun k => [iT (↑(u k) : Int)]))) (bU zl (El.b (E i)))) : Int))) = false → ((t + 1) * 104 ≤ 140737488355328)))) (x7 : ((b) = false → ((decide ((↑(root (uO m (Cont.row (.fn fun k => [iT (↑(u k) : Int)]))) (bU zl (El.a (E i)))) : Int) = (↑(root (uO m (Cont.row (.fn fun k => [iT (↑(u k) : Int)]))) (bU zl (El.b (E i)))) : Int))) = false → (t + 1 ≤ 9223372036854775807)))) : aj Try.prog (ZB1) Try.f45.ntmps B 16 18 (aV [(2, sL 9 t), (3, sL 10 k), (4, ZA 13), (10, sL 14 n), (11, iT (n : Int)), (12, iT (i : Int)), (6, ZA 15), (20, .bD b)]) (hpL [(9, ZF t T), (10, ZF k R), (11, ZL m u), (12, .aJ true zl), (13, ZI m 12 11), (14, ZF n E), (15, Zl E i)]) fun e fr' H' => (cond (b) (pP .normal (ZEj t k n i) [(9, ZQ t T), (10, ZQ k R), (11, ZU m u), (12, Zb zl), (13, ZZ m 12 11), (14, ZQ n E)] e fr' H') (cond (decide ((↑(root (uO m (Cont.row (.fn fun k => [iT (↑(u k) : Int)]))) (bU zl (El.a (E i)))) : Int) = (↑(root (uO m (Cont.row (.fn fun k => [iT (↑(u k) : Int)]))) (bU zl (El.b (E i)))) : Int))) (pP .normal [(2, sL 9 t), (3, sL 17 (k + 1)), (4, ZA 13), (10, sL 14 n), (11, iT (↑n : Int)), (12, iT (↑i : Int))] [(9, ZQ t T), (11, ZBB m u zl E i), (12, Zb zl), (13, ZZ m 12 11), (14, ZQ n E), (17, .cells true 8 (k + 1) (.fn fun j => bif decide (j < k) then (aP (R j)) else (aP (E i))))] e fr' H') (pP .normal [(2, sL 17 (t + 1)), (3, sL 10 k), (4, ZA 13), (10, sL 14 n), (11, iT (↑n : Int)), (12, iT (↑i : Int))] [(10, ZQ k R), (11, ZBB m u zl E i), (12, Zb zl), (13, ZZ m 12 11), (14, ZQ n E), (17, .cells true 8 (t + 1) (.fn fun j => bif decide (j < t) then (aP (T j)) else (aP (E i))))] e fr' H'))) := cI (fun t0 => Ii [tT] (I1 t0) hB) (fun t0 => cD (fun q1 t1 => Ii [fF, fF] (I4 t0 (ai (x0 t0) (ai (x1 t0) (ai (x2 t0) (x3 t0)))) (nt t1) (ai (show k ≤ k by omega) (ai (x4 t0 t1) (x5 t0 t1)))) hB) (fun q1 t1 => Ii [fF, tT] (I4 t0 (ai (x0 t0) (ai (x1 t0) (ai (x2 t0) (x3 t0)))) (nf t1) (ai (show t ≤ t by omega) (ai (x6 t0 t1) (x7 t0 t1)))) hB))
theorem spH (B : Nat) (hB : B ≤ 15) (n m i t k : Nat) (u : Nat → Nat) (E T R : tE) (nd br : Nat → List UInt8) (M1 M2 M3 zl : List (List UInt8 × Int)) (x0 : ((↑i : Int) + 1 ≤ (9223372036854775807 : Int))) : aj Try.prog ((aT [1,1,0,1,0,0,1,1,1] (ak Try.f45))) Try.f45.ntmps B 15 15 (ZEa t k n i) (ZEo t T k R m u zl n E) (pP .normal [(2, sL 9 t), (3, sL 10 k), (4, ZA 13), (10, sL 14 n), (11, iT (↑n : Int)), (12, JJ i)] [(9, ZQ t T), (10, ZQ k R), (11, ZU m u), (12, Zb zl), (13, ZZ m 12 11), (14, ZQ n E)]) := Ii [] (I1 (ai (show -9223372036854775808 ≤ (↑i : Int) + 1 by omega) x0)) hB
theorem spI (B : Nat) (hB : B ≤ 15) (t k : Nat) (T R : tE) (nd br : Nat → List UInt8) (M1 M2 M3 zl : List (List UInt8 × Int)) : aj Try.prog ((aT [1,1,1] (ak Try.f45))) Try.f45.ntmps B 15 15 (aV [(2, sL 9 t), (3, sL 10 k)]) (hpL [(9, ZF t T), (10, ZF k R)]) (pP .ret [(2, sL 9 t), (3, sL 10 k)] [(9, ZQ t T), (10, ZQ k R)]) := Ii [] trivial hB
/-- may it be an edge of the forest? -/
def jd (z : El) : Bool := !(decide (z.k = 4) || decide (z.k = 6))
/-- their ends, of the first so many elements -/
def jl (E : tE) : Nat → List (Tx × Tx)
 | 0 => []
 | i + 1 => bif jd (E i) then jl E i ++ [((E i).a, (E i).b)] else jl E i
/-- element i would close a loop -/
def sU (zl : tM) (E : tE) (i : Nat) : Bool := decide (cls (bU zl) (jl E i) (E i).a = cls (bU zl) (jl E i) (E i).b)
def gQ (zl : tM) (E : tE) : Nat → List El
 | 0 => []
 | i + 1 => bif jd (E i) && !sU zl E i then gQ zl E i ++ [E i] else gQ zl E i
def jf (zl : tM) (E : tE) : Nat → List El
 | 0 => []
 | i + 1 => bif jd (E i) && sU zl E i then jf zl E i ++ [E i] else jf zl E i
def bG (l : List El) (j : Nat) : El := l.getD j default
theorem FU (l : List El) (z : El) (j : Nat) (hj : j < l.length + 1) : aP (bG (l ++ [z]) j) = bif decide (j < l.length) then aP (bG l j) else aP z := by
 unfold bG
 by_cases c : j < l.length
 ·rw [decide_eq_true c, cond_true, List.getD_eq_getElem?_getD, List.getElem?_append_left c, ← List.getD_eq_getElem?_getD]
 ·obtain rfl : j = l.length := by omega
  rw [decide_eq_false (Nat.lt_irrefl _), cond_false, List.getD_eq_getElem?_getD, List.getElem?_append_right (Nat.le_refl _), Nat.sub_self]
  rfl
theorem Bz (zl : tM) (E : tE) : ∀ i, (gQ zl E i).length ≤ i
 | 0 => Nat.le_refl _
 | i + 1 => by
  have := Bz zl E i
  unfold gQ
  cases jd (E i) && !sU zl E i with
  | true => rw [cond_true, List.length_append]; exact Nat.succ_le_succ this
  | false => rw [cond_false]; omega
theorem H6 (zl : tM) (E : tE) : ∀ i, (jf zl E i).length ≤ i
 | 0 => Nat.le_refl _
 | i + 1 => by
  have := H6 zl E i
  unfold jf
  cases jd (E i) && sU zl E i with
  | true => rw [cond_true, List.length_append]; exact Nat.succ_le_succ this
  | false => rw [cond_false]; omega
noncomputable abbrev Zh (v0 : Nat) (v1 : tM) (v2 : tE) (v3 : Nat) := (.cells true 1 v0 (.fn fun k => [iT (((Ul (bU v1) (jl v2 v3)) k : Nat) : Int)]) : aF)
noncomputable abbrev Zr (v0 : Nat) (v1 : tM) (v2 : tE) (v3 : Nat) := (.cells true 1 v0 (.fn fun k => [iT (((Ul (bU v1) (jl v2 (v3 + 1))) k : Nat) : Int)]) : aF)
noncomputable abbrev Z0 (v0 : tM) (v1 : tE) (v2 : Nat) := (.cells true 8 (gQ v0 v1 v2).length (.fn fun j => aP (bG (gQ v0 v1 v2) j)) : aF)
noncomputable abbrev Z1 (v0 : tM) (v1 : tE) (v2 : Nat) := (.cells true 8 (jf v0 v1 v2).length (.fn fun j => aP (bG (jf v0 v1 v2) j)) : aF)
noncomputable abbrev ZBb (v0 : tM) (v1 : tE) (v2 : Nat) := (.cells true 8 (gQ v0 v1 (v2 + 1)).length (.fn fun j => aP (bG (gQ v0 v1 (v2 + 1)) j)) : aF)
noncomputable abbrev ZBc (v0 : tM) (v1 : tE) (v2 : Nat) := (.cells true 8 (jf v0 v1 (v2 + 1)).length (.fn fun j => aP (bG (jf v0 v1 (v2 + 1)) j)) : aF)
noncomputable abbrev ZCr (v0 : tM) (v1 : tE) (v2 : Nat) := sL 10 (jf v0 v1 v2).length
noncomputable abbrev ZDC (v0 : tM) (v1 : tE) (v2 : Nat) := sL 9 (gQ v0 v1 v2).length
noncomputable abbrev ZE8 (v0 : tM) (v1 : tE) (v2 v3 v4 : Nat) := ([(9, ZBb v0 v1 v2), (10, ZBc v0 v1 v2), (11, Zr v3 v0 v1 v2), (12, .aJ true v0), (13, ZI v3 12 11), (14, ZF v4 v1)] : tH)
noncomputable abbrev ZDj (v0 : tM) (v1 : tE) (v2 v3 v4 : Nat) := Nm [(2, sL 9 (gQ v0 v1 (v2 + 1)).length), (3, sL 10 (jf v0 v1 (v2 + 1)).length), (4, ZA 13), (10, sL 14 v3), (11, iT (v3 : Int)), (12, iT (v2 : Int))] (ZE8 v0 v1 v2 v4 v3)
noncomputable abbrev ZDq (v0 : tM) (v1 : tE) (v2 v3 v4 : Nat) := ([(9, Z0 v0 v1 v2), (10, Z1 v0 v1 v2), (11, Zh v3 v0 v1 v2), (12, .aJ true v0), (13, ZI v3 12 11), (14, ZF v4 v1), (15, Zl v1 v2)] : tH)
noncomputable abbrev ZDw (v0 : tM) (v1 : tE) (v2 v3 : Nat) := ([(2, ZDC v0 v1 v2), (3, ZCr v0 v1 v2), (4, ZA 13), (10, sL 14 v3), (11, iT (v3 : Int)), (12, iT (v2 : Int))] : jU)
noncomputable abbrev ZD0 (v0 : tM) (v1 : tE) (v2 v3 v4 : Nat) := ([(9, Z0 v0 v1 v2), (10, Z1 v0 v1 v2), (11, Zh v3 v0 v1 v2), (12, .aJ true v0), (13, ZI v3 12 11), (14, ZF v4 v1)] : tH)
end Go.Proofs.Ytgjdeclenlgaeaa
