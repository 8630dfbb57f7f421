/- THE ENGINE, part 2: an interpreter of the program's code over abstract values, and its proof. -/
import Derived.Test.YtgjdeclenlgaeaaSm1
import Derived.Deep.Slices
import Derived.OpenShut
noncomputable section
set_option linter.unusedSimpArgs false
set_option linter.unusedVariables false
namespace Go.Sx
open M
theorem yB {P : Program} {call : Calls'} {nT : Nat} {ops : List Oper} {fr fr' : Fr} {g g' : G} (h : yA P call nT ops fr g = .done fr' g') :
  gX (dN [] ops) nT 0 0 ops = true ∧ ∃ Ts NX rcs, uy P call ⟨nT, ops, dN [] ops, Ts, NX, g.nx⟩ 0 ops fr [] g = .done rcs g' ∧ rP ⟨nT, ops, dN [] ops, Ts, NX, g.nx⟩ 0 rcs = true ∧ g'.nx ≤ NX ∧ fr' = zI fr rcs := by
 unfold yA at h
 cases hst : gX (dN [] ops) nT 0 0 ops with
 | false => rw [hst] at h; cases h
 | true =>
  rw [hst, cond_true] at h
  refine ⟨rfl, ?_⟩
  generalize hp : uy P call ⟨nT, ops, dN [] ops, [], g.nx + 4096, g.nx⟩ 0 ops fr [] g = r at h
  split at h
  ·rename_i rcs g1
   cases hb : (Nat.ble g1.nx (g.nx + 4096) && rP ⟨nT, ops, dN [] ops, [], g.nx + 4096, g.nx⟩ 0 rcs) with
   | true =>
    rw [hb, cond_true] at h
    cases h
    simp only [Bool.and_eq_true] at hb
    exact ⟨_, _, _, hp, hb.2, Nat.le_of_ble_eq_true hb.1, rfl⟩
   | false =>
    rw [hb, cond_false] at h
    generalize hp2 : uy P call ⟨nT, ops, dN [] ops, rcs.map (·.T), g.nx + 4294967296, g.nx⟩ 0 ops fr [] g = r2 at h
    split at h
    ·rename_i Y5 g2
     cases hb2 : (Nat.ble g2.nx (g.nx + 4294967296) && rP ⟨nT, ops, dN [] ops, rcs.map (·.T), g.nx + 4294967296, g.nx⟩ 0 Y5) with
     | true =>
      rw [hb2, cond_true] at h
      cases h
      simp only [Bool.and_eq_true] at hb2
      exact ⟨_, _, _, hp2, hb2.2, Nat.le_of_ble_eq_true hb2.1, rfl⟩
     | false => rw [hb2, cond_false] at h; cases h
    ·cases h
    ·cases h
  ·cases h
  ·cases h
theorem LG {P : Program} {call : Calls'} (hcall : dw P call) (hct : iO call) (hm : P.follows .mixedOrders = true) (n : Nat) : eF P (yA P call n) n := fun ops id fr fr' g g' h => by
 obtain ⟨hst, Ts, NX, rcs, hp, hs, hx, rfl⟩ := yB h
 exact (Y3 hcall hct hst hp hs hx).leads hm id
theorem PY {P : Program} {call : Calls'} (hct : iO call) {C : pX} {j : Nat} {o : Oper} {fr : Fr} {qc : List (Nat × Nat)} : aC (NJ P call C j o fr qc) := ⟨fun g rc g' h => by
 have hr := Dt h
 cases hc : rc.ch with
 | false =>
  obtain ⟨_, _, _, _, r5, r6, r7⟩ := hr.read hc
  exact ⟨[], r7, by rw [r6]; exact Nat.le_refl _, fun nm _ _ => by rw [r5]⟩
 | true =>
  obtain ⟨r1, r2, r3, r4, r5, r6, _⟩ := hr.chain hc
  obtain ⟨l, t1, t2, t3⟩ := (aC.yu P hct _ _ _ _).of _ _ _ hr.run
  rw [hr.tin, List.append_nil] at t1
  refine ⟨l, by rw [r6, t1], by rw [r5, ← r2]; exact t2, fun nm hn hl => ?_⟩
  rw [r4, t3 nm (by rw [r2]; exact hn) hl, r1]⟩
theorem E5 {P : Program} {call : Calls'} (hct : iO call) {C : pX} : ∀ (l : List Oper) (j : Nat) (fr : Fr) (qc : List (Nat × Nat)), aC (uy P call C j l fr qc)
 | [], j, fr, qc => aC.ret _
 | o :: l, j, fr, qc => (PY hct).andThen fun rc => (E5 hct l _ _ _).andThen fun _ => aC.ret _
theorem Jk {P : Program} {call : Calls'} (hct : iO call) (n : Nat) (ops : List Oper) (fr : Fr) : aC (yA P call n ops fr) := ⟨fun g fr' g' h => by
 obtain ⟨_, Ts, NX, rcs, hp, _⟩ := yB h
 exact (E5 hct ops _ _ _).of _ _ _ hp⟩
def runN (P : Program) (Γ : Known) (region : Calls' → Nat → List Oper → Fr → M Fr) (rounds fuel : Nat) : Calls' := Ew P Γ (fun _ => jH) region rounds fuel
end Go.Sx
namespace Go.Sx
open M
def NP (P : Program) (e : Array Value → Sem Value) (s : List AV → M AV) : Prop :=
 ∀ args v g g', s args g = .done v g' → ∃ p, Keep g g' p ∧ (p → ∀ N μ (w : World) (bW : Array Value), aO N μ args bW.toList → ∃ c, (e bW).run P w = .ok c w ∧ Rep N μ v c)
theorem NP.fE {P : Program} {f : FuncId} {fn : Func} {e : Array Value → Sem Value} {s : List AV → M AV} (h : NP P e s) (hf : P.funcs[f]? = some fn) (hname : (fn.name == "runtime.NumGoroutine") = false)
  (hb : fn.body.isNone = true) (hn : Extern.findNext fn = none) (he : Extern.find fn = some e) : ∀ args v g g', s args g = .done v g' → bZ P f args v g g' := fun args v g g' hs => by
 obtain ⟨p, k, hr⟩ := h args v g g' hs
 refine ⟨fun hc => (k.2.2 hc).1, fun hc μ w bW hg ha => .inl ?_⟩
 obtain ⟨c, e1, hv⟩ := hr (k.2.2 hc).2 g.nx μ w bW ha
 refine ⟨c, w, ?_, .gV k hg hv⟩
 rw [run_callFunc_extern hf hname hb hn he, e1]
 rfl
def toBits : List AV → M AV
 | [.flt s x] => ret (.bits s x)
 | [.raw s x] => ret (.int s .u64 x)
 | _ => no
def ofBits : List AV → M AV
 | [.bits s x] => ret (.flt s x)
 | [.int s .u64 n] => (ck s (0 ≤ n ∧ n < 18446744073709551616)).andThen fun _ => ret (.raw s n.toNat)
 | _ => no
theorem fP (P : Program) : NP P Extern.MathFloatBits.float64bits toBits := fun args v g g' h => by
 unfold toBits at h
 split at h
 ·rename_i s x
  obtain ⟨rfl, rfl⟩ := aB h
  refine ⟨_, Keep.refl _, fun _ N μ w bW hr => ?_⟩
  obtain ⟨c, rfl, hx⟩ := hr.one
  simp only [Rep] at hx
  obtain ⟨b, rfl, hb⟩ := hx
  exact ⟨.int .u64 b, rfl, by simp only [Rep]; exact ⟨b, rfl, hb⟩⟩
 ·rename_i s x
  obtain ⟨rfl, rfl⟩ := aB h
  refine ⟨_, Keep.refl _, fun _ N μ w bW hr => ?_⟩
  obtain ⟨c, rfl, hx⟩ := hr.one
  simp only [Rep] at hx
  obtain ⟨rfl, hb⟩ := hx
  exact ⟨.int .u64 x, rfl, by simp only [Rep]⟩
 ·exact (bC h).elim
theorem fQ (P : Program) : NP P Extern.MathFloatBits.float64frombits ofBits := fun args v g g' h => by
 unfold ofBits at h
 split at h
 ·rename_i s x
  obtain ⟨rfl, rfl⟩ := aB h
  refine ⟨_, Keep.refl _, fun _ N μ w bW hr => ?_⟩
  obtain ⟨c, rfl, hx⟩ := hr.one
  simp only [Rep] at hx
  obtain ⟨b, rfl, hb⟩ := hx
  exact ⟨.float .f64 b, rfl, by simp only [Rep]; exact ⟨b, rfl, hb⟩⟩
 ·rename_i s n
  obtain ⟨_, g1, a1, h1⟩ := au h
  obtain ⟨rfl, rfl⟩ := aB h1
  refine ⟨_, dB a1, fun hp N μ w bW hr => ?_⟩
  obtain ⟨c, rfl, hx⟩ := hr.one
  simp only [Rep] at hx
  subst hx
  exact ⟨.float .f64 n.toNat, rfl, by simp only [Rep]; exact ⟨trivial, by omega⟩⟩
 ·exact (bC h).elim
theorem aC.toBits (l : List AV) : aC (Sx.toBits l) := by
 unfold Sx.toBits; split
 ·exact aC.ret _
 ·exact aC.ret _
 ·exact aC.no
theorem aC.ofBits (l : List AV) : aC (Sx.ofBits l) := by
 unfold Sx.ofBits; split
 ·exact aC.ret _
 ·exact (aC.ck _ _).andThen fun _ => aC.ret _
 ·exact aC.no
def G.start : G := ⟨.e, 0, [], [], True⟩
def MM.none : MM := ⟨fun _ => 0, fun _ => 0, fun _ => 0, fun _ => 0, fun _ => Option.none⟩
theorem Rx.none {μ : MM} {hp : Array Obj} {H : T aF} (h : ∀ b, μ.fz b = Option.none) : Rx μ hp H := fun b o q => by rw [h b] at q; cases q
theorem dP.start (μ : MM) (hp : Array Obj) (hz : Rx μ hp .e) : dP 0 μ hp .e :=
 ⟨fun _ _ h => by simp [T.get] at h, fun _ _ h => by simp [T.get] at h, fun _ _ _ _ h => by simp [T.get] at h, hz⟩
end Go.Sx
namespace Go.Sx
open M
def G.on (path : List Bool) : G := ⟨.e, 0, [], path, True⟩
def AO (v : AV) : Aa AV → Prop
 | .done v' g => v' = v ∧ g.cs
 | _ => False
structure wC (v : AV) (r : Aa AV) : Prop where
 of : AO v r
theorem dP.below {N : Nat} {μ : MM} {w w' : World} {H : T aF} (h : dP N μ w.heap H) (b : RowKit.Below w.heap.size w w') : dP N μ w'.heap H where
 lt := h.lt
 sep := h.sep
 fz := fun b' o q => ⟨by rw [b.block _ (zy (h.fz b' o q).1)]; exact (h.fz b' o q).1, (h.fz b' o q).2⟩
 ok := fun g bk hg => (h.ok g bk hg).later (MM.upto.refl _ _) (Nat.le_refl _) (h.lt g bk hg) fun hr => b.block _ ((h.ok g bk hg).lt_size hr)
theorem Ext.below {g : G} {μ : MM} {w w' : World} (b : RowKit.Below w.heap.size w w') : Ext g μ w g μ w' where
 nx := Nat.le_refl _
 names := .refl _ _
 os := b.os
 tape := b.tape
 output := b.output
 size := b.size
 block := fun B hB _ => b.block B hB
 may := fun B _ h => h
 fz := fun _ _ q => .inl q
theorem After.below {g : G} {μ : MM} {w w' : World} {v : AV} {c : Value} (hg : dP g.nx μ w.heap g.H) (hv : Rep g.nx μ v c) (b : RowKit.Below w.heap.size w w') : After g μ w g v c w' :=
 ⟨μ, hv, hg.below b, .below b⟩
theorem CF.mono {P : Program} {f : FuncId} {args : Array Value} {w : World} {R R' : Value → World → Prop} (h : CF P f args w R) (k : ∀ c w', R c w' → R' c w') : CF P f args w R' := by
 rcases h with ⟨c, w', e, hr⟩ | ⟨f', args', w', e, hc⟩
 ·exact .inl ⟨c, w', e, k _ _ hr⟩
 ·exact .inr ⟨f', args', w', e, hc.mono fun e w'' ⟨c, h1, h2⟩ => ⟨c, h1, k _ _ h2⟩⟩
theorem E8 {P : Program} {call : Calls'} (hcall : dw P call) {f : FuncId} {args : List AV} {path : List Bool} {v : AV} (h : wC v (call f args (G.on path))) (hv : v.low 0 = true) (w : World) {bW : Array Value} (ha : aO 0 MM.none args bW.toList) :
  CF P f bW w fun c w' => (∀ N μ, Rep N μ v c) ∧ RowKit.Below w.heap.size w w' := by
 have h := h.of
 unfold AO at h
 split at h
 ·rename_i v' g hr
  obtain ⟨rfl, hcs⟩ := h
  obtain ⟨_, hs⟩ := hcall _ _ _ _ _ hr
  refine (hs hcs MM.none w bW (dP.start _ _ (Rx.none fun _ => rfl)) ha).mono ?_
  rintro c w' ⟨μ', hv', _, hE⟩
  refine ⟨fun N μ => ?_, hE.os, hE.tape, hE.output, hE.size, fun k hk => hE.block k hk (by rintro ⟨g, b, h, _⟩; simp [G.on, T.tq] at h)⟩
  have h1 : Rep 0 MM.none v' c := Rep.lY (μ := MM.none) ⟨fun g hg => by omega, fun g hg => by omega, fun g hg => by omega, fun g hg => by omega, fun b o q => by cases q⟩ (fun h => absurd h (Nat.lt_irrefl 0)) hv hv'
  exact h1.later ⟨fun g hg => by omega, fun g hg => by omega, fun g hg => by omega, fun g hg => by omega, fun b o q => by cases q⟩ (Nat.zero_le _)
 ·exact h.elim
theorem After.keepR {g g' : G} {μ : MM} {w w' : World} {v : AV} {c : Value} {p : Prop} (h : After g μ w g v c w') (k : Keep g g' p) : After g μ w g' v c w' := by
 obtain ⟨μ', h1, h2, h3⟩ := h
 exact ⟨μ', by rw [k.2.1]; exact h1, by rw [k.1, k.2.1]; exact h2, h3.swap rfl rfl k.1 k.2.1⟩
theorem VG {P : Program} {call : Calls'} (hcall : dw P call) {f : FuncId} {args : List AV} {v : AV} {g : G}
  (H : ∀ μ (bW : Array Value), aO g.nx μ args bW.toList → ∃ args' path lv, aO 0 MM.none args' bW.toList ∧ wC lv (call f args' (G.on path)) ∧ lv.low 0 = true ∧ ∀ c, (∀ N μ, Rep N μ lv c) → Rep g.nx μ v c) : bZ P f args v g g := by
 refine ⟨id, fun _ μ w bW hg ha => ?_⟩
 obtain ⟨args', path, lv, h1, h2, h3, h4⟩ := H μ bW ha
 exact (E8 hcall h2 h3 w h1).mono fun c w' ⟨h5, h6⟩ => .below hg (h4 c h5) h6
theorem acR {P : Program} {call : Calls'} (hcall : dw P call) {f : FuncId} {args : List AV} {v : AV} {g g' : G} {p : Prop} (k : Keep g g' p)
  (H : p → ∀ μ (bW : Array Value), aO g.nx μ args bW.toList → ∃ args' path lv, aO 0 MM.none args' bW.toList ∧ wC lv (call f args' (G.on path)) ∧ lv.low 0 = true ∧ ∀ c, (∀ N μ, Rep N μ lv c) → Rep g.nx μ v c) : bZ P f args v g g' := by
 refine ⟨fun hc => (k.2.2 hc).1, fun hc μ w bW hg ha => ?_⟩
 obtain ⟨args', path, lv, h1, h2, h3, h4⟩ := H (k.2.2 hc).2 μ bW ha
 exact (E8 hcall h2 h3 w h1).mono fun c w' ⟨h5, h6⟩ => (After.below hg (h4 c h5) h6 : After g μ w g v c w').keepR k
theorem o9 {N : Nat} {μ : MM} {s b : Bool} {c : Value} : Rep N μ (dZ s b) c ↔ c = .bool b := by
 cases s <;> simp [dZ, Rep]
end Go.Sx
namespace Go.Sx
def kE (n : Nat) : Int := tJ BinOp.and IntKind.u64 ((n : Int).fdiv (2 ^ min (Int.toNat 52) IntKind.u64.bits)) 2047
def kR (n : Nat) : Int := IntKind.u64.wrap ((n : Int) * 2 ^ min (Int.toNat 12) IntKind.u64.bits)
theorem acS {n : Nat} (h : n < 18446744073709551616) : kE n = ((n / 4503599627370496 % 2048 : Nat) : Int) := by
 unfold kE
 have e1 : (2 ^ min (Int.toNat 52) IntKind.u64.bits : Int) = 4503599627370496 := by decide
 rw [e1]
 have e2 : (n : Int).fdiv 4503599627370496 = ((n / 4503599627370496 : Nat) : Int) := by
  rw [Int.fdiv_eq_ediv_of_nonneg _ (by omega)]; rfl
 rw [e2]
 simp only [tJ]
 have e3 : IntKind.u64.bits = 64 := rfl
 rw [e3]
 have e4 : (BitVec.ofInt 64 ((n / 4503599627370496 : Nat) : Int) &&& BitVec.ofInt 64 2047).toNat = n / 4503599627370496 % 2048 := by
  rw [BitVec.toNat_and]
  have a : (BitVec.ofInt 64 ((n / 4503599627370496 : Nat) : Int)).toNat = n / 4503599627370496 := by
   rw [BitVec.toNat_ofInt]; omega
  have b : (BitVec.ofInt 64 2047).toNat = 2 ^ 11 - 1 := by decide
  rw [a, b, Nat.and_two_pow_sub_one_eq_mod]
 rw [e4]
 simp only [IntKind.wrap, e3, IntKind.signed, Bool.false_and, Bool.false_eq_true, if_false]
 omega
theorem acT {n : Nat} (h : n < 18446744073709551616) : kR n = ((n * 4096 % 18446744073709551616 : Nat) : Int) := by
 unfold kR
 have e1 : (2 ^ min (Int.toNat 12) IntKind.u64.bits : Int) = 4096 := by decide
 have e3 : IntKind.u64.bits = 64 := rfl
 rw [e1]
 simp only [IntKind.wrap, e3, IntKind.signed, Bool.false_and, Bool.false_eq_true, if_false]
 omega
def fU (n : Nat) : Int := bif decide (kE n = 0) then (bif decide (kR n = 0) then 0 else 1) else bif decide (kE n < 2047) then 2 else bif decide (kR n = 0) then 3 else 4
theorem Jl {n : Nat} (h : n < 18446744073709551616) (hn : isnan n = true) : fU n = 4 := by
 unfold fU
 rw [acS h, acT h]
 have hn' : 9218868437227405312 < n % 9223372036854775808 := by simpa [isnan] using hn
 have a : ¬ (((n / 4503599627370496 % 2048 : Nat) : Int) = 0) := by omega
 have b : ¬ (((n / 4503599627370496 % 2048 : Nat) : Int) < 2047) := by omega
 have c : ¬ (((n * 4096 % 18446744073709551616 : Nat) : Int) = 0) := by omega
 rw [decide_eq_false a, decide_eq_false b, decide_eq_false c]; rfl
theorem VH {n : Nat} (h : n < 18446744073709551616) : fU (cn n) = fU n := by
 cases hn : isnan n with
 | false => rw [kU hn]
 | true => rw [iF hn, Jl h hn]; exact Jl (by decide) dY
end Go.Sx
namespace Go.Sx
def U (r : Nat) : Nat := if r < 4503599627370496 then r else (4503599627370496 + r % 4503599627370496) * 2 ^ (r / 4503599627370496 - 1)
theorem acU {r r' : Nat} (h : r < r') : U r < U r' := by
 unfold U
 by_cases h1 : r' < 4503599627370496
 ·rw [if_pos h1, if_pos (by omega)]; exact h
 ·rw [if_neg h1]
  have hp : 0 < 2 ^ (r' / 4503599627370496 - 1) := Nat.two_pow_pos _
  by_cases h2 : r < 4503599627370496
  ·rw [if_pos h2]
   calc r < 4503599627370496 := h2
    _ ≤ (4503599627370496 + r' % 4503599627370496) * 1 := by omega
    _ ≤ _ := Nat.mul_le_mul_left _ hp
  ·rw [if_neg h2]
   by_cases hq : r / 4503599627370496 = r' / 4503599627370496
   ·rw [hq]
    exact Nat.mul_lt_mul_of_pos_right (by omega) hp
   ·have hq' : r / 4503599627370496 + 1 ≤ r' / 4503599627370496 := by omega
    have hq1 : 1 ≤ r / 4503599627370496 := by omega
    have e : 2 ^ (r' / 4503599627370496 - 1) = 2 ^ (r / 4503599627370496 - 1) * 2 ^ (r' / 4503599627370496 - r / 4503599627370496) := by
     rw [← Nat.pow_add]; congr 1; omega
    have h2p : 2 ≤ 2 ^ (r' / 4503599627370496 - r / 4503599627370496) := by
     calc 2 = 2 ^ 1 := rfl
      _ ≤ _ := Nat.pow_le_pow_right (by omega) (by omega)
    rw [e]
    have hpr : 0 < 2 ^ (r / 4503599627370496 - 1) := Nat.two_pow_pos _
    calc (4503599627370496 + r % 4503599627370496) * 2 ^ (r / 4503599627370496 - 1)
      < (4503599627370496 * 2) * 2 ^ (r / 4503599627370496 - 1) := Nat.mul_lt_mul_of_pos_right (by omega) hpr
     _ = 4503599627370496 * (2 ^ (r / 4503599627370496 - 1) * 2) := by rw [Nat.mul_assoc, Nat.mul_comm 2]
     _ ≤ (4503599627370496 + r' % 4503599627370496) * (2 ^ (r / 4503599627370496 - 1) * 2 ^ (r' / 4503599627370496 - r / 4503599627370496)) := Nat.mul_le_mul (by omega) (Nat.mul_le_mul_left _ h2p)
theorem RY {r r' : Nat} : U r = U r' ↔ r = r' := by
 constructor
 ·intro h
  rcases Nat.lt_trichotomy r r' with h1 | h1 | h1
  ·have := acU h1; omega
  ·exact h1
  ·have := acU h1; omega
 ·rintro rfl; rfl
theorem Y6 : U 0 = 0 := rfl
theorem RZ : Ieee.double.leastPlace = -1074 := by decide
theorem GL : Ieee.double.binade = 4503599627370496 := by decide
theorem Dw : Ieee.double.infRung = 9218868437227405312 := by decide
theorem zJ : Ieee.double.signWeight = 9223372036854775808 := by decide
theorem Si {x : Nat} (h : x % 9223372036854775808 < 9218868437227405312) : ∃ m i, Ieee.double.read x = .number (x / 9223372036854775808 % 2 == 1) m i ∧ -1074 ≤ i ∧ m * 2 ^ (i - -1074).toNat = U (x % 9223372036854775808) := by
 unfold Ieee.Format.read
 simp only [zJ, GL, Dw, RZ]
 generalize x % 9223372036854775808 = r at h ⊢
 by_cases h1 : r < 4503599627370496
 ·rw [if_pos h1]
  exact ⟨_, _, rfl, by omega, by simp [U, h1]⟩
 ·rw [if_neg h1, if_pos h]
  refine ⟨_, _, rfl, by omega, ?_⟩
  rw [show (-1074 + ((r / 4503599627370496 - 1 : Nat) : Int) - -1074).toNat = r / 4503599627370496 - 1 by omega]
  simp [U, h1]
theorem Sj {x : Nat} (h : x % 9223372036854775808 = 9218868437227405312) : Ieee.double.read x = .infinity (x / 9223372036854775808 % 2 == 1) := by
 unfold Ieee.Format.read
 simp only [zJ, GL, Dw, RZ, h]
 rfl
def rk (n : Nat) : Int := if 9223372036854775808 ≤ n then -((n - 9223372036854775808 : Nat) : Int) else n
theorem acV {n : Nat} (h : n < 18446744073709551616) : (n / 9223372036854775808 % 2 == 1) = decide (9223372036854775808 ≤ n) := by
 by_cases h1 : 9223372036854775808 ≤ n
 ·rw [decide_eq_true h1, show n / 9223372036854775808 = 1 by omega]; rfl
 ·rw [decide_eq_false h1, show n / 9223372036854775808 = 0 by omega]; rfl
theorem Y7 {n : Nat} (h : isnan n = false) : n % 9223372036854775808 ≤ 9218868437227405312 := by
 unfold isnan at h
 have := of_decide_eq_false h
 omega
section
variable {x y : Nat} (hx : x < 18446744073709551616) (hy : y < 18446744073709551616)
include hx hy
end
theorem acW {n : Nat} (h : n < 18446744073709551616) : cn n < 18446744073709551616 := by
 unfold cn; cases isnan n
 ·exact h
 ·show qn < _; decide
end Go.Sx
namespace Go.Sx
theorem wrap_u64 {n : Nat} (h : n < 18446744073709551616) : IntKind.u64.wrap (n : Int) = n := by
 simp only [IntKind.wrap, show IntKind.u64.bits = 64 from rfl, IntKind.signed, Bool.false_and, Bool.false_eq_true, if_false]
 omega
theorem wrap_i64 {n : Int} (h : -9223372036854775808 ≤ n) (h2 : n ≤ 9223372036854775807) : IntKind.i64.wrap n = n := by
 simp only [IntKind.wrap, show IntKind.i64.bits = 64 from rfl, IntKind.signed, Bool.true_and, decide_eq_true_eq]
 split <;> omega
def wd (p : Int) : Nat := if p < 0 then 9223372036854775808 + (-p).toNat else p.toNat
end Go.Sx
namespace Go.Sx
theorem LH (r : Nat) : Ieee.double.word false r = r := rfl
end Go.Sx
namespace Go.Sx
open M
def aF.bare : aF → Prop
 | .cells _ _ n c => ∀ i, i < n → ∀ v, v ∈ c.row i → v.low 0 = true
 | _ => True
theorem Rep.bare {N N' : Nat} {μ μ' : MM} {v : AV} {c : Value} (h : Rep N μ v c) (hl : v.low 0 = true) : Rep N' μ' v c :=
 (Rep.lY (N := 0) (μ := MM.none) ⟨fun g hg => by omega, fun g hg => by omega, fun g hg => by omega, fun g hg => by omega, fun b o q => by cases q⟩ (fun h => absurd h (Nat.lt_irrefl 0)) hl h).later ⟨fun g hg => by omega, fun g hg => by omega, fun g hg => by omega, fun g hg => by omega, fun b o q => by cases q⟩ (Nat.zero_le _)
theorem bY.bare {N N' : Nat} {μ μ' : MM} {hp : Array Obj} {g g' : Nat} {b : aF} (h : bY N μ hp g b) (hb : b.bare) (e1 : μ'.blk g' = μ.blk g) (e2 : μ'.cap g' = μ.cap g) (e3 : μ'.sz g' = μ.sz g) (e4 : μ'.base g' = μ.base g) : bY N' μ' hp g' b := by
 cases b with
 | cells own sz n c =>
  simp only [bY, e1, e2, e3, e4] at h ⊢
  refine ⟨h.1, h.2.1, fun hr => ?_⟩
  obtain ⟨cur, ty, fz, h1, h2, h3, h4⟩ := h.2.2 hr
  refine ⟨cur, ty, fz, h1, h2, h3, fun i hi => ⟨(h4 i hi).1, fun o v hv => ?_⟩⟩
  obtain ⟨k1, cv, k2, k3⟩ := (h4 i hi).2 o v hv
  exact ⟨k1, cv, k2, k3.bare (hb i hi v (List.mem_of_getElem? hv))⟩
 | aJ s l => simp only [bY, e1] at h ⊢; exact h
 | iY s l => simp only [bY, e1] at h ⊢; exact h
 | sit s l pos => simp only [bY, e1, e4] at h ⊢; exact h
theorem aF.dK {μ μ' : MM} {g g' : Nat} (e : μ'.cap g' = μ.cap g) (b : aF) : b.real μ' g' ↔ b.real μ g := by
 cases b <;> simp [aF.real, e]
def MM.via (μ : MM) (ρ : Nat → Nat) : MM := ⟨fun i => μ.blk (ρ i), fun i => μ.cap (ρ i), fun i => μ.sz (ρ i), fun i => μ.base (ρ i), μ.fz⟩
structure Canon (H : T aF) (Hc : T aF) (k : Nat) (ρ : Nat → Nat) : Prop where
 get : ∀ i b, Hc.get i = some b → i < k ∧ b.bare ∧ H.get (ρ i) = some b
 inj : ∀ i j b b', Hc.get i = some b → Hc.get j = some b' → ρ i = ρ j → i = j
theorem Canon.qN {N : Nat} {μ : MM} {hp : Array Obj} {H Hc : T aF} {k : Nat} {ρ : Nat → Nat} (C : Canon H Hc k ρ) (h : dP N μ hp H) : dP k (μ.via ρ) hp Hc where
 lt := fun i b hb => (C.get i b hb).1
 ok := fun i b hb => by
  obtain ⟨h1, h2, h3⟩ := C.get i b hb
  exact (h.ok _ _ h3).bare h2 rfl rfl rfl rfl
 sep := fun i b j b' hi hj ho hr hr' he => by
  obtain ⟨h1, h2, h3⟩ := C.get i b hi
  obtain ⟨k1, k2, k3⟩ := C.get j b' hj
  exact C.inj i j b b' hi hj (h.sep _ _ _ _ h3 k3 ho ((aF.dK rfl b).1 hr) ((aF.dK rfl b').1 hr') he)
 fz := fun b o q => ⟨(h.fz b o q).1, fun ⟨i, bk, m1, m2, m3, m4⟩ => by
  obtain ⟨k1, k2, k3⟩ := C.get i bk m1
  exact (h.fz b o q).2 ⟨ρ i, bk, k3, m2, (aF.dK rfl bk).1 m3, m4⟩⟩
structure Y8 (H H' : T aF) (Hc Hc' : T aF) (k : Nat) (ρ : Nat → Nat) : Prop where
 /-- what was in the small heap is as it says there, or nothing is known of it -/
 ins : ∀ i b, Hc.get i = some b → H'.get (ρ i) = none ∨ ∃ b', Hc'.get i = some b' ∧ b'.bare ∧ (b'.owned = true → b.owned = true) ∧ (∀ μ m, b'.real μ m → b.real μ m) ∧ H'.get (ρ i) = some b'
 out : ∀ nm, (∀ i b, Hc.get i = some b → nm ≠ ρ i) → H'.get nm = H.get nm
theorem Canon.back {g : G} {μ : MM} {w w' : World} {Hc : T aF} {k : Nat} {ρ : Nat → Nat} {gc gc' : G} {μc' : MM} {g' : G} (C : Canon g.H Hc k ρ) (hg : dP g.nx μ w.heap g.H)
  (e1 : gc.H = Hc) (e2 : gc.nx = k) (hE : Ext gc (μ.via ρ) w gc' μc' w') (hc' : dP gc'.nx μc' w'.heap gc'.H) (D : Y8 g.H g'.H Hc gc'.H k ρ) (hn : g'.nx = g.nx) :
  dP g'.nx μ w'.heap g'.H ∧ Ext g μ w g' μ w' := by
 subst e1
 have blk : ∀ i, i < k → μc'.blk i = μ.blk (ρ i) := fun i hi => hE.names.blk i (by omega)
 have cap : ∀ i, i < k → μc'.cap i = μ.cap (ρ i) := fun i hi => hE.names.cap i (by omega)
 have szz : ∀ i, i < k → μc'.sz i = μ.sz (ρ i) := fun i hi => hE.names.sz i (by omega)
 have bas : ∀ i, i < k → μc'.base i = μ.base (ρ i) := fun i hi => hE.names.base i (by omega)
 have Y9 : ∀ B, May (μ.via ρ) gc.H B → May μ g.H B := fun B ⟨i, b, h1, h2, h3, h4⟩ => by
  obtain ⟨k1, k2, k3⟩ := C.get i b h1
  exact ⟨ρ i, b, k3, h2, (aF.dK rfl b).1 h3, h4⟩
 -- a block of the great heap behind it: an old one that is as it was, or one of the small heap
 have cases' : ∀ nm b', g'.H.get nm = some b' → ((∀ i b, gc.H.get i = some b → nm ≠ ρ i) ∧ g.H.get nm = some b') ∨ ∃ i b, gc.H.get i = some b ∧ nm = ρ i ∧ gc'.H.get i = some b' ∧ b'.bare ∧ (b'.owned = true → b.owned = true) ∧ (∀ μ m, b'.real μ m → b.real μ m) := by
  intro nm b' hb
  by_cases h : ∃ i b, gc.H.get i = some b ∧ nm = ρ i
  ·obtain ⟨i, b, h1, rfl⟩ := h
   rcases D.ins i b h1 with h2 | ⟨b2, h2, h3, h4, h6, h5⟩
   ·rw [h2] at hb; cases hb
   ·rw [h5] at hb; cases hb
    exact .inr ⟨i, b, h1, rfl, h2, h3, h4, h6⟩
  ·have h' : ∀ i b, gc.H.get i = some b → nm ≠ ρ i := fun i b h1 e => h ⟨i, b, h1, e⟩
   rw [D.out nm h'] at hb
   exact .inl ⟨h', hb⟩
 have Yg : ∀ i b b', gc.H.get i = some b → gc'.H.get i = some b' → (b'.real μ (ρ i) ↔ b'.real μc' i) := fun i b b' h1 h2 => (aF.dK (cap i (C.get i b h1).1) b').symm
 have back : ∀ i b b', gc.H.get i = some b → gc'.H.get i = some b' → b'.bare → bY g.nx μ w'.heap (ρ i) b' := fun i b b' h1 h2 h3 => by
  have hi := (C.get i b h1).1
  exact (hc'.ok i b' h2).bare h3 (blk i hi).symm (cap i hi).symm (szz i hi).symm (bas i hi).symm
 -- who lies where something owned of the small heap lies
 have may' : ∀ i b', gc'.H.get i = some b' → b'.owned = true → b'.real μc' i → μc'.blk i < w.heap.size → May μ g.H (μc'.blk i) := fun i b' h1 h2 h3 h4 =>
  Y9 _ (hE.may _ h4 ⟨i, b', h1, h2, h3, rfl⟩)
 constructor
 ·rw [hn]
  refine ⟨fun nm b' hb => ?_, fun nm b' hb => ?_, fun n1 b1 n2 b2 hb1 hb2 ho hr1 hr2 he => ?_, fun b o q => ?_⟩
  ·rcases cases' nm b' hb with ⟨_, h⟩ | ⟨i, b, h1, rfl, _⟩
   ·exact hg.lt _ _ h
   ·exact hg.lt _ _ (C.get i b h1).2.2
  ·rcases cases' nm b' hb with ⟨h', h⟩ | ⟨i, b, h1, rfl, h2, h3, _⟩
   ·have old := hg.ok _ _ h
    refine old.later (.refl _ _) (Nat.le_refl _) (hg.lt _ _ h) fun hr => hE.block _ (old.lt_size hr) ?_
    rintro ⟨i, b, k1, k2, k3, k4⟩
    obtain ⟨m1, m2, m3⟩ := C.get i b k1
    exact h' i b k1 (hg.sep _ _ _ _ m3 h k2 ((aF.dK rfl b).1 k3) hr k4).symm
   ·exact back i b b' h1 h2 h3
  ·have old : ∀ nm b', g'.H.get nm = some b' → ∃ b, g.H.get nm = some b ∧ (b'.owned = true → b.owned = true) ∧ (b'.real μ nm → b.real μ nm) := by
    intro nm b' hb
    rcases cases' nm b' hb with ⟨_, h⟩ | ⟨i, b, h1, rfl, h2, h3, h4, h5⟩
    ·exact ⟨b', h, id, id⟩
    ·exact ⟨b, (C.get i b h1).2.2, h4, h5 _ _⟩
   obtain ⟨c1, k1, k2, k3⟩ := old n1 b1 hb1
   obtain ⟨c2, l1, l2, l3⟩ := old n2 b2 hb2
   exact hg.sep _ _ _ _ k1 l1 (k2 ho) (k3 hr1) (l3 hr2) he
  ·obtain ⟨q1, q2⟩ := hg.fz b o q
   have hlt := zy q1
   refine ⟨by rw [hE.block b hlt fun hm => q2 (Y9 b hm)]; exact q1, fun ⟨nm, b', m1, m2, m3, m4⟩ => ?_⟩
   rcases cases' nm b' m1 with ⟨_, h⟩ | ⟨i, b0, i1, rfl, i2, i3, i4⟩
   ·exact q2 ⟨nm, b', h, m2, m3, m4⟩
   ·have hi := (C.get i b0 i1).1
    have := may' i b' i2 m2 ((Yg i b0 b' i1 i2).1 m3) (by rw [blk i hi, m4]; exact hlt)
    rw [blk i hi, m4] at this
    exact q2 this
 ·refine ⟨by rw [hn]; exact Nat.le_refl _, .refl _ _, hE.os, hE.tape, hE.output, hE.size, fun B hB hnm => hE.block B hB fun hm => hnm (Y9 B hm), fun B hB hm => ?_, fun _ _ q => .inl q⟩
  obtain ⟨nm, b', h1, h2, h3, rfl⟩ := hm
  rcases cases' nm b' h1 with ⟨_, h⟩ | ⟨i, b, i1, rfl, i2, i3, i4⟩
  ·exact ⟨nm, b', h, h2, h3, rfl⟩
  ·have hi := (C.get i b i1).1
   have := may' i b' i2 h2 ((Yg i b b' i1 i2).1 h3) (by rw [blk i hi]; exact hB)
   rw [blk i hi] at this
   exact this
end Go.Sx
namespace Go.Sx
open M
def aV : List (Nat × AV) → Fr
 | [] => .e
 | p :: l => (aV l).upd p.1 (some p.2)
def hpL : List (Nat × aF) → T aF
 | [] => .e
 | p :: l => (hpL l).upd p.1 (some p.2)
theorem fV : ∀ {l : List (Nat × AV)} {t : Nat} {v : AV}, (aV l).get t = some v → (t, v) ∈ l
 | [], t, v, h => by simp [aV, T.tq] at h
 | p :: l, t, v, h => by
  simp only [aV, T.bF] at h
  split at h
  ·rename_i e; cases h; subst e; exact List.mem_cons_self
  ·exact List.mem_cons_of_mem _ (fV h)
theorem aY : ∀ {l : List (Nat × aF)} {t : Nat} {v : aF}, (hpL l).get t = some v → (t, v) ∈ l
 | [], t, v, h => by simp [hpL, T.tq] at h
 | p :: l, t, v, h => by
  simp only [hpL, T.bF] at h
  split at h
  ·rename_i e; cases h; subst e; exact List.mem_cons_self
  ·exact List.mem_cons_of_mem _ (aY h)
def Fa (fr : Fr) : List (Nat × AV) → Prop
 | [] => True
 | p :: l => fr.get p.1 = some p.2 ∧ Fa fr l
def zK (H : T aF) : List (Nat × aF) → Prop
 | [] => True
 | p :: l => H.get p.1 = some p.2 ∧ zK H l
theorem Fa.get {fr : Fr} : ∀ {l : List (Nat × AV)} {p : Nat × AV}, Fa fr l → p ∈ l → fr.get p.1 = some p.2
 | q :: l, p, h, hp => by
  rcases List.mem_cons.1 hp with rfl | hp
  ·exact h.1
  ·exact Fa.get h.2 hp
theorem zK.get {H : T aF} : ∀ {l : List (Nat × aF)} {p : Nat × aF}, zK H l → p ∈ l → H.get p.1 = some p.2
 | q :: l, p, h, hp => by
  rcases List.mem_cons.1 hp with rfl | hp
  ·exact h.1
  ·exact zK.get h.2 hp
def LJ (e : Ex) (fl : List (Nat × AV)) (hl : List (Nat × aF)) : Aa (Ex × Fr) → Prop
 | .done r g => r.1 = e ∧ Fa r.2 fl ∧ zK g.H hl ∧ g.cs
 | _ => False
structure Sl (e : Ex) (fl : List (Nat × AV)) (hl : List (Nat × aF)) (r : Aa (Ex × Fr)) : Prop where
 of : LJ e fl hl r
def acX (K : Nat) (fl : List (Nat × AV)) : Prop := ∀ p ∈ fl, p.2.low K = true
def acY (K : Nat) (hl : List (Nat × aF)) : Prop := ∀ p ∈ hl, p.1 < K ∧ p.2.bare
structure At (n K K' : Nat) (H : T aF) (μ : MM) (w : World) (H' : T aF) (fr' : Fr) (a a' : Act) (w' : World) : Prop where
 of : ∃ μ', dP K' μ' w'.heap H' ∧ Ext ⟨H, K, [], [], True⟩ μ w ⟨H', K', [], [], True⟩ μ' w' ∧ dG K' μ' fr' a'.tmps n ∧ a'.defers = a.defers
def Goes (P : Program) (c : Code) (n K K' : Nat) (fr : Fr) (H : T aF) (Post : Ex → Fr → T aF → Prop) : Prop :=
 ∀ μ w (a : Act), dP K μ w.heap H → dG K μ fr a.tmps n → ∀ Q : Exit → Act → World → Prop, (∀ e fr' H' a' w', Post e fr' H' → At n K K' H μ w H' fr' a a' w' → Q e.ex a' w') → c.wp P Q a w
theorem At.trans {n K K' K'' : Nat} {H H' xH : T aF} {μ : MM} {w w' w'' : World} {mg : Fr} {a a' a'' : Act} {μ' : MM} (h1 : Ext ⟨H, K, [], [], True⟩ μ w ⟨H', K', [], [], True⟩ μ' w') (h2 : a'.defers = a.defers) (h : At n K' K'' H' μ' w' xH mg a' a'' w'') : At n K K'' H μ w xH mg a a'' w'' := by
 obtain ⟨μ'', k1, k2, k3, k4⟩ := h.of
 exact ⟨μ'', k1, h1.trans k2, k3, k4.trans h2⟩
theorem At.up {n K K' K'' : Nat} {H H' : T aF} {μ : MM} {w w' : World} {fr' : Fr} {a a' : Act} (h : At n K K' H μ w H' fr' a a' w') (hK : K' ≤ K'') : At n K K'' H μ w H' fr' a a' w' := by
 obtain ⟨μ', k1, k2, k3, k4⟩ := h.of
 exact ⟨μ', k1.up hK fun _ _ h => h, ⟨Nat.le_trans k2.nx hK, k2.names, k2.os, k2.tape, k2.output, k2.size, k2.block, k2.may, k2.fz⟩, k3.later (.refl _ _) hK, k4⟩
theorem Goes.mono {P : Program} {c : Code} {n K K' : Nat} {fr : Fr} {H : T aF} {Post Post' : Ex → Fr → T aF → Prop} (h : Goes P c n K K' fr H Post) (k : ∀ e fr' H', Post e fr' H' → Post' e fr' H') : Goes P c n K K' fr H Post' :=
 fun μ w a hg hf Q hQ => h μ w a hg hf Q fun e fr' H' a' w' hp ha => hQ e fr' H' a' w' (k _ _ _ hp) ha
theorem Goes.up {P : Program} {c : Code} {n K K' K'' : Nat} {fr : Fr} {H : T aF} {Post : Ex → Fr → T aF → Prop} (h : Goes P c n K K' fr H Post) (hK : K' ≤ K'') : Goes P c n K K'' fr H Post :=
 fun μ w a hg hf Q hQ => h μ w a hg hf Q fun e fr' H' a' w' hp ha => hQ e fr' H' a' w' hp (ha.up hK)
theorem Goes.run {P : Program} {call : Calls'} (hcall : dw P call) {region : List Oper → Fr → M Fr} {loops : Loops} {n rounds K K' : Nat} (qG : eF P region n) {c : Code} (hl : gu P loops n c) {fr : Fr} {H : T aF} {path : List Bool}
  {e : Ex} {fl : List (Nat × AV)} {bl : List (Nat × aF)} (h : Sl e fl bl (bV P call region loops n rounds c fr ⟨H, K, [], path, True⟩)) (h1 : acX K' fl) (h2 : acY K' bl) (hK : K ≤ K') :
  Goes P c n K K' fr H fun e' fr' H' => e' = e ∧ fr' = aV fl ∧ H' = hpL bl := by
 have h := h.of
 generalize hr : bV P call region loops n rounds c fr ⟨H, K, [], path, True⟩ = res at h
 unfold LJ at h
 split at h
 ·rename_i r g
  obtain ⟨rfl, hw, hh, hcs⟩ := h
  obtain ⟨_, hs⟩ := fC hcall qG c hl _ _ _ _ hr
  intro μ w a hg hf Q hQ
  refine hs hcs μ w a hg hf Q fun a' w' hk => hQ r.1 _ _ a' w' ⟨rfl, rfl, rfl⟩ ⟨?_⟩
  obtain ⟨μ', k1, k2, k3, k4⟩ := hk
  have sub : ∀ i b, (hpL bl).get i = some b → g.H.get i = some b ∧ i < K' ∧ b.bare := fun i b hb => by
   have hm := aY hb
   exact ⟨hh.get hm, (h2 _ hm).1, (h2 _ hm).2⟩
  refine ⟨μ', ⟨fun i b hb => (sub i b hb).2.1, fun i b hb => (k1.ok _ _ (sub i b hb).1).bare (sub i b hb).2.2 rfl rfl rfl rfl, fun i b j b' hi hj => k1.sep _ _ _ _ (sub i b hi).1 (sub j b' hj).1, fun b o q => ⟨(k1.fz b o q).1, fun ⟨i, bk, m1, m2⟩ => (k1.fz b o q).2 ⟨i, bk, (sub i bk m1).1, m2⟩⟩⟩, ?_, ⟨k3.size, fun t v ht => ?_⟩, k4⟩
  ·exact ⟨hK, k2.names, k2.os, k2.tape, k2.output, k2.size, k2.block, fun B hB hm => k2.may B hB (by
    obtain ⟨i, b, m1, m2, m3, m4⟩ := hm
    exact ⟨i, b, (sub i b m1).1, m2, m3, m4⟩), k2.fz⟩
  ·have hm := fV ht
   exact Rep.lY (.refl _ _) (fun _ _ => rfl) (h1 _ hm) (k3.val t v (hw.get hm))
 ·exact h.elim
theorem Goes.Yh {P : Program} {c : Code} {n K K' : Nat} {fr pW : Fr} {H : T aF} {Post : Ex → Fr → T aF → Prop} (hf : ∀ t v, pW.get t = some v → ∃ u, fr.get t = some u ∧ ∀ N μ cv, Rep N μ u cv → Rep N μ v cv) (h : Goes P c n K K' pW H Post) : Goes P c n K K' fr H Post := by
 intro μ w a hg hfr Q hQ
 exact h μ w a hg ⟨hfr.size, fun t v ht => let ⟨u, h1, h2⟩ := hf t v ht; h2 _ _ _ (hfr.val t u h1)⟩ Q hQ
theorem Goes.seq {P : Program} {x y : Code} {n K K1 K' : Nat} {fr : Fr} {H : T aF} {Post : Ex → Fr → T aF → Prop} (hK : K1 ≤ K')
  (h : Goes P x n K K1 fr H fun e fr' H' => match e with
   | .normal => Goes P y n K1 K' fr' H' Post
   | e => Post e fr' H') : Goes P (.seq x y) n K K' fr H Post := by
 intro μ w a hg hf Q hQ
 refine wp_seq (h μ w a hg hf _ fun e fr' H' a' w' hp ha => ?_)
 cases e with
 | normal =>
  obtain ⟨μ', k1, k2, k3, k4⟩ := ha.of
  exact hp μ' w' a' k1 k3 Q fun e'' mg xH a'' w'' hp' ha' => hQ _ _ _ _ _ hp' (At.trans k2 k4 ha')
 | exit id => exact hQ _ _ _ _ _ hp (ha.up hK)
 | ret => exact hQ _ _ _ _ _ hp (ha.up hK)
theorem Goes.block {P : Program} {id : Nat} {c : Code} {n K K' : Nat} {fr : Fr} {H : T aF} {Post : Ex → Fr → T aF → Prop}
  (h : Goes P c n K K' fr H fun e fr' H' => match e with
   | .exit id' => if id' = id then Post .normal fr' H' else Post (.exit id') fr' H'
   | e => Post e fr' H') : Goes P (.block id c) n K K' fr H Post := by
 intro μ w a hg hf Q hQ
 refine wp_block (h μ w a hg hf _ fun e fr' H' a' w' hp ha => ?_)
 cases e with
 | normal => exact hQ _ _ _ _ _ hp ha
 | ret => exact hQ _ _ _ _ _ hp ha
 | exit id' =>
  simp only [Ex.ex, Exit.inBlock]
  by_cases he : id' = id
  ·simp only [he, if_true] at hp ⊢
   exact hQ .normal _ _ _ _ hp ha
  ·simp only [if_neg he] at hp ⊢
   exact hQ (.exit id') _ _ _ _ hp ha
theorem Goes.loop {P : Program} {c : Code} {n K : Nat} {Post : Ex → Fr → T aF → Prop} (I : Nat → Fr → T aF → Prop)
  (h : ∀ k fr H, I k fr H → Goes P c n K K fr H fun e fr' H' => match e with
   | .normal => ∃ k', k' < k ∧ I k' fr' H'
   | e => Post e fr' H') : ∀ k fr H, I k fr H → Goes P (.loop c) n K K fr H Post := by
 have key : ∀ R k fr H, k < R → I k fr H → ∀ μ w (a : Act), dP K μ w.heap H → dG K μ fr a.tmps n → ∀ Q : Exit → Act → World → Prop, (∀ e fr' H' a' w', Post e fr' H' → At n K K H μ w H' fr' a a' w' → Q e.ex a' w') → Code.rounds P c Q R a w := by
  intro R
  induction R with
  | zero => intro k fr H hk; omega
  | succ R ih =>
   intro k fr H hkR hI μ w a hg hf Q hQ
   rw [rounds_succ]
   refine wp_mono (h k fr H hI μ w a hg hf (fun e a' w' => (e = .normal ∧ ∃ k' fr' H', k' < k ∧ I k' fr' H' ∧ At n K K H μ w H' fr' a a' w') ∨ (e ≠ .normal ∧ Q e a' w')) fun e fr' H' a' w' hp ha => ?_) ?_
   ·cases e with
    | normal =>
     obtain ⟨k', hk, hI'⟩ := hp
     exact .inl ⟨rfl, k', fr', H', hk, hI', ha⟩
    | exit id => exact .inr ⟨by simp [Ex.ex], hQ (.exit id) _ _ _ _ hp ha⟩
    | ret => exact .inr ⟨by simp [Ex.ex], hQ .ret _ _ _ _ hp ha⟩
   ·rintro e a' w' (⟨rfl, k', fr', H', hk, hI', ha⟩ | ⟨hne, hq⟩)
    ·obtain ⟨μ', k1, k2, k3, k4⟩ := ha.of
     exact ih k' fr' H' (by omega) hI' μ' w' a' k1 k3 Q fun e'' mg xH a'' w'' hp' ha' => hQ _ _ _ _ _ hp' (At.trans k2 k4 ha')
    ·cases e <;> first | exact absurd rfl hne | exact hq
 intro k fr H hI μ w a hg hf Q hQ
 exact wp_loop_rounds (k + 1) (key (k + 1) k fr H (by omega) hI μ w a hg hf Q hQ)
theorem Goes.call {P : Program} {f : FuncId} {fn : Func} {c : Code} (hf : P.funcs[f]? = some fn) (hb : fn.body = some c) (hname : (fn.name == "runtime.NumGoroutine") = false) {K K' : Nat} {args : List AV} {H : T aF} {t : Tmp} (hres : fn.results.toList = [.tmp t]) {V : AV → Prop}
  (h : Goes P c fn.ntmps K K' (bJ args 0 .e) H fun e fr' H' => (e = .ret ∨ e = .normal) ∧ ∃ v, fr'.get t = some v ∧ V v)
  (μ : MM) (w : World) {bW : Array Value} (hg : dP K μ w.heap H) (ha : aO K μ args bW.toList) :
  CF P f bW w fun cv w' => ∃ v μ' H', V v ∧ Rep K' μ' v cv ∧ dP K' μ' w'.heap H' ∧ Ext ⟨H, K, [], [], True⟩ μ w ⟨H', K', [], [], True⟩ μ' w' := by
 refine .inr ⟨f, bW, w, qM hf hname hb bW w, calls_of_wp hf hb (h μ w _ hg (dG.start ha fn.ntmps) _ fun e fr' H' a' w' hp hA => ?_)⟩
 obtain ⟨he, v, hv, hV⟩ := hp
 obtain ⟨μ', k1, k2, k3, k4⟩ := hA.of
 have hrep := k3.val t v hv
 have hrun : (results fn a'.tmps).run P w' = .ok (a'.tmps.getD t undef) w' := by
  have e1 : (fn.results.toList.mapM (ny a'.tmps)).run P w' = .ok [a'.tmps.getD t undef] w' := by rw [hres]; simp [List.mapM_cons, ny]
  obtain ⟨cv, e2, hcv⟩ := uw (N := 0) (μ := μ') (vs := [.top]) e1 (by simp [aO, Rep])
  have e3 : (fn.results.mapM (ny a'.tmps)).run P w' = .ok #[a'.tmps.getD t undef] w' := by
   rw [Array.mapM_eq_mapM_toList, map_eq_pure_bind, Sem.run_bind, e1]; rfl
  have e4 : results fn a'.tmps = (do
    let vs ← fn.results.mapM (ny a'.tmps)
    pure (if h : vs.size = 1 then vs[0] else .tuple vs)) := by
   unfold results
   congr 1
  rw [e4, Sem.run_bind, e3]; rfl
 have hd : a'.defers = [] := k4
 have post : a'.defers = [] ∧ ∃ x, (results fn a'.tmps).run P w' = .ok x w' ∧ ∃ c0, Ending.returned x = .returned c0 ∧ ∃ v μ' H', V v ∧ Rep K' μ' v c0 ∧ dP K' μ' w'.heap H' ∧ Ext ⟨H, K, [], [], True⟩ μ w ⟨H', K', [], [], True⟩ μ' w' :=
  ⟨hd, _, hrun, _, rfl, v, μ', H', hV, hrep, k1, k2⟩
 rcases he with rfl | rfl
 ·exact post
 ·exact post
end Go.Sx
namespace Go.Sx
open M
mutual
def AV.iy (S : Nat → Prop) : AV → Prop
 | .ptr a => S a.g
 | .slc _ _ a _ => S a.g
 | .mp g => S g
 | .fn _ l c => lC S l ∧ lC S c
 | .agg l => lC S l
 | .lZ l => lC S l
 | .iw .. => S 0
 | .KJ _ => S 0
 | _ => True
def lC (S : Nat → Prop) : List AV → Prop
 | [] => True
 | v :: l => v.iy S ∧ lC S l
end
mutual
theorem AV.iy.mono {S S' : Nat → Prop} (h : ∀ g, S g → S' g) : ∀ {v : AV}, v.iy S → v.iy S'
 | .top, _ => trivial
 | .bool _, _ => trivial
 | .bD _, _ => trivial
 | .int .., _ => trivial
 | .flt .., _ => trivial
 | .raw .., _ => trivial
 | .bits .., _ => trivial
 | .vW .., _ => trivial
 | .str .., _ => trivial
 | .ptr a, k => h _ k
 | .iW, _ => trivial
 | .slc .., k => h _ k
 | .dL, _ => trivial
 | .mp g, k => h _ k
 | .wI, _ => trivial
 | .fn f l c, k => by
  simp only [AV.iy] at k ⊢
  exact ⟨lC.mono h k.1, lC.mono h k.2⟩
 | .qV, _ => trivial
 | .BM, _ => trivial
 | .hdr .., _ => trivial
 | .iP, _ => trivial
 | .iw .., k => h _ k
 | .KJ _, k => h _ k
 | .agg l, k => by simp only [AV.iy] at k ⊢; exact lC.mono h k
 | .lZ l, k => by simp only [AV.iy] at k ⊢; exact lC.mono h k
theorem lC.mono {S S' : Nat → Prop} (h : ∀ g, S g → S' g) : ∀ {l : List AV}, lC S l → lC S' l
 | [], _ => trivial
 | v :: l, k => by simp only [lC] at k ⊢; exact ⟨AV.iy.mono h k.1, lC.mono h k.2⟩
end
structure H8 (μ μ' : MM) (g : Nat) : Prop where
 blk : μ'.blk g = μ.blk g
 cap : μ'.cap g = μ.cap g
 sz : μ'.sz g = μ.sz g
 base : μ'.base g = μ.base g
 fz : ∀ b o, μ.fz b = some o → μ'.fz b = some o
theorem H8.addr {μ μ' : MM} {a : AA} (h : H8 μ μ' a.g) : μ'.addr a = μ.addr a := by simp [MM.addr, h.blk, h.sz, h.base]
mutual
theorem Rep.on {N N' : Nat} {μ μ' : MM} {S : Nat → Prop} (h : ∀ g, S g → g < N → g < N' ∧ H8 μ μ' g) : ∀ {v : AV} {c : Value}, v.iy S → Rep N μ v c → Rep N' μ' v c
 | .top, _, _, _ => by simp [Rep]
 | .bool _, _, _, r => by simpa [Rep] using r
 | .bD _, _, _, r => by simpa [Rep] using r
 | .int .., _, _, r => by simpa [Rep] using r
 | .flt .., _, _, r => by simpa [Rep] using r
 | .raw .., _, _, r => by simpa [Rep] using r
 | .bits .., _, _, r => by simpa [Rep] using r
 | .vW .., _, _, r => by simpa [Rep] using r
 | .str .., _, _, r => by simpa [Rep] using r
 | .ptr a, _, l, r => by
  simp only [Rep, AV.iy] at r l ⊢
  obtain ⟨h1, h2⟩ := h _ l r.1
  exact ⟨h1, by rw [h2.addr]; exact r.2⟩
 | .iW, _, _, r => by simpa [Rep] using r
 | .slc _ own a len, _, l, r => by
  simp only [Rep, tZ, AV.iy] at r l ⊢
  obtain ⟨hg, A, C, rfl, hlen, h1, h3, h2⟩ := r
  obtain ⟨k1, k2⟩ := h _ l hg
  exact ⟨k1, A, C, rfl, hlen, by rw [k2.addr]; exact h1, h3, by rw [k2.blk, k2.cap]; exact h2⟩
 | .dL, _, _, r => by simpa [Rep] using r
 | .mp g, _, l, r => by
  simp only [Rep, AV.iy] at r l ⊢
  obtain ⟨h1, h2⟩ := h _ l r.1
  exact ⟨h1, by rw [h2.blk]; exact r.2⟩
 | .wI, _, _, r => by simpa [Rep] using r
 | .fn f l cap, _, lo, r => by
  simp only [Rep, AV.iy] at r lo ⊢
  obtain ⟨fs, cs, rfl, h1, h2⟩ := r
  exact ⟨fs, cs, rfl, aO.on h lo.1 h1, aO.on h lo.2 h2⟩
 | .qV, _, _, r => by simpa [Rep] using r
 | .BM, _, _, r => by simpa [Rep] using r
 | .hdr .., _, _, r => by simpa [Rep] using r
 | .iP, _, _, r => by simpa [Rep] using r
 | .iw .., _, l, r => by
  simp only [Rep, AV.iy] at r l ⊢
  obtain ⟨h0, b, C, cur, ty, z, e, h1, h2, h3⟩ := r
  obtain ⟨k1, k2⟩ := h _ l h0
  exact ⟨k1, b, C, cur, ty, z, e, h1, k2.fz _ _ h2, h3⟩
 | .KJ _, _, l, r => by
  simp only [Rep, AV.iy] at r l ⊢
  obtain ⟨h0, b, i, cur, ty, z, e, h2, h3⟩ := r
  obtain ⟨k1, k2⟩ := h _ l h0
  exact ⟨k1, b, i, cur, ty, z, e, k2.fz _ _ h2, h3⟩
 | .agg l, _, lo, r => by
  simp only [Rep, AV.iy] at r lo ⊢
  obtain ⟨cs, rfl, h1⟩ := r
  exact ⟨cs, rfl, aO.on h lo h1⟩
 | .lZ l, _, lo, r => by
  simp only [Rep, AV.iy] at r lo ⊢
  obtain ⟨cs, rfl, h1⟩ := r
  exact ⟨cs, rfl, aO.on h lo h1⟩
theorem aO.on {N N' : Nat} {μ μ' : MM} {S : Nat → Prop} (h : ∀ g, S g → g < N → g < N' ∧ H8 μ μ' g) : ∀ {l : List AV} {cs : List Value}, lC S l → aO N μ l cs → aO N' μ' l cs
 | [], _, _, r => by simpa [aO] using r
 | v :: l, _, lo, r => by
  simp only [aO, lC] at r lo ⊢
  obtain ⟨c, t, rfl, h1, h2⟩ := r
  exact ⟨c, t, rfl, Rep.on h lo.1 h1, aO.on h lo.2 h2⟩
end
mutual
theorem Rep.NQ {N : Nat} {μ : MM} : ∀ {v : AV} {c : Value}, Rep N μ v c → v.iy (· < N)
 | .top, _, _ => trivial
 | .bool _, _, _ => trivial
 | .bD _, _, _ => trivial
 | .int .., _, _ => trivial
 | .flt .., _, _ => trivial
 | .raw .., _, _ => trivial
 | .bits .., _, _ => trivial
 | .vW .., _, _ => trivial
 | .str .., _, _ => trivial
 | .ptr a, _, r => by simp only [Rep, AV.iy] at r ⊢; exact r.1
 | .iW, _, _ => trivial
 | .slc .., _, r => by simp only [Rep, AV.iy] at r ⊢; exact r.1
 | .dL, _, _ => trivial
 | .mp g, _, r => by simp only [Rep, AV.iy] at r ⊢; exact r.1
 | .wI, _, _ => trivial
 | .fn f l c, _, r => by
  simp only [Rep, AV.iy] at r ⊢
  obtain ⟨fs, cs, rfl, h1, h2⟩ := r
  exact ⟨aO.NQ h1, aO.NQ h2⟩
 | .qV, _, _ => trivial
 | .BM, _, _ => trivial
 | .hdr .., _, _ => trivial
 | .iP, _, _ => trivial
 | .iw .., _, r => by simp only [Rep, AV.iy] at r ⊢; exact r.1
 | .KJ _, _, r => by simp only [Rep, AV.iy] at r ⊢; exact r.1
 | .agg l, _, r => by
  simp only [Rep, AV.iy] at r ⊢
  obtain ⟨cs, rfl, h1⟩ := r
  exact aO.NQ h1
 | .lZ l, _, r => by
  simp only [Rep, AV.iy] at r ⊢
  obtain ⟨cs, rfl, h1⟩ := r
  exact aO.NQ h1
theorem aO.NQ {N : Nat} {μ : MM} : ∀ {l : List AV} {cs : List Value}, aO N μ l cs → lC (· < N) l
 | [], _, _ => trivial
 | v :: l, _, r => by
  simp only [aO, lC] at r ⊢
  obtain ⟨c, t, rfl, h1, h2⟩ := r
  exact ⟨Rep.NQ h1, aO.NQ h2⟩
end
def aF.iy (S : Nat → Prop) : aF → Prop
 | .cells _ _ n c => ∀ i, i < n → ∀ (o : Nat) (v : AV), (c.row i)[o]? = some v → v.iy S
 | _ => True
theorem aF.iy.mono {S S' : Nat → Prop} (h : ∀ g, S g → S' g) : ∀ {b : aF}, b.iy S → b.iy S'
 | .cells .., k => fun i hi o v hv => (k i hi o v hv).mono h
 | .aJ .., _ => trivial
 | .iY .., _ => trivial
 | .sit .., _ => trivial
theorem bY.NQ {N : Nat} {μ : MM} {hp : Array Obj} {g : Nat} {b : aF} (r : bY N μ hp g b) : b.iy (· < N) := by
 cases b with
 | cells own sz n c =>
  intro i hi o v hv
  obtain ⟨cur, ty, fz, _, _, _, h4⟩ := r.2.2 (.inl (by omega))
  obtain ⟨_, cv, _, h5⟩ := (h4 i hi).2 o v hv
  exact h5.NQ
 | _ => trivial
theorem aF.lI {μ μ' : MM} {g : Nat} (h : H8 μ μ' g) (b : aF) : b.real μ' g ↔ b.real μ g := by
 cases b <;> simp [aF.real, h.cap]
theorem bY.on {N N' : Nat} {μ μ' : MM} {S : Nat → Prop} (h : ∀ g, S g → g < N → g < N' ∧ H8 μ μ' g) {hp hp' : Array Obj} {g : Nat} {b : aF} (hg : H8 μ μ' g) (hS : b.iy S) (hB : b.real μ g → hp'[μ.blk g]? = hp[μ.blk g]?) (r : bY N μ hp g b) : bY N' μ' hp' g b := by
 cases b with
 | cells own sz n c =>
  simp only [bY, hg.blk, hg.cap, hg.sz, hg.base] at r ⊢
  refine ⟨r.1, r.2.1, fun hr => ?_⟩
  obtain ⟨cur, ty, fz, h1, h2, h3, h4⟩ := r.2.2 hr
  exact ⟨cur, ty, fz, (hB hr).trans h1, h2, h3, fun i hi => ⟨(h4 i hi).1, fun o v hv => let ⟨k0, cv, k1, k2⟩ := (h4 i hi).2 o v hv; ⟨k0, cv, k1, k2.on h (hS i hi o v hv)⟩⟩⟩
 | aJ s l =>
  simp only [bY, hg.blk] at r ⊢
  obtain ⟨es, cl, h1, h2⟩ := r
  exact ⟨es, cl, (hB trivial).trans h1, h2⟩
 | iY s l =>
  simp only [bY, hg.blk] at r ⊢
  obtain ⟨es, cl, h1, h2⟩ := r
  exact ⟨es, cl, (hB trivial).trans h1, h2⟩
 | sit s l pos =>
  simp only [bY, hg.blk, hg.base] at r ⊢
  exact ⟨(hB trivial).trans r.1, r.2⟩
def Dx {α : Type} (h src : T α) : List Nat → T α
 | [] => h
 | nm :: l => Dx (h.upd nm (src.get nm)) src l
theorem Dy {α : Type} (src : T α) : ∀ (l : List Nat) (h : T α) (i : Nat), (Dx h src l).get i = if i ∈ l then src.get i else h.get i
 | [], h, i => by simp [Dx]
 | k :: l, h, i => by
  simp only [Dx, Dy src l, T.bF, List.mem_cons]
  by_cases h1 : i ∈ l
  ·simp [h1]
  ·by_cases h2 : i = k
   ·subst h2; simp [h1]
   ·simp [h1, h2]
structure PlanB (P : Program) (ops : Array Oper) (nT : Nat) (g0 gf : G) (pW EG : Fr) where
 V : Nat → AV
 fr : Nat → Fr
 H : Nat → T aF
 nx : Nat → Nat
 T : Nat → List Nat
 jV : Nat → Nat → Bool
 fin : Nat → Fr
 iE : Nat → G
 eU : Nat → G
 RD : fr 0 = pW
 RF : fr ops.size = EG
 VF : H 0 = g0.H
 A8 : nx 0 = g0.nx
 H_n : H ops.size = gf.H
 Je : nx ops.size = gf.nx
 Dh : ∀ j, j < ops.size → ∀ t v, (fin j).get t = some v → (fr j).get t = some v ∧ ∀ k, k < ops.size → k ≠ j → jV k j = false → jV j k = false → dJ ops k ≠ some t
 RG : ∀ j, j < ops.size → ∀ t, (fr (j + 1)).get t = if dJ ops j = some t then some (V j) else (fr j).get t
 Di : ∀ j, j < ops.size → ∀ d, dJ ops j = some d → d < nT
 yg : ∀ i j d, i < ops.size → j < ops.size → dJ ops i = some d → dJ ops j = some d → i = j
 gZ : ∀ k j, jV k j = true → k < j
 oZ : ∀ j o, ops[j]? = some o → ∀ e ∈ o.after, Region.binds .any e = true → jV e.on j = true
 yj : ∀ k j, j < ops.size → jV k j = true → ∃ o e, ops[j]? = some o ∧ e ∈ o.after ∧ Region.binds .any e = true ∧ (k = e.on ∨ jV k e.on = true)
 Jf : ∀ j o, ops[j]? = some o → (eU j).cs → ∀ μ w (a : Act), dP (iE j).nx μ w.heap (iE j).H → dG (iE j).nx μ (fin j) a.tmps nT → Gz P ops o (iE j) μ w (eU j) (V j) a
 LK : ∀ j, j < ops.size → (iE j).nx = nx j
 NR : ∀ j, j < ops.size → (eU j).nx = nx (j + 1)
 RN : ∀ j, j < ops.size → nx j ≤ nx (j + 1)
 tr : ∀ j, j < ops.size → ∀ nm b, nm < nx j → (iE j).H.get nm = some b → nm ∉ T j → (eU j).H.get nm = some b
 Sm : ∀ j, j < ops.size → ∀ nm ∈ T j, ∃ b, (iE j).H.get nm = some b
 vis : ∀ j, j < ops.size → ∀ nm b, (iE j).H.get nm = some b → (H j).get nm = some b ∧ ∀ k, k < ops.size → k ≠ j → jV k j = false → jV j k = false → nm ∉ T k ∧ (k < j → ¬ (nx k ≤ nm ∧ nm < nx (k + 1)))
 H_w : ∀ j, j < ops.size → ∀ nm, (nm ∈ T j ∨ nx j ≤ nm ∧ nm < nx (j + 1)) → ∀ b, (H (j + 1)).get nm = some b → (eU j).H.get nm = some b ∧ b.owned = true ∧ b.iy fun g => g < nx 0 ∨ ∃ m, m < ops.size ∧ (m = j ∨ jV m j = true) ∧ nx m ≤ g ∧ g < nx (m + 1)
 H_o : ∀ j, j < ops.size → ∀ nm, ¬ (nm ∈ T j ∨ nx j ≤ nm ∧ nm < nx (j + 1)) → (H (j + 1)).get nm = (H j).get nm
 aac : ∀ j, j < ops.size → (V j).iy fun g => g < nx 0 ∨ ∃ m, m < ops.size ∧ (m = j ∨ jV m j = true) ∧ nx m ≤ g ∧ g < nx (m + 1)
 Jg : gf.cs → ∀ j, j < ops.size → (eU j).cs
 RJ : gf.cs → g0.cs
namespace PlanB
variable {P : Program} {ops : Array Oper} {nT : Nat} {g0 gf : G} {pW EG : Fr} (L : PlanB P ops nT g0 gf pW EG)
def W (j nm : Nat) : Prop := nm ∈ L.T j ∨ L.nx j ≤ nm ∧ nm < L.nx (j + 1)
def SN (j g : Nat) : Prop := g < L.nx 0 ∨ ∃ m, m < ops.size ∧ (m = j ∨ L.jV m j = true) ∧ L.nx m ≤ g ∧ g < L.nx (m + 1)
theorem dW (p q : Nat) (hpq : p ≤ q) (hq : q ≤ ops.size) : L.nx p ≤ L.nx q := by
 induction q with
 | zero => rw [show p = 0 by omega]; exact Nat.le_refl _
 | succ q ih =>
  by_cases h : p = q + 1
  ·rw [h]; exact Nat.le_refl _
  ·exact Nat.le_trans (ih (by omega) (by omega)) (L.RN q (by omega))
theorem agree (p q nm : Nat) (hpq : p ≤ q) (hq : q ≤ ops.size) (hk : ∀ k, p ≤ k → k < q → ¬ L.W k nm) : (L.H q).get nm = (L.H p).get nm := by
 induction q with
 | zero => rw [show p = 0 by omega]
 | succ q ih =>
  by_cases h : p = q + 1
  ·rw [h]
  ·rw [L.H_o q (by omega) nm (hk q (by omega) (by omega))]
   exact ih (by omega) (by omega) fun k h1 h2 => hk k h1 (by omega)
theorem Dj (j : Nat) (hj : j ≤ ops.size) (t : Nat) (v : AV) (h : (L.fr j).get t = some v) : (∃ k, k < j ∧ dJ ops k = some t ∧ v = L.V k) ∨ (pW.get t = some v ∧ ∀ k, k < j → dJ ops k ≠ some t) := by
 induction j with
 | zero => rw [L.RD] at h; exact .inr ⟨h, fun k hk => by omega⟩
 | succ j ih =>
  rw [L.RG j (by omega)] at h
  split at h
  ·rename_i e
   cases h
   exact .inl ⟨j, by omega, e, rfl⟩
  ·rename_i e
   rcases ih (by omega) h with ⟨k, h1, h2, h3⟩ | ⟨h1, h2⟩
   ·exact .inl ⟨k, by omega, h2, h3⟩
   ·refine .inr ⟨h1, fun k hk => ?_⟩
    by_cases hkj : k = j
    ·rw [hkj]; exact e
    ·exact h2 k (by omega)
theorem Yi {j g : Nat} (hj : j < ops.size) (h : L.SN j g) : g < L.nx (j + 1) := by
 rcases h with h | ⟨m, hm, hmj, _, h2⟩
 ·exact Nat.lt_of_lt_of_le h (L.dW 0 (j + 1) (by omega) hj)
 ·have : m ≤ j := by
   rcases hmj with rfl | hb
   ·omega
   ·exact Nat.le_of_lt (L.gZ _ _ hb)
  exact Nat.lt_of_lt_of_le h2 (L.dW (m + 1) (j + 1) (by omega) hj)
theorem yC (hb : ∀ nm b, (L.H 0).get nm = some b → nm < L.nx 0) : ∀ q, q ≤ ops.size → ∀ nm b, (L.H q).get nm = some b → nm < L.nx 0 ∨ ∃ m, m < q ∧ L.nx m ≤ nm ∧ nm < L.nx (m + 1)
 | 0, _, nm, b, h => .inl (hb nm b h)
 | q + 1, hq, nm, b, h => by
  have up : (nm < L.nx 0 ∨ ∃ m, m < q ∧ L.nx m ≤ nm ∧ nm < L.nx (m + 1)) → nm < L.nx 0 ∨ ∃ m, m < q + 1 ∧ L.nx m ≤ nm ∧ nm < L.nx (m + 1) := by
   rintro (h | ⟨m, h1, h2⟩)
   ·exact .inl h
   ·exact .inr ⟨m, by omega, h2⟩
  by_cases hW : L.W q nm
  ·rcases hW with hT | hr
   ·obtain ⟨b', hb'⟩ := L.Sm q (by omega) nm hT
    exact up (yC hb q (by omega) nm b' (L.vis q (by omega) nm b' hb').1)
   ·exact .inr ⟨q, by omega, hr⟩
  ·rw [L.H_o q (by omega) nm hW] at h
   exact up (yC hb q (by omega) nm b h)
theorem NS (hb : ∀ nm b, (L.H 0).get nm = some b → nm < L.nx 0) {q : Nat} (hq : q ≤ ops.size) {nm : Nat} {b : aF} (h : (L.H q).get nm = some b) : nm < L.nx q := by
 rcases L.yC hb q hq nm b h with h | ⟨m, h1, _, h3⟩
 ·exact Nat.lt_of_lt_of_le h (L.dW 0 q (by omega) hq)
 ·exact Nat.lt_of_lt_of_le h3 (L.dW (m + 1) q (by omega) hq)
theorem src_of : ∀ q, q ≤ ops.size → ∀ nm b, (L.H q).get nm = some b → ((L.H 0).get nm = some b ∧ ∀ k, k < q → ¬ L.W k nm) ∨ ∃ k, k < q ∧ L.W k nm ∧ b.iy (L.SN k)
 | 0, _, nm, b, h => .inl ⟨h, fun k hk => by omega⟩
 | q + 1, hq, nm, b, h => by
  by_cases hW : L.W q nm
  ·exact .inr ⟨q, by omega, hW, (L.H_w q (by omega) nm hW b h).2.2⟩
  ·rw [L.H_o q (by omega) nm hW] at h
   rcases src_of q (by omega) nm b h with ⟨h1, h2⟩ | ⟨k, h1, h2⟩
   ·refine .inl ⟨h1, fun k hk => ?_⟩
    by_cases e : k = q
    ·rw [e]; exact hW
    ·exact h2 k (by omega)
   ·exact .inr ⟨k, by omega, h2⟩
theorem ord (hb : ∀ nm b, (L.H 0).get nm = some b → nm < L.nx 0) {j k nm : Nat} (hj : j < ops.size) (hk : k < ops.size) (hne : j ≠ k) (h1 : L.W j nm) (h2 : L.W k nm) : L.jV j k = true ∨ L.jV k j = true := by
 have key : ∀ j k, j < ops.size → k < ops.size → j ≠ k → nm ∈ L.T j → L.W k nm → L.jV j k = true ∨ L.jV k j = true := fun j k hj hk hne hT hW => by
  cases b1 : L.jV j k with
  | true => exact .inl rfl
  | false =>
   cases b2 : L.jV k j with
   | true => exact .inr rfl
   | false =>
    obtain ⟨b, hv⟩ := L.Sm j hj nm hT
    obtain ⟨v1, v2⟩ := L.vis j hj nm b hv
    obtain ⟨v3, v4⟩ := v2 k hk (Ne.symm hne) b2 b1
    rcases hW with h | h
    ·exact absurd h v3
    ·have := L.NS hb (by omega) v1
     rcases Nat.lt_or_ge k j with hkj | hkj
     ·exact absurd h (v4 hkj)
     ·have := L.dW j k hkj (by omega)
      omega
 rcases h1 with h1 | h1
 ·exact key j k hj hk hne h1 h2
 ·rcases h2 with h2 | h2
  ·exact (key k j hk hj (Ne.symm hne) h2 (.inr h1)).symm
  ·rcases Nat.lt_or_ge j k with h | h
   ·have := L.dW (j + 1) k h (by omega)
    omega
   ·have := L.dW (k + 1) j (by omega) (by omega)
    omega
structure Inv (μ0 : MM) (w0 : World) (a0 : Act) (D : Nat → Prop) (a : Act) (w : World) (h : Sx.T aF) (μ : MM) : Prop where
 at' : ∀ nm, ∃ q, q ≤ ops.size ∧ h.get nm = (L.H q).get nm ∧ ∀ k, k < ops.size → L.W k nm → (D k ↔ k < q)
 qN : dP (L.nx ops.size) μ w.heap h
 names : MM.upto (L.nx 0) μ0 μ
 os : w.os = w0.os
 tape : w.tape = w0.tape
 output : w.output = w0.output
 hsize : w0.heap.size ≤ w.heap.size
 block : ∀ B, B < w0.heap.size → ¬ May μ0 (L.H 0) B → w.heap[B]? = w0.heap[B]?
 may : ∀ B, B < w0.heap.size → May μ h B → May μ0 (L.H 0) B
 fz : ∀ b o, μ.fz b = some o → μ0.fz b = some o ∨ w0.heap.size ≤ b ∨ May μ0 (L.H 0) b
 defers : a.defers = a0.defers
 size : nT ≤ a.tmps.size
 done : ∀ k, k < ops.size → D k → ∀ d, dJ ops k = some d → Rep (L.nx ops.size) μ (L.V k) (a.tmps.getD d undef)
 rest : ∀ t, (∀ k, k < ops.size → D k → dJ ops k ≠ some t) → a.tmps.getD t undef = a0.tmps.getD t undef
 down : ∀ j, j < ops.size → D j → ∀ k, L.jV k j = true → D k
variable {L}
section
variable {μ0 : MM} {w0 : World} {a0 : Act} {D : Nat → Prop} {a : Act} {w : World} {h : Sx.T aF} {μ : MM} (I : L.Inv μ0 w0 a0 D a w h μ) (hb : dP (L.nx 0) μ0 w0.heap (L.H 0))
include I
theorem Inv.frame (h0 : dG g0.nx μ0 pW a0.tmps nT) {j : Nat} (hj : j < ops.size) (hD : ¬ D j) (hP : ∀ k, L.jV k j = true → D k) : dG (L.nx j) μ (L.fin j) a.tmps nT where
 size := I.size
 val := fun t v hv => by
  obtain ⟨h1, h2⟩ := L.Dh j hj t v hv
  rcases L.Dj j (by omega) t v h1 with ⟨k, hk, hd, rfl⟩ | ⟨h3, h4⟩
  ·have hb : L.jV k j = true := by
    cases hb : L.jV k j with
    | true => rfl
    | false =>
     cases hb' : L.jV j k with
     | true => exact absurd (L.gZ _ _ hb') (by omega)
     | false => exact absurd hd (h2 k (by omega) (by omega) hb hb')
   refine (I.done k (by omega) (hP k hb) t hd).on (S := L.SN k) (fun g hg _ => ⟨?_, rfl, rfl, rfl, rfl, fun _ _ q => q⟩) (L.aac k (by omega))
   exact Nat.lt_of_lt_of_le (L.Yi (by omega) hg) (L.dW (k + 1) j hk (by omega))
  ·have : ∀ k, k < ops.size → D k → dJ ops k ≠ some t := fun k hk Ba e => by
    by_cases hkj : k < j
    ·exact h4 k hkj e
    ·have hne : k ≠ j := fun e => hD (e ▸ Ba)
     cases hb : L.jV j k with
     | true => exact hD (I.down k hk Ba j hb)
     | false =>
      cases hb' : L.jV k j with
      | true => exact absurd (L.gZ _ _ hb') (by omega)
      | false => exact h2 k hk hne hb' hb e
   rw [I.rest t this]
   exact (h0.val t v h3).later (by rw [← L.A8]; exact I.names) (by rw [← L.A8]; exact L.dW 0 j (by omega) (by omega))
include hb
theorem Inv.reads {j : Nat} (hj : j < ops.size) (hD : ¬ D j) (hP : ∀ k, L.jV k j = true → D k) {nm : Nat} {b : aF} (hv : (L.iE j).H.get nm = some b) : h.get nm = some b ∧ ∀ k, k < ops.size → L.W k nm → k ≠ j → (D k ↔ L.jV k j = true) := by
 obtain ⟨v1, v2⟩ := L.vis j hj nm b hv
 have hlt := L.NS hb.lt (by omega) v1
 have o : ∀ k, k < ops.size → L.W k nm → k ≠ j → L.jV k j = true ∨ L.jV j k = true := fun k hk hW hne => by
  cases b1 : L.jV k j with
  | true => exact .inl rfl
  | false =>
   cases b2 : L.jV j k with
   | true => exact .inr rfl
   | false =>
    obtain ⟨v3, v4⟩ := v2 k hk hne b1 b2
    rcases hW with h | h
    ·exact absurd h v3
    ·rcases Nat.lt_or_ge k j with hkj | hkj
     ·exact absurd h (v4 hkj)
     ·have := L.dW j k hkj (by omega)
      omega
 have o' : ∀ k, k < ops.size → L.W k nm → k ≠ j → (D k ↔ L.jV k j = true) := fun k hk hW hne => by
  rcases o k hk hW hne with h | h
  ·exact ⟨fun _ => h, fun _ => hP k h⟩
  ·exact ⟨fun hd => absurd (I.down k hk hd j h) hD, fun h' => hP k h'⟩
 refine ⟨?_, o'⟩
 obtain ⟨q, q1, q2, q3⟩ := I.at' nm
 rw [q2, ← v1]
 rcases Nat.lt_or_ge q j with hq | hq
 ·refine (L.agree q j nm (by omega) (by omega) fun k k1 k2 hW => ?_).symm
  have hbef : L.jV k j = true := by
   rcases o k (by omega) hW (by omega) with h | h
   ·exact h
   ·exact absurd (L.gZ _ _ h) (by omega)
  have := (q3 k (by omega) hW).1 (hP k hbef)
  omega
 ·refine L.agree j q nm hq q1 fun k k1 k2 hW => ?_
  have hd := (q3 k (by omega) hW).2 k2
  by_cases e : k = j
  ·exact hD (e ▸ hd)
  ·have := L.gZ _ _ ((o' k (by omega) hW e).1 hd)
   omega
theorem Inv.own (nm : Nat) (b : aF) (hn : h.get nm = some b) : nm < L.nx 0 ∨ ∃ m, m < ops.size ∧ D m ∧ L.nx m ≤ nm ∧ nm < L.nx (m + 1) := by
 obtain ⟨q, q1, q2, q3⟩ := I.at' nm
 rw [q2] at hn
 rcases L.yC hb.lt q q1 nm b hn with h | ⟨m, m1, m2⟩
 ·exact .inl h
 ·exact .inr ⟨m, by omega, (q3 m (by omega) (.inr m2)).2 m1, m2⟩
theorem Inv.holds (nm : Nat) (b : aF) (hn : h.get nm = some b) : b.iy fun g => g < L.nx 0 ∨ ∃ m, m < ops.size ∧ D m ∧ L.nx m ≤ g ∧ g < L.nx (m + 1) := by
 obtain ⟨q, q1, q2, q3⟩ := I.at' nm
 rw [q2] at hn
 rcases L.src_of q q1 nm b hn with ⟨h1, _⟩ | ⟨k, k1, k2, k3⟩
 ·exact (hb.ok nm b h1).NQ.mono fun g hg => .inl hg
 ·have Ba := (q3 k (by omega) k2).2 k1
  refine k3.mono fun g hg => ?_
  rcases hg with hg | ⟨m, m1, m2, m3⟩
  ·exact .inl hg
  ·refine .inr ⟨m, m1, ?_, m3⟩
   rcases m2 with rfl | m2
   ·exact Ba
   ·exact I.down k (by omega) Ba m m2
theorem Inv.Lu {j : Nat} (hj : j < ops.size) (hD : ¬ D j) (hP : ∀ k, L.jV k j = true → D k) : dP (L.nx j) μ w.heap (L.iE j).H where
 lt := fun nm b hv => L.NS hb.lt (by omega) (L.vis j hj nm b hv).1
 ok := fun nm b hv => by
  have hn := (I.reads hb hj hD hP hv).1
  refine (I.qN.ok nm b hn).on (S := (· < L.nx j)) (fun g hg _ => ⟨hg, rfl, rfl, rfl, rfl, fun _ _ q => q⟩) ⟨rfl, rfl, rfl, rfl, fun _ _ q => q⟩ ?_ fun _ => rfl
  rcases L.src_of j (by omega) nm b (L.vis j hj nm b hv).1 with ⟨h1, _⟩ | ⟨k, k1, k2, k3⟩
  ·exact (hb.ok nm b h1).NQ.mono fun g hg => Nat.lt_of_lt_of_le hg (L.dW 0 j (by omega) (by omega))
  ·exact k3.mono fun g hg => Nat.lt_of_lt_of_le (L.Yi (by omega) hg) (L.dW (k + 1) j k1 (by omega))
 sep := fun g b g' b' hv hv' => I.qN.sep g b g' b' (I.reads hb hj hD hP hv).1 (I.reads hb hj hD hP hv').1
 fz := fun b o q => ⟨(I.qN.fz b o q).1, fun ⟨g, bk, m1, m2⟩ => (I.qN.fz b o q).2 ⟨g, bk, (I.reads hb hj hD hP m1).1, m2⟩⟩
end
end PlanB
end Go.Sx
namespace Go.Sx
open M
namespace PlanB
variable {P : Program} {ops : Array Oper} {nT : Nat} {g0 gf : G} {pW EG : Fr} {L : PlanB P ops nT g0 gf pW EG}
def mix (n : Nat) (a b : MM) : MM := ⟨fun g => if g < n then a.blk g else b.blk g, fun g => if g < n then a.cap g else b.cap g, fun g => if g < n then a.sz g else b.sz g, fun g => if g < n then a.base g else b.base g, a.fz⟩
theorem aad {n : Nat} {a b : MM} {g : Nat} (h : g < n) : H8 a (mix n a b) g := ⟨by simp [mix, h], by simp [mix, h], by simp [mix, h], by simp [mix, h], fun _ _ q => q⟩
theorem aae {n : Nat} {a b : MM} {g : Nat} (hf : ∀ x o, b.fz x = some o → a.fz x = some o) (h : n ≤ g) : H8 b (mix n a b) g := ⟨by simp [mix, Nat.not_lt.2 h], by simp [mix, Nat.not_lt.2 h], by simp [mix, Nat.not_lt.2 h], by simp [mix, Nat.not_lt.2 h], hf⟩
section
variable {μ0 : MM} {w0 : World} {a0 : Act} {D : Nat → Prop} {a : Act} {w : World} {h : Sx.T aF} {μ : MM}
theorem Inv.after (I : L.Inv μ0 w0 a0 D a w h μ) (hb : dP (L.nx 0) μ0 w0.heap (L.H 0)) {j : Nat} (hj : j < ops.size) (hD : ¬ D j)
    (hP : ∀ k, L.jV k j = true → D k) {c : Value} {w' : World} (hA : After (L.iE j) μ w (L.eU j) (L.V j) c w') : ∃ h' μ', L.Inv μ0 w0 a0 (fun k => D k ∨ k = j) (a.put (dJ ops j) c) w' h' μ' := by
  obtain ⟨μ', hv, hg', hE⟩ := hA
  rw [L.NR j hj] at hv hg'
  have hup : MM.upto (L.nx j) μ μ' := by rw [← L.LK j hj]; exact hE.names
  have hnx := L.RN j hj
  have hNF : L.nx (j + 1) ≤ L.nx ops.size := L.dW (j + 1) ops.size hj (Nat.le_refl _)
  have A1 : ∀ g, g < L.nx (j + 1) → H8 μ' (mix (L.nx (j + 1)) μ' μ) g := fun g hg => aad hg
  have A2 : ∀ g, g < L.nx j ∨ L.nx (j + 1) ≤ g → H8 μ (mix (L.nx (j + 1)) μ' μ) g := fun g hg => by
    rcases hg with hg | hg
    · have := A1 g (by omega)
      exact ⟨this.blk.trans (hup.blk g hg), this.cap.trans (hup.cap g hg), this.sz.trans (hup.sz g hg), this.base.trans (hup.base g hg), fun x o q => this.fz x o (hup.fz x o q)⟩
    · exact aae hup.fz hg
  have AD : ∀ g, (g < L.nx 0 ∨ ∃ m, m < ops.size ∧ D m ∧ L.nx m ≤ g ∧ g < L.nx (m + 1)) → H8 μ (mix (L.nx (j + 1)) μ' μ) g := fun g hg => by
    refine A2 g ?_
    rcases hg with hg | ⟨m, m1, m2, m3, m4⟩
    · exact .inl (Nat.lt_of_lt_of_le hg (L.dW 0 j (by omega) (by omega)))
    · have hne : m ≠ j := fun e => hD (e ▸ m2)
      rcases Nat.lt_or_ge m j with hm | hm
      · exact .inl (Nat.lt_of_lt_of_le m4 (L.dW (m + 1) j hm (by omega)))
      · exact .inr (Nat.le_trans (L.dW (j + 1) m (by omega) (by omega)) m3)
  have ASN : ∀ k, k < ops.size → D k → ∀ g, L.SN k g → H8 μ (mix (L.nx (j + 1)) μ' μ) g := fun k hk Ba g hg => by
    refine AD g ?_
    rcases hg with hg | ⟨m, m1, m2, m3⟩
    · exact .inl hg
    · refine .inr ⟨m, m1, ?_, m3⟩
      rcases m2 with rfl | m2
      · exact Ba
      · exact I.down k hk Ba m m2
  -- the heap behind it
  have hh : ∃ h' : Sx.T aF, ∀ nm, (L.W j nm → h'.get nm = (L.H (j + 1)).get nm) ∧ (¬ L.W j nm → h'.get nm = h.get nm) := by
    refine ⟨Dx h (L.H (j + 1)) (L.T j ++ (List.range (L.nx (j + 1) - L.nx j)).map (L.nx j + ·)), fun nm => ?_⟩
    have hm : nm ∈ L.T j ++ (List.range (L.nx (j + 1) - L.nx j)).map (L.nx j + ·) ↔ L.W j nm := by
      rw [List.mem_append, List.mem_map]
      unfold W
      constructor
      · rintro (h | ⟨i, h1, rfl⟩)
        · exact .inl h
        · have := List.mem_range.1 h1
          exact .inr ⟨by omega, by omega⟩
      · rintro (h | h)
        · exact .inl h
        · exact .inr ⟨nm - L.nx j, List.mem_range.2 (by omega), by omega⟩
    rw [Dy]
    exact ⟨fun hW => if_pos (hm.2 hW), fun hW => if_neg fun hn => hW (hm.1 hn)⟩
  obtain ⟨h', hh⟩ := hh
  have view : ∀ nm b, h'.get nm = some b → ((L.eU j).H.get nm = some b ∧ (b.owned = true ∨ (L.iE j).H.get nm = some b)) ∨ (h.get nm = some b ∧ (L.iE j).H.get nm = none) := fun nm b hn => by
    by_cases hW : L.W j nm
    · rw [(hh nm).1 hW] at hn
      obtain ⟨h1, h2, _⟩ := L.H_w j hj nm hW b hn
      exact .inl ⟨h1, .inl h2⟩
    · rw [(hh nm).2 hW] at hn
      cases hv : (L.iE j).H.get nm with
      | none => exact .inr ⟨hn, rfl⟩
      | some b1 =>
        have := (I.reads hb hj hD hP hv).1
        rw [hn] at this
        cases this
        exact .inl ⟨L.tr j hj nm b (L.NS hb.lt (by omega) (L.vis j hj nm b hv).1) hv fun hT => hW (.inl hT), .inr rfl⟩
  have Jh : ∀ B, May μ (L.iE j).H B → ∃ g b, (L.iE j).H.get g = some b ∧ h.get g = some b ∧ b.owned = true ∧ b.real μ g ∧ μ.blk g = B := fun B ⟨g, b, e1, e2, e3, e4⟩ => ⟨g, b, e1, (I.reads hb hj hD hP e1).1, e2, e3, e4⟩
  have aaf : ∀ B, May μ (L.iE j).H B → May μ h B := fun B hm => let ⟨g, b, _, e1, e2⟩ := Jh B hm; ⟨g, b, e1, e2⟩
  have AH : ∀ nm b, h.get nm = some b → H8 μ (mix (L.nx (j + 1)) μ' μ) nm := fun nm b hn => AD nm (I.own hb nm b hn)
  have Yj : ∀ nm b, (L.eU j).H.get nm = some b → nm < L.nx (j + 1) := fun nm b hn => hg'.lt nm b hn
  have VI : ∀ g b B, (L.eU j).H.get g = some b → b.owned = true → b.real (mix (L.nx (j + 1)) μ' μ) g → (mix (L.nx (j + 1)) μ' μ).blk g = B → May μ' (L.eU j).H B := fun g b B h1 h2 h3 h4 =>
    ⟨g, b, h1, h2, (aF.lI (A1 g (Yj g b h1)) b).1 h3, by rw [← (A1 g (Yj g b h1)).blk]; exact h4⟩
  refine ⟨h', mix (L.nx (j + 1)) μ' μ, ?_⟩
  have hne : ∀ k, k < ops.size → D k → ∀ d, dJ ops k = some d → dJ ops j ≠ some d := fun k hk Ba d hd e => hD (by rw [L.yg j k d hj hk e hd]; exact Ba)
  exact {
    at' := fun nm => by
      by_cases hW : L.W j nm
      · refine ⟨j + 1, hj, (hh nm).1 hW, fun k hk hWk => ⟨?_, fun hlt => ?_⟩⟩
        · rintro (hk' | rfl)
          · by_cases e : k = j
            · omega
            · rcases L.ord hb.lt hk hj e hWk hW with o | o
              · have := L.gZ _ _ o; omega
              · exact absurd (I.down k hk hk' j o) hD
          · omega
        · by_cases e : k = j
          · exact .inr e
          · rcases L.ord hb.lt hk hj e hWk hW with o | o
            · exact .inl (hP k o)
            · have := L.gZ _ _ o; omega
      · obtain ⟨q, q1, q2, q3⟩ := I.at' nm
        refine ⟨q, q1, ((hh nm).2 hW).trans q2, fun k hk hWk => ?_⟩
        rw [← q3 k hk hWk]
        exact ⟨fun h => h.resolve_right fun e => hW (e ▸ hWk), .inl⟩
    qN := {
      lt := fun nm b hn => by
        rcases view nm b hn with ⟨h1, _⟩ | ⟨h1, _⟩
        · exact Nat.lt_of_lt_of_le (Yj nm b h1) hNF
        · exact I.qN.lt nm b h1
      ok := fun nm b hn => by
        rcases view nm b hn with ⟨h1, _⟩ | ⟨h1, h2⟩
        · exact (hg'.ok nm b h1).on (S := (· < L.nx (j + 1))) (fun g hg _ => ⟨Nat.lt_of_lt_of_le hg hNF, A1 g hg⟩) (A1 nm (Yj nm b h1)) (hg'.ok nm b h1).NQ fun _ => rfl
        · refine (I.qN.ok nm b h1).on (fun g hg hlt => ⟨hlt, AD g hg⟩) (AH nm b h1) (I.holds hb nm b h1) fun hr => hE.block _ ((I.qN.ok nm b h1).lt_size hr) fun hm => ?_
          obtain ⟨g, b', e0, e1, e2, e3, e4⟩ := Jh _ hm
          have := I.qN.sep g b' nm b e1 h1 e2 e3 hr e4
          rw [this, h2] at e0
          cases e0
      sep := fun g b g' b' hn hn' ho hr hr' hB => by
        rcases view g b hn with ⟨h1, k1⟩ | ⟨h1, k1⟩ <;> rcases view g' b' hn' with ⟨h2, k2⟩ | ⟨h2, k2⟩
        · refine hg'.sep g b g' b' h1 h2 ho ((aF.lI (A1 g (Yj g b h1)) b).1 hr) ((aF.lI (A1 g' (Yj g' b' h2)) b').1 hr') ?_
          rw [← (A1 g (Yj g b h1)).blk, ← (A1 g' (Yj g' b' h2)).blk]; exact hB
        · have hr2 := (aF.lI (AH g' b' h2) b').1 hr'
          have hB' : (mix (L.nx (j + 1)) μ' μ).blk g = μ.blk g' := hB.trans (AH g' b' h2).blk
          obtain ⟨g2, b2, e0, e1, e2, e3, e4⟩ := Jh _ (hE.may _ ((I.qN.ok g' b' h2).lt_size hr2) (VI g b _ h1 ho hr hB'))
          have := I.qN.sep g2 b2 g' b' e1 h2 e2 e3 hr2 e4
          rw [this, k2] at e0
          cases e0
        · have hr1 := (aF.lI (AH g b h1) b).1 hr
          have hB' : (mix (L.nx (j + 1)) μ' μ).blk g' = μ.blk g := hB.symm.trans (AH g b h1).blk
          rcases k2 with k2 | k2
          · obtain ⟨g2, b2, e0, e1, e2, e3, e4⟩ := Jh _ (hE.may _ ((I.qN.ok g b h1).lt_size hr1) (VI g' b' _ h2 k2 hr' hB'))
            have := I.qN.sep g2 b2 g b e1 h1 e2 e3 hr1 e4
            rw [this, k1] at e0
            cases e0
          · have hn2 := (I.reads hb hj hD hP k2).1
            have := I.qN.sep g b g' b' h1 hn2 ho hr1 ((aF.lI (AH g' b' hn2) b').1 hr') (by rw [← (AH g' b' hn2).blk]; exact hB'.symm)
            rw [← this, k1] at k2
            cases k2
        · refine I.qN.sep g b g' b' h1 h2 ho ((aF.lI (AH g b h1) b).1 hr) ((aF.lI (AH g' b' h2) b').1 hr') ?_
          rw [← (AH g b h1).blk, ← (AH g' b' h2).blk]; exact hB
      fz := fun x o q => ⟨(hg'.fz x o q).1, fun ⟨g, bk, hn, ho, hr, hbk⟩ => by
        rcases view g bk hn with ⟨h1, _⟩ | ⟨h1, k2⟩
        · exact (hg'.fz x o q).2 (VI g bk x h1 ho hr hbk)
        · have hr1 := (aF.lI (AH g bk h1) bk).1 hr
          have hB' : μ.blk g = x := (AH g bk h1).blk.symm.trans hbk
          rcases hE.fz x o q with q1 | q1 | q1
          · exact (I.qN.fz x o q1).2 ⟨g, bk, h1, ho, hr1, hB'⟩
          · have := (I.qN.ok g bk h1).lt_size hr1
            omega
          · obtain ⟨g2, b2, e0, e1, e2, e3, e4⟩ := Jh _ q1
            have := I.qN.sep g2 b2 g bk e1 h1 e2 e3 hr1 (e4.trans hB'.symm)
            rw [this, k2] at e0
            cases e0⟩ }
    names := ⟨fun g hg => ((AD g (.inl hg)).blk).trans (I.names.blk g hg), fun g hg => ((AD g (.inl hg)).cap).trans (I.names.cap g hg), fun g hg => ((AD g (.inl hg)).sz).trans (I.names.sz g hg), fun g hg => ((AD g (.inl hg)).base).trans (I.names.base g hg), fun x o q => hup.fz x o (I.names.fz x o q)⟩
    os := hE.os.trans I.os
    tape := hE.tape.trans I.tape
    output := hE.output.trans I.output
    hsize := Nat.le_trans I.hsize hE.size
    block := fun B hB hn => (hE.block B (Nat.lt_of_lt_of_le hB I.hsize) fun hm => hn (I.may B hB (aaf B hm))).trans (I.block B hB hn)
    may := fun B hB ⟨g, b, hn, ho, hr, hbk⟩ => by
      rcases view g b hn with ⟨h1, _⟩ | ⟨h1, _⟩
      · exact I.may B hB (aaf B (hE.may B (Nat.lt_of_lt_of_le hB I.hsize) (VI g b B h1 ho hr hbk)))
      · exact I.may B hB ⟨g, b, h1, ho, (aF.lI (AH g b h1) b).1 hr, by rw [← (AH g b h1).blk]; exact hbk⟩
    fz := fun x o q => by
      rcases hE.fz x o q with q1 | q1 | q1
      · exact I.fz x o q1
      · exact .inr (.inl (Nat.le_trans I.hsize q1))
      · by_cases hx : x < w0.heap.size
        · exact .inr (.inr (I.may x hx (aaf x q1)))
        · exact .inr (.inl (by omega))
    defers := by rw [Act.put_defers]; exact I.defers
    size := by rw [size_put]; exact I.size
    done := fun k hk Ba d hd => by
      rcases Ba with hk' | rfl
      · rw [nI (hne k hk hk' d hd)]
        exact (I.done k hk hk' d hd).on (S := L.SN k) (fun g hg hlt => ⟨hlt, ASN k hk hk' g hg⟩) (L.aac k hk)
      · rw [hd, Az (Nat.lt_of_lt_of_le (L.Di k hk d hd) I.size)]
        exact hv.on (S := (· < L.nx (k + 1))) (fun g hg _ => ⟨Nat.lt_of_lt_of_le hg hNF, A1 g hg⟩) hv.NQ
    rest := fun t ht => by
      rw [nI (ht j hj (.inr rfl))]
      exact I.rest t fun k hk Ba => ht k hk (.inl Ba)
    down := fun i hi hDi k hk => by
      rcases hDi with h | rfl
      · exact .inl (I.down i hi h k hk)
      · exact .inl (hP k hk) }
theorem Inv.step (I : L.Inv μ0 w0 a0 D a w h μ) (hb : dP (L.nx 0) μ0 w0.heap (L.H 0)) (h0 : dG g0.nx μ0 pW a0.tmps nT) (hcs : gf.cs) {j : Nat} (hj : j < ops.size) (hD : ¬ D j)
  (hP : ∀ k, L.jV k j = true → D k) {Q : Exit → Act → World → Prop} {K : Act → World → Prop} (hK : ∀ a' w' h' μ', L.Inv μ0 w0 a0 (fun k => D k ∨ k = j) a' w' h' μ' → K a' w') : wpOp P ops Q j K a w := by
 have ho : ops[j]? = some ops[j] := Array.getElem?_eq_getElem hj
 have hd : dJ ops j = (ops[j]).dst := by simp [dJ, ho]
 have e := L.LK j hj
 have := L.Jf j _ ho (L.Jg hcs j hj) μ w a (by rw [e]; exact I.Lu hb hj hD hP) (by rw [e]; exact I.frame h0 hj hD hP) K Q fun c w' hA => by
  obtain ⟨h', μ', hI⟩ := I.after hb hj hD hP hA
  rw [hd] at hI
  exact hK _ _ _ _ hI
 unfold wpOp
 rw [ho]
 dsimp only
 split
 ·rename_i hw; rw [if_pos hw] at this; exact .inl this
 ·rename_i hw; rw [if_neg hw] at this; exact this
theorem Inv.fin (I : L.Inv μ0 w0 a0 D a w h μ) (hb : dP (L.nx 0) μ0 w0.heap (L.H 0)) (h0 : dG g0.nx μ0 pW a0.tmps nT) (hall : ∀ k, k < ops.size → D k) : kG nT g0 μ0 w0 gf EG a0 a w := by
  have eq : ∀ nm, h.get nm = gf.H.get nm := fun nm => by
    obtain ⟨q, q1, q2, q3⟩ := I.at' nm
    rw [q2, ← L.H_n]
    refine (L.agree q ops.size nm q1 (Nat.le_refl _) fun k k1 k2 hW => ?_).symm
    have := (q3 k k2 hW).1 (hall k k2)
    omega
  refine ⟨μ, ?_, ?_, ⟨I.size, fun t v hv => ?_⟩, I.defers⟩
  · rw [← L.Je]
    exact { lt := fun g b hg => I.qN.lt g b (by rw [eq]; exact hg)
            ok := fun g b hg => I.qN.ok g b (by rw [eq]; exact hg)
            sep := fun g b g' b' hg hg' => I.qN.sep g b g' b' (by rw [eq]; exact hg) (by rw [eq]; exact hg')
            fz := fun x o q => ⟨(I.qN.fz x o q).1, fun ⟨g, bk, m1, m2⟩ => (I.qN.fz x o q).2 ⟨g, bk, by rw [eq]; exact m1, m2⟩⟩ }
  · exact { nx := by rw [← L.A8, ← L.Je]; exact L.dW 0 _ (by omega) (Nat.le_refl _)
            names := by rw [← L.A8]; exact I.names
            os := I.os
            tape := I.tape
            output := I.output
            size := I.hsize
            block := fun B hB hn => I.block B hB (by rw [L.VF]; exact hn)
            may := fun B hB ⟨g, b, e1, e2⟩ => by
              have := I.may B hB ⟨g, b, by rw [eq]; exact e1, e2⟩
              rw [L.VF] at this
              exact this
            fz := fun x o q => by
              have := I.fz x o q
              rw [L.VF] at this
              exact this }
  · rw [← L.RF] at hv
    rcases L.Dj ops.size (Nat.le_refl _) t v hv with ⟨k, hk, hd, rfl⟩ | ⟨h1, h2⟩
    · rw [← L.Je]; exact I.done k hk (hall k hk) t hd
    · rw [I.rest t fun k hk _ => h2 k hk]
      exact (h0.val t v h1).later (by rw [← L.A8]; exact I.names) (by rw [← L.A8, ← L.Je]; exact L.dW 0 _ (by omega) (Nat.le_refl _))
theorem Inv.start (hb : dP (L.nx 0) μ0 w0.heap (L.H 0)) (h0 : dG g0.nx μ0 pW a0.tmps nT) (D : Nat → Prop) (hD : ∀ k, ¬ D k) : L.Inv μ0 w0 a0 D a0 w0 (L.H 0) μ0 where
 at' := fun nm => ⟨0, by omega, rfl, fun k hk _ => ⟨fun h => absurd h (hD k), fun h => by omega⟩⟩
 qN := hb.up (L.dW 0 _ (by omega) (Nat.le_refl _)) fun _ _ h => h
 names := MM.upto.refl _ _
 os := rfl
 tape := rfl
 output := rfl
 hsize := Nat.le_refl _
 block := fun _ _ _ => rfl
 may := fun _ _ h => h
 fz := fun _ _ q => .inl q
 defers := rfl
 size := h0.size
 done := fun k _ h => absurd h (hD k)
 rest := fun _ _ => rfl
 down := fun j _ h => absurd h (hD j)
end
theorem any {μ0 : MM} {w0 : World} {a0 : Act} (hb : dP (L.nx 0) μ0 w0.heap (L.H 0)) (h0 : dG g0.nx μ0 pW a0.tmps nT) (hcs : gf.cs) {Q : Exit → Act → World → Prop} (hQ : ∀ a w, kG nT g0 μ0 w0 gf EG a0 a w → Q .normal a w) :
  ∀ (fuel : Nat) (listed : Array Bool) (a : Act) (w : World) (h : Sx.T aF) (μ : MM), listed.size = ops.size → listed.toList.count false ≤ fuel → L.Inv μ0 w0 a0 (Plan.jJ listed) a w h μ → wpAny P .any ops Q fuel listed a w := by
 have final : ∀ (listed : Array Bool) a w h μ, listed.size = ops.size → L.Inv μ0 w0 a0 (Plan.jJ listed) a w h μ → Region.ready .any ops listed = [] → Q .normal a w := by
  intro listed a w h μ hs I hr
  refine hQ _ _ (I.fin hb h0 ?_)
  intro k
  induction k using Nat.strongRecOn with
  | _ k ih =>
   intro hk
   refine Classical.byContradiction fun hn => ?_
   have : k ∈ Region.ready .any ops listed := by
    refine mem_ready.2 ⟨(Plan.rM (by omega)).2 hn, ops[k], Array.getElem?_eq_getElem hk, fun e he hb => ?_⟩
    have hb := L.gZ _ _ (L.oZ k _ (Array.getElem?_eq_getElem hk) e he hb)
    exact ih e.on hb (by omega)
   rw [hr] at this
   cases this
 intro fuel
 induction fuel with
 | zero =>
  intro listed a w h μ hs hc I
  have hr : Region.ready .any ops listed = [] := by
   cases hr : Region.ready .any ops listed with
   | nil => rfl
   | cons i l =>
    have hi : i ∈ Region.ready .any ops listed := by rw [hr]; exact List.mem_cons_self
    obtain ⟨h1, o, ho, _⟩ := mem_ready.1 hi
    have hlt : i < ops.size := (Array.getElem?_eq_some_iff.1 ho).1
    have : false ∈ listed.toList := by
     have : listed[i]'(by omega) = false := by simpa [show i < listed.size by omega] using h1
     rw [← this]; simp
    have := List.count_pos_iff.2 this
    omega
  exact ⟨hr, final listed a w h μ hs I hr⟩
 | succ fuel ih =>
  intro listed a w h μ hs hc I
  refine ⟨final listed a w h μ hs I, fun i hi => ?_⟩
  obtain ⟨h1, o, ho, h2⟩ := mem_ready.1 hi
  have hlt : i < ops.size := (Array.getElem?_eq_some_iff.1 ho).1
  refine I.step hb h0 hcs hlt ((Plan.rM (by omega)).1 h1) ?_ fun a' w' h' μ' I' => ?_
  ·intro k hb
   obtain ⟨o', e, ho', he, hbi, hk⟩ := L.yj k i hlt hb
   rw [ho] at ho'
   cases ho'
   have he' : Plan.jJ listed e.on := h2 e he hbi
   rcases hk with rfl | hk
   ·exact he'
   ·exact I.down e.on (by have := L.gZ _ _ (L.oZ i o ho e he hbi); omega) he' k hk
  ·refine ih _ a' w' h' μ' (by simpa using hs) ?_ (by rw [Plan.AB (by omega)]; exact I')
   rw [Array.toList_setIfInBounds, List.count_set (by simp; omega)]
   have : listed.toList[i]'(by simp; omega) = false := by simpa [show i < listed.size by omega] using h1
   rw [this]
   have hm : false ∈ listed.toList := by rw [← this]; simp
   have := List.count_pos_iff.2 hm
   simp only [show (true == false) = false from rfl, beq_self_eq_true, if_true, Bool.false_eq_true, if_false]
   omega
theorem leads (L : PlanB P ops nT g0 gf pW EG) (hm : P.follows .mixedOrders = true) (id : Nat) : yc P (.region id ops true) nT pW g0 (.normal, EG) gf := by
 refine ⟨L.RJ, fun hcs μ w a hg hf Q hQ => wp_region_any hm ?_⟩
 have hE : Ext g0 μ w g0 μ { w with drawn := w.drawn + 1 } := Ext.drawn μ w _ rfl rfl
 have hb : dP (L.nx 0) μ ({ w with drawn := w.drawn + 1 } : World).heap (L.H 0) := by rw [L.A8, L.VF]; exact hg
 refine any (L := L) (w0 := { w with drawn := w.drawn + 1 }) hb hf hcs (fun a' w' h => hQ a' w' (h.trans hE rfl)) ops.size _ a _ (L.H 0) μ (by simp) ?_ (Inv.start (w0 := { w with drawn := w.drawn + 1 }) hb hf _ ?_)
 ·rw [Array.toList_replicate]; simp
 ·intro k h
  simp only [Plan.jJ, Array.getD_eq_getD_getElem?, Array.getElem?_replicate] at h
  split at h <;> simp at h
end PlanB
end Go.Sx
namespace Go.Sx
open M
abbrev Rg := List (Nat × Nat)
def H9 (l : Rg) (g : Nat) : Bool := l.any fun p => Nat.ble p.1 g && Nat.blt g p.2
mutual
def AV.inB (l : Rg) : AV → Bool
 | .ptr a => H9 l a.g
 | .slc _ _ a _ => H9 l a.g
 | .mp g => H9 l g
 | .fn _ x c => Bc l x && Bc l c
 | .agg x => Bc l x
 | .lZ x => Bc l x
 | .iw .. => H9 l 0
 | .KJ _ => H9 l 0
 | _ => true
def Bc (l : Rg) : List AV → Bool
 | [] => true
 | v :: x => v.inB l && Bc l x
end
mutual
theorem AV.GN {l : Rg} : ∀ {v : AV}, v.inB l = true → v.iy fun g => H9 l g = true
 | .top, _ => trivial
 | .bool _, _ => trivial
 | .bD _, _ => trivial
 | .int .., _ => trivial
 | .flt .., _ => trivial
 | .raw .., _ => trivial
 | .bits .., _ => trivial
 | .vW .., _ => trivial
 | .str .., _ => trivial
 | .ptr a, k => by simpa [AV.inB, AV.iy] using k
 | .iW, _ => trivial
 | .slc _ _ a _, k => by simpa [AV.inB, AV.iy] using k
 | .dL, _ => trivial
 | .mp g, k => by simpa [AV.inB, AV.iy] using k
 | .wI, _ => trivial
 | .fn f x c, k => by
  have k' : Bc l x = true ∧ Bc l c = true := by simpa [AV.inB] using k
  simp only [AV.iy]; exact ⟨rU k'.1, rU k'.2⟩
 | .qV, _ => trivial
 | .BM, _ => trivial
 | .hdr .., _ => trivial
 | .iP, _ => trivial
 | .iw .., k => by simpa [AV.inB, AV.iy] using k
 | .KJ _, k => by simpa [AV.inB, AV.iy] using k
 | .agg x, k => by simp only [AV.iy]; exact rU (by simpa [AV.inB] using k)
 | .lZ x, k => by simp only [AV.iy]; exact rU (by simpa [AV.inB] using k)
theorem rU {l : Rg} : ∀ {x : List AV}, Bc l x = true → lC (fun g => H9 l g = true) x
 | [], _ => trivial
 | v :: x, k => by
  have k' : v.inB l = true ∧ Bc l x = true := by simpa [Bc] using k
  simp only [lC]; exact ⟨AV.GN k'.1, rU k'.2⟩
end
theorem lC.get {S : Nat → Prop} : ∀ {x : List AV}, lC S x → ∀ {o : Nat} {v : AV}, x[o]? = some v → v.iy S
 | [], _, o, v, h => by simp at h
 | u :: x, k, 0, v, h => by simp at h; subst h; exact k.1
 | u :: x, k, o + 1, v, h => lC.get k.2 (by simpa using h)
def T.allB {α : Type} (p : α → Bool) : T α → Bool
 | .e => true
 | .n l v r => T.allB p l && (match v with
  | some a => p a
  | none => true) && T.allB p r
theorem T.Dz {α : Type} {p : α → Bool} : ∀ {t : T α}, T.allB p t = true → ∀ {i : Nat} {a : α}, t.get i = some a → p a = true
 | .e, _, i, a, h => by simp [T.tq] at h
 | .n l v r, k, 0, a, h => by
  simp only [T.allB, Bool.and_eq_true] at k
  rw [T.qy] at h
  subst h
  exact k.1.2
 | .n l v r, k, i + 1, a, h => by
  simp only [T.allB, Bool.and_eq_true] at k
  rw [T.qA] at h
  cases hb : Nat.beq (i % 2) 0 with
  | true => rw [hb, cond_true] at h; exact T.Dz k.1.1 h
  | false => rw [hb, cond_false] at h; exact T.Dz k.2 h
def Cont.inB (l : Rg) : Cont → Bool
 | .lit d t => Bc l d && T.allB (Bc l) t
 | .fn _ => true
 | .at .. => true
def aF.inB (l : Rg) : aF → Bool
 | .cells own _ _ c => own && c.inB l
 | _ => true
def Sr (l : Rg) (n : Nat) (f : Nat → List AV) : Prop := ∀ i, i < n → ∀ (o : Nat) (v : AV), (f i)[o]? = some v → v.iy fun g => H9 l g = true
def addN (l : Rg) (cs : Prop) : Option aF → Prop
 | some (.cells true _ n (.fn f)) => cs ∧ Sr l n f
 | some (.cells true _ n (.at k f)) => cs ∧ Sr l n fun i => nD f i k
 | _ => cs
def NT (l : Rg) : Option aF → Option aF
 | some b => bif b.inB l then some b else none
 | none => none
theorem LM {l : Rg} {o : Option aF} {b : aF} (h : NT l o = some b) : o = some b ∧ b.inB l = true := by
 cases o with
 | none => cases h
 | some b' =>
  simp only [NT] at h
  cases hb : b'.inB l with
  | true => rw [hb, cond_true] at h; cases h; exact ⟨rfl, hb⟩
  | false => rw [hb, cond_false] at h; cases h
theorem aF.GN {l : Rg} {b : aF} {cs : Prop} (h : b.inB l = true) (hn : addN l cs (some b)) : b.owned = true ∧ b.iy fun g => H9 l g = true := by
 cases b with
 | cells own sz n c =>
  simp only [aF.inB, Bool.and_eq_true] at h
  obtain ⟨rfl, h⟩ := h
  refine ⟨rfl, fun i hi o v hv => ?_⟩
  cases c with
  | lit d t =>
   simp only [Cont.inB, Bool.and_eq_true] at h
   simp only [Cont.row] at hv
   cases hg : t.get i with
   | none => rw [hg] at hv; exact (rU h.1).get hv
   | some r => rw [hg] at hv; exact (rU (T.Dz h.2 hg)).get hv
  | fn f => exact hn.2 i hi o v hv
  | «at» k f => exact hn.2 i hi o v hv
 | aJ s x => exact ⟨rfl, trivial⟩
 | iY s x => exact ⟨rfl, trivial⟩
 | sit s x p => exact ⟨rfl, trivial⟩
theorem VJ {l : Rg} {cs : Prop} {o : Option aF} (h : addN l cs o) : cs := by
 unfold addN at h
 split at h
 ·exact h.1
 ·exact h.1
 ·exact h
theorem P5 {l : Rg} {cs cs' : Prop} {o : Option aF} (hc : cs → cs') (h : addN l cs o) : addN l cs' o := by
 cases o with
 | none => exact hc h
 | some b =>
  cases b with
  | cells own sz n c => cases own <;> cases c <;> first | exact hc h | exact ⟨hc h.1, h.2⟩
  | _ => exact hc h
def LP (l : Rg) (src : T aF) : List Nat → T aF → T aF
 | [], H => H
 | nm :: r, H => LP l src r (H.upd nm (NT l (src.get nm)))
def VK (l : Rg) (src : T aF) : List Nat → Prop → Prop
 | [], cs => cs
 | nm :: r, cs => VK l src r (addN l cs (src.get nm))
theorem yD (l : Rg) (src : T aF) : ∀ (ns : List Nat) (H : T aF) (i : Nat), (LP l src ns H).get i = if i ∈ ns then NT l (src.get i) else H.get i
 | [], H, i => by simp [LP]
 | k :: r, H, i => by
  simp only [LP, yD l src r, T.bF, List.mem_cons]
  by_cases h1 : i ∈ r
  ·simp [h1]
  ·by_cases h2 : i = k
   ·subst h2; simp [h1]
   ·simp [h1, h2]
theorem GR {l : Rg} {src : T aF} : ∀ {ns : List Nat} {cs : Prop}, VK l src ns cs → cs
 | [], cs, h => h
 | nm :: r, cs, h => VJ (GR (ns := r) h)
theorem NU {l : Rg} {src : T aF} : ∀ {ns : List Nat} {cs : Prop}, VK l src ns cs → ∀ nm ∈ ns, addN l True (src.get nm)
 | [], cs, h, nm, hn => by cases hn
 | k :: r, cs, h, nm, hn => by
  rcases List.mem_cons.1 hn with rfl | hn
  ·exact P5 (fun _ => trivial) (GR (ns := r) h)
  ·exact NU (ns := r) h nm hn
structure KN where
 v : AV
 fin : Fr
 iE : G
 eU : G
 T : List Nat
 wX : Fr
 g1 : G
abbrev Mk := List (Nat × Nat × Nat)
def Jm (ms : List Nat) (yx j : Nat) (mk : Mk) (a b : Nat) : Rg := (0, yx) :: (a, b) :: ((mk.filter fun p => vT ms p.1 j).map (·.2))
def Yk (ms : List Nat) (j : Nat) (mk : Mk) : List Nat := (mk.filter fun p => !vT ms p.1 j).flatMap fun p => List.range' p.2.1 (p.2.2 - p.2.1)
def yE (C : pX) (j : Nat) (o : Oper) (mk : Mk) (g : G) : G :=
 { g with H := bif light o.op then .e else nJ (nJ g.H ((C.inc j).flatMap fun k => C.Ts.getD k [])) (Yk C.ms j mk), uV := [] }
def tOf (gi go : G) : List Nat := go.uV.filter fun nm => (gi.H.get nm).isSome
def Jo (gi go : G) : List Nat := tOf gi go ++ List.range' gi.nx (go.nx - gi.nx)
def VL (C : pX) (j : Nat) (mk : Mk) (g gi go : G) : G :=
 { go with H := LP (Jm C.ms C.yx j mk g.nx go.nx) go.H (Jo gi go) g.H, uV := tOf gi go ++ g.uV, cs := VK (Jm C.ms C.yx j mk g.nx go.nx) go.H (Jo gi go) go.cs }
def NV (P : Program) (call : Calls') (C : pX) (j : Nat) (o : Oper) (fr : Fr) (mk : Mk) : M KN := fun g =>
 match yu P call C.all (C.Et j) (C.fin j fr) o (yE C j o mk g) with
 | .done v go =>
  bif Nat.ble g.nx go.nx && v.inB (Jm C.ms C.yx j mk g.nx go.nx) then
   .done ⟨v, C.fin j fr, yE C j o mk g, go, tOf (yE C j o mk g) go, Dq o fr v, VL C j mk g (yE C j o mk g) go⟩ (VL C j mk g (yE C j o mk g) go)
  else .fail
 | .need b => .need b
 | .fail => .fail
def qg (P : Program) (call : Calls') (C : pX) : Nat → List Oper → Fr → Mk → M (List KN)
 | _, [], _, _ => ret []
 | j, o :: l, fr, mk => (NV P call C j o fr mk).andThen fun rc =>
  (qg P call C (j + 1) l rc.wX ((j, rc.iE.nx, rc.g1.nx) :: mk)).andThen fun rcs => ret (rc :: rcs)
def oD (C : pX) : Nat → List KN → Bool
 | _, [] => true
 | j, rc :: l => ((rc.T.all fun nm => (C.Ts.getD j []).contains nm) || ((C.inc j).all fun k => ((C.all[k]?).map fun o => light o.op).getD true)) && oD C (j + 1) l
def vG : Fr → List KN → Fr
 | fr, [] => fr
 | _, rc :: l => vG rc.wX l
def yF (P : Program) (call : Calls') (nT : Nat) (ops : List Oper) (fr : Fr) : M Fr := fun g =>
 bif gX (dN [] ops) nT 0 0 ops then
  match qg P call ⟨nT, ops, dN [] ops, [], 0, g.nx⟩ 0 ops fr [] g with
  | .done rcs g' =>
   bif oD ⟨nT, ops, dN [] ops, [], 0, g.nx⟩ 0 rcs then .done (vG fr rcs) g' else
    match qg P call ⟨nT, ops, dN [] ops, rcs.map (·.T), 0, g.nx⟩ 0 ops fr [] g with
    | .done GK g'' => bif oD ⟨nT, ops, dN [] ops, rcs.map (·.T), 0, g.nx⟩ 0 GK then .done (vG fr GK) g'' else .fail
    | .need b => .need b
    | .fail => .fail
  | .need b => .need b
  | .fail => .fail
 else .fail
def bK (P : Program) (call : Calls') (nT : Nat) (ops : List Oper) (fr : Fr) : M Fr := fun g =>
 match yA P call nT ops fr g with
 | .fail => yF P call nT ops fr g
 | r => r
structure Jp (P : Program) (call : Calls') (C : pX) (j : Nat) (o : Oper) (fr : Fr) (mk : Mk) (g : G) (rc : KN) (g' : G) : Prop where
 fin : rc.fin = C.fin j fr
 iE : rc.iE = yE C j o mk g
 wX : rc.wX = Dq o fr rc.v
 g1 : rc.g1 = g'
 run : yu P call C.all (C.Et j) rc.fin o rc.iE = .done rc.v rc.eU
 T : rc.T = tOf rc.iE rc.eU
 nxs : g.nx ≤ rc.eU.nx
 inB : rc.v.inB (Jm C.ms C.yx j mk g.nx rc.eU.nx) = true
 out : g' = VL C j mk g rc.iE rc.eU
theorem DC {P : Program} {call : Calls'} {C : pX} {j : Nat} {o : Oper} {fr : Fr} {mk : Mk} {g : G} {rc : KN} {g' : G} (h : NV P call C j o fr mk g = .done rc g') : Jp P call C j o fr mk g rc g' := by
 unfold NV at h
 generalize hone : yu P call C.all (C.Et j) (C.fin j fr) o (yE C j o mk g) = r at h
 split at h
 ·rename_i v go
  cases hb : (Nat.ble g.nx go.nx && v.inB (Jm C.ms C.yx j mk g.nx go.nx)) with
  | false => rw [hb] at h; cases h
  | true =>
   rw [hb] at h
   cases h
   simp only [Bool.and_eq_true] at hb
   exact ⟨rfl, rfl, rfl, rfl, hone, rfl, Nat.le_of_ble_eq_true hb.1, hb.2, rfl⟩
 ·cases h
 ·cases h
def uz (fr : Fr) (rcs : List KN) : Nat → Fr
 | 0 => fr
 | i + 1 => ((rcs[i]?).map (·.wX)).getD fr
def iC (g : G) (rcs : List KN) : Nat → G
 | 0 => g
 | i + 1 => ((rcs[i]?).map (·.g1)).getD g
theorem DF (fr : Fr) (rc : KN) (rcs : List KN) : ∀ i, i ≤ rcs.length → uz fr (rc :: rcs) (i + 1) = uz rc.wX rcs i
 | 0, _ => by simp [uz]
 | i + 1, h => by
  have : rcs[i]? = some rcs[i] := List.getElem?_eq_getElem (by omega)
  simp [uz, this]
theorem zL (g : G) (rc : KN) (rcs : List KN) : ∀ i, i ≤ rcs.length → iC g (rc :: rcs) (i + 1) = iC rc.g1 rcs i
 | 0, _ => by simp [iC]
 | i + 1, h => by
  have : rcs[i]? = some rcs[i] := List.getElem?_eq_getElem (by omega)
  simp [iC, this]
theorem yG {P : Program} {call : Calls'} {C : pX} : ∀ {l : List Oper} {j : Nat} {fr : Fr} {mk : Mk} {g : G} {rcs : List KN} {g' : G}, qg P call C j l fr mk g = .done rcs g' →
  rcs.length = l.length ∧ iC g rcs l.length = g' ∧ uz fr rcs l.length = vG fr rcs ∧ ∀ i o, l[i]? = some o → ∃ rc mk', rcs[i]? = some rc ∧ Jp P call C (j + i) o (uz fr rcs i) mk' (iC g rcs i) rc (iC g rcs (i + 1)) ∧
   (∀ p ∈ mk', p ∈ mk ∨ ∃ m r, m < i ∧ rcs[m]? = some r ∧ p = (j + m, r.iE.nx, r.g1.nx)) ∧ (∀ p ∈ mk, p ∈ mk') ∧ (∀ m r, m < i → rcs[m]? = some r → (j + m, r.iE.nx, r.g1.nx) ∈ mk')
 | [], j, fr, mk, g, rcs, g', h => by
  unfold qg at h
  obtain ⟨rfl, rfl⟩ := aB h
  exact ⟨rfl, rfl, rfl, fun i o hi => by simp at hi⟩
 | o :: l, j, fr, mk, g, rcs, g', h => by
  unfold qg at h
  obtain ⟨rc, g1, a1, h1⟩ := au h
  obtain ⟨GK, g2, a2, h2⟩ := au h1
  obtain ⟨rfl, rfl⟩ := aB h2
  have hr := DC a1
  obtain ⟨p1, p2, p3, p4⟩ := yG a2
  refine ⟨by simp [p1], ?_, ?_, fun i o' hi => ?_⟩
  ·rw [List.length_cons, zL _ _ _ _ (by omega), hr.g1]; exact p2
  ·rw [List.length_cons, DF _ _ _ _ (by omega)]; exact p3
  ·cases i with
   | zero =>
    simp only [List.getElem?_cons_zero, Option.some.injEq] at hi
    subst hi
    refine ⟨rc, mk, rfl, ?_, fun c hc => .inl hc, fun c hc => hc, fun m r hm => by omega⟩
    have e : iC g (rc :: GK) (0 + 1) = g1 := by simp [iC, hr.g1]
    rw [e]
    exact hr
   | succ i =>
    have hi' : l[i]? = some o' := by simpa using hi
    have hlt : i < l.length := (List.getElem?_eq_some_iff.1 hi').1
    obtain ⟨r', mk', q1, q2, q3, q4, q5⟩ := p4 i o' hi'
    refine ⟨r', mk', by simpa using q1, ?_, fun c hc => ?_, fun c hc => ?_, fun m r hm hr1 => ?_⟩
    ·rw [DF _ _ _ _ (by omega), zL _ _ _ _ (by omega), zL _ _ _ _ (by omega), hr.g1, show j + (i + 1) = j + 1 + i by omega]
     exact q2
    ·rcases q3 c hc with h3 | ⟨m, r, m1, m2, m4⟩
     ·rcases List.mem_cons.1 h3 with rfl | h3
      ·exact .inr ⟨0, rc, by omega, rfl, rfl⟩
      ·exact .inl h3
     ·exact .inr ⟨m + 1, r, by omega, by simpa using m2, by rw [m4, show j + (m + 1) = j + 1 + m by omega]⟩
    ·exact q4 c (List.mem_cons_of_mem _ hc)
    ·cases m with
     | zero =>
      simp only [List.getElem?_cons_zero, Option.some.injEq] at hr1
      subst hr1
      exact q4 _ List.mem_cons_self
     | succ m =>
      rw [show j + (m + 1) = j + 1 + m by omega]
      exact q5 m r (by omega) (by simpa using hr1)
theorem DI {C : pX} : ∀ {l : List KN} {j : Nat}, oD C j l = true → ∀ i rc, l[i]? = some rc → (∀ nm ∈ rc.T, nm ∈ C.Ts.getD (j + i) []) ∨ ∀ k ∈ C.inc (j + i), ∀ o, C.all[k]? = some o → light o.op = true
 | [], j, h, i, rc, hi => by simp at hi
 | r :: l, j, h, i, rc, hi => by
  simp only [oD, Bool.and_eq_true] at h
  cases i with
  | zero =>
   simp only [List.getElem?_cons_zero, Option.some.injEq] at hi
   subst hi
   rcases Bool.or_eq_true _ _ ▸ h.1 with h | h
   ·left
    rw [List.all_eq_true] at h
    exact fun nm hn => by simpa using h nm hn
   ·right
    rw [List.all_eq_true] at h
    intro k hk o ho
    have := h k hk
    rw [ho] at this
    simpa using this
  | succ i =>
   rw [show j + (i + 1) = j + 1 + i by omega]
   exact DI h.2 i rc (by simpa using hi)
theorem P6 {P : Program} {call : Calls'} (hct : iO call) {C : pX} {j : Nat} {o : Oper} {fr : Fr} {mk : Mk} : aC (NV P call C j o fr mk) := ⟨fun g rc g' h => by
 have hr := DC h
 refine ⟨tOf rc.iE rc.eU, by rw [hr.out]; rfl, by rw [hr.out]; exact hr.nxs, fun nm hn hl => ?_⟩
 rw [hr.out]
 show (LP _ rc.eU.H (Jo rc.iE rc.eU) g.H).get nm = _
 rw [yD, if_neg]
 unfold Jo
 rw [List.mem_append, not_or]
 refine ⟨hl, fun hm => ?_⟩
 have := (List.mem_range'_1.1 hm).1
 rw [hr.iE] at this
 have e : (yE C j o mk g).nx = g.nx := rfl
 omega⟩
theorem Fb {P : Program} {call : Calls'} (hct : iO call) {C : pX} : ∀ (l : List Oper) (j : Nat) (fr : Fr) (mk : Mk), aC (qg P call C j l fr mk)
 | [], j, fr, mk => aC.ret _
 | o :: l, j, fr, mk => (P6 hct).andThen fun rc => (Fb hct l _ _ _).andThen fun _ => aC.ret _
theorem yH {P : Program} {call : Calls'} {nT : Nat} {ops : List Oper} {fr fr' : Fr} {g g' : G} (h : yF P call nT ops fr g = .done fr' g') :
  gX (dN [] ops) nT 0 0 ops = true ∧ ∃ Ts rcs, qg P call ⟨nT, ops, dN [] ops, Ts, 0, g.nx⟩ 0 ops fr [] g = .done rcs g' ∧ oD ⟨nT, ops, dN [] ops, Ts, 0, g.nx⟩ 0 rcs = true ∧ fr' = vG fr rcs := by
 unfold yF at h
 cases hst : gX (dN [] ops) nT 0 0 ops with
 | false => rw [hst] at h; cases h
 | true =>
  rw [hst, cond_true] at h
  refine ⟨rfl, ?_⟩
  generalize hp : qg P call ⟨nT, ops, dN [] ops, [], 0, g.nx⟩ 0 ops fr [] g = r at h
  split at h
  ·rename_i rcs g1
   cases hb : oD ⟨nT, ops, dN [] ops, [], 0, g.nx⟩ 0 rcs with
   | true =>
    rw [hb, cond_true] at h
    cases h
    exact ⟨_, _, hp, hb, rfl⟩
   | false =>
    rw [hb, cond_false] at h
    generalize hp2 : qg P call ⟨nT, ops, dN [] ops, rcs.map (·.T), 0, g.nx⟩ 0 ops fr [] g = r2 at h
    split at h
    ·rename_i Y5 g2
     cases hb2 : oD ⟨nT, ops, dN [] ops, rcs.map (·.T), 0, g.nx⟩ 0 Y5 with
     | true =>
      rw [hb2, cond_true] at h
      cases h
      exact ⟨_, _, hp2, hb2, rfl⟩
     | false => rw [hb2, cond_false] at h; cases h
    ·cases h
    ·cases h
  ·cases h
  ·cases h
theorem Jq {P : Program} {call : Calls'} (hct : iO call) (n : Nat) (ops : List Oper) (fr : Fr) : aC (yF P call n ops fr) := ⟨fun g fr' g' h => by
 obtain ⟨_, Ts, rcs, hp, _⟩ := yH h
 exact (Fb hct ops _ _ _).of _ _ _ hp⟩
theorem kV {P : Program} {call : Calls'} (hct : iO call) (n : Nat) (ops : List Oper) (fr : Fr) : aC (bK P call n ops fr) := ⟨fun g fr' g' h => by
 unfold bK at h
 split at h
 ·exact (Jq hct n ops fr).of _ _ _ h
 ·exact (Jk hct n ops fr).of _ _ _ h⟩
end Go.Sx
namespace Go.Sx
open M
theorem Jr {P : Program} {call : Calls'} {C : pX} {fr : Fr} {mk : Mk} {ops : Array Oper} (hcall : dw P call) (hall : C.all = ops.toList) {j : Nat} {o : Oper} {g g' : G} {rc : KN} (h : Jp P call C j o fr mk g rc g') (hc : g'.cs) : rc.eU.cs ∧ g.cs := by
 have h1 : rc.eU.cs := by
  have := hc
  rw [h.out] at this
  exact GR this
 refine ⟨h1, ?_⟩
 have run := h.run
 rw [hall] at run
 have := (o7 hcall run).1 h1
 rw [h.iE] at this
 exact this
section
variable {P : Program} {call : Calls'} {ops : Array Oper} {nT : Nat} {ms : List Nat} {Ts : List (List Nat)} {g g' : G} {fr : Fr} {rcs : List KN}
theorem Js (hp : qg P call ⟨nT, ops.toList, ms, Ts, 0, g.nx⟩ 0 ops.toList fr [] g = .done rcs g') : ∀ j (hj : j < ops.size), ∃ rc mk', rcs[j]? = some rc ∧ Jp P call ⟨nT, ops.toList, ms, Ts, 0, g.nx⟩ j ops[j] (uz fr rcs j) mk' (iC g rcs j) rc (iC g rcs (j + 1)) ∧
   (∀ p ∈ mk', ∃ m, m < j ∧ p = (m, (iC g rcs m).nx, (iC g rcs (m + 1)).nx)) ∧ (∀ m, m < j → (m, (iC g rcs m).nx, (iC g rcs (m + 1)).nx) ∈ mk') := by
 have hat := yG hp
 have raw : ∀ j (hj : j < ops.size), ∃ rc mk', rcs[j]? = some rc ∧ Jp P call ⟨nT, ops.toList, ms, Ts, 0, g.nx⟩ j ops[j] (uz fr rcs j) mk' (iC g rcs j) rc (iC g rcs (j + 1)) ∧
   (∀ p ∈ mk', ∃ m r, m < j ∧ rcs[m]? = some r ∧ p = (m, r.iE.nx, r.g1.nx)) ∧ (∀ m r, m < j → rcs[m]? = some r → (m, r.iE.nx, r.g1.nx) ∈ mk') := fun j hj => by
  obtain ⟨rc, mk', h1, h2, h3, _, h5⟩ := hat.2.2.2 j ops[j] (by simp [hj])
  rw [Nat.zero_add] at h2
  refine ⟨rc, mk', h1, h2, fun p hpm => ?_, fun m r hm hr => by simpa using h5 m r hm hr⟩
  rcases h3 p hpm with h | ⟨m, r, k1, k2, k4⟩
  ·cases h
  ·exact ⟨m, r, k1, k2, by simpa using k4⟩
 have nxs : ∀ m, m < ops.size → ∀ r, rcs[m]? = some r → r.iE.nx = (iC g rcs m).nx ∧ r.g1.nx = (iC g rcs (m + 1)).nx := fun m hm r hr => by
  obtain ⟨rc, mk', h1, h2, _⟩ := raw m hm
  rw [hr] at h1
  cases h1
  exact ⟨by rw [h2.iE]; rfl, by rw [h2.g1]⟩
 intro j hj
 obtain ⟨rc, mk', h1, h2, h3, h5⟩ := raw j hj
 refine ⟨rc, mk', h1, h2, fun p hpm => ?_, fun m hm => ?_⟩
 ·obtain ⟨m, r, k1, k2, k3⟩ := h3 p hpm
  obtain ⟨e1, e2⟩ := nxs m (by omega) r k2
  exact ⟨m, k1, by rw [k3, e1, e2]⟩
 ·obtain ⟨r, _, k1, _⟩ := raw m (by omega)
  obtain ⟨e1, e2⟩ := nxs m (by omega) r k1
  rw [← e1, ← e2]
  exact h5 m r hm k1
theorem LQ (hcall : dw P call) (hp : qg P call ⟨nT, ops.toList, ms, Ts, 0, g.nx⟩ 0 ops.toList fr [] g = .done rcs g') (hcs : g'.cs) : ∀ i, i ≤ ops.size → (iC g rcs (ops.size - i)).cs := by
 have hat := yG hp
 intro i
 induction i with
 | zero =>
  intro _
  have e : iC g rcs ops.toList.length = g' := hat.2.1
  rw [Nat.sub_zero, show ops.size = ops.toList.length by simp, e]
  exact hcs
 | succ i ih =>
  intro hi
  have h := ih (by omega)
  obtain ⟨rc, mk', h1, h2, _⟩ := Js hp (ops.size - (i + 1)) (by omega)
  rw [show ops.size - (i + 1) + 1 = ops.size - i by omega] at h2
  exact (Jr hcall rfl h2 h).2
theorem yI (hcall : dw P call) (hp : qg P call ⟨nT, ops.toList, ms, Ts, 0, g.nx⟩ 0 ops.toList fr [] g = .done rcs g') (hcs : g'.cs) (j : Nat) (hj : j ≤ ops.size) : (iC g rcs j).cs := by
 have := LQ hcall hp hcs (ops.size - j) (by omega)
 rwa [show ops.size - (ops.size - j) = j by omega] at this
theorem aah {ms : List Nat} {yx j a b x : Nat} {mk : Mk} : H9 (Jm ms yx j mk a b) x = true ↔ x < yx ∨ (a ≤ x ∧ x < b) ∨ ∃ p ∈ mk, vT ms p.1 j = true ∧ p.2.1 ≤ x ∧ x < p.2.2 := by
 have e : ∀ p q : Nat, (Nat.ble p x && Nat.blt x q) = true ↔ p ≤ x ∧ x < q := fun p q => by
  rw [Bool.and_eq_true]
  exact ⟨fun ⟨h1, h2⟩ => ⟨Nat.le_of_ble_eq_true h1, iJ h2⟩, fun ⟨h1, h2⟩ => ⟨Nat.ble_eq_true_of_le h1, Nat.ble_eq_true_of_le h2⟩⟩
 unfold H9 Jm
 simp only [List.any_cons, Bool.or_eq_true, e, List.any_map, List.any_eq_true, List.mem_filter, Function.comp]
 constructor
 ·rintro (h | h | ⟨p, ⟨h1, h2⟩, h3⟩)
  ·exact .inl h.2
  ·exact .inr (.inl h)
  ·exact .inr (.inr ⟨p, h1, h2, h3⟩)
 ·rintro (h | h | ⟨p, h1, h2, h3⟩)
  ·exact .inl ⟨Nat.zero_le _, h⟩
  ·exact .inr (.inl h)
  ·exact .inr (.inr ⟨p, ⟨h1, h2⟩, h3⟩)
def ac0 (hcall : dw P call) (hct : iO call) (hst : gX ms nT 0 0 ops.toList = true)
    (hp : qg P call ⟨nT, ops.toList, ms, Ts, 0, g.nx⟩ 0 ops.toList fr [] g = .done rcs g') (RX : oD ⟨nT, ops.toList, ms, Ts, 0, g.nx⟩ 0 rcs = true) (hcs : g'.cs) : PlanB P ops nT g g' fr (vG fr rcs) :=
  have hat := yG hp
  have kP := Js hp
  have Y4 : ∀ k, (pX.mk nT ops.toList ms Ts 0 g.nx).dst k = dJ ops k := fun k => by simp [pX.dst, dJ]
  have rQ : ∀ k j, k < ops.size → j < ops.size → k ≠ j → pO ops ms k j = false → pO ops ms j k = false → k ∈ (pX.mk nT ops.toList ms Ts 0 g.nx).inc j := fun k j hk hj hne h1 h2 => by
    unfold pX.inc
    rw [Ji]
    simp only [pO, show Nat.blt j ops.size = true from Nat.ble_eq_true_of_le hj, show Nat.blt k ops.size = true from Nat.ble_eq_true_of_le hk, Bool.true_and] at h1 h2
    exact ⟨by simpa using hk, hne, h1, h2⟩
  have toS : ∀ j (hj : j < ops.size) (mk' : Mk), (∀ p ∈ mk', ∃ m, m < j ∧ p = (m, (iC g rcs m).nx, (iC g rcs (m + 1)).nx)) → ∀ x, H9 (Jm ms g.nx j mk' (iC g rcs j).nx (iC g rcs (j + 1)).nx) x = true →
      x < (iC g rcs 0).nx ∨ ∃ m, m < ops.size ∧ (m = j ∨ pO ops ms m j = true) ∧ (iC g rcs m).nx ≤ x ∧ x < (iC g rcs (m + 1)).nx := fun j hj mk' hmk x hx => by
    rcases aah.1 hx with h | h | ⟨p, h1, h2, h3⟩
    · exact .inl h
    · exact .inr ⟨j, hj, .inl rfl, h⟩
    · obtain ⟨m, hm, rfl⟩ := hmk p h1
      refine .inr ⟨m, by omega, .inr ?_, h3⟩
      simp only [pO, Bool.and_eq_true]
      exact ⟨Nat.ble_eq_true_of_le hj, h2⟩
  have trj : ∀ j (hj : j < ops.size) rc, rcs[j]? = some rc → ∃ l, rc.eU.uV = l ++ [] ∧ rc.iE.nx ≤ rc.eU.nx ∧ ∀ nm, nm < rc.iE.nx → nm ∉ l → rc.eU.H.get nm = rc.iE.H.get nm := fun j hj rc hrc => by
    obtain ⟨rc', mk', h1, h2, _⟩ := kP j hj
    rw [hrc] at h1
    cases h1
    have := (aC.yu P hct _ _ _ _).of _ _ _ h2.run
    have e : rc.iE.uV = [] := by rw [h2.iE]; rfl
    rw [← e]
    exact this
  { V := fun j => ((rcs[j]?).map (·.v)).getD .top
    fr := uz fr rcs
    H := fun j => (iC g rcs j).H
    nx := fun j => (iC g rcs j).nx
    T := fun j => ((rcs[j]?).map (·.T)).getD []
    jV := pO ops ms
    fin := fun j => ((rcs[j]?).map (·.fin)).getD .e
    iE := fun j => ((rcs[j]?).map (·.iE)).getD g
    eU := fun j => ((rcs[j]?).map (·.eU)).getD g
    RD := rfl
    RF := by rw [← hat.2.2.1]; simp
    VF := rfl
    A8 := rfl
    H_n := by rw [← hat.2.1]; simp
    Je := by rw [← hat.2.1]; simp
    Dh := fun j hj t v h => by
      obtain ⟨rc, mk', h1, h2, _⟩ := kP j hj
      simp only [h1, Option.map_some, Option.getD_some, h2.fin, pX.fin, lH] at h
      split at h
      · cases h
      · rename_i hn
        refine ⟨h, fun k hk hne b1 b2 e => hn ?_⟩
        rw [List.mem_filterMap]
        exact ⟨k, rQ k j hk hj hne b1 b2, by rw [Y4, e]⟩
    RG := fun j hj t => by
      obtain ⟨rc, mk', h1, h2, _⟩ := kP j hj
      have e : uz fr rcs (j + 1) = rc.wX := by simp [uz, h1]
      have hd : dJ ops j = (ops[j]).dst := by simp [dJ, hj]
      rw [e, h2.wX, hd]
      simp only [h1, Option.map_some, Option.getD_some, Dq]
      cases hdd : (ops[j]).dst with
      | none => simp
      | some d =>
        simp only [T.bF, Option.some.injEq]
        by_cases ht : t = d
        · rw [if_pos ht, if_pos ht.symm]
        · rw [if_neg ht, if_neg (Ne.symm ht)]
    Di := fun j hj d hd => by
      have := (eG hst j ops[j] (by simp [hj])).2.2 d (by simpa [dJ, hj] using hd)
      exact this.1
    yg := fun i j d hi hj h1 h2 => by
      have e1 : (ops[i]).dst = some d := by simpa [dJ, hi] using h1
      have e2 : (ops[j]).dst = some d := by simpa [dJ, hj] using h2
      rcases Nat.lt_trichotomy i j with h | h | h
      · exact absurd e2 (((eG hst i ops[i] (by simp [hi])).2.2 d e1).2.2 j ops[j] h (by simp [hj]))
      · exact h
      · exact absurd e1 (((eG hst j ops[j] (by simp [hj])).2.2 d e2).2.2 i ops[i] h (by simp [hi]))
    gZ := fun k j h => NK hst j k h
    oZ := fun j o ho e he hb => by
      have hj := (Array.getElem?_eq_some_iff.1 ho).1
      have s2 := (eG hst j o (by simpa using ho)).2.1
      rw [Nat.zero_add] at s2
      simp only [pO, Bool.and_eq_true]
      refine ⟨Nat.ble_eq_true_of_le hj, ?_⟩
      unfold vT
      rw [s2, o8]
      exact ⟨e, he, hb, .inl rfl⟩
    yj := fun k j hj h => by
      have s := eG hst j ops[j] (by simp [hj])
      simp only [pO, Bool.and_eq_true] at h
      have hb := h.2
      unfold vT at hb
      have s2 := s.2.1
      rw [Nat.zero_add] at s2
      rw [s2, o8] at hb
      obtain ⟨e, he, hbi, hk⟩ := hb
      refine ⟨ops[j], e, by simp [hj], he, hbi, hk.imp id fun hk => ?_⟩
      have := s.1 e he hbi
      simp only [pO, Bool.and_eq_true]
      exact ⟨Nat.ble_eq_true_of_le (by omega), hk⟩
    Jf := fun j o ho hcs μ w a hg hf => by
      have hj := (Array.getElem?_eq_some_iff.1 ho).1
      obtain ⟨rc, mk', h1, h2, _⟩ := kP j hj
      have eo : o = ops[j] := by rw [Array.getElem?_eq_getElem hj] at ho; cases ho; rfl
      simp only [h1, Option.map_some, Option.getD_some] at hcs hg hf ⊢
      rw [eo]
      exact (o7 hcall h2.run).2 hcs μ w a nT hg hf
    LK := fun j hj => by
      obtain ⟨rc, mk', h1, h2, _⟩ := kP j hj
      simp only [h1, Option.map_some, Option.getD_some]
      rw [h2.iE]; rfl
    NR := fun j hj => by
      obtain ⟨rc, mk', h1, h2, _⟩ := kP j hj
      simp only [h1, Option.map_some, Option.getD_some]
      rw [h2.out]; rfl
    RN := fun j hj => by
      obtain ⟨rc, mk', h1, h2, _⟩ := kP j hj
      show (iC g rcs j).nx ≤ (iC g rcs (j + 1)).nx
      have e : (iC g rcs (j + 1)).nx = rc.eU.nx := by rw [h2.out]; rfl
      rw [e]
      exact h2.nxs
    tr := fun j hj nm b hn hb hT => by
      obtain ⟨rc, mk', h1, h2, _⟩ := kP j hj
      obtain ⟨l, t1, _, t3⟩ := trj j hj rc h1
      simp only [h1, Option.map_some, Option.getD_some] at hb hT ⊢
      rw [t3 nm (by rw [h2.iE]; exact hn) fun hm => hT ?_]
      · exact hb
      · rw [h2.T, tOf, List.mem_filter, t1, List.append_nil]
        exact ⟨hm, by rw [hb]; rfl⟩
    Sm := fun j hj nm hn => by
      obtain ⟨rc, mk', h1, h2, _⟩ := kP j hj
      simp only [h1, Option.map_some, Option.getD_some] at hn ⊢
      rw [h2.T, tOf, List.mem_filter] at hn
      exact Option.isSome_iff_exists.1 hn.2
    vis := fun j hj nm b hb => by
      obtain ⟨rc, mk', h1, h2, h3, h4⟩ := kP j hj
      simp only [h1, Option.map_some, Option.getD_some] at hb
      rw [h2.iE] at hb
      simp only [yE] at hb
      cases hl : light (ops[j]).op with
      | true => rw [hl] at hb; simp [T.get] at hb
      | false =>
        rw [hl] at hb
        simp only [cond_false, lH] at hb
        split at hb
        · cases hb
        · rename_i hn1
          split at hb
          · cases hb
          · rename_i hn2
            refine ⟨hb, fun k hk hne b1 b2 => ⟨fun hT => ?_, fun hkj hr => hn1 ?_⟩⟩
            · obtain ⟨rk, mkk, k1, k2, _⟩ := kP k hk
              simp only [k1, Option.map_some, Option.getD_some] at hT
              rcases DI RX k rk k1 with hs | hs
              · refine hn2 ?_
                rw [List.mem_flatMap]
                exact ⟨k, rQ k j hk hj hne b1 b2, by simpa using hs nm hT⟩
              · have := hs j (by rw [Nat.zero_add]; exact rQ j k hj hk (Ne.symm hne) b2 b1) ops[j] (by simp [hj])
                rw [hl] at this
                cases this
            · unfold Yk
              rw [List.mem_flatMap]
              refine ⟨_, List.mem_filter.2 ⟨h4 k hkj, ?_⟩, ?_⟩
              · simp only [pO, show Nat.blt j ops.size = true from Nat.ble_eq_true_of_le hj, Bool.true_and] at b1
                simp [b1]
              · rw [List.mem_range'_1]
                simp only
                omega
    H_w := fun j hj nm hW b hb => by
      obtain ⟨rc, mk', h1, h2, h3, h4⟩ := kP j hj
      simp only [h1, Option.map_some, Option.getD_some] at hW ⊢
      have hc1 := yI hcall hp hcs (j + 1) hj
      have e1 : (iC g rcs (j + 1)).nx = rc.eU.nx := by rw [h2.out]; rfl
      have e2 : rc.iE.nx = (iC g rcs j).nx := by rw [h2.iE]; rfl
      have hns : nm ∈ Jo rc.iE rc.eU := by
        unfold Jo
        rw [List.mem_append]
        rcases hW with h | h
        · exact .inl (by rw [← h2.T]; exact h)
        · refine .inr ?_
          rw [List.mem_range'_1]
          omega
      have hb' := hb
      rw [h2.out] at hb' hc1
      simp only [VL] at hb' hc1
      rw [yD, if_pos hns] at hb'
      obtain ⟨k1, k2⟩ := LM hb'
      have hn := NU hc1 nm hns
      rw [k1] at hn
      obtain ⟨o1, o2⟩ := aF.GN k2 hn
      refine ⟨k1, o1, o2.mono fun x hx => ?_⟩
      rw [← e1] at hx
      exact toS j hj mk' h3 x hx
    H_o := fun j hj nm hW => by
      obtain ⟨rc, mk', h1, h2, h3, h4⟩ := kP j hj
      simp only [h1, Option.map_some, Option.getD_some] at hW
      have e1 : (iC g rcs (j + 1)).nx = rc.eU.nx := by rw [h2.out]; rfl
      have e2 : rc.iE.nx = (iC g rcs j).nx := by rw [h2.iE]; rfl
      show (iC g rcs (j + 1)).H.get nm = (iC g rcs j).H.get nm
      rw [h2.out]
      show (LP _ rc.eU.H (Jo rc.iE rc.eU) (iC g rcs j).H).get nm = _
      rw [yD, if_neg]
      unfold Jo
      rw [List.mem_append, not_or]
      refine ⟨fun hm => hW (.inl (by rw [h2.T]; exact hm)), fun hm => hW (.inr ?_)⟩
      rw [List.mem_range'_1] at hm
      omega
    aac := fun j hj => by
      obtain ⟨rc, mk', h1, h2, h3, h4⟩ := kP j hj
      simp only [h1, Option.map_some, Option.getD_some]
      have e1 : (iC g rcs (j + 1)).nx = rc.eU.nx := by rw [h2.out]; rfl
      have := h2.inB
      rw [← e1] at this
      exact (AV.GN this).mono fun x hx => toS j hj mk' h3 x hx
    Jg := fun _ j hj => by
      obtain ⟨rc, mk', h1, h2, h3, h4⟩ := kP j hj
      simp only [h1, Option.map_some, Option.getD_some]
      exact (Jr hcall rfl h2 (yI hcall hp hcs (j + 1) hj)).1
    RJ := fun _ => yI hcall hp hcs 0 (Nat.zero_le _) }
end
theorem LU {P : Program} {call : Calls'} (hcall : dw P call) (hct : iO call) (hm : P.follows .mixedOrders = true) (n : Nat) : eF P (yF P call n) n := fun ops id fr fr' g g' h => by
 obtain ⟨hst, Ts, rcs, hp, hs, rfl⟩ := yH h
 exact ⟨fun hc => yI hcall hp hc 0 (Nat.zero_le _), fun hc => ((ac0 hcall hct hst hp hs hc).leads hm id).2 hc⟩
theorem DJ {P : Program} {call : Calls'} (hcall : dw P call) (hct : iO call) (hm : P.follows .mixedOrders = true) (n : Nat) : eF P (bK P call n) n := fun ops id fr fr' g g' h => by
 unfold bK at h
 split at h
 ·exact LU hcall hct hm n ops id fr fr' g g' h
 ·exact LG hcall hct hm n ops id fr fr' g g' h
theorem Sv {P : Program} {Γ : Known} {Λ : FuncId → Loops} (hΓ : fK P Γ) (hT : gY Γ) (hΛ : NH P Λ) (hΛT : ∀ f, Lr (Λ f)) (hn : Dc P = true) (hm : P.follows .mixedOrders = true) (rounds fuel : Nat) : dw P (Ew P Γ Λ (bK P) rounds fuel) :=
 Df hΓ hΛ (fun fuel h n => DJ h (oW hT hΛT (fun call hc n l fr => kV hc n l fr) fuel) hm n) (.of hn) fuel
theorem iQ {P : Program} {Γ : Known} (hΓ : fK P Γ) (hT : gY Γ) (hn : Dc P = true) (hm : P.follows .mixedOrders = true) (rounds fuel : Nat) : dw P (runN P Γ (bK P) rounds fuel) :=
 Sv hΓ hT (fun _ _ _ _ _ => gu.none _ _ _) (fun _ _ _ h => by cases h) hn hm rounds fuel
theorem eX {P : Program} {Γ : Known} (hΓ : fK P Γ) (hT : gY Γ) (hn : Dc P = true) (hm : P.follows .mixedOrders = true) (rounds fuel n : Nat) : eF P (bK P (runN P Γ (bK P) rounds fuel) n) n :=
 DJ (iQ hΓ hT hn hm rounds fuel) (oW hT (fun _ _ _ h => by cases h) (fun call hc n l fr => kV hc n l fr) fuel) hm n
end Go.Sx
namespace Go.Sx
open M
def AA.ren (σ : Nat → Nat) (a : AA) : AA := ⟨a.s, σ a.g, a.i, a.o⟩
mutual
def AV.ren (σ : Nat → Nat) : AV → AV
 | .ptr a => .ptr (a.ren σ)
 | .slc s own a len => .slc s own (a.ren σ) len
 | .mp g => .mp (σ g)
 | .fn f l c => .fn f (kQ σ l) (kQ σ c)
 | .agg l => .agg (kQ σ l)
 | .lZ l => .lZ (kQ σ l)
 | v => v
def kQ (σ : Nat → Nat) : List AV → List AV
 | [] => []
 | v :: l => v.ren σ :: kQ σ l
end
mutual
theorem Rep.kW {N N' : Nat} {μ : MM} {σ : Nat → Nat} : ∀ {v : AV} {c : Value}, Rep N μ (v.ren σ) c → v.low N' = true → Rep N' (μ.via σ) v c
 | .top, _, _, _ => by simp [Rep]
 | .bool _, _, r, _ => by simpa [Rep, AV.ren] using r
 | .bD _, _, r, _ => by simpa [Rep, AV.ren] using r
 | .int .., _, r, _ => by simpa [Rep, AV.ren] using r
 | .flt .., _, r, _ => by simpa [Rep, AV.ren] using r
 | .raw .., _, r, _ => by simpa [Rep, AV.ren] using r
 | .bits .., _, r, _ => by simpa [Rep, AV.ren] using r
 | .vW .., _, r, _ => by simpa [Rep, AV.ren] using r
 | .str .., _, r, _ => by simpa [Rep, AV.ren] using r
 | .ptr a, _, r, l => by
  have hl := iJ (by simpa [AV.low] using l)
  simp only [AV.ren, Rep] at r ⊢
  exact ⟨hl, r.2⟩
 | .iW, _, r, _ => by simpa [Rep, AV.ren] using r
 | .slc _ own a len, _, r, l => by
  have hl := iJ (by simpa [AV.low] using l)
  simp only [AV.ren, Rep] at r ⊢
  exact ⟨hl, r.2⟩
 | .dL, _, r, _ => by simpa [Rep, AV.ren] using r
 | .mp g, _, r, l => by
  have hl := iJ (by simpa [AV.low] using l)
  simp only [AV.ren, Rep] at r ⊢
  exact ⟨hl, r.2⟩
 | .wI, _, r, _ => by simpa [Rep, AV.ren] using r
 | .fn f x cap, _, r, lo => by
  have hl : mD N' x = true ∧ mD N' cap = true := by simpa [AV.low] using lo
  simp only [AV.ren, Rep] at r ⊢
  obtain ⟨fs, cs, rfl, h1, h2⟩ := r
  exact ⟨fs, cs, rfl, aO.kW h1 hl.1, aO.kW h2 hl.2⟩
 | .qV, _, r, _ => by simpa [Rep, AV.ren] using r
 | .BM, _, r, _ => by simpa [Rep, AV.ren] using r
 | .hdr .., _, r, _ => by simpa [Rep, AV.ren] using r
 | .iP, _, r, _ => by simpa [Rep, AV.ren] using r
 | .iw .., _, r, l => by
  have hl := iJ (by simpa [AV.low] using l)
  simp only [AV.ren, Rep] at r ⊢
  exact ⟨hl, r.2⟩
 | .KJ _, _, r, l => by
  have hl := iJ (by simpa [AV.low] using l)
  simp only [AV.ren, Rep] at r ⊢
  exact ⟨hl, r.2⟩
 | .agg x, _, r, lo => by
  simp only [AV.ren, Rep] at r ⊢
  obtain ⟨cs, rfl, h1⟩ := r
  exact ⟨cs, rfl, aO.kW h1 (by simpa [AV.low] using lo)⟩
 | .lZ x, _, r, lo => by
  simp only [AV.ren, Rep] at r ⊢
  obtain ⟨cs, rfl, h1⟩ := r
  exact ⟨cs, rfl, aO.kW h1 (by simpa [AV.low] using lo)⟩
theorem aO.kW {N N' : Nat} {μ : MM} {σ : Nat → Nat} : ∀ {l : List AV} {cs : List Value}, aO N μ (kQ σ l) cs → mD N' l = true → aO N' (μ.via σ) l cs
 | [], _, r, _ => by simpa [aO, kQ] using r
 | v :: l, _, r, lo => by
  have hl : v.low N' = true ∧ mD N' l = true := by simpa [mD] using lo
  simp only [kQ, aO] at r ⊢
  obtain ⟨c, t, rfl, h1, h2⟩ := r
  exact ⟨c, t, rfl, Rep.kW h1 hl.1, aO.kW h2 hl.2⟩
end
structure mF (B : Nat) (H : T aF) (μ : MM) (w : World) (H' : T aF) (μ' : MM) (w' : World) : Prop where
 names : MM.upto B μ μ'
 os : w'.os = w.os
 tape : w'.tape = w.tape
 output : w'.output = w.output
 size : w.heap.size ≤ w'.heap.size
 block : ∀ b, b < w.heap.size → ¬ May μ H b → w'.heap[b]? = w.heap[b]?
 may : ∀ b, b < w.heap.size → May μ' H' b → May μ H b
 fz : ∀ b o, μ'.fz b = some o → μ.fz b = some o ∨ w.heap.size ≤ b ∨ May μ H b
theorem mF.trans {B : Nat} {H H' xH : T aF} {μ μ' μ'' : MM} {w w' w'' : World} (h : mF B H μ w H' μ' w') (k : mF B H' μ' w' xH μ'' w'') : mF B H μ w xH μ'' w'' where
 names := h.names.trans k.names (Nat.le_refl _)
 os := k.os.trans h.os
 tape := k.tape.trans h.tape
 output := k.output.trans h.output
 size := Nat.le_trans h.size k.size
 block := fun b hb hn => (k.block b (Nat.lt_of_lt_of_le hb h.size) fun hm => hn (h.may b hb hm)).trans (h.block b hb hn)
 may := fun b hb hm => h.may b hb (k.may b (Nat.lt_of_lt_of_le hb h.size) hm)
 fz := fun b o q => by
  rcases k.fz b o q with q | q | q
  ·exact h.fz b o q
  ·exact .inr (.inl (Nat.le_trans h.size q))
  ·by_cases hb : b < w.heap.size
   ·exact .inr (.inr (h.may b hb q))
   ·exact .inr (.inl (by omega))
structure AtB (n B K : Nat) (H : T aF) (μ : MM) (w : World) (H' : T aF) (fr' : Fr) (a a' : Act) (w' : World) : Prop where
 of : ∃ μ', dP K μ' w'.heap H' ∧ mF B H μ w H' μ' w' ∧ dG K μ' fr' a'.tmps n ∧ a'.defers = a.defers
abbrev Po := Ex → Fr → T aF → Prop
def aj (P : Program) (c : Code) (n B K K' : Nat) (fr : Fr) (H : T aF) (Post : Po) : Prop :=
 ∀ μ w (a : Act), dP K μ w.heap H → dG K μ fr a.tmps n → ∀ Q : Exit → Act → World → Prop, (∀ e fr' H' a' w', Post e fr' H' → AtB n B K' H μ w H' fr' a a' w' → Q e.ex a' w') → c.wp P Q a w
theorem AtB.trans {n B K : Nat} {H H' xH : T aF} {μ : MM} {w w' w'' : World} {mg : Fr} {a a' a'' : Act} {μ' : MM} (h1 : mF B H μ w H' μ' w') (h2 : a'.defers = a.defers) (h : AtB n B K H' μ' w' xH mg a' a'' w'') : AtB n B K H μ w xH mg a a'' w'' := by
 obtain ⟨μ'', k1, k2, k3, k4⟩ := h.of
 exact ⟨μ'', k1, h1.trans k2, k3, k4.trans h2⟩
theorem AtB.up {n B K K' : Nat} {H H' : T aF} {μ : MM} {w w' : World} {fr' : Fr} {a a' : Act} (h : AtB n B K H μ w H' fr' a a' w') (hK : K ≤ K') : AtB n B K' H μ w H' fr' a a' w' := by
 obtain ⟨μ', k1, k2, k3, k4⟩ := h.of
 exact ⟨μ', k1.up hK fun _ _ h => h, k2, k3.later (.refl _ _) hK, k4⟩
section
variable {P : Program} {n B K K' : Nat}
theorem aj.mono {c : Code} {fr : Fr} {H : T aF} {Post Post' : Po} (h : aj P c n B K K' fr H Post) (k : ∀ e fr' H', Post e fr' H' → Post' e fr' H') : aj P c n B K K' fr H Post' :=
 fun μ w a hg hf Q hQ => h μ w a hg hf Q fun e fr' H' a' w' hp ha => hQ e fr' H' a' w' (k _ _ _ hp) ha
theorem aj.up {K'' : Nat} {c : Code} {fr : Fr} {H : T aF} {Post : Po} (h : aj P c n B K K' fr H Post) (hK : K' ≤ K'') : aj P c n B K K'' fr H Post :=
 fun μ w a hg hf Q hQ => h μ w a hg hf Q fun e fr' H' a' w' hp ha => hQ e fr' H' a' w' hp (ha.up hK)
theorem aj.run {call : Calls'} (hcall : dw P call) {region : List Oper → Fr → M Fr} {loops : Loops} {rounds : Nat} (qG : eF P region n) {c : Code} (hl : gu P loops n c) {fr : Fr} {H : T aF} {path : List Bool}
  {e : Ex} {fl : List (Nat × AV)} {bl : List (Nat × aF)} (h : Sl e fl bl (bV P call region loops n rounds c fr ⟨H, K, [], path, True⟩)) (h1 : acX K' fl) (h2 : acY K' bl) (hB : B ≤ K) :
  aj P c n B K K' fr H fun e' fr' H' => e' = e ∧ fr' = aV fl ∧ H' = hpL bl := by
 have h := h.of
 generalize hr : bV P call region loops n rounds c fr ⟨H, K, [], path, True⟩ = res at h
 unfold LJ at h
 split at h
 ·rename_i r g
  obtain ⟨rfl, hw, hh, hcs⟩ := h
  obtain ⟨_, hs⟩ := fC hcall qG c hl _ _ _ _ hr
  intro μ w a hg hf Q hQ
  refine hs hcs μ w a hg hf Q fun a' w' hk => hQ r.1 _ _ a' w' ⟨rfl, rfl, rfl⟩ ⟨?_⟩
  obtain ⟨μ', k1, k2, k3, k4⟩ := hk
  have sub : ∀ i b, (hpL bl).get i = some b → g.H.get i = some b ∧ i < K' ∧ b.bare := fun i b hb => by
   have hm := aY hb
   exact ⟨hh.get hm, (h2 _ hm).1, (h2 _ hm).2⟩
  refine ⟨μ', ⟨fun i b hb => (sub i b hb).2.1, fun i b hb => (k1.ok _ _ (sub i b hb).1).bare (sub i b hb).2.2 rfl rfl rfl rfl, fun i b j b' hi hj => k1.sep _ _ _ _ (sub i b hi).1 (sub j b' hj).1, fun b o q => ⟨(k1.fz b o q).1, fun ⟨i, x, m1, m2⟩ => (k1.fz b o q).2 ⟨i, x, (sub i x m1).1, m2⟩⟩⟩, ?_, ⟨k3.size, fun t v ht => ?_⟩, k4⟩
  ·exact ⟨k2.names.mono hB, k2.os, k2.tape, k2.output, k2.size, k2.block, fun b hb hm => k2.may b hb (by
    obtain ⟨i, b, m1, m2, m3, m4⟩ := hm
    exact ⟨i, b, (sub i b m1).1, m2, m3, m4⟩), k2.fz⟩
  ·have hm := fV ht
   exact Rep.lY (.refl _ _) (fun _ _ => rfl) (h1 _ hm) (k3.val t v (hw.get hm))
 ·exact h.elim
def dD : aF → aF → Prop
 | .cells own sz m c, .cells own' sz' m' c' => own = own' ∧ sz = sz' ∧ m = m' ∧ ∀ i, i < m → c.row i = c'.row i
 | b, b' => b = b'
theorem dD.refl (b : aF) : dD b b := by cases b <;> simp [dD]
theorem dD.owned {b b' : aF} (h : dD b b') : b.owned = b'.owned := by
 cases b <;> cases b' <;> simp_all [dD, aF.owned]
theorem dD.real {b b' : aF} (h : dD b b') (μ : MM) (g : Nat) : b.real μ g ↔ b'.real μ g := by
 cases b <;> cases b' <;> simp_all [dD, aF.real]
theorem dD.ok {N : Nat} {μ : MM} {hp : Array Obj} {g : Nat} {b b' : aF} (h : dD b b') (k : bY N μ hp g b) : bY N μ hp g b' := by
 cases b with
 | cells own sz m c =>
  cases b' with
  | cells own' sz' m' c' =>
   obtain ⟨rfl, rfl, rfl, hr⟩ := h
   refine ⟨k.1, k.2.1, fun hh => ?_⟩
   obtain ⟨cur, ty, fz, h1, h2, h3, h4⟩ := k.2.2 hh
   exact ⟨cur, ty, fz, h1, h2, h3, fun i hi => by rw [← hr i hi]; exact h4 i hi⟩
  | _ => simp [dD] at h
 | _ => cases b' <;> simp [dD] at h <;> first | exact h ▸ k | (obtain ⟨rfl, rfl⟩ := h; exact k) | (obtain ⟨rfl, rfl, rfl⟩ := h; exact k)
theorem aj.Yh {c : Code} {fr pW : Fr} {H H0 : T aF} {Post : Po} (hf : ∀ t v, pW.get t = some v → ∃ u, fr.get t = some u ∧ ∀ N μ cv, Rep N μ u cv → Rep N μ v cv) (hH : ∀ i b, H0.get i = some b → ∃ b', H.get i = some b' ∧ dD b' b) (h : aj P c n B K K' pW H0 Post) : aj P c n B K K' fr H Post := by
 intro μ w a hg hfr Q hQ
 refine h μ w a ⟨fun i b hb => let ⟨b', h1, _⟩ := hH i b hb; hg.lt i b' h1, fun i b hb => let ⟨b', h1, h2⟩ := hH i b hb; h2.ok (hg.ok i b' h1), fun i b j b' hi hj ho hr hr' he => ?_, fun b o q => ⟨(hg.fz b o q).1, fun ⟨i, x, m1, m2, m3, m4⟩ => let ⟨b', h1, h2⟩ := hH i x m1; (hg.fz b o q).2 ⟨i, b', h1, by rw [h2.owned]; exact m2, (h2.real μ i).2 m3, m4⟩⟩⟩
  ⟨hfr.size, fun t v ht => let ⟨u, h1, h2⟩ := hf t v ht; h2 _ _ _ (hfr.val t u h1)⟩ Q fun e fr' H' a' w' hp ha => hQ e fr' H' a' w' hp ⟨?_⟩
 ·obtain ⟨b1, h1, h2⟩ := hH i b hi
  obtain ⟨b2, k1, k2⟩ := hH j b' hj
  exact hg.sep i b1 j b2 h1 k1 (by rw [h2.owned]; exact ho) ((h2.real μ i).2 hr) ((k2.real μ j).2 hr') he
 ·obtain ⟨μ', k1, k2, k3, k4⟩ := ha.of
  have may : ∀ b, May μ H0 b → May μ H b := fun b ⟨i, x, m1, m2, m3, m4⟩ => by
   obtain ⟨b', h1, h2⟩ := hH i x m1
   exact ⟨i, b', h1, by rw [h2.owned]; exact m2, (h2.real μ i).2 m3, m4⟩
  exact ⟨μ', k1, ⟨k2.names, k2.os, k2.tape, k2.output, k2.size, fun b hb hn => k2.block b hb fun hm => hn (may b hm), fun b hb hm => may b (k2.may b hb hm), fun b o q => (k2.fz b o q).imp id fun q => q.imp id (may b)⟩, k3, k4⟩
structure Ren (B K' : Nat) (σ : Nat → Nat) (fr : Fr) (H : T aF) (fr' : Fr) (H' : T aF) : Prop where
 keep : ∀ g, g < B → σ g = g
 frs : ∀ t v, fr'.get t = some v → fr.get t = some (v.ren σ) ∧ v.low K' = true
 hps : ∀ i b, H'.get i = some b → ∃ b0, H.get (σ i) = some b0 ∧ dD b0 b ∧ b.bare ∧ i < K'
 inj : ∀ i j b b', H'.get i = some b → H'.get j = some b' → σ i = σ j → i = j
theorem aj.ren {K'' : Nat} {c : Code} {fr : Fr} {H : T aF} {Post Post' : Po} (h : aj P c n B K K' fr H Post) (k : ∀ e fr' H', Post e fr' H' → ∃ σ mg xH, Ren B K'' σ fr' H' mg xH ∧ Post' e mg xH) : aj P c n B K K'' fr H Post' := by
 intro μ w a hg hf Q hQ
 refine h μ w a hg hf Q fun e fr' H' a' w' hp ha => ?_
 obtain ⟨σ, mg, xH, R, hp'⟩ := k _ _ _ hp
 refine hQ e mg xH a' w' hp' ⟨?_⟩
 obtain ⟨μ', k1, k2, k3, k4⟩ := ha.of
 refine ⟨μ'.via σ, ⟨fun i b hb => ?_, fun i b hb => ?_, fun i b j b' hi hj ho hr hr' he => ?_, fun b o q => ⟨(k1.fz b o q).1, fun ⟨i, x, m1, m2, m3, m4⟩ => let ⟨b0, h1, h2, h3, h4⟩ := R.hps i x m1; (k1.fz b o q).2 ⟨σ i, b0, h1, by rw [h2.owned]; exact m2, (h2.real _ _).2 ((aF.dK rfl x).1 m3), m4⟩⟩⟩, ⟨⟨fun g hg => ?_, fun g hg => ?_, fun g hg => ?_, fun g hg => ?_, k2.names.fz⟩, k2.os, k2.tape, k2.output, k2.size, k2.block, fun b hb hm => k2.may b hb ?_, k2.fz⟩, ⟨k3.size, fun t v ht => ?_⟩, k4⟩
 ·obtain ⟨b0, h1, h2, h3, h4⟩ := R.hps i b hb; exact h4
 ·obtain ⟨b0, h1, h2, h3, h4⟩ := R.hps i b hb
  exact (h2.ok (k1.ok _ _ h1)).bare h3 rfl rfl rfl rfl
 ·obtain ⟨b0, h1, h2, h3, h4⟩ := R.hps i b hi
  obtain ⟨b1, l1, l2, l3, l4⟩ := R.hps j b' hj
  refine R.inj i j b b' hi hj (k1.sep _ _ _ _ h1 l1 (by rw [h2.owned]; exact ho) ?_ ?_ he)
  ·exact (h2.real _ _).2 ((aF.dK rfl b).1 hr)
  ·exact (l2.real _ _).2 ((aF.dK rfl b').1 hr')
 ·show μ'.blk (σ g) = _; rw [R.keep g hg]; exact k2.names.blk g hg
 ·show μ'.cap (σ g) = _; rw [R.keep g hg]; exact k2.names.cap g hg
 ·show μ'.sz (σ g) = _; rw [R.keep g hg]; exact k2.names.sz g hg
 ·show μ'.base (σ g) = _; rw [R.keep g hg]; exact k2.names.base g hg
 ·obtain ⟨i, x, m1, m2, m3, m4⟩ := hm
  obtain ⟨b0, h1, h2, h3, h4⟩ := R.hps i x m1
  exact ⟨σ i, b0, h1, by rw [h2.owned]; exact m2, (h2.real _ _).2 ((aF.dK rfl x).1 m3), m4⟩
 ·obtain ⟨h1, h2⟩ := R.frs t v ht
  exact (k3.val t _ h1).kW h2
theorem aj.seq {K1 : Nat} {x y : Code} {fr : Fr} {H : T aF} {Post : Po} (hK : K1 ≤ K')
  (h : aj P x n B K K1 fr H fun e fr' H' => match e with
   | .normal => aj P y n B K1 K' fr' H' Post
   | e => Post e fr' H') : aj P (.seq x y) n B K K' fr H Post := by
 intro μ w a hg hf Q hQ
 refine wp_seq (h μ w a hg hf _ fun e fr' H' a' w' hp ha => ?_)
 cases e with
 | normal =>
  obtain ⟨μ', k1, k2, k3, k4⟩ := ha.of
  exact hp μ' w' a' k1 k3 Q fun e'' mg xH a'' w'' hp' ha' => hQ _ _ _ _ _ hp' (AtB.trans k2 k4 ha')
 | exit id => exact hQ _ _ _ _ _ hp (ha.up hK)
 | ret => exact hQ _ _ _ _ _ hp (ha.up hK)
theorem aj.block {id : Nat} {c : Code} {fr : Fr} {H : T aF} {Post : Po}
  (h : aj P c n B K K' fr H fun e fr' H' => match e with
   | .exit id' => if id' = id then Post .normal fr' H' else Post (.exit id') fr' H'
   | e => Post e fr' H') : aj P (.block id c) n B K K' fr H Post := by
 intro μ w a hg hf Q hQ
 refine wp_block (h μ w a hg hf _ fun e fr' H' a' w' hp ha => ?_)
 cases e with
 | normal => exact hQ _ _ _ _ _ hp ha
 | ret => exact hQ _ _ _ _ _ hp ha
 | exit id' =>
  simp only [Ex.ex, Exit.inBlock]
  by_cases he : id' = id
  ·simp only [he, if_true] at hp ⊢
   exact hQ .normal _ _ _ _ hp ha
  ·simp only [if_neg he] at hp ⊢
   exact hQ (.exit id') _ _ _ _ hp ha
theorem aj.cond {c : Operand} {b s : Bool} {x y : Code} {fr : Fr} {H : T aF} {Post : Po} (hc : bT fr c = dZ s b) (hx : b = true → aj P x n B K K' fr H Post) (hy : b = false → aj P y n B K K' fr H Post) : aj P (.cond c x y) n B K K' fr H Post := by
 intro μ w a hg hf Q hQ
 have e : a.eval c = .bool b := by
  have := hf.eval (a := a) c
  rw [hc] at this
  exact o9.1 this
 refine wp_cond e ?_
 cases b with
 | true => exact hx rfl μ w a hg hf Q hQ
 | false => exact hy rfl μ w a hg hf Q hQ
theorem aj.loop {c : Code} {Post : Po} (I : Nat → Fr → T aF → Prop)
  (h : ∀ k fr H, I k fr H → aj P c n B K K fr H fun e fr' H' => match e with
   | .normal => ∃ k', k' < k ∧ I k' fr' H'
   | e => Post e fr' H') : ∀ k fr H, I k fr H → aj P (.loop c) n B K K fr H Post := by
 have key : ∀ R k fr H, k < R → I k fr H → ∀ μ w (a : Act), dP K μ w.heap H → dG K μ fr a.tmps n → ∀ Q : Exit → Act → World → Prop, (∀ e fr' H' a' w', Post e fr' H' → AtB n B K H μ w H' fr' a a' w' → Q e.ex a' w') → Code.rounds P c Q R a w := by
  intro R
  induction R with
  | zero => intro k fr H hk; omega
  | succ R ih =>
   intro k fr H hkR hI μ w a hg hf Q hQ
   rw [rounds_succ]
   refine wp_mono (h k fr H hI μ w a hg hf (fun e a' w' => (e = .normal ∧ ∃ k' fr' H', k' < k ∧ I k' fr' H' ∧ AtB n B K H μ w H' fr' a a' w') ∨ (e ≠ .normal ∧ Q e a' w')) fun e fr' H' a' w' hp ha => ?_) ?_
   ·cases e with
    | normal =>
     obtain ⟨k', hk, hI'⟩ := hp
     exact .inl ⟨rfl, k', fr', H', hk, hI', ha⟩
    | exit id => exact .inr ⟨by simp [Ex.ex], hQ (.exit id) _ _ _ _ hp ha⟩
    | ret => exact .inr ⟨by simp [Ex.ex], hQ .ret _ _ _ _ hp ha⟩
   ·rintro e a' w' (⟨rfl, k', fr', H', hk, hI', ha⟩ | ⟨hne, hq⟩)
    ·obtain ⟨μ', k1, k2, k3, k4⟩ := ha.of
     exact ih k' fr' H' (by omega) hI' μ' w' a' k1 k3 Q fun e'' mg xH a'' w'' hp' ha' => hQ _ _ _ _ _ hp' (AtB.trans k2 k4 ha')
    ·cases e <;> first | exact absurd rfl hne | exact hq
 intro k fr H hI μ w a hg hf Q hQ
 exact wp_loop_rounds (k + 1) (key (k + 1) k fr H (by omega) hI μ w a hg hf Q hQ)
theorem aj.call {f : FuncId} {fn : Func} {c : Code} (hf : P.funcs[f]? = some fn) (hb : fn.body = some c) (hname : (fn.name == "runtime.NumGoroutine") = false) {args : List AV} {H : T aF} {V : AV → T aF → Prop}
  (h : aj P c fn.ntmps B K K' (bJ args 0 .e) H fun e fr' H' => (e = .ret ∨ e = .normal) ∧ ∃ vs g', dH P fr' fn.results.toList ⟨H', K', [], [], True⟩ = .done vs g' ∧ g'.cs ∧ V (jZ vs) H')
  (μ : MM) (w : World) {bW : Array Value} (hg : dP K μ w.heap H) (ha : aO K μ args bW.toList) :
  CF P f bW w fun cv w' => ∃ v μ' H', V v H' ∧ Rep K' μ' v cv ∧ dP K' μ' w'.heap H' ∧ mF B H μ w H' μ' w' := by
 refine .inr ⟨f, bW, w, qM hf hname hb bW w, calls_of_wp hf hb (h μ w _ hg (dG.start ha fn.ntmps) _ fun e fr' H' a' w' hp hA => ?_)⟩
 obtain ⟨he, vs, g', hr, hcs, hV⟩ := hp
 obtain ⟨μ', k1, k2, k3, k4⟩ := hA.of
 obtain ⟨kk, hs⟩ := oV hr
 obtain ⟨cs, e1, hvs⟩ := hs hcs μ' w' a'.tmps _ k1 k3
 obtain ⟨cv, e2, hcv⟩ := uw e1 hvs
 have post : a'.defers = [] ∧ ∃ x, (results fn a'.tmps).run P w' = .ok x w' ∧ ∃ c0, Ending.returned x = .returned c0 ∧ ∃ v μ' H', V v H' ∧ Rep K' μ' v c0 ∧ dP K' μ' w'.heap H' ∧ mF B H μ w H' μ' w' :=
  ⟨k4, cv, e2, cv, rfl, _, μ', H', hV, hcv, k1, k2⟩
 rcases he with rfl | rfl
 ·exact post
 ·exact post
end
theorem VN {N : Nat} {μ : MM} {hp : Array Obj} {a : AA} {own : Bool} {dA sz n m : Nat} {c : Cont} (hb : bY N μ hp a.g (.cells own sz n c)) (he : 0 < dA) (hr : RC a dA sz n m) {μ' : MM} {i N' : Nat}
  (e1 : μ'.blk i = μ.blk a.g) (e2 : μ'.sz i = dA) (e3 : μ'.base i = μ.base a.g + a.i * sz + a.o) (hbare : ∀ j, j < m → ∀ v, v ∈ rowsOf a dA sz c j → v.low 0 = true) :
  bY N' μ' hp i (.cells false dA m (.fn (rowsOf a dA sz c))) := by
 refine ⟨e2, he, fun h => ?_⟩
 have hm : 0 < m := by
  rcases h with h | ⟨h, _⟩
  ·exact h
  ·cases h
 obtain ⟨cur, ty, fz, h1, h2, h3⟩ := ET hb he hr hm
 refine ⟨cur, ty, fz, by rw [e1]; exact h1, by rw [e3]; exact h2, fun h => (by cases h), fun j hj => ⟨(h3 j hj).1, fun o v hv => ?_⟩⟩
 obtain ⟨k1, cv, k2, k3⟩ := (h3 j hj).2 o v hv
 rw [e3]
 exact ⟨k1, cv, k2, k3.bare (hbare j hj v (List.mem_of_getElem? hv))⟩
end Go.Sx
namespace Go.Sx
open M
def AV.ge (u v : AV) : Prop := ∀ N μ cv, Rep N μ u cv → Rep N μ v cv
structure Vw where
 x : AV
 dA : Nat
 len : Nat
 rows : Nat → List AV
def Vw.bk (v : Vw) : aF := .cells false v.dA v.len (.fn v.rows)
def zM (i len : Nat) : AV := .slc true false ⟨false, i, 0, 0⟩ len
def GU (μ : MM) : AV → Nat
 | .slc _ _ a _ => μ.blk a.g
 | _ => 0
def yJ (μ : MM) : AV → Nat
 | .slc _ _ a _ => μ.base a.g + a.i * μ.sz a.g + a.o
 | _ => 0
def zN (μ : MM) (l : List Vw) : MM :=
 ⟨fun i => (l[i]?).elim 0 fun v => GU μ v.x, fun _ => 0, fun i => (l[i]?).elim 0 fun v => v.dA, fun i => (l[i]?).elim 0 fun v => yJ μ v.x, μ.fz⟩
def vwL : List Vw → Nat → List (Nat × aF)
 | [], _ => []
 | v :: l, i => (i, v.bk) :: vwL l (i + 1)
theorem yK : ∀ {l : List Vw} {i : Nat} {p : Nat × aF}, p ∈ vwL l i → ∃ j v, l[j]? = some v ∧ p = (i + j, v.bk)
 | [], i, p, h => by cases h
 | v :: l, i, p, h => by
  rcases List.mem_cons.1 h with rfl | h
  ·exact ⟨0, v, rfl, rfl⟩
  ·obtain ⟨j, u, h1, rfl⟩ := yK h
   exact ⟨j + 1, u, by simpa using h1, by rw [show i + 1 + j = i + (j + 1) by omega]⟩
structure Vw.Ok (v : Vw) (g : G) : Prop where
 pos : 0 < v.dA
 bare : ∀ j, j < v.len → ∀ u, u ∈ v.rows j → u.low 0 = true
 view : ∀ N μ (w : World), dP N μ w.heap g.H → ∀ (μ' : MM) (i N' : Nat), μ'.blk i = GU μ v.x → μ'.sz i = v.dA → μ'.base i = yJ μ v.x → bY N' μ' w.heap i v.bk
 val : ∀ N μ c, Rep N μ v.x c → ∀ (μ' : MM) (i N' : Nat), i < N' → μ'.blk i = GU μ v.x → μ'.sz i = v.dA → μ'.base i = yJ μ v.x → Rep N' μ' (zM i v.len) c
theorem Vw.Ok.of {x : AV} {dA : Nat} {y : Bool × Nat × (Nat → List AV)} {g g' : G} (h : nG dA x g = .done y g') (he : 0 < dA) :
  ∃ p, Keep g g' p ∧ (p → (∀ j, j < y.2.1 → ∀ u, u ∈ y.2.2 j → u.low 0 = true) → Vw.Ok ⟨x, dA, y.2.1, y.2.2⟩ g) := by
 unfold nG at h
 split at h
 ·obtain ⟨rfl, rfl⟩ := aB h
  refine ⟨True, Keep.refl _, fun _ hb => ⟨he, hb, fun N μ w hg μ' i N' e1 e2 e3 => ?_, fun N μ c hx μ' i N' hi e1 e2 e3 => ?_⟩⟩
  ·refine ⟨e2, he, fun h => ?_⟩
   rcases h with h | ⟨h, _⟩
   ·cases h
   ·cases h
  ·simp only [Rep] at hx
   subst hx
   simp only [zM, Rep, tZ]
   exact ⟨hi, none, 0, rfl, Nat.le_refl _, fun h => absurd h (by omega), fun h => (by cases h), fun h => (by cases h)⟩
 ·rename_i s own a len
  obtain ⟨⟨bo, sz, n, c⟩, g1, a1, h1⟩ := au h
  obtain ⟨hb, rfl⟩ := eu a1
  simp only at h1 hb
  obtain ⟨_, g2, a2, h2⟩ := au h1
  obtain ⟨rfl, rfl⟩ := aB h2
  refine ⟨_, Ag a2, fun hp hbare => ⟨he, hbare, fun N μ w hg μ' i N' e1 e2 e3 => ?_, fun N μ cx hx μ' i N' hi e1 e2 e3 => ?_⟩⟩
  ·have hbk := hg.ok _ _ hb
   have hsz : μ.sz a.g = sz := hbk.1
   exact VN hbk he hp e1 e2 (by rw [e3]; simp only [yJ, hsz]) hbare
  ·simp only [Rep] at hx
   obtain ⟨_, A, C, rfl, hlen, hA, _⟩ := hx
   simp only [zM, Rep, tZ]
   refine ⟨hi, A, C, rfl, hlen, fun h => ?_, fun h => (by cases h), fun h => (by cases h)⟩
   rw [hA h]
   simp only [MM.addr, e1, e3, GU, yJ, Nat.zero_mul, Nat.add_zero]
 ·exact (bC h).elim
theorem LV {l : List Vw} {μ : MM} {B : Nat} : ¬ May μ (hpL (vwL l 0)) B := by
 rintro ⟨i, b, hb, ho, _⟩
 obtain ⟨j, v, h1, h2⟩ := yK (aY hb)
 cases h2
 cases ho
theorem Sz {l : List Vw} {g : G} (h : ∀ v ∈ l, v.Ok g) {N : Nat} {μ : MM} {w : World} (hg : dP N μ w.heap g.H) : dP l.length (zN μ l) w.heap (hpL (vwL l 0)) where
 lt := fun i b hb => by
  obtain ⟨j, v, h1, h2⟩ := yK (aY hb)
  cases h2
  have := (List.getElem?_eq_some_iff.1 h1).1
  omega
 ok := fun i b hb => by
  obtain ⟨j, v, h1, h2⟩ := yK (aY hb)
  cases h2
  rw [Nat.zero_add]
  refine (h v (List.mem_of_getElem? h1)).view N μ w hg _ j _ ?_ ?_ ?_ <;> simp [zN, h1]
 sep := fun i b j b' hi hj ho => by
  obtain ⟨k, v, h1, h2⟩ := yK (aY hi)
  cases h2
  cases ho
 fz := fun b o q => ⟨(hg.fz b o q).1, LV⟩
theorem LW {l : List Vw} {g : G} {i : Nat} {v : Vw} (h : v.Ok g) (hi : l[i]? = some v) {N : Nat} {μ : MM} {c : Value} (hx : Rep N μ v.x c) : Rep l.length (zN μ l) (zM i v.len) c :=
 h.val N μ c hx _ i _ (List.getElem?_eq_some_iff.1 hi).1 (by simp [zN, hi]) (by simp [zN, hi]) (by simp [zN, hi])
def kS (H : T aF) : Nat → List aF → T aF
 | _, [] => H
 | i, b :: l => kS (H.upd i (some b)) (i + 1) l
theorem rV : ∀ (l : List aF) (H : T aF) (i j : Nat), (kS H i l).get j = if i ≤ j ∧ j < i + l.length then l[j - i]? else H.get j
 | [], H, i, j => by
  rw [if_neg (by simp)]; rfl
 | b :: l, H, i, j => by
  simp only [kS, rV l, T.bF, List.length_cons]
  by_cases h1 : j = i
  ·subst h1; simp; omega
  ·by_cases h2 : i + 1 ≤ j ∧ j < i + 1 + l.length
   ·rw [if_pos h2, if_pos (by omega), show j - i = (j - (i + 1)) + 1 by omega, List.getElem?_cons_succ]
   ·rw [if_neg h2, if_neg h1, if_neg (by omega)]
def dU (μ μ' : MM) (N : Nat) (nms : List Nat) : MM :=
 ⟨fun i => if i < N then μ.blk i else μ'.blk (nms.getD (i - N) 0), fun i => if i < N then μ.cap i else μ'.cap (nms.getD (i - N) 0), fun i => if i < N then μ.sz i else μ'.sz (nms.getD (i - N) 0), fun i => if i < N then μ.base i else μ'.base (nms.getD (i - N) 0), μ'.fz⟩
theorem yL {μ μ' : MM} {N : Nat} {nms : List Nat} (hf : ∀ b o, μ.fz b = some o → μ'.fz b = some o) : MM.upto N μ (dU μ μ' N nms) := ⟨fun g hg => if_pos hg, fun g hg => if_pos hg, fun g hg => if_pos hg, fun g hg => if_pos hg, hf⟩
theorem SA {μ μ' : MM} {N : Nat} {nms : List Nat} {i : Nat} (h : N ≤ i) : H8 (μ'.via fun i => nms.getD (i - N) 0) (dU μ μ' N nms) i :=
 ⟨if_neg (by omega), if_neg (by omega), if_neg (by omega), if_neg (by omega), fun _ _ q => q⟩
structure aai (H' : T aF) (nms : List Nat) (bs : List aF) : Prop where
 len : nms.length = bs.length
 at' : ∀ (i : Nat) (b : aF), bs[i]? = some b → ∃ nm b0, nms[i]? = some nm ∧ H'.get nm = some b0 ∧ dD b0 b ∧ b.owned = true ∧ b.bare
 nodup : nms.Nodup
theorem VO {g : G} {μ : MM} {w w' : World} (hg : dP g.nx μ w.heap g.H) {k K' : Nat} {Hc H' : T aF} {μc μ' : MM} (hno : ∀ B, ¬ May μc Hc B) (hz : ∀ b, μc.fz b = μ.fz b) (hE : mF k Hc μc w H' μ' w') (hc : dP K' μ' w'.heap H') {nms : List Nat} {bs : List aF} (hn : aai H' nms bs)
  {g' : G} (h1 : g'.H = kS g.H g.nx bs) (h2 : g'.nx = g.nx + bs.length) :
  dP g'.nx (dU μ μ' g.nx nms) w'.heap g'.H ∧ Ext g μ w g' (dU μ μ' g.nx nms) w' := by
 have old : ∀ B, B < w.heap.size → w'.heap[B]? = w.heap[B]? := fun B hB => hE.block B hB (hno B)
 have hf : ∀ b o, μ.fz b = some o → μ'.fz b = some o := fun b o q => hE.names.fz b o (by rw [hz]; exact q)
 have lo : MM.upto g.nx μ (dU μ μ' g.nx nms) := yL hf
 have case : ∀ i b, g'.H.get i = some b → (i < g.nx ∧ g.H.get i = some b) ∨ ∃ j nm b0, i = g.nx + j ∧ bs[j]? = some b ∧ nms[j]? = some nm ∧ H'.get nm = some b0 ∧ dD b0 b ∧ b.owned = true ∧ b.bare := fun i b hb => by
  rw [h1, rV] at hb
  split at hb
  ·rename_i hi
   obtain ⟨nm, b0, k1, k2, k3, k4, k5⟩ := hn.at' _ _ hb
   exact .inr ⟨i - g.nx, nm, b0, by omega, hb, k1, k2, k3, k4, k5⟩
  ·exact .inl ⟨hg.lt _ _ hb, hb⟩
 have nmv : ∀ j nm, nms[j]? = some nm → nms.getD (g.nx + j - g.nx) 0 = nm := fun j nm h => by
  rw [show g.nx + j - g.nx = j by omega, List.getD_eq_getElem?_getD, h]; rfl
 have eqs : ∀ j nm, nms[j]? = some nm → (dU μ μ' g.nx nms).blk (g.nx + j) = μ'.blk nm ∧ (dU μ μ' g.nx nms).cap (g.nx + j) = μ'.cap nm ∧ (dU μ μ' g.nx nms).sz (g.nx + j) = μ'.sz nm ∧ (dU μ μ' g.nx nms).base (g.nx + j) = μ'.base nm := fun j nm h => by
  have hge : ¬ g.nx + j < g.nx := by omega
  refine ⟨?_, ?_, ?_, ?_⟩ <;> simp only [dU, if_neg hge, nmv j nm h]
 have high : ∀ j nm b0 b, nms[j]? = some nm → H'.get nm = some b0 → dD b0 b → b.owned = true → b.real (dU μ μ' g.nx nms) (g.nx + j) → w.heap.size ≤ (dU μ μ' g.nx nms).blk (g.nx + j) := fun j nm b0 b e1 e2 e3 e4 e5 => by
  obtain ⟨q1, q2, q3, q4⟩ := eqs j nm e1
  rw [q1]
  refine Nat.le_of_not_lt fun hlt => hno _ (hE.may _ hlt ⟨nm, b0, e2, by rw [e3.owned]; exact e4, (e3.real _ _).2 ((aF.dK q2 b).1 e5), rfl⟩)
 constructor
 ·refine ⟨fun i b hb => ?_, fun i b hb => ?_, fun i b j b' hi hj ho hr hr' he => ?_, fun b o q => ⟨(hc.fz b o q).1, fun ⟨i, bk, m1, m2, m3, m4⟩ => ?_⟩⟩
  ·rw [h2]
   rcases case i b hb with ⟨h, _⟩ | ⟨j, nm, b0, rfl, h, _⟩
   ·omega
   ·have := (List.getElem?_eq_some_iff.1 h).1; omega
  ·rcases case i b hb with ⟨h, hb'⟩ | ⟨j, nm, b0, rfl, e1, e2, e3, e4, e5, e6⟩
   ·have ok := hg.ok _ _ hb'
    exact ok.later lo (by omega) h fun hr => old _ (ok.lt_size hr)
   ·obtain ⟨q1, q2, q3, q4⟩ := eqs j nm e2
    exact (e4.ok (hc.ok _ _ e3)).bare e6 q1 q2 q3 q4
  ·rcases case i b hi with ⟨hlt, hb1⟩ | ⟨i1, nm, b0, rfl, e1, e2, e3, e4, e5, e6⟩
   ·rw [aF.aX lo hlt] at hr
    rw [lo.blk i hlt] at he
    rcases case j b' hj with ⟨hlt', hb2⟩ | ⟨j1, nm', b0', rfl, e1', e2', e3', e4', e5', e6'⟩
    ·rw [aF.aX lo hlt'] at hr'
     rw [lo.blk j hlt'] at he
     exact hg.sep _ _ _ _ hb1 hb2 ho hr hr' he
    ·have := high j1 nm' b0' b' e2' e3' e4' e5' hr'
     have := (hg.ok _ _ hb1).lt_size hr
     omega
   ·rcases case j b' hj with ⟨hlt', hb2⟩ | ⟨j1, nm', b0', rfl, e1', e2', e3', e4', e5', e6'⟩
    ·rw [aF.aX lo hlt'] at hr'
     rw [lo.blk j hlt'] at he
     have := high i1 nm b0 b e2 e3 e4 e5 hr
     have := (hg.ok _ _ hb2).lt_size hr'
     omega
    ·obtain ⟨q1, q2, _⟩ := eqs i1 nm e2
     obtain ⟨q1', q2', _⟩ := eqs j1 nm' e2'
     have e : nm = nm' := hc.sep _ _ _ _ e3 e3' (by rw [e4.owned]; exact e5) ((e4.real _ _).2 ((aF.dK q2 b).1 hr)) ((e4'.real _ _).2 ((aF.dK q2' b').1 hr')) (by rw [← q1, ← q1']; exact he)
     subst e
     have hi1 := (List.getElem?_eq_some_iff.1 e2).1
     have : i1 = j1 := (List.getElem?_inj hi1 hn.nodup).1 (e2.trans e2'.symm)
     rw [this]
  ·rcases case i bk m1 with ⟨hlt, hb1⟩ | ⟨j, nm, b0, rfl, e1, e2, e3, e4, e5, e6⟩
   ·rw [aF.aX lo hlt] at m3
    rw [lo.blk i hlt] at m4
    rcases hE.fz b o q with q1 | q1 | q1
    ·rw [hz] at q1; exact (hg.fz b o q1).2 ⟨i, bk, hb1, m2, m3, m4⟩
    ·have := (hg.ok _ _ hb1).lt_size m3
     omega
    ·exact hno b q1
   ·obtain ⟨q1, q2, q3, q4⟩ := eqs j nm e2
    exact (hc.fz b o q).2 ⟨nm, b0, e3, by rw [e4.owned]; exact e5, (e4.real _ _).2 ((aF.dK q2 bk).1 m3), by rw [← q1]; exact m4⟩
 ·refine ⟨by omega, lo, hE.os, hE.tape, hE.output, hE.size, fun B hB _ => old B hB, fun B hB hm => ?_, fun b o q => (hE.fz b o q).elim (fun q => .inl (by rw [← hz]; exact q)) fun q => .inr (q.elim .inl fun q => absurd q (hno b))⟩
  obtain ⟨i, b, m1, m2, m3, m4⟩ := hm
  rcases case i b m1 with ⟨hlt, hb1⟩ | ⟨j, nm, b0, rfl, e1, e2, e3, e4, e5, e6⟩
  ·rw [aF.aX lo hlt] at m3
   rw [lo.blk i hlt] at m4
   exact ⟨i, b, hb1, m2, m3, m4⟩
  ·have := high j nm b0 b e2 e3 e4 e5 m3
   omega
theorem Jt {μ μ' : MM} {N K' : Nat} {nms : List Nat} {v : AV} {c : Value} {M : Nat} (h : Rep K' μ' (v.ren fun i => nms.getD (i - N) 0) c) (hl : v.low M = true) (hS : v.iy fun i => N ≤ i) : Rep M (dU μ μ' N nms) v c := by
 have h1 := h.kW hl
 exact h1.on (S := fun i => N ≤ i) (fun i hi hlt => ⟨hlt, SA hi⟩) hS
theorem reads {P : Program} {f : FuncId} {fn : Func} {c : Code} (hf : P.funcs[f]? = some fn) (hb : fn.body = some c) (hname : (fn.name == "runtime.NumGoroutine") = false) {K' : Nat} {args gG : List AV} {g g1 g' : G} {p : Prop} (kp : Keep g g1 p)
  (l : List Vw) (hl : p → ∀ v ∈ l, v.Ok g) (hargs : p → ∀ N μ (cs : List Value), aO N μ args cs → aO l.length (zN μ l) gG cs)
  {nms : List Nat} {bs : List aF} {v : AV}
  (h : p → aj P c fn.ntmps l.length l.length K' (bJ gG 0 .e) (hpL (vwL l 0)) fun e fr' H' => (e = .ret ∨ e = .normal) ∧ ∃ vs gr, dH P fr' fn.results.toList ⟨H', K', [], [], True⟩ = .done vs gr ∧ gr.cs ∧ AV.ge (jZ vs) (v.ren (fun i => nms.getD (i - g.nx) 0)) ∧ aai H' nms bs)
  (hv : v.low (g.nx + bs.length) = true) (hS : v.iy fun i => g.nx ≤ i) (h1 : g'.H = kS g.H g.nx bs) (h2 : g'.nx = g.nx + bs.length) (h3 : g'.cs → g1.cs) : bZ P f args v g g' := by
 refine ⟨fun hc => (kp.2.2 (h3 hc)).1, fun hcs μ w bW hg ha => ?_⟩
 have hp := (kp.2.2 (h3 hcs)).2
 refine (aj.call hf hb hname (V := fun u H' => AV.ge u (v.ren (fun i => nms.getD (i - g.nx) 0)) ∧ aai H' nms bs) ((h hp).mono fun e fr' H' ⟨k1, vs, gr, k2, k3, k4, k5⟩ => ⟨k1, vs, gr, k2, k3, k4, k5⟩) (zN μ l) w (Sz (hl hp) hg) (hargs hp _ _ _ ha)).mono ?_
 rintro cv w' ⟨u, μ', H', ⟨hge, hN⟩, hrep, hgk, hE⟩
 obtain ⟨q1, q2⟩ := VO (μc := zN μ l) hg (fun B => LV) (fun _ => rfl) hE hgk hN h1 h2
 refine ⟨dU μ μ' g.nx nms, ?_, q1, q2⟩
 rw [h2]
 exact Jt (hge _ _ _ hrep) hv hS
end Go.Sx
namespace Go.Sx
open M
theorem mG {b : Bool} {A B C : Prop} (h : cond b A B) (ha : b = true → A → C) (hb : b = false → B → C) : C := by
 cases b
 ·exact hb rfl h
 ·exact ha rfl h
def aT : List Nat → Code → Code
 | [], c => c
 | i :: l, .seq a b => bif Nat.beq i 0 then aT l a else aT l b
 | i :: l, .cond _ a b => bif Nat.beq i 0 then aT l a else aT l b
 | _ :: l, .block _ c => aT l c
 | _ :: l, .loop c => aT l c
 | _, c => c
def ak (f : Func) : Code := f.body.getD .skip
def jg (K' : Nat) (e : Ex) (fl : List (Nat × AV)) (hl : List (Nat × aF)) : Aa (Ex × Fr) → Prop
 | .done r g => r.1 = e ∧ Fa r.2 fl ∧ zK g.H hl ∧ Nat.ble g.nx K' = true ∧ g.cs
 | _ => False
structure cO (K' : Nat) (e : Ex) (fl : List (Nat × AV)) (hl : List (Nat × aF)) (r : Aa (Ex × Fr)) : Prop where
 of : jg K' e fl hl r
section
variable {P : Program} {n B K K' : Nat}
theorem aj.runN {call : Calls'} (hcall : dw P call) {region : List Oper → Fr → M Fr} {loops : Loops} {rounds : Nat} (qG : eF P region n) {c : Code} (hl : gu P loops n c) {fr : Fr} {H : T aF} {path : List Bool}
  {e : Ex} {fl : List (Nat × AV)} {bl : List (Nat × aF)} (h : cO K' e fl bl (bV P call region loops n rounds c fr ⟨H, K, [], path, True⟩)) (hB : B ≤ K) :
  aj P c n B K K' fr H fun e' fr' H' => e' = e ∧ fr' = aV fl ∧ H' = hpL bl := by
 have h := h.of
 generalize hr : bV P call region loops n rounds c fr ⟨H, K, [], path, True⟩ = res at h
 unfold jg at h
 split at h
 ·rename_i r g
  obtain ⟨rfl, hw, hh, hnx, hcs⟩ := h
  have hnx := Nat.le_of_ble_eq_true hnx
  obtain ⟨_, hs⟩ := fC hcall qG c hl _ _ _ _ hr
  intro μ w a hg hf Q hQ
  refine hs hcs μ w a hg hf Q fun a' w' hk => hQ r.1 _ _ a' w' ⟨rfl, rfl, rfl⟩ ⟨?_⟩
  obtain ⟨μ', k1, k2, k3, k4⟩ := hk
  have sub : ∀ i b, (hpL bl).get i = some b → g.H.get i = some b := fun i b hb => hh.get (aY hb)
  refine ⟨μ', k1.up hnx sub, ?_, ⟨k3.size, fun t v ht => (k3.val t v (hw.get (fV ht))).later (.refl _ _) hnx⟩, k4⟩
  exact ⟨k2.names.mono hB, k2.os, k2.tape, k2.output, k2.size, k2.block, fun b hb hm => k2.may b hb (by
    obtain ⟨i, x, m1, m2, m3, m4⟩ := hm
    exact ⟨i, x, sub i x m1, m2, m3, m4⟩), k2.fz⟩
 ·exact h.elim
theorem AV.ge.refl (v : AV) : AV.ge v v := fun _ _ _ h => h
theorem AV.ge.int (s s' : Bool) (k : IntKind) (n : Int) : AV.ge (.int s k n) (.int s' k n) := fun _ _ _ h => by simpa only [Rep] using h
theorem AV.ge.int' (s s' : Bool) (k : IntKind) {n n' : Int} (e : n = n') : AV.ge (.int s k n) (.int s' k n') := e ▸ AV.ge.int s s' k n
theorem AV.ge.bool (b : Bool) : AV.ge (.bool b) (.bD b) := fun _ _ _ h => by simpa only [Rep] using h
theorem AV.ge.aaj {b b' : Bool} (e : b = b') : AV.ge (.bD b) (.bool b') := fun _ _ _ h => by subst e; simpa only [Rep] using h
theorem AV.ge.afH (s s' : Bool) {x x' y y' : Nat} (e : x = x') (e' : y = y') : AV.ge (.vW s x y) (.vW s' x' y') := fun _ _ _ h => by subst e e'; simpa only [Rep] using h
theorem AV.ge.str' (s s' : Bool) {l l' : List UInt8} (e : l = l') : AV.ge (.str s l) (.str s' l') := fun _ _ _ h => by subst e; simpa only [Rep] using h
theorem AV.ge.dL (a : AA) : AV.ge (.slc false false a 0) (.slc true false a 0) := fun _ _ _ h => by
 simp only [Rep, tZ] at h ⊢
 obtain ⟨h1, A, C, h2, h3, h4, h5, h6⟩ := h
 exact ⟨h1, A, C, h2, h3, h4, fun h => (by cases h), h6⟩
theorem AV.ge.slc (s own : Bool) (a : AA) {len len' : Nat} (e : len = len') : AV.ge (.slc s own a len) (.slc true own a len') := fun _ _ _ h => by
 subst e
 simp only [Rep, tZ] at h ⊢
 obtain ⟨h1, A, C, h2, h3, h4, h5, h6⟩ := h
 exact ⟨h1, A, C, h2, h3, h4, fun h => (by cases h), h6⟩
def Ge (fr : Fr) : List (Nat × AV) → Prop
 | [] => True
 | p :: l => (∃ u, fr.get p.1 = some u ∧ AV.ge u p.2) ∧ Ge fr l
theorem Ge.get {fr : Fr} : ∀ {l : List (Nat × AV)}, Ge fr l → ∀ p ∈ l, ∃ u, fr.get p.1 = some u ∧ AV.ge u p.2
 | q :: l, h, p, hp => by
  rcases List.mem_cons.1 hp with rfl | hp
  ·exact h.1
  ·exact Ge.get h.2 p hp
def Ia (H : T aF) : List (Nat × aF) → Prop
 | [] => True
 | p :: l => (∃ b, H.get p.1 = some b ∧ dD b p.2) ∧ Ia H l
theorem Ia.get {H : T aF} : ∀ {l : List (Nat × aF)}, Ia H l → ∀ p ∈ l, ∃ b, H.get p.1 = some b ∧ dD b p.2
 | q :: l, h, p, hp => by
  rcases List.mem_cons.1 hp with rfl | hp
  ·exact h.1
  ·exact Ia.get h.2 p hp
theorem aj.gK {c : Code} {fr : Fr} {H : T aF} {fl : List (Nat × AV)} {bl : List (Nat × aF)} {Post : Po} (hf : Ge fr fl) (hH : Ia H bl) (h : aj P c n B K K' (aV fl) (hpL bl) Post) : aj P c n B K K' fr H Post :=
 h.Yh (fun t v ht => hf.get _ (fV ht)) fun i b hb => hH.get _ (aY hb)
theorem AtB.gK {H : T aF} {μ : MM} {w w' : World} {H' : T aF} {fr' : Fr} {a a' : Act} {fl : List (Nat × AV)} {bl : List (Nat × aF)} (hf : Ge fr' fl) (hH : Ia H' bl) (h : AtB n B K H μ w H' fr' a a' w') : AtB n B K H μ w (hpL bl) (aV fl) a a' w' := by
 obtain ⟨μ', k1, k2, k3, k4⟩ := h.of
 have G := fun i b (hb : (hpL bl).get i = some b) => hH.get _ (aY hb)
 have nU : ∀ b, May (μ') (hpL bl) b → May μ' H' b := fun b hm => by
  obtain ⟨i, x, m1, m2, m3, m4⟩ := hm
  obtain ⟨b0, h1, h2⟩ := G i x m1
  exact ⟨i, b0, h1, by rw [h2.owned]; exact m2, (h2.real _ _).2 m3, m4⟩
 refine ⟨μ', ⟨fun i b hb => ?_, fun i b hb => ?_, fun i b j b' hi hj ho hr hr' he => ?_, fun b o q => ⟨(k1.fz b o q).1, fun hm => (k1.fz b o q).2 (nU b hm)⟩⟩, ⟨k2.names, k2.os, k2.tape, k2.output, k2.size, k2.block, fun b hb hm => k2.may b hb (nU b hm), k2.fz⟩, ⟨k3.size, fun t v ht => ?_⟩, k4⟩
 ·obtain ⟨b0, h1, h2⟩ := G i b hb; exact k1.lt i b0 h1
 ·obtain ⟨b0, h1, h2⟩ := G i b hb; exact h2.ok (k1.ok i b0 h1)
 ·obtain ⟨b0, h1, h2⟩ := G i b hi
  obtain ⟨b1, l1, l2⟩ := G j b' hj
  exact k1.sep i b0 j b1 h1 l1 (by rw [h2.owned]; exact ho) ((h2.real _ _).2 hr) ((l2.real _ _).2 hr') he
 ·obtain ⟨u, h1, h2⟩ := hf.get _ (fV ht)
  exact h2 _ _ _ (k3.val t u h1)
theorem aj.post {c : Code} {fr : Fr} {H : T aF} {Post Post' : Po} (h : aj P c n B K K' fr H Post) (k : ∀ e fr' H', Post e fr' H' → ∃ fl bl, Ge fr' fl ∧ Ia H' bl ∧ Post' e (aV fl) (hpL bl)) : aj P c n B K K' fr H Post' :=
 fun μ w a hg hf Q hQ => h μ w a hg hf Q fun e fr' H' a' w' hp ha => by
  obtain ⟨fl, bl, h1, h2, h3⟩ := k _ _ _ hp
  exact hQ e _ _ a' w' h3 (ha.gK h1 h2)
def DK (K' : Nat) (σ : Nat → Nat) (fr : Fr) : List (Nat × AV) → Prop
 | [] => True
 | p :: l => (∃ u, fr.get p.1 = some u ∧ AV.ge u (p.2.ren σ) ∧ p.2.low K' = true) ∧ DK K' σ fr l
def VP (K' : Nat) (σ : Nat → Nat) (H : T aF) : List (Nat × aF) → Prop
 | [] => True
 | p :: l => (∃ b, H.get (σ p.1) = some b ∧ dD b p.2 ∧ p.2.bare ∧ p.1 < K') ∧ VP K' σ H l
theorem DK.get {σ : Nat → Nat} {fr : Fr} : ∀ {l : List (Nat × AV)}, DK K' σ fr l → ∀ p ∈ l, ∃ u, fr.get p.1 = some u ∧ AV.ge u (p.2.ren σ) ∧ p.2.low K' = true
 | q :: l, h, p, hp => by
  rcases List.mem_cons.1 hp with rfl | hp
  ·exact h.1
  ·exact DK.get h.2 p hp
theorem VP.get {σ : Nat → Nat} {H : T aF} : ∀ {l : List (Nat × aF)}, VP K' σ H l → ∀ p ∈ l, ∃ b, H.get (σ p.1) = some b ∧ dD b p.2 ∧ p.2.bare ∧ p.1 < K'
 | q :: l, h, p, hp => by
  rcases List.mem_cons.1 hp with rfl | hp
  ·exact h.1
  ·exact VP.get h.2 p hp
end
end Go.Sx
namespace Go.Sx
open M
inductive Sh where
 | int (k : IntKind)
 | str
 | bool
 | f64
def Sh.ok : Sh → Value → Prop
 | .int k, v => ∃ n, v = .int k n ∧ (Lit.int k n).wf = true
 | .str, v => ∃ s : ByteArray, v = .string s ∧ s.size ≤ maxLen
 | .bool, v => ∃ b, v = .bool b
 | .f64, v => ∃ b, v = .float .f64 b ∧ b < 18446744073709551616
def intOf : Value → Int
 | .int _ n => n
 | _ => 0
def strOf : Value → List UInt8
 | .string s => s.data.toList
 | _ => []
def SB : Value → Bool
 | .bool b => b
 | _ => false
def Yl : Value → Nat
 | .float _ b => b
 | _ => 0
def Sh.av : Sh → Value → AV
 | .int k, v => .int true k (intOf v)
 | .str, v => .str true (strOf v)
 | .bool, v => .bD (SB v)
 | .f64, v => .raw true (Yl v)
theorem Sh.rep {N : Nat} {μ : MM} : ∀ {sh : Sh} {v : Value}, sh.ok v → Rep N μ (sh.av v) v
 | .int k, v, h => by obtain ⟨n, rfl, _⟩ := h; simp only [Sh.av, Rep, intOf]
 | .str, v, h => by obtain ⟨s, rfl, _⟩ := h; simp only [Sh.av, Rep, strOf]
 | .bool, v, h => by obtain ⟨b, rfl⟩ := h; simp only [Sh.av, Rep, SB]
 | .f64, v, h => by obtain ⟨b, rfl, hb⟩ := h; simp only [Sh.av, Rep, Yl]; exact ⟨trivial, hb⟩
theorem Sh.one {sh : Sh} {v : Value} : (sh.av v).one = true := by cases sh <;> rfl
theorem Sh.low {sh : Sh} {v : Value} {N : Nat} : (sh.av v).low N = true := by cases sh <;> rfl
def zO (P : Program) (r : TypeId → Option (List Sh)) : Nat → List Field → Option (List Sh)
 | _, [] => some []
 | off, f :: fs =>
  match r f.type, zO P r (off + P.cellsOf f.type) fs with
  | some l, some m => bif Nat.beq f.offset off && Nat.beq l.length (P.cellsOf f.type) then some (l ++ m) else none
  | _, _ => none
def DL (l : List Sh) : Nat → List Sh
 | 0 => []
 | n + 1 => l ++ DL l n
def Fe (P : Program) : Nat → TypeId → Option (List Sh)
 | 0, _ => none
 | n + 1, t =>
  match P.underlying t with
  | some (.int k) => some [.int k]
  | some .string => some [.str]
  | some .bool => some [.bool]
  | some (.struct fs) => zO P (Fe P n) 0 fs.toList
  | some (.array m e) =>
   match Fe P n e with
   | some l => bif Nat.beq l.length (P.cellsOf e) then some (DL l m) else none
   | none => none
  | _ => none
def Okl (uD : List Sh) (cs : List Value) : Prop := ∀ (i : Nat) (sh : Sh), uD[i]? = some sh → ∃ v, cs[i]? = some v ∧ sh.ok v
section
variable {H : Type} {enc : TypeId × Value → H} {P : Program} {w : World} {base : Nat} {spare : Nat → Bool} {held : Bool}
theorem GV {sh : Sh} {v : Value} (h : sh.ok v) : Okl [sh] [v] := fun i s hi => by
 cases i with
 | zero => simp at hi; subst hi; exact ⟨v, rfl, h⟩
 | succ i => simp at hi
theorem DN {r : TypeId → Option (List Sh)} {cs : List Value} (ih : ∀ t l, r t = some l → ∀ (n : Nat) (c : List Value) (x : DataW H × List MemPlace), DataW.trod enc P w base spare held n t c = some x → Okl l c) :
  ∀ (fs : List Field) (off : Nat) (l : List Sh), zO P r off fs = some l → (∀ f ∈ fs, ∃ (n : Nat) (x : DataW H × List MemPlace), DataW.trod enc P w base spare held n f.type ((cs.drop f.offset).take (P.cellsOf f.type)) = some x) → ∀ (i : Nat) (sh : Sh), l[i]? = some sh → ∃ v, cs[off + i]? = some v ∧ sh.ok v
 | [], off, l, h, _, i, sh, hi => by simp only [zO, Option.some.injEq] at h; subst h; simp at hi
 | f :: fs, off, l, h, hf, i, sh, hi => by
  simp only [zO] at h
  cases h1 : r f.type with
  | none => rw [h1] at h; cases h
  | some a =>
   cases h2 : zO P r (off + P.cellsOf f.type) fs with
   | none => rw [h1, h2] at h; cases h
   | some m =>
    rw [h1, h2] at h
    simp only at h
    cases hb : (Nat.beq f.offset off && Nat.beq a.length (P.cellsOf f.type)) with
    | false => rw [hb, cond_false] at h; cases h
    | true =>
     rw [hb, cond_true] at h
     cases h
     simp only [Bool.and_eq_true] at hb
     have eo := Nat.eq_of_beq_eq_true hb.1
     have el := Nat.eq_of_beq_eq_true hb.2
     by_cases hlt : i < a.length
     ·rw [List.getElem?_append_left hlt] at hi
      obtain ⟨n, x, hx⟩ := hf f List.mem_cons_self
      obtain ⟨v, hv, hok⟩ := ih _ _ h1 n _ x hx i sh hi
      refine ⟨v, ?_, hok⟩
      rw [List.getElem?_take, if_pos (by omega), List.getElem?_drop, eo] at hv
      exact hv
     ·rw [List.getElem?_append_right (by omega)] at hi
      obtain ⟨v, hv, hok⟩ := DN ih fs (off + P.cellsOf f.type) m h2 (fun g hg => hf g (List.mem_cons_of_mem _ hg)) _ sh hi
      refine ⟨v, ?_, hok⟩
      rw [← hv]
      congr 1
      omega
theorem DR (l : List Sh) : ∀ (m i : Nat) (sh : Sh), (DL l m)[i]? = some sh → ∃ j k, j < m ∧ i = j * l.length + k ∧ l[k]? = some sh
 | 0, i, sh, h => by simp [DL] at h
 | m + 1, i, sh, h => by
  simp only [DL] at h
  by_cases hlt : i < l.length
  ·rw [List.getElem?_append_left hlt] at h
   exact ⟨0, i, by omega, by omega, h⟩
  ·rw [List.getElem?_append_right (by omega)] at h
   obtain ⟨j, k, h1, h2, h3⟩ := DR l m _ sh h
   exact ⟨j + 1, k, by omega, by rw [Nat.succ_mul]; omega, h3⟩
theorem P7 : ∀ (n : Nat) (t : TypeId) (uD : List Sh), Fe P n t = some uD → ∀ (fuel : Nat) (cs : List Value) (x : DataW H × List MemPlace), DataW.trod enc P w base spare held fuel t cs = some x → Okl uD cs := by
 intro n
 induction n with
 | zero => intro t uD h; cases h
 | succ n ih =>
  intro t uD h fuel cs x hx
  simp only [Fe] at h
  generalize hu : P.underlying t = u at h
  split at h
  ·cases h
   obtain ⟨k, rfl, _, hw⟩ := DataW.trod_int hu hx
   exact GV ⟨_, rfl, hw⟩
  ·cases h
   obtain ⟨s, rfl, _, hs⟩ := DataW.trod_string hu hx
   exact GV ⟨_, rfl, hs⟩
  ·cases h
   obtain ⟨b, rfl, _⟩ := DataW.trod_bool hu hx
   exact GV ⟨_, rfl⟩
  ·rename_i fs
   obtain ⟨xs, m, _, _, hl, hxl, hf⟩ := DataW.trod_struct hu hx
   intro i sh hi
   have := DN (cs := cs) (fun t l ht k c y hy => ih t l ht k c y hy) fs.toList 0 uD h (fun f hfm => by
    obtain ⟨j, hj, rfl⟩ := List.getElem_of_mem hfm
    have hj' : j < fs.size := by simpa using hj
    have e := hf j fs[j] (by simp [hj'])
    refine ⟨m, xs[j]'(by omega), ?_⟩
    rw [List.getElem?_eq_getElem (by omega)] at e
    simpa using e) i sh hi
   simpa using this
  ·rename_i m e
   cases h1 : Fe P n e with
   | none => rw [h1] at h; cases h
   | some l =>
    rw [h1] at h
    simp only at h
    cases hb : Nat.beq l.length (P.cellsOf e) with
    | false => rw [hb, cond_false] at h; cases h
    | true =>
     rw [hb, cond_true] at h
     cases h
     have el := Nat.eq_of_beq_eq_true hb
     obtain ⟨xs, k, _, _, hl, hxl, hf⟩ := DataW.trod_array hu hx
     intro i sh hi
     obtain ⟨j, q, hj, rfl, hq⟩ := DR l m i sh hi
     have e1 := hf j hj
     rw [List.getElem?_eq_getElem (by omega)] at e1
     obtain ⟨v, hv, hok⟩ := ih e l h1 _ _ _ e1 q sh hq
     refine ⟨v, ?_, hok⟩
     have hql := (List.getElem?_eq_some_iff.1 hq).1
     rw [List.getElem?_take, if_pos (by omega), List.getElem?_drop, ← el] at hv
     exact hv
  ·cases h
end
def AP : List Sh → Nat → (Nat → Value) → List AV
 | [], _, _ => []
 | sh :: l, o, c => sh.av (c o) :: AP l (o + 1) c
theorem GX (l : List Sh) (o : Nat) (c : Nat → Value) : (AP l o c).length = l.length := by
 induction l generalizing o with
 | nil => rfl
 | cons sh l ih => simp [AP, ih]
theorem P8 (l : List Sh) (o : Nat) (c : Nat → Value) (i : Nat) : (AP l o c)[i]? = (l[i]?).map fun sh => sh.av (c (o + i)) := by
 induction l generalizing o i with
 | nil => simp [AP]
 | cons sh l ih =>
  cases i with
  | zero => simp [AP]
  | succ i => simp only [AP, List.getElem?_cons_succ, ih]; rw [show o + 1 + i = o + (i + 1) by omega]
section
open Go.WideShapes
variable {H : Type} {enc : TypeId × Value → H} {P : Program} {W : World} {held : Bool}
theorem rW {w : World} {b o : Nat} {sp : Option Nat} {v : Value} (h : w.cell? ⟨b, o, sp⟩ = some v) : sp = none ∧ ∃ cur ty fz, w.heap[b]? = some (.cells cur ty fz) ∧ cur[o]? = some v := by
 unfold World.cell? at h
 split at h
 ·rename_i c e fz hb
  split at h
  ·cases h
  ·rename_i hs
   refine ⟨by cases sp <;> simp_all, c, e, fz, hb, h⟩
 ·cases h
theorem SC {t e : TypeId} {n : Nat} {uD : List Sh} {fuel : Nat} {v : Value} {x : DataW H × List MemPlace} {sp : Nat → Bool} (ht : P.underlying t = some (.slice e)) (ac1 : Fe P n e = some uD) (hlen : uD.length = P.cellsOf e) (hpos : 0 < uD.length)
  (hd : DataW.trod enc P W 0 sp held fuel t [v] = some x) :
  ∃ (len blk bs : Nat) (c : Nat → Nat → Value),
   (∀ (μ : MM) (i N : Nat), i < N → μ.blk i = blk → μ.base i = bs → μ.sz i = uD.length → Rep N μ (zM i len) v) ∧
   (∀ (μ : MM) (i N : Nat), μ.blk i = blk → μ.base i = bs → μ.sz i = uD.length → bY N μ W.heap i (.cells false uD.length len (.fn fun j => AP uD 0 (c j)))) ∧
   (∀ j, j < len → ∀ (i : Nat) (sh : Sh), uD[i]? = some sh → sh.ok (c j i)) ∧
   ((len = 0 ∧ x.1 = .nil) ∨ ∃ es sps, x.1 = .slice es sps ∧ es.length = len) := by
 rcases Go.Deep.open_slice ht hd with ⟨h0, hx⟩ | ⟨a, len, cap, m, k, D, Pl, h0, _, hl, hm, hmm, hx, hel⟩
 ·cases h0
  refine ⟨0, 0, 0, fun _ _ => undef, fun μ i N hi _ _ _ => ?_, fun μ i N _ _ hs => ⟨hs, hpos, fun h => ?_⟩, fun j hj => by omega, .inl ⟨rfl, by rw [hx]⟩⟩
  ·simp only [zM, Rep, tZ]
   exact ⟨hi, none, 0, rfl, Nat.le_refl _, fun h => absurd h (by omega), fun h => (by cases h), fun h => (by cases h)⟩
  ·rcases h with h | ⟨h, _⟩
   ·exact absurd h (by omega)
   ·cases h
 ·cases h0
  have ag9 : len ≤ m := by rw [hmm]; split <;> omega
  have cell : ∀ j, j < len → ∀ (i : Nat) (sh : Sh), uD[i]? = some sh → ∃ u, W.cell? (a.add (j * uD.length + i)) = some u ∧ sh.ok u := fun j hj i sh hi => by
   obtain ⟨cs', h1, h2⟩ := hel j (by omega)
   obtain ⟨_, hcl, hc⟩ := World.cells?_some h1
   obtain ⟨u, hu, ho⟩ := P7 n e uD ac1 _ _ _ h2 i sh hi
   have hil := (List.getElem?_eq_some_iff.1 hi).1
   refine ⟨u, ?_, ho⟩
   rw [← hu, ← hc i (by omega), ← hlen, Go.Deep.add_add]
  rcases Nat.eq_zero_or_pos len with rfl | h0
  ·refine ⟨0, 0, 0, fun _ _ => undef, fun μ i N hi _ _ _ => ?_, fun μ i N _ _ hs => ⟨hs, hpos, fun h => ?_⟩, fun j hj => by omega, .inr ⟨_, _, by rw [hx], by simp⟩⟩
   ·simp only [zM, Rep, tZ]
    exact ⟨hi, _, _, rfl, hl, fun h => absurd h (by omega), fun h => (by cases h), fun h => (by cases h)⟩
   ·rcases h with h | ⟨h, _⟩
    ·exact absurd h (by omega)
    ·cases h
  obtain ⟨ab, ao, asp⟩ := a
  obtain rfl : asp = none := by
   obtain ⟨u, hu, _⟩ := cell 0 h0 0 uD[0] (List.getElem?_eq_getElem hpos)
   rw [Nat.zero_mul, Nat.zero_add, Addr.add_zero'] at hu
   exact (rW hu).1
  have cell' : ∀ j, j < len → ∀ (i : Nat) (sh : Sh), uD[i]? = some sh → ∃ u, W.cell? ⟨ab, ao + (j * uD.length + i), none⟩ = some u ∧ sh.ok u := fun j hj i sh hi => by
   obtain ⟨u, hu, ho⟩ := cell j hj i sh hi
   rw [Addr.add_lit] at hu
   exact ⟨u, hu, ho⟩
  refine ⟨len, ab, ao, fun j i => (W.cell? ⟨ab, ao + (j * uD.length + i), none⟩).getD undef, fun μ i N hi e1 e2 e3 => ?_, fun μ i N e1 e2 e3 => ⟨e3, hpos, fun h => ?_⟩, fun j hj i sh hi => ?_, .inr ⟨_, _, by rw [hx], by simp⟩⟩
  ·simp only [zM, Rep, tZ]
   exact ⟨hi, _, _, rfl, hl, fun h => by simp [MM.addr, e1, e2], fun h => (by cases h), fun h => (by cases h)⟩
  ·obtain ⟨u, hu, _⟩ := cell' 0 h0 0 uD[0] (List.getElem?_eq_getElem hpos)
   obtain ⟨_, cur, ty, fz, hB, _⟩ := rW hu
   have at' : ∀ j, j < len → ∀ (i : Nat) (sh : Sh), uD[i]? = some sh → ∃ u, cur[ao + (j * uD.length + i)]? = some u ∧ sh.ok u ∧ W.cell? ⟨ab, ao + (j * uD.length + i), none⟩ = some u := fun j hj i sh hi => by
    obtain ⟨u, hu, ho⟩ := cell' j hj i sh hi
    obtain ⟨_, cur', ty', fz', hB', hc'⟩ := rW hu
    rw [hB] at hB'
    cases hB'
    exact ⟨u, hc', ho, hu⟩
   refine ⟨cur, ty, fz, by rw [e1]; exact hB, ?_, fun h => (by cases h), fun j hj => ⟨GX _ _ _, fun o v hv => ?_⟩⟩
   ·obtain ⟨u, hu, _⟩ := at' (len - 1) (by omega) (uD.length - 1) uD[uD.length - 1] (List.getElem?_eq_getElem (by omega))
    have := (Array.getElem?_eq_some_iff.1 hu).1
    have e4 : (len - 1) * uD.length + uD.length = len * uD.length := by rw [← Nat.succ_mul]; congr 1; omega
    rw [e2]; omega
   ·simp only [Cont.row] at hv
    rw [P8] at hv
    cases hs : uD[o]? with
    | none => rw [hs] at hv; cases hv
    | some sh =>
     rw [hs] at hv
     simp only [Option.map_some, Option.some.injEq, Nat.zero_add] at hv
     subst hv
     obtain ⟨u, h1, h2, h3⟩ := at' j hj o sh hs
     refine ⟨Sh.one, u, by rw [e2, Nat.add_assoc]; exact h1, ?_⟩
     rw [h3, Option.getD_some]
     exact Sh.rep h2
  ·obtain ⟨u, hu, ho⟩ := cell' j hj i sh hi
   simp only [hu, Option.getD_some]
   exact ho
end
end Go.Sx
namespace Go.Sx
open M
def kn : Known := fun _ => none
def kc (i : Nat) (s : List AV → M AV) (γ : Known) : Known := fun f => bif Nat.beq f i then some s else γ f
theorem qj {P : Program} : fK P kn := fun f s h => by cases h
theorem lJ : gY kn := fun f s h => by cases h
theorem aH {P : Program} {i : Nat} {s : List AV → M AV} {γ : Known} (h : ∀ args v g g', s args g = .done v g' → bZ P i args v g g') (k : fK P γ) : fK P (kc i s γ) := fun f s' hs => by
 unfold kc at hs
 cases h1 : Nat.beq f i with
 | true => rw [h1] at hs; cases hs; cases Nat.eq_of_beq_eq_true h1; exact h
 | false => rw [h1] at hs; exact k f s' hs
theorem aG {i : Nat} {s : List AV → M AV} {γ : Known} (h : ∀ args, aC (s args)) (k : gY γ) : gY (kc i s γ) := fun f s' hs => by
 unfold kc at hs
 cases h1 : Nat.beq f i with
 | true => rw [h1] at hs; cases hs; exact h
 | false => rw [h1] at hs; exact k f s' hs
def ql : List (Nat × AV) → Prop
 | [] => True
 | p :: l => some p.2 = some p.2 ∧ ql l
theorem Ju : ∀ l, ql l
 | [] => trivial
 | _ :: l => ⟨rfl, Ju l⟩
def qm : List (Nat × aF) → Prop
 | [] => True
 | p :: l => some p.2 = some p.2 ∧ qm l
theorem Jv : ∀ l, qm l
 | [] => trivial
 | _ :: l => ⟨rfl, Jv l⟩
theorem eqn {K' : Nat} {e : Ex} {fl : List (Nat × AV)} {bl : List (Nat × aF)} {r : Aa (Ex × Fr)} {q : Prop} (h : jg K' e fl bl r = (e = e ∧ ql fl ∧ qm bl ∧ true = true ∧ q)) (hq : q) : cO K' e fl bl r :=
 ⟨by rw [h]; exact ⟨rfl, Ju _, Jv _, rfl, hq⟩⟩
structure Gv where
 dA : Nat
 len : Nat
 blk : Nat
 base : Nat
 rows : Nat → List AV
def Gv.bk (v : Gv) : aF := .cells false v.dA v.len (.fn v.rows)
def ac2 (l : List Gv) : MM :=
 ⟨fun i => (l[i]?).elim 0 (·.blk), fun _ => 0, fun i => (l[i]?).elim 0 (·.dA), fun i => (l[i]?).elim 0 (·.base), fun _ => none⟩
def gvL : List Gv → Nat → List (Nat × aF)
 | [], _ => []
 | v :: l, i => (i, v.bk) :: gvL l (i + 1)
theorem yM : ∀ {l : List Gv} {i : Nat} {p : Nat × aF}, p ∈ gvL l i → ∃ j v, l[j]? = some v ∧ p = (i + j, v.bk)
 | [], i, p, h => by cases h
 | v :: l, i, p, h => by
  rcases List.mem_cons.1 h with rfl | h
  ·exact ⟨0, v, rfl, rfl⟩
  ·obtain ⟨j, u, h1, rfl⟩ := yM h
   exact ⟨j + 1, u, by simpa using h1, by rw [show i + 1 + j = i + (j + 1) by omega]⟩
theorem aak {l : List Gv} {hp : Array Obj} (h : ∀ i v, l[i]? = some v → ∀ (μ : MM) (N : Nat), μ.blk i = v.blk → μ.base i = v.base → μ.sz i = v.dA → bY N μ hp i v.bk) : dP l.length (ac2 l) hp (hpL (gvL l 0)) where
 lt := fun i b hb => by
  obtain ⟨j, v, h1, h2⟩ := yM (aY hb)
  cases h2
  have := (List.getElem?_eq_some_iff.1 h1).1
  omega
 ok := fun i b hb => by
  obtain ⟨j, v, h1, h2⟩ := yM (aY hb)
  cases h2
  rw [Nat.zero_add]
  refine h j v h1 _ _ ?_ ?_ ?_ <;> simp [ac2, h1]
 sep := fun i b j b' hi hj ho => by
  obtain ⟨k, v, h1, h2⟩ := yM (aY hi)
  cases h2
  cases ho
 fz := fun b o q => by cases q
theorem aal {l : List Gv} {μ : MM} {B : Nat} : ¬ May μ (hpL (gvL l 0)) B := by
 rintro ⟨i, b, hb, ho, _⟩
 obtain ⟨j, v, h1, h2⟩ := yM (aY hb)
 cases h2
 cases ho
def G.of (bl : List (Nat × aF)) (K : Nat) (path : List Bool) : G := ⟨hpL bl, K, [], path, True⟩
section
variable {P : Program} {n B K K' : Nat}
def MM.at (μ : MM) (K dA : Nat) : MM :=
 ⟨fun i => if i = K then 0 else μ.blk i, fun i => if i = K then 0 else μ.cap i, fun i => if i = K then dA else μ.sz i, fun i => if i = K then 0 else μ.base i, μ.fz⟩
theorem MM.GY (μ : MM) (K dA : Nat) : MM.upto K μ (μ.at K dA) := ⟨fun g hg => if_neg (by omega), fun g hg => if_neg (by omega), fun g hg => if_neg (by omega), fun g hg => if_neg (by omega), fun _ _ q => q⟩
def lK (K : Nat) : AV := .slc true true ⟨false, K, 0, 0⟩ 0
theorem aj.phantom {c : Code} {fr : Fr} {H : T aF} {Post : Po} (t dA : Nat) (rows : Nat → List AV) (ht : fr.get t = some .dL) (hpos : 0 < dA) (hB : B ≤ K)
  (h : aj P c n B (K + 1) K' (fr.upd t (some (lK K))) (H.upd K (some (.cells true dA 0 (.fn rows)))) Post) : aj P c n B K K' fr H Post := by
 intro μ w a hg hf Q hQ
 have hu := MM.GY μ K dA
 have case : ∀ i b, (H.upd K (some (.cells true dA 0 (.fn rows)))).get i = some b → (i = K ∧ b = .cells true dA 0 (.fn rows)) ∨ (i < K ∧ H.get i = some b) := fun i b hb => by
  rw [T.bF] at hb
  split at hb
  ·cases hb; exact .inl ⟨‹_›, rfl⟩
  ·exact .inr ⟨hg.lt _ _ hb, hb⟩
 have unreal : ∀ b, b = aF.cells true dA 0 (.fn rows) → ¬ b.real (μ.at K dA) K := by
  rintro b rfl hr
  simp [aF.real, MM.at] at hr
 have may : ∀ b, May (μ.at K dA) (H.upd K (some (.cells true dA 0 (.fn rows)))) b → May μ H b := by
  rintro b ⟨i, x, m1, m2, m3, m4⟩
  rcases case i x m1 with ⟨rfl, rfl⟩ | ⟨hi, hx⟩
  ·exact (unreal _ rfl m3).elim
  ·rw [aF.aX hu hi] at m3
   rw [hu.blk i hi] at m4
   exact ⟨i, x, hx, m2, m3, m4⟩
 have may' : ∀ b, May μ H b → May (μ.at K dA) (H.upd K (some (.cells true dA 0 (.fn rows)))) b := by
  rintro b ⟨i, x, m1, m2, m3, m4⟩
  have hi := hg.lt _ _ m1
  refine ⟨i, x, ?_, m2, (aF.aX hu hi x).2 m3, by rw [hu.blk i hi]; exact m4⟩
  rw [T.bF, if_neg (by omega)]; exact m1
 have hE : mF B H μ w (H.upd K (some (.cells true dA 0 (.fn rows)))) (μ.at K dA) w := ⟨hu.mono hB, rfl, rfl, rfl, Nat.le_refl _, fun b _ _ => rfl, fun b _ hm => may b hm, fun _ _ q => .inl q⟩
 refine h (μ.at K dA) w a ⟨fun i b hb => ?_, fun i b hb => ?_, fun i b j b' hi hj ho hr hr' he => ?_, fun b o q => ⟨(hg.fz b o q).1, fun hm => (hg.fz b o q).2 (may b hm)⟩⟩ ⟨hf.size, fun t' v hv => ?_⟩ Q fun e fr' H' a' w' hp ha => hQ e fr' H' a' w' hp (AtB.trans hE rfl ha)
 ·rcases case i b hb with ⟨rfl, _⟩ | ⟨hi, _⟩ <;> omega
 ·rcases case i b hb with ⟨rfl, rfl⟩ | ⟨hi, hx⟩
  ·refine ⟨by simp [MM.at], hpos, fun hr => ?_⟩
   simp [MM.at] at hr
  ·exact (hg.ok i b hx).later hu (by omega) hi fun _ => rfl
 ·rcases case i b hi with ⟨rfl, rfl⟩ | ⟨hi1, hx⟩
  ·exact (unreal _ rfl hr).elim
  ·rcases case j b' hj with ⟨rfl, rfl⟩ | ⟨hj1, hy⟩
   ·exact (unreal _ rfl hr').elim
   ·rw [aF.aX hu hi1] at hr
    rw [aF.aX hu hj1] at hr'
    rw [hu.blk i hi1, hu.blk j hj1] at he
    exact hg.sep _ _ _ _ hx hy ho hr hr' he
 ·rw [T.bF] at hv
  split at hv
  ·rename_i htt
   cases hv
   have := hf.val t .dL ht
   rw [htt]
   simp only [Rep] at this
   rw [this]
   simp only [lK, Rep]
   exact ⟨by omega, none, 0, rfl, Nat.le_refl _, fun h => absurd h (by omega), fun h => (by cases h), fun _ => ⟨rfl, rfl, .inl ⟨rfl, rfl, rfl⟩⟩⟩
  ·exact (hf.val t' v hv).later hu (by omega)
def dQ : List AV → List AV → Prop
 | [], [] => True
 | u :: l, v :: l' => AV.ge u v ∧ v.one = true ∧ dQ l l'
 | _, _ => False
theorem dQ.length : ∀ {r r' : List AV}, dQ r r' → r'.length = r.length
 | [], [], _ => rfl
 | u :: l, v :: l', h => by simp [dQ.length h.2.2]
 | [], _ :: _, h => h.elim
 | _ :: _, [], h => h.elim
theorem dQ.get : ∀ {r r' : List AV}, dQ r r' → ∀ {o : Nat} {v : AV}, r'[o]? = some v → ∃ u, r[o]? = some u ∧ AV.ge u v ∧ v.one = true
 | [], [], _, o, v, hv => by simp at hv
 | u :: l, w :: l', h, o, v, hv => by
  cases o with
  | zero => simp at hv; subst hv; exact ⟨u, rfl, h.1, h.2.1⟩
  | succ o => simpa using dQ.get h.2.2 (by simpa using hv)
 | [], _ :: _, h, _, _, _ => h.elim
 | _ :: _, [], h, _, _, _ => h.elim
def qo : aF → aF → Prop
 | .cells own sz m c, .cells own' sz' m' c' => own = own' ∧ sz = sz' ∧ m = m' ∧ ∀ i, i < m → dQ (c.row i) (c'.row i)
 | b, b' => b = b'
theorem qo.owned {b b' : aF} (h : qo b b') : b.owned = b'.owned := by
 cases b <;> cases b' <;> simp_all [qo, aF.owned]
theorem qo.real {b b' : aF} (h : qo b b') (μ : MM) (g : Nat) : b.real μ g ↔ b'.real μ g := by
 cases b <;> cases b' <;> simp_all [qo, aF.real]
theorem qo.ok {N : Nat} {μ : MM} {hp : Array Obj} {g : Nat} {b b' : aF} (h : qo b b') (k : bY N μ hp g b) : bY N μ hp g b' := by
 cases b with
 | cells own sz m c =>
  cases b' with
  | cells own' sz' m' c' =>
   obtain ⟨rfl, rfl, rfl, hr⟩ := h
   refine ⟨k.1, k.2.1, fun hh => ?_⟩
   obtain ⟨cur, ty, fz, h1, h2, h3, h4⟩ := k.2.2 hh
   refine ⟨cur, ty, fz, h1, h2, h3, fun i hi => ⟨(hr i hi).length.trans (h4 i hi).1, fun o v hv => ?_⟩⟩
   obtain ⟨u, e1, e2, e3⟩ := (hr i hi).get hv
   obtain ⟨_, cv, e4, e5⟩ := (h4 i hi).2 o u e1
   exact ⟨e3, cv, e4, e2 _ _ _ e5⟩
  | _ => simp [qo] at h
 | _ => cases b' <;> simp [qo] at h <;> first | exact h ▸ k | (obtain ⟨rfl, rfl⟩ := h; exact k) | (obtain ⟨rfl, rfl, rfl⟩ := h; exact k)
theorem aj.SE {c : Code} {fr pW : Fr} {H H0 : T aF} {Post : Po} (hf : ∀ t v, pW.get t = some v → ∃ u, fr.get t = some u ∧ AV.ge u v) (hH : ∀ i b, H0.get i = some b → ∃ b', H.get i = some b' ∧ qo b' b) (h : aj P c n B K K' pW H0 Post) : aj P c n B K K' fr H Post := by
 intro μ w a hg hfr Q hQ
 refine h μ w a ⟨fun i b hb => let ⟨b', h1, _⟩ := hH i b hb; hg.lt i b' h1, fun i b hb => let ⟨b', h1, h2⟩ := hH i b hb; h2.ok (hg.ok i b' h1), fun i b j b' hi hj ho hr hr' he => ?_, fun b o q => ⟨(hg.fz b o q).1, fun ⟨i, x, m1, m2, m3, m4⟩ => let ⟨b', h1, h2⟩ := hH i x m1; (hg.fz b o q).2 ⟨i, b', h1, by rw [h2.owned]; exact m2, (h2.real μ i).2 m3, m4⟩⟩⟩
  ⟨hfr.size, fun t v ht => let ⟨u, h1, h2⟩ := hf t v ht; h2 _ _ _ (hfr.val t u h1)⟩ Q fun e fr' H' a' w' hp ha => hQ e fr' H' a' w' hp ⟨?_⟩
 ·obtain ⟨b1, h1, h2⟩ := hH i b hi
  obtain ⟨b2, k1, k2⟩ := hH j b' hj
  exact hg.sep i b1 j b2 h1 k1 (by rw [h2.owned]; exact ho) ((h2.real μ i).2 hr) ((k2.real μ j).2 hr') he
 ·obtain ⟨μ', k1, k2, k3, k4⟩ := ha.of
  have may : ∀ b, May μ H0 b → May μ H b := fun b ⟨i, x, m1, m2, m3, m4⟩ => by
   obtain ⟨b', h1, h2⟩ := hH i x m1
   exact ⟨i, b', h1, by rw [h2.owned]; exact m2, (h2.real μ i).2 m3, m4⟩
  exact ⟨μ', k1, ⟨k2.names, k2.os, k2.tape, k2.output, k2.size, fun b hb hn => k2.block b hb fun hm => hn (may b hm), fun b hb hm => may b (k2.may b hb hm), fun b o q => (k2.fz b o q).imp id fun q => q.imp id (may b)⟩, k3, k4⟩
def GeG (H : T aF) : List (Nat × aF) → Prop
 | [] => True
 | p :: l => (∃ b, H.get p.1 = some b ∧ qo b p.2) ∧ GeG H l
theorem GeG.get {H : T aF} : ∀ {l : List (Nat × aF)}, GeG H l → ∀ p ∈ l, ∃ b, H.get p.1 = some b ∧ qo b p.2
 | q :: l, h, p, hp => by
  rcases List.mem_cons.1 hp with rfl | hp
  ·exact h.1
  ·exact GeG.get h.2 p hp
end
def rd (dA : Nat) (x : AV) (p : Nat → (Nat → List AV) → Prop) : M (Nat × (Nat → List AV)) :=
 (nG dA x).andThen fun y => (req (p y.2.1 y.2.2 ∧ ∀ j, j < y.2.1 → ∀ u, u ∈ y.2.2 j → u.low 0 = true)).andThen fun _ => ret (y.2.1, y.2.2)
theorem NW {dA : Nat} {x : AV} {p : Nat → (Nat → List AV) → Prop} {y : Nat × (Nat → List AV)} {g g' : G} (h : rd dA x p g = .done y g') (he : 0 < dA) :
  ∃ q, Keep g g' q ∧ (q → Vw.Ok ⟨x, dA, y.1, y.2⟩ g ∧ p y.1 y.2) := by
 unfold rd at h
 obtain ⟨z, g1, a1, h1⟩ := au h
 obtain ⟨_, g2, a2, h2⟩ := au h1
 obtain ⟨rfl, rfl⟩ := aB h2
 obtain ⟨q1, k1, f1⟩ := Vw.Ok.of a1 he
 have k2 := iZ a2
 exact ⟨_, k1.trans k2, fun ⟨e1, e2, e3⟩ => ⟨f1 e1 e3, e2⟩⟩
theorem aC.rd (dA : Nat) (x : AV) (p : Nat → (Nat → List AV) → Prop) : aC (Sx.rd dA x p) := (aC.nG _ _).andThen fun _ => (aC.req _).andThen fun _ => aC.ret _
theorem Vw.Ok.same {v : Vw} {g g' : G} {q : Prop} (h : v.Ok g') (k : Keep g g' q) : v.Ok g :=
 ⟨h.pos, h.bare, fun N μ w hg => h.view N μ w (by rw [k.1]; exact hg), h.val⟩
def newS (dA len : Nat) (rows : Nat → List AV) : M AV := (fD (.cells true dA len (.fn rows))).andThen fun nm => ret (.slc true true ⟨false, nm, 0, 0⟩ len)
theorem aC.newS (dA len : Nat) (rows : Nat → List AV) : aC (Sx.newS dA len rows) := (aC.fD _).andThen fun _ => aC.ret _
theorem Fg {dA len : Nat} {rows : Nat → List AV} {v : AV} {g g' : G} (h : newS dA len rows g = .done v g') : v = .slc true true ⟨false, g.nx, 0, 0⟩ len ∧ g'.H = kS g.H g.nx [.cells true dA len (.fn rows)] ∧ g'.nx = g.nx + 1 ∧ g'.cs = g.cs := by
 unfold newS at h
 obtain ⟨nm, g1, a1, h1⟩ := au h
 obtain ⟨rfl, rfl⟩ := aB h1
 cases a1
 exact ⟨rfl, rfl, rfl, rfl⟩
theorem res1 {P : Program} {rs : List ResultVar} {t K : Nat} {fr : Fr} {H : T aF} {v : AV} (e : rs = [.tmp t]) (h : fr.get t = some v) : dH P fr rs ⟨H, K, [], [], True⟩ = .done [v] ⟨H, K, [], [], True⟩ := by
 subst e
 simp only [dH, mZ, h, Option.getD_some]; rfl
theorem res2 {P : Program} {rs : List ResultVar} {t t' K : Nat} {fr : Fr} {H : T aF} {v v' : AV} (e : rs = [.tmp t, .tmp t']) (h : fr.get t = some v) (h' : fr.get t' = some v') : dH P fr rs ⟨H, K, [], [], True⟩ = .done [v, v'] ⟨H, K, [], [], True⟩ := by
 subst e
 simp only [dH, mZ, h, h', Option.getD_some]; rfl
theorem AV.ge.afJ {u v u' v' : AV} (h : AV.ge u u') (h' : AV.ge v v') : AV.ge (.lZ [u, v]) (.lZ [u', v']) := fun N μ cv hr => by
 simp only [Rep, aO] at hr ⊢
 obtain ⟨cs, e, c, r, e1, h1, c', r', e2, h2, e3⟩ := hr
 exact ⟨cs, e, c, r, e1, h _ _ _ h1, c', r', e2, h' _ _ _ h2, e3⟩
end Go.Sx
namespace Go.Sx
open M
def zre : List AV → Int
 | [.int _ .u64 a, .int _ .u64 _] => a
 | _ => 0
def zim : List AV → Int
 | [.int _ .u64 _, .int _ .u64 b] => b
 | _ => 0
def P9 (r : List AV) : List AV := [.int true .u64 (zre r), .int true .u64 (zim r)]
def ac3 (r : List AV) : Prop := (∃ s s', r = [.int s .u64 (zre r), .int s' .u64 (zim r)]) ∧ 0 ≤ zre r ∧ zre r < 18446744073709551616 ∧ 0 ≤ zim r ∧ zim r < 18446744073709551616
theorem ac3.ge {r : List AV} (h : ac3 r) : dQ r (P9 r) := by
 obtain ⟨⟨s, s', e⟩, _⟩ := h
 rw [e]
 exact ⟨AV.ge.int _ _ _ _, rfl, AV.ge.int _ _ _ _, rfl, trivial⟩
def cre : List AV → Nat
 | [.vW _ a _] => a
 | _ => 0
def cim : List AV → Nat
 | [.vW _ _ b] => b
 | _ => 0
def afK (r : List AV) : List AV := [.vW true (cre r) (cim r)]
def Fw (x : Nat) : Prop := x < 18446744073709551616 ∧ cn x = x
def SG (r : List AV) : Prop := (∃ s, r = [.vW s (cre r) (cim r)]) ∧ Fw (cre r) ∧ Fw (cim r)
theorem SG.ge {r : List AV} (h : SG r) : dQ r (afK r) := by
 obtain ⟨⟨s, e⟩, _⟩ := h
 rw [e]
 exact ⟨AV.ge.afH _ _ rfl rfl, rfl, trivial⟩
theorem Fw.cn {x : Nat} (h : x < 18446744073709551616) : Fw (cn x) := ⟨acW h, acB x⟩
theorem SG.bare {r : List AV} (h : SG r) : ∀ u, u ∈ r → u.low 0 = true := by
 obtain ⟨⟨s, e⟩, _⟩ := h
 rw [e]
 intro u hu
 simp at hu
 subst hu; rfl
def ac4 (len : Nat) (rows : Nat → List AV) : Prop := ∀ j, j < len → SG (rows j)
end Go.Sx
namespace Go.Sx
theorem write_lt (d : Ieee.Datum) : Ieee.double.write d < 18446744073709551616 := by
 have hb := GL
 have hi := Dw
 have hs := zJ
 have wd : ∀ s r, r < 9218868437227405312 + 4503599627370496 → Ieee.double.word s r < 18446744073709551616 := fun s r h => by
  unfold Ieee.Format.word
  rw [hs]
  cases s
  ·show r < 18446744073709551616; omega
  ·show 9223372036854775808 + r < 18446744073709551616; omega
 cases d with
 | number s m p =>
  unfold Ieee.Format.write Ieee.Format.nearest
  dsimp only
  split
  ·exact wd _ _ (by omega)
  ·exact wd _ _ (Nat.lt_of_le_of_lt (Nat.min_le_right ..) (by omega))
 | infinity s => exact wd _ _ (by omega)
 | nan s r => exact wd _ _ (by rw [hi, hb]; have := Nat.mod_lt r (show 0 < 4503599627370496 by omega); omega)
theorem VQ (x y : Nat) : oK x y < 18446744073709551616 := by
 unfold oK Ieee.Format.add
 cases (Ieee.double.read x).sum (Ieee.double.read y) with
 | none => show qn < _; decide
 | some d => exact write_lt d
end Go.Sx
namespace Go.Sx
open Go.WideShapes
section
variable {H : Type} {enc : TypeId × Value → H} {P : Program} {W : World} {held : Bool}
end
end Go.Sx
namespace Go.Sx
open Go.WideShapes
section
variable {H : Type} {enc : TypeId × Value → H} {P : Program} {W : World} {held : Bool}
end
end Go.Sx
namespace Go.Sx
theorem rX {n : Nat} (hn : n ≠ 0) : ∀ k, (n * 2 ^ k).log2 = n.log2 + k
 | 0 => by simp
 | k + 1 => by
  have h : n * 2 ^ k ≠ 0 := Nat.mul_ne_zero hn (Nat.ne_of_gt (Nat.two_pow_pos k))
  rw [Nat.pow_succ, ← Nat.mul_assoc, Nat.mul_comm (n * 2 ^ k) 2, Nat.log2_two_mul h, rX hn k]
  omega
theorem Fh (s : Bool) {n : Nat} (hn : n ≠ 0) (d k : Nat) : Ieee.Toward.even.cut s (n * 2 ^ k) (d + k) = Ieee.Toward.even.cut s n d := by
 have hp : 0 < 2 ^ k := Nat.two_pow_pos k
 unfold Ieee.Toward.cut
 rw [rX hn k, show min (d + k) (n.log2 + k + 2) = min d (n.log2 + 2) + k by omega]
 generalize min d (n.log2 + 2) = a
 have e1 : 1 <<< (a + k) = (1 <<< a) * 2 ^ k := by rw [Nat.shiftLeft_eq, Nat.shiftLeft_eq, Nat.pow_add, Nat.mul_assoc]
 simp only [e1]
 generalize 1 <<< a = g
 have e2 : n * 2 ^ k / (g * 2 ^ k) = n / g := Nat.mul_div_mul_right _ _ hp
 have e3 : n * 2 ^ k % (g * 2 ^ k) = n % g * 2 ^ k := Nat.mul_mod_mul_right _ _ _
 rw [e2, e3]
 generalize n % g = r
 have e4 : decide (g * 2 ^ k < 2 * (r * 2 ^ k)) = decide (g < 2 * r) := decide_eq_decide.2 (by rw [← Nat.mul_assoc]; exact Nat.mul_lt_mul_right hp)
 have e5 : (g * 2 ^ k == 2 * (r * 2 ^ k)) = (g == 2 * r) := by
  rw [← Nat.mul_assoc]
  rw [Bool.eq_iff_iff]
  simp only [beq_iff_eq]
  exact ⟨fun hh => Nat.eq_of_mul_eq_mul_right hp hh, fun hh => by rw [hh]⟩
 rw [e4, e5]
theorem VR : (Ieee.double.fractionBits : Int) = 52 := rfl
def rung (s : Bool) (m : Nat) (p : Int) : Nat :=
 (max (p + m.log2 - 52) (-1074) - -1074).toNat * 4503599627370496 + Ieee.Toward.even.cut s (m <<< (p - max (p + m.log2 - 52) (-1074)).toNat) (max (p + m.log2 - 52) (-1074) - p).toNat
theorem DT (s : Bool) {m : Nat} (hm : m ≠ 0) (p : Int) : Ieee.double.nearest s m p = Ieee.double.word s (min (rung s m p) 9218868437227405312) := by
 unfold Ieee.Format.nearest
 rw [if_neg hm]
 simp only [VR, RZ, GL, Dw]
 rfl
theorem DU (s : Bool) {m : Nat} (hm : m ≠ 0) (k : Nat) (p : Int) : rung s (m * 2 ^ k) (p - k) = rung s m p := by
 unfold rung
 rw [rX hm k, show p - (k : Int) + ((m.log2 + k : Nat) : Int) - 52 = p + m.log2 - 52 by omega]
 generalize max (p + m.log2 - 52) (-1074) = L
 congr 1
 by_cases h1 : L ≤ p
 ·by_cases h2 : L ≤ p - k
  ·rw [show (L - (p - k)).toNat = 0 by omega, show (L - p).toNat = 0 by omega]
   congr 1
   rw [Nat.shiftLeft_eq, Nat.shiftLeft_eq, Nat.mul_assoc, ← Nat.pow_add, show k + (p - k - L).toNat = (p - L).toNat by omega]
  ·rw [show (p - k - L).toNat = 0 by omega, show (L - p).toNat = 0 by omega]
   have e : k = (p - L).toNat + (L - (p - k)).toNat := by omega
   have hm' : m * 2 ^ (p - L).toNat ≠ 0 := Nat.mul_ne_zero hm (Nat.ne_of_gt (Nat.two_pow_pos _))
   have := Fh s hm' 0 (L - (p - k)).toNat
   rw [Nat.zero_add, Nat.mul_assoc, ← Nat.pow_add, ← e] at this
   rw [Nat.shiftLeft_zero, Nat.shiftLeft_eq]
   exact this
 ·rw [show (p - k - L).toNat = 0 by omega, show (p - L).toNat = 0 by omega, Nat.shiftLeft_zero, Nat.shiftLeft_zero, show (L - (p - k)).toNat = (L - p).toNat + k by omega]
  exact Fh s hm _ _
theorem Jw (s : Bool) (n : Nat) : Ieee.Toward.even.cut s n 0 = n := by
 unfold Ieee.Toward.cut
 simp [Nat.mod_one]
theorem LX (s : Bool) {S : Nat} (h : S < 9007199254740992) (h0 : S ≠ 0) : rung s S (-1074) = S := by
 have hl : S.log2 < 53 := (Nat.log2_lt h0).2 h
 unfold rung
 rw [show max (-1074 + (S.log2 : Int) - 52) (-1074) = -1074 by omega]
 simp [Jw]
def Fj (S : Nat) : Nat := Ieee.double.nearest false S (-1074)
theorem LY : Fj 0 = 0 := rfl
theorem DV {S : Nat} (h : S ≠ 0) : Fj S = min (rung false S (-1074)) 9218868437227405312 := by
 unfold Fj; rw [DT _ h, LH]
theorem Jy {S : Nat} (h : S < 9007199254740992) : Fj S = S := by
 by_cases h0 : S = 0
 ·subst h0; rfl
 ·rw [DV h0, LX _ h h0]; omega
theorem VT {r : Nat} (h : r < 9218868437227405312) : Fj (U r) = r := by
 by_cases hr : r < 4503599627370496
 ·have : U r = r := by unfold U; rw [if_pos hr]
  rw [this]; exact Jy (by omega)
 ·have hU : U r = (4503599627370496 + r % 4503599627370496) * 2 ^ (r / 4503599627370496 - 1) := by unfold U; rw [if_neg hr]
  have hf : (4503599627370496 + r % 4503599627370496).log2 = 52 := by
   have h1 : 52 ≤ (4503599627370496 + r % 4503599627370496).log2 := (Nat.le_log2 (by omega)).2 (by omega)
   have h2 : (4503599627370496 + r % 4503599627370496).log2 < 53 := (Nat.log2_lt (by omega)).2 (by omega)
   omega
  have hm : 4503599627370496 + r % 4503599627370496 ≠ 0 := by omega
  have h0 : U r ≠ 0 := by rw [hU]; exact Nat.mul_ne_zero hm (Nat.ne_of_gt (Nat.two_pow_pos _))
  rw [DV h0, hU]
  have e := DU false hm (r / 4503599627370496 - 1) (-1074 + ((r / 4503599627370496 - 1 : Nat) : Int))
  rw [show -1074 + ((r / 4503599627370496 - 1 : Nat) : Int) - ((r / 4503599627370496 - 1 : Nat) : Int) = -1074 by omega] at e
  rw [e]
  have e2 : rung false (4503599627370496 + r % 4503599627370496) (-1074 + ((r / 4503599627370496 - 1 : Nat) : Int)) = r := by
   unfold rung
   rw [hf, show max (-1074 + ((r / 4503599627370496 - 1 : Nat) : Int) + ((52 : Nat) : Int) - 52) (-1074) = -1074 + ((r / 4503599627370496 - 1 : Nat) : Int) by omega]
   rw [show (-1074 + ((r / 4503599627370496 - 1 : Nat) : Int) - (-1074 + ((r / 4503599627370496 - 1 : Nat) : Int))).toNat = 0 by omega, Nat.shiftLeft_zero, Jw, show (-1074 + ((r / 4503599627370496 - 1 : Nat) : Int) - -1074).toNat = r / 4503599627370496 - 1 by omega]
   omega
  rw [e2]; omega
end Go.Sx
namespace Go.Sx
theorem VU (x y : Nat) : FV x y < 18446744073709551616 := by
 unfold FV Ieee.Format.mul
 cases (Ieee.double.read x).product (Ieee.double.read y) with
 | none => show qn < _; decide
 | some d => exact write_lt d
theorem VW (s : Bool) {T : Nat} {p : Int} (hp : -1074 ≤ p) : Ieee.double.nearest s T p = Ieee.double.word s (Fj (T * 2 ^ (p - -1074).toNat)) := by
 by_cases h : T = 0
 ·subst h
  rw [Nat.zero_mul, LY]; rfl
 ·have h2 : T * 2 ^ (p - -1074).toNat ≠ 0 := Nat.mul_ne_zero h (Nat.ne_of_gt (Nat.two_pow_pos _))
  rw [DT s h, DV h2]
  have e := DU false h (p - -1074).toNat p
  rw [show p - ((p - -1074).toNat : Int) = -1074 by omega] at e
  rw [e]
  rfl
theorem SH (s : Bool) {r : Nat} (h : r < 9223372036854775808) : Ieee.double.word s r % 9223372036854775808 = r := by
 unfold Ieee.Format.word
 rw [zJ]
 cases s
 ·show r % _ = r; omega
 ·show (9223372036854775808 + r) % _ = r; omega
theorem goes_true {P : Program} {f : FuncId} {fn : Func} {c : Code} (hf : P.funcs[f]? = some fn) (hb : fn.body = some c) (hname : (fn.name == "runtime.NumGoroutine") = false) {args : List AV} {bl : List (Nat × aF)} {K K' t : Nat} (hres : fn.results.toList = [.tmp t])
  (h : aj P c fn.ntmps K K K' (bJ args 0 .e) (hpL bl) fun e fr' H' => (e = .ret ∨ e = .normal) ∧ ∃ u, fr'.get t = some u ∧ AV.ge u (.bool true)) {μ : MM} {w : World} (hg : dP K μ w.heap (hpL bl)) (hno : ∀ B, ¬ May μ (hpL bl) B) {bW : Array Value} (ha : aO K μ args bW.toList) :
  Calls P f bW w fun e w' => e = .returned (.bool true) ∧ RowKit.Below w.heap.size w w' := by
 have hc := aj.call hf hb hname (V := fun u H' => AV.ge u (.bool true)) (h.mono fun e fr' H' ⟨k1, u, k2, k3⟩ => ⟨k1, [u], _, res1 hres k2, trivial, k3⟩) μ w hg ha
 have main : ∀ c w', (∃ v μ' H', AV.ge v (.bool true) ∧ Rep K' μ' v c ∧ dP K' μ' w'.heap H' ∧ mF K (hpL bl) μ w H' μ' w') → c = .bool true ∧ RowKit.Below w.heap.size w w' := by
  rintro c w' ⟨v, μ', H', h1, h2, _, hE⟩
  have := h1 _ _ _ h2
  simp only [Rep] at this
  exact ⟨this, hE.os, hE.tape, hE.output, hE.size, fun k hk => hE.block k hk (hno k)⟩
 rcases hc with ⟨cv, w', e, _⟩ | ⟨f', args', w', e, hc⟩
 ·rw [qM hf hname hb] at e; cases e
 ·rw [qM hf hname hb] at e
  cases e
  refine hc.mono ?_
  rintro e1 w1 ⟨cv, rfl, h1⟩
  obtain ⟨h2, h3⟩ := main cv w1 h1
  exact ⟨by rw [h2], h3⟩
end Go.Sx
namespace Go.Sx
open M
variable {P : Program} {n B K K' : Nat}
theorem re {fr : Fr} {t : Nat} {v : AV} (h : fr.get t = some v) : ∃ u, fr.get t = some u ∧ AV.ge u v := ⟨_, h, AV.ge.refl _⟩
theorem ri {fr : Fr} {t : Nat} {s s' : Bool} {k : IntKind} {x : Int} (h : fr.get t = some (.int s k x)) : ∃ u, fr.get t = some u ∧ AV.ge u (.int s' k x) := ⟨_, h, AV.ge.int _ _ _ _⟩
theorem hs {H : T aF} {i : Nat} {b : aF} (h : H.get i = some b) : ∃ b', H.get i = some b' ∧ dD b' b := ⟨_, h, dD.refl _⟩
theorem rn {fr : Fr} {t K' : Nat} {σ : Nat → Nat} {v : AV} (h : fr.get t = some (v.ren σ)) (hl : v.low K' = true) : ∃ u, fr.get t = some u ∧ AV.ge u (v.ren σ) ∧ v.low K' = true := ⟨_, h, AV.ge.refl _, hl⟩
theorem aj.count {c : Code} {id : Nat} (len : Nat) (F : Nat → List (Nat × AV)) (Hh : Nat → List (Nat × aF)) (Z : List (Nat × AV)) (ZH : List (Nat × aF)) (g : Nat → Prop) (R : Fr → T aF → Prop) (g0 : g 0)
  (h : ∀ i, i ≤ len → g i → aj P c n B K K (aV (F i)) (hpL (Hh i)) fun e fr H => (e = .normal ∧ i < len ∧ g (i + 1) ∧ fr = aV (F (i + 1)) ∧ H = hpL (Hh (i + 1))) ∨ (e = .exit id ∧ g len ∧ fr = aV Z ∧ H = hpL ZH) ∨ (e = .ret ∧ R fr H)) :
  aj P (.block id (.loop c)) n B K K (aV (F 0)) (hpL (Hh 0)) fun e fr H => (e = .normal ∧ g len ∧ fr = aV Z ∧ H = hpL ZH) ∨ (e = .ret ∧ R fr H) := by
 refine aj.block ((aj.loop (fun k fr H => ∃ i, k = len - i ∧ i ≤ len ∧ g i ∧ fr = aV (F i) ∧ H = hpL (Hh i)) (Post := fun e fr H => (e = .exit id ∧ g len ∧ fr = aV Z ∧ H = hpL ZH) ∨ (e = .ret ∧ R fr H)) ?_ _ _ _ ⟨0, rfl, by omega, g0, rfl, rfl⟩).mono fun e fr H hp => ?_)
 ·rintro k fr H ⟨i, rfl, hi, hg, rfl, rfl⟩
  refine (h i hi hg).mono fun e fr H hp => ?_
  rcases hp with ⟨rfl, h1, h2, h3, h4⟩ | ⟨rfl, h1, h2, h3⟩ | ⟨rfl, h1⟩
  ·exact ⟨len - (i + 1), by omega, i + 1, rfl, by omega, h2, h3, h4⟩
  ·exact .inl ⟨rfl, h1, h2, h3⟩
  ·exact .inr ⟨rfl, h1⟩
 ·rcases hp with ⟨rfl, h1, h2, h3⟩ | ⟨rfl, h1⟩
  ·simp only [if_true]; exact .inl ⟨trivial, h1, h2, h3⟩
  ·exact .inr ⟨rfl, h1⟩
theorem VY (a b : Nat) : Nat.beq a b = decide (a = b) := by
 cases h : Nat.beq a b
 ·simp [Nat.ne_of_beq_eq_false h]
 ·simp [Nat.eq_of_beq_eq_true h]
theorem Bl (r : Nat → List AV) (z v : List AV) (i j : Nat) (e : r i = v := by rfl) : (bif Nat.beq j i then v else bif decide (j < i) then r j else z) = bif decide (j < i + 1) then r j else z := by
 subst e
 rw [VY]
 by_cases h : j = i
 ·subst h; simp
 ·by_cases h2 : j < i
  ·simp [h, h2, show j < i + 1 by omega]
  ·simp [h, h2, show ¬ j < i + 1 by omega]
def ac5 (n : Nat) : Prop := n * 16 ≤ 140737488355328
def cL (n : Nat) (rows : Nat → List AV) : Prop := ac5 n ∧ ac4 n rows
noncomputable def c1 (x : AV) (k : Nat → (Nat → Nat) → (Nat → Nat) → M AV) : M AV := (rd 1 x cL).andThen fun a => k a.1 (fun j => cre (a.2 j)) (fun j => cim (a.2 j))
noncomputable def c2 (x y : AV) (k : Nat → (Nat → Nat) → (Nat → Nat) → Nat → (Nat → Nat) → (Nat → Nat) → M AV) : M AV := c1 x fun n a b => c1 y fun m c d => k n a b m c d
theorem aC.c1 (x : AV) {k : Nat → (Nat → Nat) → (Nat → Nat) → M AV} (h : ∀ n a b, aC (k n a b)) : aC (Sx.c1 x k) := (aC.rd _ _ _).andThen fun _ => h _ _ _
theorem aC.c2 (x y : AV) {k : Nat → (Nat → Nat) → (Nat → Nat) → Nat → (Nat → Nat) → (Nat → Nat) → M AV} (h : ∀ n a b m c d, aC (k n a b m c d)) : aC (Sx.c2 x y k) := aC.c1 _ fun _ _ _ => aC.c1 _ fun _ _ _ => h _ _ _ _ _ _
structure Named (v : Nat → AV) : Prop where
 ren : ∀ N σ, (v N).ren σ = v (σ N)
 low : ∀ N, (v N).low (N + 1) = true
 ins : ∀ N, (v N).iy fun i => N ≤ i
theorem Named.slc (len : Nat) : Named fun N => .slc true true ⟨false, N, 0, 0⟩ len := ⟨fun N σ => rfl, fun N => by simp [AV.low], fun N => Nat.le_refl N⟩
theorem Named.lZ (len : Nat) (e : Int) : Named fun N => .lZ [.slc true true ⟨false, N, 0, 0⟩ len, .int true .i64 e] := ⟨fun N σ => rfl, fun N => by simp [AV.low, mD], fun N => by simp [AV.iy, lC]⟩
section
variable {P : Program} {f : FuncId} {fn : Func} {c : Code} (hf : P.funcs[f]? = some fn) (hb : fn.body = some c) (hname : (fn.name == "runtime.NumGoroutine") = false)
include hf hb hname
end
end Go.Sx
namespace Go.Sx
open Ieee (Datum)
theorem SI (a b : Datum) : a.sum b = b.sum a := by
 cases a <;> cases b <;> simp only [Ieee.Datum.sum]
 ·rename_i s m i t n j
  rw [Int.min_comm, Int.add_comm, Bool.and_comm]
 ·rename_i s t
  cases s <;> cases t <;> rfl
theorem vH (x y : Nat) : oK x y = oK y x := by
 unfold oK Ieee.Format.add
 rw [SI]
theorem VZ (x y : Nat) : BD x y < 18446744073709551616 := by
 unfold BD Ieee.Format.sub
 cases (Ieee.double.read x).sum (Ieee.double.read y).opposite with
 | none => show qn < _; decide
 | some d => exact write_lt d
theorem SK (s : Bool) (r : Nat) : Ieee.double.word s r = (bif s then 9223372036854775808 else 0) + r := by
 unfold Ieee.Format.word
 rw [zJ]
 cases s <;> simp
def E0 (x y : Nat) : Prop := x = y ∨ (x % 9223372036854775808 = 0 ∧ y % 9223372036854775808 = 0)
theorem E0.refl (x : Nat) : E0 x x := .inl rfl
theorem E0.of {x y : Nat} (h : x = y) : E0 x y := .inl h
theorem E0.symm {x y : Nat} (h : E0 x y) : E0 y x := by
 rcases h with rfl | ⟨h1, h2⟩
 ·exact .inl rfl
 ·exact .inr ⟨h2, h1⟩
theorem E0.trans {x y z : Nat} (h : E0 x y) (k : E0 y z) : E0 x z := by
 rcases h with rfl | ⟨h1, h2⟩
 ·exact k
 ·rcases k with rfl | ⟨k1, k2⟩
  ·exact .inr ⟨h1, h2⟩
  ·exact .inr ⟨h1, k2⟩
theorem SL {x y : Nat} (h : isnan x = true ∨ isnan y = true) : oK x y = qn := by
 unfold oK Ieee.Format.add
 have r := fun z => Ij z
 rcases h with h | h
 ·have := r x
  rw [h] at this
  cases e : Ieee.double.read x <;> rw [e] at this <;> first | rfl | cases this
 ·have := r y
  rw [h] at this
  cases e : Ieee.double.read y <;> rw [e] at this <;> first | (cases Ieee.double.read x <;> rfl) | cases this
theorem LZ (s : Bool) (p : Int) : Ieee.double.write (.number s 0 p) % 9223372036854775808 = 0 := by
 show Ieee.double.nearest s 0 p % _ = 0
 unfold Ieee.Format.nearest
 rw [if_pos rfl, SH s (by omega)]
theorem NY {x : Nat} (h : x < 18446744073709551616) : Ieee.double.word (x / 9223372036854775808 % 2 == 1) (x % 9223372036854775808) = x := by
 rw [SK, acV h]
 by_cases c : 9223372036854775808 ≤ x
 ·rw [decide_eq_true c]; simp; omega
 ·rw [decide_eq_false c]; simp; omega
theorem Fp {z : Nat} (h : z % 9223372036854775808 = 0) : Ieee.double.read z = .number (z / 9223372036854775808 % 2 == 1) 0 (-1074) := by
 unfold Ieee.Format.read
 simp only [zJ, h]
 rfl
theorem Fq {x z : Nat} (hx : Fw x) (hz : z % 9223372036854775808 = 0) : E0 (oK x z) x := by
 have hl := hx.1
 cases nx : isnan x with
 | true =>
  have : x = qn := by rw [← hx.2]; exact iF nx
  rw [SL (.inl nx), this]; exact .refl _
 | false =>
  have hm := Y7 nx
  by_cases hi : x % 9223372036854775808 = 9218868437227405312
  ·unfold oK Ieee.Format.add
   rw [Sj hi, Fp hz]
   refine .of ?_
   show Ieee.double.word _ Ieee.double.infRung = x
   rw [Dw, ← hi]
   exact NY hl
  ·obtain ⟨m, i, e1, i1, u1⟩ := Si (x := x) (by omega)
   unfold oK Ieee.Format.add
   rw [e1, Fp hz]
   have hmin : min i (-1074) = -1074 := by omega
   have tot : Ieee.signed (x / 9223372036854775808 % 2 == 1) m (i - -1074).toNat + Ieee.signed (z / 9223372036854775808 % 2 == 1) 0 (-1074 - -1074 : Int).toNat = (if (x / 9223372036854775808 % 2 == 1) then -(U (x % 9223372036854775808) : Int) else (U (x % 9223372036854775808) : Int)) := by
    unfold Ieee.signed
    rw [Nat.shiftLeft_eq, u1]
    cases (x / 9223372036854775808 % 2 == 1) <;> cases (z / 9223372036854775808 % 2 == 1) <;> simp
   simp only [Ieee.Datum.sum, hmin, Option.map_some, Option.getD_some, tot]
   by_cases h0 : x % 9223372036854775808 = 0
   ·refine .inr ⟨?_, h0⟩
    rw [h0]
    cases (x / 9223372036854775808 % 2 == 1) <;> exact LZ _ _
   ·have hU : U (x % 9223372036854775808) ≠ 0 := fun c => h0 (RY.1 (c.trans Y6.symm))
    refine .of ?_
    have hw : ∀ s : Bool, (x / 9223372036854775808 % 2 == 1) = s → Ieee.double.write (.number (if (if s then -(U (x % 9223372036854775808) : Int) else (U (x % 9223372036854775808) : Int)) = 0 then s && (z / 9223372036854775808 % 2 == 1) else decide ((if s then -(U (x % 9223372036854775808) : Int) else (U (x % 9223372036854775808) : Int)) < 0)) (if s then -(U (x % 9223372036854775808) : Int) else (U (x % 9223372036854775808) : Int)).natAbs (-1074)) = x := fun s hs => by
     have e2 : Ieee.double.write (.number s (U (x % 9223372036854775808)) (-1074)) = x := by
      show Ieee.double.nearest s _ _ = x
      rw [VW s (by omega)]
      have : (-1074 - -1074 : Int).toNat = 0 := by omega
      rw [this, Nat.pow_zero, Nat.mul_one, VT (by omega), ← hs]
      exact NY hl
     cases s with
     | false =>
      simp only [Bool.false_eq_true, if_false]
      rw [if_neg (by omega), decide_eq_false (by omega), Int.natAbs_natCast]
      exact e2
     | true =>
      simp only [if_true]
      rw [if_neg (by omega), decide_eq_true (by omega), Int.natAbs_neg, Int.natAbs_natCast]
      exact e2
    exact hw _ rfl
theorem E0.add {u u' v v' : Nat} (hu : Fw u) (hu' : Fw u') (hv : Fw v) (hv' : Fw v') (h : E0 u u') (k : E0 v v') : E0 (oK u v) (oK u' v') := by
 have left : ∀ {a z z' : Nat}, Fw a → z % 9223372036854775808 = 0 → z' % 9223372036854775808 = 0 → E0 (oK a z) (oK a z') := fun ha h1 h2 => (Fq ha h1).trans (Fq ha h2).symm
 rcases k with rfl | ⟨k1, k2⟩
 ·rcases h with rfl | ⟨h1, h2⟩
  ·exact .refl _
  ·rw [vH u v, vH u' v]; exact left hv h1 h2
 ·refine (left hu k1 k2).trans ?_
  rcases h with rfl | ⟨h1, h2⟩
  ·exact .refl _
  ·rw [vH u v', vH u' v']; exact left hv' h1 h2
theorem Fw.oK (x y : Nat) : Fw (Sx.oK x y) := ⟨VQ _ _, Vr _ _⟩
theorem Fw.BD (x y : Nat) : Fw (Sx.BD x y) := ⟨VZ _ _, Vs _ _⟩
theorem Fw.FV (x y : Nat) : Fw (Sx.FV x y) := ⟨VU _ _, Vt _ _⟩
end Go.Sx
namespace Go.Sx
open Ieee (Datum)
def V (x : Nat) : Int := if x / 9223372036854775808 % 2 == 1 then -(U (x % 9223372036854775808) : Int) else (U (x % 9223372036854775808) : Int)
def W (n : Int) : Nat := Ieee.double.nearest (decide (n < 0)) n.natAbs 0
end Go.Sx
