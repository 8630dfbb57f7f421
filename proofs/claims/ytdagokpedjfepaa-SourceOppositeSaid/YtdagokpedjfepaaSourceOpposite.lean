/- SourceOpposite: returns true for every input; no conditions. By the engine's runs, checked by the kernel. -/
import Derived.Test.YtdagokpedjfepaaRows
import Derived.ProofKit
import Derived.OpenShut
import Derived.KernelRfl
import Derived.SizedLaws
import Derived.Carry
import Derived.ChangeMaps5
import Derived.Test.YtdagokpedjfepaaSourceOppositePC
namespace Go.Proofs.Ytdagokpedjfepaa
open Go.ChangeShapes Go.WideShapes Go.ChangeAt Go.RowKit
set_option linter.unusedVariables false
set_option linter.unusedSimpArgs false
set_option maxRecDepth 100000

theorem own : ownKnob Try.prog.godebug = none := by kernel_rfl
theorem laidOut : laidOutB Try.prog = true := by kernel_rfl
theorem tu_goes (n : Nat) (ph : Bool) (G : Nat → El) (hn : n * 104 ≤ 140737488355328) (hv : ∀ j, j < n → ((G j).k = 4 ∨ (G j).k = 5) → (G j).v < 18446744073709551616 ∧ Sx.isnan (G j).v = false) :
  Sx.GoesB Try.prog (Sx.bodyOf Try.f34) Try.f34.ntmps 1 1 2 (Sx.frameOf [.slc true false ⟨false, 0, 0, 0⟩ n, .sbool ph] 0 .e) (Sx.hpL [(0, .cells false 8 n (.fn fun j => elR (G j)))]) (fun e fr' H' => e = .ret ∧ fr' = Sx.frL [(4, .slc true true ⟨false, 1, 0, 0⟩ n)] ∧ H' = Sx.hpL [(1, .cells true 8 n (.fn fun j => elR (tz ph (G j))))]) := by
 rw [tu_is]
 refine Sx.GoesB.seqN (K1 := 1) (tuA 1 (by omega) n 0 ph G G) (by omega) ?_
 refine Sx.GoesB.seqN (K1 := 1) (F1 := [(0, .slc true false ⟨false, 0, 0, 0⟩ n), (1, .sbool ph), (5, .nils)]) (H1 := [(0, .cells false 8 n (.fn fun j => elR (G j)))]) (tuB 1 (by omega) n 0 ph G G) (by omega) ?_
 refine Sx.GoesB.phantom 5 8 (fun j => elR (tz ph (G j))) rfl (by omega) (by omega) ?_
 refine Sx.GoesB.weakL (fl := [(0, .slc true false ⟨false, 0, 0, 0⟩ n), (1, .sbool ph), (5, .slc true true ⟨false, 1, 0, 0⟩ 0)]) (bl := [(0, .cells false 8 n (.fn fun j => elR (G j))), (1, .cells true 8 0 (.fn fun j => elR (tz ph (G j))))]) ⟨(Sx.re rfl), (Sx.re rfl), (Sx.re rfl), trivial⟩ ⟨(Sx.hs rfl), (Sx.hs rfl), trivial⟩ ?_
 refine Sx.GoesB.seqN (K1 := 2) (F1 := [(0, .slc true false ⟨false, 0, 0, 0⟩ n), (1, .sbool ph), (5, .slc true true ⟨false, 1, 0, 0⟩ n)]) (H1 := [(0, .cells false 8 n (.fn fun j => elR (G j))), (1, .cells true 8 n (.fn fun j => elR (tz ph (G j))))]) ?_ (by omega) ?_
 ·refine Sx.GoesB.seqN (K1 := 2) (F1 := [(0, .slc true false ⟨false, 0, 0, 0⟩ n), (1, .sbool ph), (5, .slc true true ⟨false, 1, 0, 0⟩ 0), (6, .int true .i64 ((0 : Nat) : Int))]) (H1 := [(0, .cells false 8 n (.fn fun j => elR (G j))), (1, .cells true 8 0 (.fn fun j => elR (tz ph (G j))))]) (Sx.GoesB.toN (tuC 1 (by omega) n 0 ph G (fun j => tz ph (G j))) ⟨(Sx.re rfl), (Sx.re rfl), (Sx.re rfl), ⟨_, rfl, Sx.AV.ge.int _ _ _ _⟩, trivial⟩ ⟨(Sx.hs rfl), (Sx.hs rfl), trivial⟩) (by omega) ?_
  exact Sx.GoesB.rounds n (fun i => [(0, .slc true false ⟨false, 0, 0, 0⟩ n), (1, .sbool ph), (5, .slc true true ⟨false, 1, 0, 0⟩ (i : Nat)), (6, .int true .i64 ((i : Nat) : Int))]) (fun i => [(0, .cells false 8 n (.fn fun j => elR (G j))), (1, .cells true 8 i (.fn fun j => elR (tz ph (G j))))]) (fun i hi => tu_step n i ph G hi hn hv) (tu_end n ph G)
 exact (tuE 1 (by omega) n 0 ph G (fun j => tz ph (G j))).mono fun e fr' H' h => h
/-- what turned reads: rows of elements, its sources' values no NaN -/
structure TQ (n : Nat) (f : Nat → List Sx.AV) : Prop where
 pe : PE n f
 sz : n * 104 ≤ 140737488355328
 nn : ∀ j, j < n → ((rowsE f j).k = 4 ∨ (rowsE f j).k = 5) → (rowsE f j).v < 18446744073709551616 ∧ Sx.isnan (rowsE f j).v = false
 low : ∀ j, j < n → ∀ u, u ∈ f j → u.low 0 = true
noncomputable def turnS : List Sx.AV → Sx.M Sx.AV
 | [x, .sbool ph] => (rdQ 8 x TQ).andThen fun y => Sx.newS 8 y.1 (fun j => elR (tz ph (rowsE y.2 j)))
 | _ => Sx.M.no
theorem turnS_tch : ∀ args, Sx.Tch (turnS args) := by
 intro args
 unfold turnS
 split
 ·exact (Tch_rdQ _ _ _).andThen fun _ => Sx.Tch.newS _ _ _
 ·exact Sx.Tch.no
theorem turnS_ok : ∀ args v g g', turnS args g = .done v g' → Sx.CallIs Try.prog 34 args v g g' := by
 intro args v g g' h
 unfold turnS at h
 split at h
 case h_2 => exact (Sx.no_done h).elim
 rename_i x ph
 obtain ⟨⟨n, f⟩, g1, a1, h1⟩ := Sx.done_of h
 clear h
 obtain ⟨qv, kv, fv⟩ := rdQ_done a1 (by omega) (fun h => h.low)
 dsimp only at h1 fv
 obtain ⟨rfl, e1, e2, e3⟩ := Sx.newS_done h1
 rw [kv.1, kv.2.1] at e1
 rw [kv.2.1] at e2 ⊢
 refine Sx.readsG (c := (Sx.bodyOf Try.f34)) Try.func34 (by kernel_rfl) (by kernel_rfl) kv [⟨x, 8, n, f⟩] (fun hp v hv => by rw [List.mem_singleton.1 hv]; exact (fv hp).1) (argsC := [Sx.slcV 0 n, .sbool ph]) (fun hp N μ cs hcs => by
  simp only [Sx.Reps] at hcs ⊢
  obtain ⟨c, r, rfl, hc, c2, r2, rfl, hc2, rfl⟩ := hcs
  exact ⟨c, _, rfl, Sx.vw_val (l := [⟨x, 8, n, f⟩]) (fv hp).1 rfl hc, c2, _, rfl, by simpa only [Sx.Rep] using hc2, rfl⟩) (nms := [1]) (bs := [.cells true 8 n (.fn fun j => elR (tz ph (rowsE f j)))]) (K' := 2) (fun hp => ?_) ?_ ?_ e1 (by rw [e2]; rfl) (fun hc => by rw [← e3]; exact hc)
 ·obtain ⟨_, hq⟩ := fv hp
  have hg := Sx.GoesB.weakG (H0 := Sx.hpL [(0, .cells false 8 n (.fn fun j => elR (rowsE f j)))]) (H := Sx.hpL [(0, .cells false 8 n (.fn f))]) (fun t v ht => ⟨v, ht, Sx.AV.ge.refl _⟩) (fun i b hb => by
   have hm := Sx.hpL_get hb
   simp only [List.mem_cons, List.not_mem_nil, or_false] at hm
   cases hm
   exact ⟨_, rfl, rfl, rfl, rfl, hq.pe.of⟩) (tu_goes n ph (rowsE f) hq.sz hq.nn)
  refine hg.mono fun e fr' H' h => ?_
  obtain ⟨rfl, rfl, rfl⟩ := h
  refine ⟨.inl rfl, [.slc true true ⟨false, 1, 0, 0⟩ n], _, rfl, trivial, ?_, rfl, ?_, by decide⟩
  ·simp only [Sx.AV.ren, Sx.AA.ren, getD_sub0]
   exact Sx.AV.ge.refl _
  ·intro i b hb
   match i, hb with
   | 0, hb => cases hb; exact ⟨1, _, rfl, rfl, ⟨rfl, rfl, rfl, fun j hj => rfl⟩, rfl, fun j hj v hv => List.all_eq_true.1 (elR_low _ (tz ph (rowsE f j))) v hv, fun j hj o v hv => elR_inS hv⟩
 ·exact Nat.ble_eq_true_of_le (show Nat.succ g.nx ≤ g.nx + 1 by omega)
 ·show g.nx ≤ g.nx; omega


noncomputable def gamT : Sx.Known := Sx.kc 36 Sx.ofBits (Sx.kc 62 Sx.toBits (Sx.kc 81 smallS (Sx.kc 66 kindS (Sx.kc 63 rowOfS (Sx.kc 82 ofS (Sx.kc 64 nameS (Sx.kc 65 nodeS (Sx.kc 37 chkS (Sx.kc 88 constS (Sx.kc 83 cosS (Sx.kc 68 root2S (Sx.kc 10 phS (Sx.kc 47 finS (Sx.kc 21 subS (Sx.kc 22 addS (Sx.kc 14 netofS (Sx.kc 15 elsS (Sx.kc 48 putS (Sx.kc 16 rightS (Sx.kc 13 awakeS (Sx.kc 19 pickS (Sx.kc 34 turnS (Sx.kn)))))))))))))))))))))))
theorem gamT_ok : Sx.KnownOk Try.prog gamT := Sx.kc_ok ((Sx.ofBits_is Try.prog).callIs Try.func36 (by kernel_rfl) (by kernel_rfl) (by kernel_rfl) (by kernel_rfl)) (Sx.kc_ok ((Sx.toBits_is Try.prog).callIs Try.func62 (by kernel_rfl) (by kernel_rfl) (by kernel_rfl) (by kernel_rfl)) (Sx.kc_ok smallS_ok (Sx.kc_ok kindS_ok (Sx.kc_ok rowOfS_ok (Sx.kc_ok ofS_ok (Sx.kc_ok nameS_ok (Sx.kc_ok nodeS_ok (Sx.kc_ok chkS_ok (Sx.kc_ok constS_ok (Sx.kc_ok cosS_ok (Sx.kc_ok root2S_ok (Sx.kc_ok phS_ok (Sx.kc_ok finS_ok (Sx.kc_ok subS_ok (Sx.kc_ok addS_ok (Sx.kc_ok netofS_ok (Sx.kc_ok elsS_ok (Sx.kc_ok putS_ok (Sx.kc_ok rightS_ok (Sx.kc_ok awakeS_ok (Sx.kc_ok pickS_ok (Sx.kc_ok turnS_ok (Sx.kn_ok)))))))))))))))))))))))
theorem gamT_tch : Sx.KnownT gamT := Sx.kc_tch Sx.Tch.ofBits (Sx.kc_tch Sx.Tch.toBits (Sx.kc_tch smallS_tch (Sx.kc_tch kindS_tch (Sx.kc_tch rowOfS_tch (Sx.kc_tch ofS_tch (Sx.kc_tch nameS_tch (Sx.kc_tch nodeS_tch (Sx.kc_tch chkS_tch (Sx.kc_tch constS_tch (Sx.kc_tch cosS_tch (Sx.kc_tch root2S_tch (Sx.kc_tch phS_tch (Sx.kc_tch finS_tch (Sx.kc_tch subS_tch (Sx.kc_tch addS_tch (Sx.kc_tch netofS_tch (Sx.kc_tch elsS_tch (Sx.kc_tch putS_tch (Sx.kc_tch rightS_tch (Sx.kc_tch awakeS_tch (Sx.kc_tch pickS_tch (Sx.kc_tch turnS_tch (Sx.kn_tch)))))))))))))))))))))))
noncomputable def callT : Sx.Calls' := Sx.runN Try.prog gamT (Sx.regionC Try.prog) 1000 50
theorem callT_ok : Sx.CallOk Try.prog callT := Sx.engineC gamT_ok gamT_tch (by kernel_rfl) (by kernel_rfl) 1000 50
theorem callT_reg (n : Nat) : Sx.RegionOk Try.prog (Sx.regionC Try.prog callT n) n := Sx.runN_regionC gamT_ok gamT_tch (by kernel_rfl) (by kernel_rfl) 1000 50 n
noncomputable abbrev piececallT (f : Func) (c : Code) (fr : Sx.Fr) (H : Sx.T Sx.ABk) (K : Nat) (path : List Bool) : Sx.Res (Sx.Ex × Sx.Fr) :=
 Sx.codeA Try.prog callT (Sx.regionC Try.prog callT f.ntmps) Sx.noLoops f.ntmps 1000 c fr ⟨H, K, [], path, True⟩


theorem pos_get {x : Tx} : ∀ {l : List Tx} {i : Nat}, l.Nodup → i < l.length → lget l i = x → pos x l = some i
 | y :: l, 0, _, _, h => by
  have : y = x := h
  subst this
  unfold pos
  rw [beq_self_eq_true, cond_true]
 | y :: l, i + 1, hn, hi, h => by
  have hi' : i < l.length := by simpa using hi
  have h' : lget l i = x := h
  have hm : x ∈ l := by
   rw [← h']
   unfold lget
   rw [List.getD_eq_getElem?_getD, List.getElem?_eq_getElem hi']
   exact List.getElem_mem hi'
  have hne : x ≠ y := fun c => (List.nodup_cons.1 hn).1 (c ▸ hm)
  unfold pos
  rw [beq_eq_false_iff_ne.2 hne, cond_false, pos_get (List.nodup_cons.1 hn).2 hi' h']
  rfl
theorem pos_iff {x : Tx} {l : List Tx} {i : Nat} (hn : l.Nodup) (hi : i < l.length) : (x == lget l i) = decide (pos x l = some i) := by
 by_cases c : pos x l = some i
 ·rw [decide_eq_true c, (pos_lt c).2.symm.trans (show l.getD i [] = lget l i from rfl), beq_self_eq_true]
 ·rw [decide_eq_false c]
  exact beq_eq_false_iff_ne.2 fun e => c (pos_get hn hi e.symm)
theorem addN_nodup {l : List Tx} {x : Tx} (h : l.Nodup) : (addN l x).Nodup := by
 unfold addN
 cases c : (pos x l).isSome with
 | true => exact h
 | false =>
  have hx : x ∉ l := pos_none.1 (none_of c)
  cases c2 : (x == []) with
  | true => exact h
  | false =>
   cases c3 : (x == [48]) with
   | true => exact h
   | false =>
    simp only [Bool.or_false, cond_false]
    rw [List.nodup_append]
    exact ⟨h, by simp, fun a ha b hb => by rw [List.mem_singleton.1 hb]; exact fun e => hx (e ▸ ha)⟩
theorem ND_nodup (E : Nat → El) : ∀ m, (ND E m).Nodup
 | 0 => List.nodup_nil
 | m + 1 => addN_nodup (addN_nodup (addN_nodup (addN_nodup (ND_nodup E m))))
theorem chk_good {E : Nat → El} {i : Nat} (h : badE chkE E i = 0) : chkE (E i) = 0 := by
 by_cases c : chkE (E i) = 0
 ·exact c
 ·unfold badE at h; rw [decide_eq_false c] at h; exact h
theorem ph2_is {z : El} (h : chkE z = 0) : ph2E z = bif decide (z.k = 4) then 0 else bif decide (z.k = 5) then 0 else 2 := by
 unfold ph2E ph_2
 have : chk_0 z.k z.n z.a z.b z.c z.d z.v z.ph = 0 := h
 rw [decide_eq_true this]
 rfl
theorem putV_at (o : Nat × Nat → Nat × Nat → Nat × Nat) (x : Tx) (l : List Tx) (f : Nat → Nat × Nat) (s : Nat × Nat) (m : Nat) : (putV o x (zipF 0 l) f s).1 m = bif decide (pos x l = some m) then o (f m) s else f m := by
 unfold putV
 rw [find_zip]
 cases q : pos x l with
 | none => rfl
 | some i =>
  show upd1 f (((0 + i : Nat) : Int).toNat) (o (f (((0 + i : Nat) : Int).toNat)) s) m = _
  rw [Nat.zero_add, Int.toNat_natCast]
  unfold upd1
  by_cases c : m = i
  ·subst c; rw [Nat.beq_refl, decide_eq_true rfl]
  ·rw [show Nat.beq m i = false from by rw [Sx.beq_dec]; exact decide_eq_false c, decide_eq_false (by intro e; cases e; exact c rfl)]
   rfl
theorem rowsE_el (G : Nat → El) : (rowsE fun j => elR (G j)) = G := rfl
theorem rowsE_of (G : Nat → El) : rowsE (Sx.rowsOf ⟨false, 1, 0, 0⟩ 8 8 (.fn fun j => elR (rowsZ (Sx.rowsOf ⟨false, 0, 0, 0⟩ 8 8 (.fn fun j => zR (G j))) j))) = G := by
 funext j
 show unE (elR (unZ (zR (G (0 + (0 + j)))))) = G j
 rw [Nat.zero_add, Nat.zero_add]
 rfl
def RESP : Sx.Po := fun e fr' H' => (e = .ret ∨ e = .normal) ∧ ∃ u, fr'.get 4 = some u ∧ Sx.AV.ge u (.bool true)
def okN (p : Nat × Nat) : Prop := fin_0 p.1 p.2 = true
theorem fin_nan {x : Nat} (h : Sx.feq (Sx.fsub x x) 0 = true) : Sx.isnan x = false := by
 have := Sx.fin_iff.1 h
 unfold Sx.isnan
 simp only [decide_eq_false_iff_not]
 omega
theorem okN.nan {p : Nat × Nat} (h : okN p) : Sx.isnan p.1 = false ∧ Sx.isnan p.2 = false := by
 unfold okN fin_0 at h
 cases c : Sx.feq (Sx.fsub p.1 p.1) 0 with
 | false => rw [c] at h; cases h
 | true => rw [c] at h; exact ⟨fin_nan c, fin_nan h⟩
theorem upd1_ok {f : Nat → Nat × Nat} {i : Nat} {v : Nat × Nat} (h : ∀ m, okN (f m)) (hv : okN v) (m : Nat) : okN (upd1 f i v m) := by
 unfold upd1
 cases Nat.beq m i
 ·exact h m
 ·exact hv
theorem putV_ok {o : Nat × Nat → Nat × Nat → Nat × Nat} {x : Tx} {M : List (Tx × Int)} {f : Nat → Nat × Nat} {s : Nat × Nat} (h : ∀ m, okN (f m)) (hv : (putV o x M f s).2 = true) : ∀ m, okN ((putV o x M f s).1 m) := by
 unfold putV at hv ⊢
 split at hv
 ·exact h
 ·exact upd1_ok h hv
theorem RF_ok {E : Nat → El} {n : Nat} : ∀ i, (∀ j, j < i → RB E n j = true) → ∀ m, okN (RF E n i m)
 | 0, _, m => show okN (0, 0) by unfold okN; decide +kernel
 | i + 1, h, m => by
  have ih := RF_ok i (fun j hj => h j (by omega))
  have hb := h i (by omega)
  unfold RB at hb
  rw [RF]
  unfold stepR at hb ⊢
  cases c : decide (ph2E (E i) = 0) with
  | false => rw [cond_false]; exact ih m
  | true =>
   rw [c, cond_true] at hb
   rw [cond_true]
   cases k : decide ((E i).k = 5) with
   | true => rw [k, cond_true] at hb; rw [cond_true]; exact upd1_ok ih hb m
   | false =>
    rw [k, cond_false] at hb
    rw [cond_false]
    have hb' := Bool.and_eq_true_iff.1 hb
    exact putV_ok (putV_ok ih hb'.2) hb'.1 m
theorem fbk_end {p : Nat → Bool} {n : Nat} (h : fbk p 0 n = n) : ∀ j, j < n → p j = true := by
 intro j hj
 by_cases c : ∀ j, j < n → p j = true
 ·exact c j hj
 ·exfalso
  have : ∃ k, k < n ∧ p k = false ∧ ∀ i, i < k → p i = true := by
   clear h hj
   induction n with
   | zero => exact absurd (fun j hj => absurd hj (Nat.not_lt_zero _)) c
   | succ n ih =>
    by_cases d : ∀ j, j < n → p j = true
    ·refine ⟨n, Nat.lt_succ_self _, ?_, d⟩
     cases q : p n with
     | false => rfl
     | true =>
      exact absurd (fun j hj => by
       by_cases e : j = n
       ·rw [e]; exact q
       ·exact d j (by omega)) c
    ·obtain ⟨k, h1, h2, h3⟩ := ih d
     exact ⟨k, by omega, h2, h3⟩
  obtain ⟨k, h1, h2, h3⟩ := this
  have := fbk_at h2 n 0 (by omega) (by omega) fun i _ hi => h3 i hi
  omega
theorem tz_k (ph : Bool) (z : El) : (tz ph z).k = z.k := by unfold tz; cases decide (z.k = 4) || decide (z.k = 5) <;> cases ph <;> rfl
theorem tz_n (ph : Bool) (z : El) : (tz ph z).n = z.n := by unfold tz; cases decide (z.k = 4) || decide (z.k = 5) <;> cases ph <;> rfl
theorem tz_a (ph : Bool) (z : El) : (tz ph z).a = z.a := by unfold tz; cases decide (z.k = 4) || decide (z.k = 5) <;> cases ph <;> rfl
theorem tz_b (ph : Bool) (z : El) : (tz ph z).b = z.b := by unfold tz; cases decide (z.k = 4) || decide (z.k = 5) <;> cases ph <;> rfl
theorem tz_c (ph : Bool) (z : El) : (tz ph z).c = z.c := by unfold tz; cases decide (z.k = 4) || decide (z.k = 5) <;> cases ph <;> rfl
theorem tz_d (ph : Bool) (z : El) : (tz ph z).d = z.d := by unfold tz; cases decide (z.k = 4) || decide (z.k = 5) <;> cases ph <;> rfl
def TE (ph : Bool) (E : Nat → El) (j : Nat) : El := tz ph (E j)
theorem NM_t (ph : Bool) (E : Nat → El) : ∀ n, NM (TE ph E) n = NM E n
 | 0 => rfl
 | n + 1 => by unfold NM; rw [NM_t ph E n, show (TE ph E n).n = (E n).n from tz_n _ _]
theorem ND_t (ph : Bool) (E : Nat → El) : ∀ n, ND (TE ph E) n = ND E n
 | 0 => rfl
 | n + 1 => by unfold ND; rw [ND_t ph E n, show (TE ph E n).a = (E n).a from tz_a _ _, show (TE ph E n).b = (E n).b from tz_b _ _, show (TE ph E n).c = (E n).c from tz_c _ _, show (TE ph E n).d = (E n).d from tz_d _ _]
theorem BR_t (ph : Bool) (E : Nat → El) : ∀ n, BR (TE ph E) n = BR E n
 | 0 => rfl
 | n + 1 => by unfold BR isBr; rw [BR_t ph E n, show (TE ph E n).k = (E n).k from tz_k _ _, show (TE ph E n).n = (E n).n from tz_n _ _]
theorem cz0 {b : Bool} {x y : Int} (hx : x ≠ 0) (hy : y ≠ 0) : (bif b then x else y) ≠ 0 := by cases b <;> assumption
theorem chk_fin {k : Int} {n a b c d : List UInt8} {v : Nat} {ph : Int} (h : chk_0 k n a b c d v ph = 0) : decide ((2 : Int) < Sx.kindDef v) = false := by
 cases e : decide ((2 : Int) < Sx.kindDef v) with
 | false => rfl
 | true =>
  refine absurd h ?_
  unfold chk_0
  simp only [e, cond_true]
  repeat' (first | decide | apply cz0)
theorem kind_mod {x y : Nat} (hx : x < 18446744073709551616) (hy : y < 18446744073709551616) (h : x % 9223372036854775808 = y % 9223372036854775808) : Sx.kindDef x = Sx.kindDef y := by
 have e1 : Sx.kE x = Sx.kE y := by rw [Sx.kE_is hx, Sx.kE_is hy]; congr 1; omega
 have e2 : Sx.kR x = Sx.kR y := by rw [Sx.kR_is hx, Sx.kR_is hy]; congr 1; omega
 unfold Sx.kindDef
 rw [e1, e2]
theorem kind_fin {v : Nat} (hv : v < 18446744073709551616) (h : decide ((2 : Int) < Sx.kindDef v) = false) : v % 9223372036854775808 < 9218868437227405312 := by
 have h := of_decide_eq_false h
 unfold Sx.kindDef at h
 by_cases a : Sx.kE v = 0
 ·rw [Sx.kE_is hv] at a; omega
 ·rw [decide_eq_false a, cond_false] at h
  by_cases b : Sx.kE v < 2047
  ·rw [Sx.kE_is hv] at b; omega
  ·rw [decide_eq_false b, cond_false] at h
   cases hh : decide (Sx.kR v = 0) <;> rw [hh] at h <;> exact absurd (by decide) h
theorem fin_nn2 {v : Nat} (h : v % 9223372036854775808 < 9218868437227405312) : Sx.isnan v = false := by
 unfold Sx.isnan; exact decide_eq_false (by omega)
theorem chk_src {k : Int} (hk : k = 4 ∨ k = 5) {n a b c d : List UInt8} {v w : Nat} {ph qh : Int} (h : Sx.kindDef v = Sx.kindDef w) : chk_0 k n a b c d v ph = chk_0 k n a b c d w qh := by
 have h2 : rowOf_2 k = false := by rcases hk with rfl | rfl <;> rfl
 have h4 : rowOf_4 k = true := by rcases hk with rfl | rfl <;> rfl
 unfold chk_0
 simp only [h, h2, h4, cond_true, cond_false]
theorem tz_chk {ph : Bool} {z : El} (hv : z.v < 18446744073709551616) (h : chkE z = 0) : chkE (tz ph z) = 0 := by
 by_cases k4 : z.k = 4 ∨ z.k = 5
 ·have hf := kind_fin hv (chk_fin h)
  have hn := fin_nn2 hf
  have e : (decide (z.k = 4) || decide (z.k = 5)) = true := by rcases k4 with k | k <;> simp [k]
  have key : chkE (tz ph z) = chkE z := by
   unfold tz chkE
   rw [e, cond_true]
   cases ph with
   | true => exact chk_src k4 rfl
   | false =>
    refine chk_src k4 (kind_mod (Sx.fneg_lt (Sx.cn_lt hv)) hv ?_)
    show Sx.fneg (Sx.cn z.v) % _ = _
    rw [Sx.cn_of_not hn]
    rcases Sx.fneg_cases z.v with ⟨c, _⟩ | ⟨_, c, _⟩
    ·rw [hn] at c; cases c
    ·exact c
  rw [key, h]
 ·have e : (decide (z.k = 4) || decide (z.k = 5)) = false := by simp only [not_or] at k4; simp [k4.1, k4.2]
  have : tz ph z = z := by unfold tz; rw [e, cond_false]
  rw [this]; exact h
theorem bad_t {ph : Bool} {E : Nat → El} {j : Nat} (hv : (E j).v < 18446744073709551616) (h : badE chkE E j = 0) : badE chkE (TE ph E) j = 0 := by
 have hc := chk_good h
 have hc' : chkE (TE ph E j) = 0 := tz_chk hv hc
 unfold badE at h ⊢
 rw [decide_eq_true hc, cond_true] at h
 rw [decide_eq_true hc', cond_true, NM_t, show (TE ph E j).n = (E j).n from tz_n _ _]
 exact h
theorem ofR_t {ph : Bool} {E : Nat → El} {n : Nat} (hv : ∀ j, j < n → (E j).v < 18446744073709551616) (h : (ofR chkE E n).1 = 0) : (ofR chkE (TE ph E) n).1 = 0 := by
 obtain ⟨h1, h2⟩ := ofR_zero h
 have h3 : ∀ j, j < n → badE chkE (TE ph E) j = 0 := fun j hj => bad_t (hv j hj) (h2 j hj)
 unfold ofR at h ⊢
 rw [decide_eq_false (by omega), cond_false] at h ⊢
 rw [ofE_good h2] at h
 rw [ofE_good h3]
 unfold ofE at h ⊢
 rw [ND_t, BR_t]
 exact h
/-- opposite numbers, a nought's sign apart -/
def OP (x y : Nat) : Prop := Sx.E0 y (Sx.fneg x)
theorem OP.add {x x' y y' : Nat} (hx : Sx.Fw x) (hx' : Sx.Fw x') (hy : Sx.Fw y) (hy' : Sx.Fw y') (h : OP x x') (k : OP y y') : OP (Sx.fadd x y) (Sx.fadd x' y') :=
 (Sx.E0.add hx' (Sx.fneg_fw hx.1) hy' (Sx.fneg_fw hy.1) h k).trans (Sx.fadd_neg hx.1 hy.1).symm
theorem OP.neg {y y' : Nat} (k : OP y y') : OP (Sx.fneg y) (Sx.fneg y') := by
 rcases k with k | ⟨k1, k2⟩
 ·rw [k]; exact .refl _
 ·exact .inr ⟨Sx.fneg_zero k1, Sx.fneg_zero k2⟩
theorem OP.sub {x x' y y' : Nat} (hx : Sx.Fw x) (hx' : Sx.Fw x') (hy : Sx.Fw y) (hy' : Sx.Fw y') (ny : Sx.isnan y = false) (ny' : Sx.isnan y' = false) (h : OP x x') (k : OP y y') : OP (Sx.fsub x y) (Sx.fsub x' y') := by
 rw [Sx.fsub_is hy.1 ny, Sx.fsub_is hy'.1 ny']
 exact OP.add hx hx' (Sx.fneg_fw hy.1) (Sx.fneg_fw hy'.1) h k.neg
theorem OP.fin {x y : Nat} (h : OP x y) : Sx.feq (Sx.fsub y y) 0 = Sx.feq (Sx.fsub x x) 0 := by
 rw [← Sx.fin_fneg x]
 rcases h with h | ⟨h1, h2⟩
 ·rw [h]
 ·rw [Bool.eq_iff_iff, Sx.fin_iff, Sx.fin_iff]; omega
structure SV (p q : Nat × Nat) : Prop where
 f1 : Sx.Fw p.1
 f2 : Sx.Fw p.2
 g1 : Sx.Fw q.1
 g2 : Sx.Fw q.2
 o1 : OP p.1 q.1
 o2 : OP p.2 q.2
structure NN (p : Nat × Nat) : Prop where
 n1 : Sx.isnan p.1 = false
 n2 : Sx.isnan p.2 = false
theorem SV.fin {p q : Nat × Nat} (h : SV p q) : fin_0 q.1 q.2 = fin_0 p.1 p.2 := by unfold fin_0; rw [h.o1.fin, h.o2.fin]
theorem SV.add {p q s t : Nat × Nat} (h : SV p q) (k : SV s t) : SV (cadd p s) (cadd q t) := ⟨Sx.Fw.fadd _ _, Sx.Fw.fadd _ _, Sx.Fw.fadd _ _, Sx.Fw.fadd _ _, OP.add h.f1 h.g1 k.f1 k.g1 h.o1 k.o1, OP.add h.f2 h.g2 k.f2 k.g2 h.o2 k.o2⟩
theorem SV.sub {p q s t : Nat × Nat} (h : SV p q) (k : SV s t) (n : NN s) (m : NN t) : SV (csub p s) (csub q t) := ⟨Sx.Fw.fsub _ _, Sx.Fw.fsub _ _, Sx.Fw.fsub _ _, Sx.Fw.fsub _ _, OP.sub h.f1 h.g1 k.f1 k.g1 n.n1 m.n1 h.o1 k.o1, OP.sub h.f2 h.g2 k.f2 k.g2 n.n2 m.n2 h.o2 k.o2⟩
theorem SV.upd {f g : Nat → Nat × Nat} {i : Nat} {p q : Nat × Nat} (h : ∀ m, SV (f m) (g m)) (k : SV p q) (m : Nat) : SV (upd1 f i p m) (upd1 g i q m) := by
 unfold upd1
 cases Nat.beq m i
 ·exact h m
 ·exact k
theorem SV.put {o : Nat × Nat → Nat × Nat → Nat × Nat} {s t : Nat × Nat} (ho : ∀ p q, SV p q → SV (o p s) (o q t)) {f g : Nat → Nat × Nat} (h : ∀ m, SV (f m) (g m)) (x : Tx) (M : List (Tx × Int)) :
  (∀ m, SV ((putV o x M f s).1 m) ((putV o x M g t).1 m)) ∧ (putV o x M g t).2 = (putV o x M f s).2 := by
 unfold putV
 cases Sx.lfind Sx.seq x M with
 | none => exact ⟨h, rfl⟩
 | some i => exact ⟨fun m => SV.upd h (ho _ _ (h _)) m, (ho _ _ (h _)).fin⟩
def e0B (x y : Nat) : Bool := (x == y || (x % 9223372036854775808 == 0 && y % 9223372036854775808 == 0)) && decide (x < 18446744073709551616) && decide (y < 18446744073709551616) && decide (x % 9223372036854775808 < 9218868437227405312) && decide (y % 9223372036854775808 < 9218868437227405312)
theorem e0B_is {x y : Nat} (h : e0B x y = true) : Sx.E0 x y ∧ x < 18446744073709551616 ∧ y < 18446744073709551616 ∧ x % 9223372036854775808 < 9218868437227405312 ∧ y % 9223372036854775808 < 9218868437227405312 := by
 unfold e0B at h
 simp only [Bool.and_eq_true, Bool.or_eq_true, beq_iff_eq, decide_eq_true_eq] at h
 obtain ⟨⟨⟨⟨h1, h2⟩, h3⟩, h4⟩, h5⟩ := h
 exact ⟨h1, h2, h3, h4, h5⟩
def ixA (p : Int) : Int := Int.tmod (Int.tmod p 24 + 24) 24
def ixB (p : Int) : Int := Int.tmod (ixA p + 18) 24
theorem cos_all : ∀ a : Fin 47, e0B (cos_0 (ixA ((a.val : Int) - 23 + 12))) (Sx.fneg (cos_0 (ixA ((a.val : Int) - 23)))) = true ∧ e0B (cos_0 (ixB ((a.val : Int) - 23 + 12))) (Sx.fneg (cos_0 (ixB ((a.val : Int) - 23)))) = true ∧ e0B (cos_0 (ixA ((a.val : Int) - 23))) (cos_0 (ixA ((a.val : Int) - 23))) = true ∧ e0B (cos_0 (ixB ((a.val : Int) - 23))) (cos_0 (ixB ((a.val : Int) - 23))) = true := by decide +kernel
theorem cos_opp {a : Int} (h1 : -24 < a) (h2 : a < 24) : e0B (cos_0 (ixA (a + 12))) (Sx.fneg (cos_0 (ixA a))) = true ∧ e0B (cos_0 (ixB (a + 12))) (Sx.fneg (cos_0 (ixB a))) = true ∧ e0B (cos_0 (ixA a)) (cos_0 (ixA a)) = true ∧ e0B (cos_0 (ixB a)) (cos_0 (ixB a)) = true := by
 have h := cos_all ⟨(a + 23).toNat, by omega⟩
 have e : (((a + 23).toNat : Nat) : Int) - 23 = a := by omega
 simp only [e] at h
 exact h
theorem ixA_tm (p : Int) : ixA (Int.tmod p 24) = ixA p := by
 unfold ixA
 have h := tm_12 p
 rw [show Int.tmod (Int.tmod p 24) 24 = Int.tmod p 24 from Int.tmod_tmod _ _]
theorem fmul_nn {x y : Nat} (hx : x % 9223372036854775808 < 9218868437227405312) (hy : y % 9223372036854775808 < 9218868437227405312) : Sx.isnan (Sx.fmul x y) = false := by
 obtain ⟨m, i, e1, _⟩ := Sx.read_fin hx
 obtain ⟨m', i', e2, _⟩ := Sx.read_fin hy
 unfold Sx.fmul Ieee.Format.mul
 rw [e1, e2]
 exact Sx.cn_write (d := .number _ _ _) rfl
theorem fmul_z {x z : Nat} (hf : x % 9223372036854775808 < 9218868437227405312) (hz : z < 18446744073709551616) (h : z % 9223372036854775808 = 0) : Sx.fmul x z % 9223372036854775808 = 0 := by
 rw [Sx.fmul_comm]
 have : z = 0 ∨ z = Sx.fneg 0 := by
  rw [show Sx.fneg 0 = 9223372036854775808 by decide]; omega
 rcases this with rfl | rfl
 ·exact Sx.fmul_zero hf
 ·rw [Sx.fmul_neg _ (by decide)]
  exact Sx.fneg_zero (Sx.fmul_zero hf)
theorem fmul_op {x c d : Nat} (hf : x % 9223372036854775808 < 9218868437227405312) (h : e0B d (Sx.fneg c) = true) (hc : c < 18446744073709551616) : OP (Sx.fmul x c) (Sx.fmul x d) := by
 obtain ⟨h1, h2, h3, _, _⟩ := e0B_is h
 have e : Sx.fmul x (Sx.fneg c) = Sx.fneg (Sx.fmul x c) := by rw [Sx.fmul_comm, Sx.fmul_neg x hc, Sx.fmul_comm]
 unfold OP
 rw [← e]
 rcases h1 with h1 | ⟨k1, k2⟩
 ·rw [h1]; exact .refl _
 ·exact .inr ⟨fmul_z hf h2 k1, fmul_z hf h3 k2⟩
theorem fneg_fin {x : Nat} (h : x % 9223372036854775808 < 9218868437227405312) : Sx.fneg x % 9223372036854775808 < 9218868437227405312 := by
 rcases Sx.fneg_cases x with ⟨c, _⟩ | ⟨_, c, _⟩
 ·rw [fin_nn2 h] at c; cases c
 ·rw [c]; exact h
theorem phE_src {z : El} (h : chkE z = 0) (hk : z.k = 4 ∨ z.k = 5) : phE z = (Sx.fmul (Sx.cn z.v) (cos_0 (ixA z.ph)), Sx.fmul (Sx.cn z.v) (cos_0 (ixB z.ph))) := by
 unfold phE ph_0 ph_1
 have : chk_0 z.k z.n z.a z.b z.c z.d z.v z.ph = 0 := h
 rw [decide_eq_true this]
 rcases hk with k | k <;> rw [k] <;> rfl
theorem phE_t (ph : Bool) {z : El} (hv : z.v < 18446744073709551616) (h : chkE z = 0) (hk : z.k = 4 ∨ z.k = 5) : SV (phE z) (phE (tz ph z)) ∧ NN (phE z) ∧ NN (phE (tz ph z)) := by
 have hf := kind_fin hv (chk_fin h)
 have hn := fin_nn2 hf
 have h' := tz_chk (ph := ph) hv h
 have e : (decide (z.k = 4) || decide (z.k = 5)) = true := by rcases hk with k | k <;> simp [k]
 have hcn := Sx.cn_of_not hn
 obtain ⟨t1, t2⟩ := tm_12 z.ph
 obtain ⟨c1, c2, c3, c4⟩ := cos_opp t1 t2
 have iB : ixB (Int.tmod z.ph 24) = ixB z.ph := by unfold ixB; rw [ixA_tm]
 rw [ixA_tm] at c1 c3
 rw [iB] at c2 c4
 obtain ⟨_, b1, _, b2, _⟩ := e0B_is c3
 obtain ⟨_, b3, _, b4, _⟩ := e0B_is c4
 rw [phE_src h hk, phE_src h' (by rw [tz_k]; exact hk)]
 cases ph with
 | true =>
  have ez : tz true z = { z with ph := Int.tmod z.ph 24 + 12 } := by unfold tz; rw [e]; rfl
  obtain ⟨_, d1, _, d2, _⟩ := e0B_is c1
  obtain ⟨_, d3, _, d4, _⟩ := e0B_is c2
  rw [ez, hcn]
  exact ⟨⟨Sx.Fw.fmul _ _, Sx.Fw.fmul _ _, Sx.Fw.fmul _ _, Sx.Fw.fmul _ _, fmul_op hf c1 b1, fmul_op hf c2 b3⟩, ⟨fmul_nn hf b2, fmul_nn hf b4⟩, ⟨fmul_nn hf d2, fmul_nn hf d4⟩⟩
 | false =>
  have ez : tz false z = { z with v := Sx.fneg (Sx.cn z.v) } := by unfold tz; rw [e]; rfl
  rw [ez]
  have hg : Sx.cn (Sx.fneg (Sx.cn z.v)) = Sx.fneg z.v := by rw [hcn]; exact (Sx.fneg_fw hv).2
  show SV _ (Sx.fmul (Sx.cn (Sx.fneg (Sx.cn z.v))) _, Sx.fmul (Sx.cn (Sx.fneg (Sx.cn z.v))) _) ∧ _ ∧ NN (Sx.fmul (Sx.cn (Sx.fneg (Sx.cn z.v))) _, Sx.fmul (Sx.cn (Sx.fneg (Sx.cn z.v))) _)
  rw [hg, hcn]
  have fr := fneg_fin hf
  exact ⟨⟨Sx.Fw.fmul _ _, Sx.Fw.fmul _ _, Sx.Fw.fmul _ _, Sx.Fw.fmul _ _, .inl (Sx.fmul_neg _ hv), .inl (Sx.fmul_neg _ hv)⟩, ⟨fmul_nn hf b2, fmul_nn hf b4⟩, ⟨fmul_nn fr b2, fmul_nn fr b4⟩⟩
theorem step_t {ph : Bool} {nodes brs : List Tx} {z : El} {f g : Nat → Nat × Nat} (hv : z.v < 18446744073709551616) (h : chkE z = 0) (hs : ∀ m, SV (f m) (g m)) :
  (∀ m, SV ((stepR nodes brs z f).1 m) ((stepR nodes brs (tz ph z) g).1 m)) ∧ (stepR nodes brs (tz ph z) g).2 = (stepR nodes brs z f).2 := by
 have h' := tz_chk (ph := ph) hv h
 unfold stepR
 rw [ph2_is h, ph2_is h', tz_k]
 by_cases hk : z.k = 4 ∨ z.k = 5
 ·obtain ⟨s1, s2, s3⟩ := phE_t ph hv h hk
  have e0 : (bif decide (z.k = 4) then (0 : Int) else bif decide (z.k = 5) then 0 else 2) = 0 := by rcases hk with k | k <;> rw [k] <;> rfl
  rw [e0]
  simp only [decide_true, cond_true]
  rw [tz_n, tz_a, tz_b]
  cases decide (z.k = 5) with
  | true => exact ⟨fun m => SV.upd hs s1 m, s1.fin⟩
  | false =>
   simp only [cond_false]
   obtain ⟨a1, a2⟩ := SV.put (o := csub) (fun p q hpq => hpq.sub s1 s2 s3) hs z.a (zipF 0 nodes)
   obtain ⟨b1, b2⟩ := SV.put (o := cadd) (fun p q hpq => hpq.add s1) a1 z.b (zipF 0 nodes)
   exact ⟨b1, by rw [a2, b2]⟩
 ·simp only [not_or] at hk
  have e0 : (bif decide (z.k = 4) then (0 : Int) else bif decide (z.k = 5) then 0 else 2) = 2 := by rw [decide_eq_false hk.1, decide_eq_false hk.2]; rfl
  rw [e0, decide_eq_false (by decide : ¬ (2 : Int) = 0)]
  exact ⟨hs, rfl⟩
theorem RF_t (ph : Bool) {E : Nat → El} {n : Nat} (hv : ∀ j, j < n → (E j).v < 18446744073709551616) (hg : ∀ j, j < n → badE chkE E j = 0) : ∀ i, i ≤ n → ∀ m, SV (RF E n i m) (RF (TE ph E) n i m)
 | 0, _, m => show SV (0, 0) (0, 0) from ⟨⟨by decide, by decide⟩, ⟨by decide, by decide⟩, ⟨by decide, by decide⟩, ⟨by decide, by decide⟩, .inr (by decide), .inr (by decide)⟩
 | i + 1, h, m => by
  have ih := RF_t ph hv hg i (by omega)
  have := (step_t (ph := ph) (nodes := ND E n) (brs := BR E n) (hv i (by omega)) (chk_good (hg i (by omega))) ih).1 m
  rw [RF, RF, ND_t, BR_t]
  exact this
theorem RB_t (ph : Bool) {E : Nat → El} {n : Nat} (hv : ∀ j, j < n → (E j).v < 18446744073709551616) (hg : ∀ j, j < n → badE chkE E j = 0) {i : Nat} (hi : i < n) : RB (TE ph E) n i = RB E n i := by
 have := (step_t (ph := ph) (nodes := ND E n) (brs := BR E n) (hv i hi) (chk_good (hg i hi)) (RF_t ph hv hg i (by omega))).2
 unfold RB
 rw [ND_t, BR_t]
 exact this
theorem fbk_congr {p q : Nat → Bool} : ∀ (m i : Nat), (∀ j, i ≤ j → j < i + m → q j = p j) → fbk q i m = fbk p i m
 | 0, i, _ => rfl
 | m + 1, i, h => by
  unfold fbk
  rw [h i (Nat.le_refl _) (by omega), fbk_congr m (i + 1) fun j a b => h j (by omega) (by omega)]
theorem fbk_t (ph : Bool) {E : Nat → El} {n : Nat} (hv : ∀ j, j < n → (E j).v < 18446744073709551616) (hg : ∀ j, j < n → badE chkE E j = 0) : fbk (RB (TE ph E) n) 0 n = fbk (RB E n) 0 n :=
 fbk_congr n 0 fun j _ h => RB_t ph hv hg (by omega)
theorem ulen_t (ph : Bool) (E : Nat → El) (n : Nat) : ulen (TE ph E) n = ulen E n := by unfold ulen; rw [ND_t, BR_t]
theorem opp_eq (ph : Bool) {E : Nat → El} {n : Nat} (hv : ∀ j, j < n → (E j).v < 18446744073709551616) (hg : ∀ j, j < n → badE chkE E j = 0) (hok : ∀ m, okN (RF E n n m)) (m : Nat) : (Sx.feq (RF (TE ph E) n n m).1 (Sx.fneg (RF E n n m).1) && Sx.feq (RF (TE ph E) n n m).2 (Sx.fneg (RF E n n m).2)) = true := by
 have s := RF_t ph hv hg n (Nat.le_refl _) m
 have k := hok m
 have k' : okN (RF (TE ph E) n n m) := by unfold okN at k ⊢; rw [s.fin]; exact k
 rw [Sx.feq_E0 s.g1.1 (Sx.fneg_lt s.f1.1) k'.nan.1 s.o1, Sx.feq_E0 s.g2.1 (Sx.fneg_lt s.f2.1) k'.nan.2 s.o2]
 rfl
theorem src_nn {z : El} (hv : z.v < 18446744073709551616) (h : chkE z = 0) : Sx.isnan z.v = false := fin_nn2 (kind_fin hv (chk_fin h))


def netL (n q r : Nat) (E : Nat → El) (M1 M2 M3 : List (Tx × Int)) (nd br : Nat → Tx) : List (Nat × Sx.ABk) := [(2, .mSI true M1), (3, .mSI true M2), (4, .mSI true M3), (5, .cells true 8 n (.fn fun j => elR (E j))), (6, .cells true 1 q (.fn (txR nd))), (7, .cells true 1 r (.fn (txR br))), (8, .cells true 7 1 (.fn fun _ => netG 2 3 4 5 6 7 n q r))]
def net2L (n q r : Nat) (E : Nat → El) (M1 M2 M3 : List (Tx × Int)) (nd br : Nat → Tx) : List (Nat × Sx.ABk) := [(14, .mSI true M1), (15, .mSI true M2), (16, .mSI true M3), (17, .cells true 8 n (.fn fun j => elR (E j))), (18, .cells true 1 q (.fn (txR nd))), (19, .cells true 1 r (.fn (txR br))), (20, .cells true 7 1 (.fn fun _ => netG 14 15 16 17 18 19 n q r))]
theorem soA_r0 (n q r u i m kk : Nat) (pt : Tx) (G E T : Nat → El) (M1 M2 M3 : List (Tx × Int)) (nd br : Nat → Tx) (f h : Nat → Nat × Nat) (s0 s1 : Nat) (g0 g1 er at_ : Int) (z : El) (t : Bool) : Sx.PieceN 1 (Sx.Ex.normal) [(0, .slc true false ⟨false, 0, 0, 0⟩ n), (1, .str true pt)] [(0, .cells false 8 n (.fn fun j => [.int true .u8 (El.k (G j)), .str true (El.n (G j)), .str true (El.a (G j)), .str true (El.b (G j)), .str true (El.c (G j)), .str true (El.d (G j)), .int true .u64 (↑(El.v (G j)) : Int), .int true .i64 (El.ph (G j))]))] (piececallT Try.f8 ((Sx.nav [0] (Sx.bodyOf Try.f8))) (Sx.frameOf [.slc true false ⟨false, 0, 0, 0⟩ n, .str true pt] 0 .e) (Sx.hpL [(0, .cells false 8 n (.fn fun j => zR (G j)))]) 1 []) := Sx.eqn (by kernel_rfl) trivial
theorem soB_r0 (n q r u i m kk : Nat) (pt : Tx) (G E T : Nat → El) (M1 M2 M3 : List (Tx × Int)) (nd br : Nat → Tx) (f h : Nat → Nat × Nat) (s0 s1 : Nat) (g0 g1 er at_ : Int) (z : El) (t : Bool) : Sx.PieceN 1 (Sx.Ex.normal) [(0, .slc true false ⟨false, 0, 0, 0⟩ n), (1, .str true pt), (5, .bool true)] [(0, .cells false 8 n (.fn fun j => [.int true .u8 (El.k (G j)), .str true (El.n (G j)), .str true (El.a (G j)), .str true (El.b (G j)), .str true (El.c (G j)), .str true (El.d (G j)), .int true .u64 (↑(El.v (G j)) : Int), .int true .i64 (El.ph (G j))]))] (piececallT Try.f8 ((Sx.nav [1,0] (Sx.bodyOf Try.f8))) (Sx.frL [(0, .slc true false ⟨false, 0, 0, 0⟩ n), (1, .str true pt)]) (Sx.hpL [(0, .cells false 8 n (.fn fun j => zR (G j)))]) 1 []) := Sx.eqn (by kernel_rfl) trivial
theorem soC_r0 (n q r u i m kk : Nat) (pt : Tx) (G E T : Nat → El) (M1 M2 M3 : List (Tx × Int)) (nd br : Nat → Tx) (f h : Nat → Nat × Nat) (s0 s1 : Nat) (g0 g1 er at_ : Int) (z : El) (t : Bool) (c0 : (0 : Nat) + n ≤ n) (c1 : n * (104 : Nat) ≤ (140737488355328 : Nat)) (c2 : ∀ (j : Nat), j < n → Sx.RowGe (zR (G ((0 : Nat) + j))) (zR (rowsZ (Sx.rowsOf ⟨false, 0, 0, 0⟩ (8 : Nat) (8 : Nat) (.fn fun j => zR (G j))) j)) ∧ El.v (G ((0 : Nat) + j)) < (18446744073709551616 : Nat)) (c3 : ∀ (j : Nat), j < n → ∀ (u : Sx.AV), u ∈ zR (G ((0 : Nat) + j)) → Sx.AV.low (0 : Nat) u = true) (c4 : (0 : Nat) + n ≤ n) (c5 : PEQ n fun j => (elR (G ((0 : Nat) + ((0 : Nat) + j))))) (c6 : decide (Prod.fst (ofX (rowsE fun j => (elR (G ((0 : Nat) + ((0 : Nat) + j))))) n) = (0 : Int)) = true) : Sx.PieceN 10 (Sx.Ex.normal) [(0, .slc true false ⟨false, 0, 0, 0⟩ n), (1, .str true pt), (5, .bool true), (6, .ptr ⟨false, 8, 0, 0⟩), (7, .ptr ⟨false, 9, 0, 0⟩)] [(2, .mSI true (zipF (0 : Nat) (NM (rowsE (Sx.rowsOf ⟨false, 1, 0, 0⟩ (8 : Nat) (8 : Nat) (.fn fun j => elR (rowsZ (Sx.rowsOf ⟨false, 0, 0, 0⟩ (8 : Nat) (8 : Nat) (.fn fun j => zR (G j))) j)))) n))), (3, .mSI true (zipF (0 : Nat) (ND (rowsE (Sx.rowsOf ⟨false, 1, 0, 0⟩ (8 : Nat) (8 : Nat) (.fn fun j => elR (rowsZ (Sx.rowsOf ⟨false, 0, 0, 0⟩ (8 : Nat) (8 : Nat) (.fn fun j => zR (G j))) j)))) n))), (4, .mSI true (zipF (0 : Nat) (BR (rowsE (Sx.rowsOf ⟨false, 1, 0, 0⟩ (8 : Nat) (8 : Nat) (.fn fun j => elR (rowsZ (Sx.rowsOf ⟨false, 0, 0, 0⟩ (8 : Nat) (8 : Nat) (.fn fun j => zR (G j))) j)))) n))), (5, .cells true 8 n (.fn fun j => (elR (G ((0 : Nat) + ((0 : Nat) + j)))))), (6, .cells true 1 (List.length (ND (rowsE fun j => (elR (G ((0 : Nat) + ((0 : Nat) + j))))) n)) (.fn fun j => [.str true (lget (ND (rowsE fun j => (elR (G ((0 : Nat) + ((0 : Nat) + j))))) n) j)])), (7, .cells true 1 (List.length (BR (rowsE fun j => (elR (G ((0 : Nat) + ((0 : Nat) + j))))) n)) (.fn fun j => [.str true (lget (BR (rowsE fun j => (elR (G ((0 : Nat) + ((0 : Nat) + j))))) n) j)])), (8, .cells true 7 1 (.fn fun x => [.bool true, .slc true true ⟨false, 5, 0, 0⟩ n, Sx.AV.mp (2 : Nat), .slc true true ⟨false, 6, 0, 0⟩ (List.length (ND (rowsE fun j => (elR (G ((0 : Nat) + ((0 : Nat) + j))))) n)), Sx.AV.mp (3 : Nat), .slc true true ⟨false, 7, 0, 0⟩ (List.length (BR (rowsE fun j => (elR (G ((0 : Nat) + ((0 : Nat) + j))))) n)), Sx.AV.mp (4 : Nat)])), (9, .cells true 2 1 (.lit [] (.n .e (some [.int false .i64 0, .int false .i64 0]) .e)))] (piececallT Try.f8 ((Sx.nav [1,1,0] (Sx.bodyOf Try.f8))) (Sx.frL [(0, .slc true false ⟨false, 0, 0, 0⟩ n), (1, .str true pt), (5, .bool true)]) (Sx.hpL [(0, .cells false 8 n (.fn fun j => zR (G j)))]) 1 [true]) := Sx.eqn (by kernel_rfl) (ai (ai (ai (ai (ai trivial c0) (ai (ai c1 c2) c3)) c4) c5) c6)
theorem soC_r1 (n q r u i m kk : Nat) (pt : Tx) (G E T : Nat → El) (M1 M2 M3 : List (Tx × Int)) (nd br : Nat → Tx) (f h : Nat → Nat × Nat) (s0 s1 : Nat) (g0 g1 er at_ : Int) (z : El) (t : Bool) (c0 : (0 : Nat) + n ≤ n) (c1 : n * (104 : Nat) ≤ (140737488355328 : Nat)) (c2 : ∀ (j : Nat), j < n → Sx.RowGe (zR (G ((0 : Nat) + j))) (zR (rowsZ (Sx.rowsOf ⟨false, 0, 0, 0⟩ (8 : Nat) (8 : Nat) (.fn fun j => zR (G j))) j)) ∧ El.v (G ((0 : Nat) + j)) < (18446744073709551616 : Nat)) (c3 : ∀ (j : Nat), j < n → ∀ (u : Sx.AV), u ∈ zR (G ((0 : Nat) + j)) → Sx.AV.low (0 : Nat) u = true) (c4 : (0 : Nat) + n ≤ n) (c5 : PEQ n fun j => (elR (G ((0 : Nat) + ((0 : Nat) + j))))) (c6 : decide (Prod.fst (ofX (rowsE fun j => (elR (G ((0 : Nat) + ((0 : Nat) + j))))) n) = (0 : Int)) = false) : Sx.PieceN 10 (Sx.Ex.normal) [(0, .slc true false ⟨false, 0, 0, 0⟩ n), (1, .str true pt), (5, .bool true), (6, .nilp), (7, .ptr ⟨false, 2, 0, 0⟩)] [(2, .cells true 2 1 (.lit [] (.n .e (some [.int true .i64 (Prod.fst (ofX (rowsE (Sx.rowsOf ⟨false, 1, 0, 0⟩ (8 : Nat) (8 : Nat) (.fn fun j => elR (rowsZ (Sx.rowsOf ⟨false, 0, 0, 0⟩ (8 : Nat) (8 : Nat) (.fn fun j => zR (G j))) j)))) n)), .int true .i64 (Prod.snd (ofX (rowsE (Sx.rowsOf ⟨false, 1, 0, 0⟩ (8 : Nat) (8 : Nat) (.fn fun j => elR (rowsZ (Sx.rowsOf ⟨false, 0, 0, 0⟩ (8 : Nat) (8 : Nat) (.fn fun j => zR (G j))) j)))) n))]) .e)))] (piececallT Try.f8 ((Sx.nav [1,1,0] (Sx.bodyOf Try.f8))) (Sx.frL [(0, .slc true false ⟨false, 0, 0, 0⟩ n), (1, .str true pt), (5, .bool true)]) (Sx.hpL [(0, .cells false 8 n (.fn fun j => zR (G j)))]) 1 [false]) := Sx.eqn (by kernel_rfl) (ai (ai (ai (ai (ai trivial c0) (ai (ai c1 c2) c3)) c4) c5) c6)
theorem soD_r0 (n q r u i m kk : Nat) (pt : Tx) (G E T : Nat → El) (M1 M2 M3 : List (Tx × Int)) (nd br : Nat → Tx) (f h : Nat → Nat × Nat) (s0 s1 : Nat) (g0 g1 er at_ : Int) (z : El) (t : Bool) : Sx.PieceN 10 (Sx.Ex.normal) [(0, .slc true false ⟨false, 0, 0, 0⟩ n), (1, .str true pt), (5, .bool true), (6, .ptr ⟨false, 8, 0, 0⟩)] (netL n q r E M1 M2 M3 nd br) (piececallT Try.f8 ((Sx.nav [1,1,1,0] (Sx.bodyOf Try.f8))) (Sx.frL [(0, .slc true false ⟨false, 0, 0, 0⟩ n), (1, .str true pt), (5, .bool true), (6, .ptr ⟨false, 8, 0, 0⟩), (7, .ptr ⟨false, 9, 0, 0⟩)]) (Sx.hpL (netL n q r E M1 M2 M3 nd br ++ [(9, .cells true 2 1 (.fn fun _ => [.int false .i64 0, .int false .i64 0]))])) 10 []) := Sx.eqn (by kernel_rfl) trivial
theorem soE_r0 (n q r u i m kk : Nat) (pt : Tx) (G E T : Nat → El) (M1 M2 M3 : List (Tx × Int)) (nd br : Nat → Tx) (f h : Nat → Nat × Nat) (s0 s1 : Nat) (g0 g1 er at_ : Int) (z : El) (t : Bool) (c0 : (!(decide (er = (0 : Int)) && (decide (at_ = (0 : Int)) && true))) = false) : Sx.PieceN 10 (Sx.Ex.ret) [(4, .bool true)] [] (piececallT Try.f8 ((Sx.nav [1,1,1,0] (Sx.bodyOf Try.f8))) (Sx.frL [(0, .slc true false ⟨false, 0, 0, 0⟩ n), (1, .str true pt), (5, .bool true), (6, .nilp), (7, .ptr ⟨false, 2, 0, 0⟩)]) (Sx.hpL [(2, .cells true 2 1 (.fn fun _ => [.int true .i64 er, .int true .i64 at_]))]) 10 [false]) := Sx.eqn (by kernel_rfl) (ai trivial c0)
theorem soE_r1 (n q r u i m kk : Nat) (pt : Tx) (G E T : Nat → El) (M1 M2 M3 : List (Tx × Int)) (nd br : Nat → Tx) (f h : Nat → Nat × Nat) (s0 s1 : Nat) (g0 g1 er at_ : Int) (z : El) (t : Bool) (c0 : (!(decide (er = (0 : Int)) && (decide (at_ = (0 : Int)) && true))) = true) : Sx.PieceN 10 (Sx.Ex.ret) [(4, .bool true)] [] (piececallT Try.f8 ((Sx.nav [1,1,1,0] (Sx.bodyOf Try.f8))) (Sx.frL [(0, .slc true false ⟨false, 0, 0, 0⟩ n), (1, .str true pt), (5, .bool true), (6, .nilp), (7, .ptr ⟨false, 2, 0, 0⟩)]) (Sx.hpL [(2, .cells true 2 1 (.fn fun _ => [.int true .i64 er, .int true .i64 at_]))]) 10 [true]) := Sx.eqn (by kernel_rfl) (ai trivial c0)
theorem soE (B : Nat) (hB : B ≤ 10) (n q r u i m kk : Nat) (pt : Tx) (G E T : Nat → El) (M1 M2 M3 : List (Tx × Int)) (nd br : Nat → Tx) (f h : Nat → Nat × Nat) (s0 s1 : Nat) (g0 g1 er at_ : Int) (z : El) (t : Bool) : Sx.GoesB Try.prog ((Sx.nav [1,1,1,0] (Sx.bodyOf Try.f8))) Try.f8.ntmps B 10 10 (Sx.frL [(0, .slc true false ⟨false, 0, 0, 0⟩ n), (1, .str true pt), (5, .bool true), (6, .nilp), (7, .ptr ⟨false, 2, 0, 0⟩)]) (Sx.hpL [(2, .cells true 2 1 (.fn fun _ => [.int true .i64 er, .int true .i64 at_]))]) fun e fr' H' => (cond (decide (er = (0 : Int)) && (decide (at_ = (0 : Int)) && true)) (e = .ret ∧ fr' = Sx.frL [(4, .bool true)] ∧ H' = Sx.hpL []) (e = .ret ∧ fr' = Sx.frL [(4, .bool true)] ∧ H' = Sx.hpL [])) := by
 cases t0 : decide (er = (0 : Int)) && (decide (at_ = (0 : Int)) && true) with
 | true =>
  exact (Sx.GoesB.runN callT_ok (callT_reg _) (Sx.LoopsIn.none _ _ _) (soE_r0 n q r u i m kk pt G E T M1 M2 M3 nd br f h s0 s1 g0 g1 er at_ z t (by rw [t0]; rfl)) hB).mono fun e fr' H' h => by first | (simp only [t0, cond_true, cond_false]; exact h) | (simp only [t0, cond_true, cond_false] at h ⊢; exact h)
 | false =>
  exact (Sx.GoesB.runN callT_ok (callT_reg _) (Sx.LoopsIn.none _ _ _) (soE_r1 n q r u i m kk pt G E T M1 M2 M3 nd br f h s0 s1 g0 g1 er at_ z t (by rw [t0]; rfl)) hB).mono fun e fr' H' h => by first | (simp only [t0, cond_true, cond_false]; exact h) | (simp only [t0, cond_true, cond_false] at h ⊢; exact h)
theorem soF_r0 (n q r u i m kk : Nat) (pt : Tx) (G E T : Nat → El) (M1 M2 M3 : List (Tx × Int)) (nd br : Nat → Tx) (f h : Nat → Nat × Nat) (s0 s1 : Nat) (g0 g1 er at_ : Int) (z : El) (t : Bool) (c0 : NetQ n q r n q r M1 M2 M3 (Sx.Cont.row (.fn fun j => elR (E j))) (Sx.Cont.row (.fn (txR nd))) (Sx.Cont.row (.fn (txR br)))) (c1 : decide (fbk (RB (rowsE fun j => elR (E j)) n) (0 : Nat) n = n) = true) : Sx.PieceN 12 (Sx.Ex.normal) [(1, .str true pt), (5, .bool true), (6, .ptr ⟨false, 8, 0, 0⟩), (8, .slc true true ⟨false, 10, 0, 0⟩ (ulen (rowsE fun j => elR (E j)) n)), (9, .ptr ⟨false, 11, 0, 0⟩)] [(2, .mSI true (zipF (0 : Nat) (NM (rowsE fun j => elR (E j)) n))), (3, .mSI true (zipF (0 : Nat) (ND (rowsE fun j => elR (E j)) n))), (4, .mSI true (zipF (0 : Nat) (BR (rowsE fun j => elR (E j)) n))), (5, .cells true 8 n (.fn fun j => elR (E j))), (6, .cells true 1 q (.fn (txR nd))), (7, .cells true 1 r (.fn (txR br))), (8, .cells true 7 1 (.fn fun _ => netG 2 3 4 5 6 7 n q r)), (10, .cells true 1 (ulen (rowsE fun j => elR (E j)) n) (.fn fun j => [.cpx true (Prod.fst (RF (rowsE fun j => elR (E j)) n n j)) (Prod.snd (RF (rowsE fun j => elR (E j)) n n j))])), (11, .cells true 2 1 (.lit [] (.n .e (some [.int false .i64 0, .int false .i64 0]) .e)))] (piececallT Try.f8 ((Sx.nav [1,1,1,1,0] (Sx.bodyOf Try.f8))) (Sx.frL [(0, .slc true false ⟨false, 0, 0, 0⟩ n), (1, .str true pt), (5, .bool true), (6, .ptr ⟨false, 8, 0, 0⟩)]) (Sx.hpL (netL n q r E M1 M2 M3 nd br)) 10 [true]) := Sx.eqn (by kernel_rfl) (ai (ai trivial c0) c1)
theorem soF_r1 (n q r u i m kk : Nat) (pt : Tx) (G E T : Nat → El) (M1 M2 M3 : List (Tx × Int)) (nd br : Nat → Tx) (f h : Nat → Nat × Nat) (s0 s1 : Nat) (g0 g1 er at_ : Int) (z : El) (t : Bool) (c0 : NetQ n q r n q r M1 M2 M3 (Sx.Cont.row (.fn fun j => elR (E j))) (Sx.Cont.row (.fn (txR nd))) (Sx.Cont.row (.fn (txR br)))) (c1 : decide (fbk (RB (rowsE fun j => elR (E j)) n) (0 : Nat) n = n) = false) : Sx.PieceN 12 (Sx.Ex.normal) [(1, .str true pt), (5, .bool true), (6, .ptr ⟨false, 8, 0, 0⟩), (8, .nils), (9, .ptr ⟨false, 10, 0, 0⟩)] [(2, .mSI true (zipF (0 : Nat) (NM (rowsE fun j => elR (E j)) n))), (3, .mSI true (zipF (0 : Nat) (ND (rowsE fun j => elR (E j)) n))), (4, .mSI true (zipF (0 : Nat) (BR (rowsE fun j => elR (E j)) n))), (5, .cells true 8 n (.fn fun j => elR (E j))), (6, .cells true 1 q (.fn (txR nd))), (7, .cells true 1 r (.fn (txR br))), (8, .cells true 7 1 (.fn fun _ => netG 2 3 4 5 6 7 n q r)), (10, .cells true 2 1 (.lit [] (.n .e (some [.int false .i64 6, .int true .i64 (↑(fbk (RB (rowsE fun j => elR (E j)) n) (0 : Nat) n) : Int)]) .e)))] (piececallT Try.f8 ((Sx.nav [1,1,1,1,0] (Sx.bodyOf Try.f8))) (Sx.frL [(0, .slc true false ⟨false, 0, 0, 0⟩ n), (1, .str true pt), (5, .bool true), (6, .ptr ⟨false, 8, 0, 0⟩)]) (Sx.hpL (netL n q r E M1 M2 M3 nd br)) 10 [false]) := Sx.eqn (by kernel_rfl) (ai (ai trivial c0) c1)
theorem soG_r0 (n q r u i m kk : Nat) (pt : Tx) (G E T : Nat → El) (M1 M2 M3 : List (Tx × Int)) (nd br : Nat → Tx) (f h : Nat → Nat × Nat) (s0 s1 : Nat) (g0 g1 er at_ : Int) (z : El) (t : Bool) : Sx.PieceN 12 (Sx.Ex.normal) [(1, .str true pt), (5, .bool true), (6, .ptr ⟨false, 8, 0, 0⟩), (8, .slc true true ⟨false, 10, 0, 0⟩ u), (9, .ptr ⟨false, 11, 0, 0⟩), (10, .int false .i64 0)] [] (piececallT Try.f8 ((Sx.nav [1,1,1,1,1,0,0] (Sx.bodyOf Try.f8))) (Sx.frL [(1, .str true pt), (5, .bool true), (6, .ptr ⟨false, 8, 0, 0⟩), (8, .slc true true ⟨false, 10, 0, 0⟩ u), (9, .ptr ⟨false, 11, 0, 0⟩)]) (Sx.hpL []) 12 []) := Sx.eqn (by kernel_rfl) trivial
theorem soH_r0 (n q r u i m kk : Nat) (pt : Tx) (G E T : Nat → El) (M1 M2 M3 : List (Tx × Int)) (nd br : Nat → Tx) (f h : Nat → Nat × Nat) (s0 s1 : Nat) (g0 g1 er at_ : Int) (z : El) (t : Bool) (c0 : decide ((↑kk : Int) < (2 : Int)) = true) : Sx.PieceN 12 (Sx.Ex.normal) [(1, .str true pt), (5, .bool true), (6, .ptr ⟨false, 8, 0, 0⟩), (8, .slc true true ⟨false, 10, 0, 0⟩ u), (9, .ptr ⟨false, 11, 0, 0⟩), (10, .int true .i64 (↑kk : Int))] [] (piececallT Try.f8 ((Sx.nav [1,1,1,1,1,0,1,0,0,0] (Sx.bodyOf Try.f8))) (Sx.frL [(1, .str true pt), (5, .bool true), (6, .ptr ⟨false, 8, 0, 0⟩), (8, .slc true true ⟨false, 10, 0, 0⟩ u), (9, .ptr ⟨false, 11, 0, 0⟩), (10, .int true .i64 (kk : Int))]) (Sx.hpL []) 12 [true]) := Sx.eqn (by kernel_rfl) (ai trivial c0)
theorem soH_r1 (n q r u i m kk : Nat) (pt : Tx) (G E T : Nat → El) (M1 M2 M3 : List (Tx × Int)) (nd br : Nat → Tx) (f h : Nat → Nat × Nat) (s0 s1 : Nat) (g0 g1 er at_ : Int) (z : El) (t : Bool) (c0 : decide ((↑kk : Int) < (2 : Int)) = false) : Sx.PieceN 12 (Sx.Ex.exit (0 : Nat)) [(1, .str true pt), (5, .bool true), (6, .ptr ⟨false, 8, 0, 0⟩), (8, .slc true true ⟨false, 10, 0, 0⟩ u), (9, .ptr ⟨false, 11, 0, 0⟩), (10, .int true .i64 (↑kk : Int))] [] (piececallT Try.f8 ((Sx.nav [1,1,1,1,1,0,1,0,0,0] (Sx.bodyOf Try.f8))) (Sx.frL [(1, .str true pt), (5, .bool true), (6, .ptr ⟨false, 8, 0, 0⟩), (8, .slc true true ⟨false, 10, 0, 0⟩ u), (9, .ptr ⟨false, 11, 0, 0⟩), (10, .int true .i64 (kk : Int))]) (Sx.hpL []) 12 [false]) := Sx.eqn (by kernel_rfl) (ai trivial c0)
theorem soI_r0 (n q r u i m kk : Nat) (pt : Tx) (G E T : Nat → El) (M1 M2 M3 : List (Tx × Int)) (nd br : Nat → Tx) (f h : Nat → Nat × Nat) (s0 s1 : Nat) (g0 g1 er at_ : Int) (z : El) (t : Bool) (c0 : (0 : Nat) + n ≤ n) (c1 : n * (104 : Nat) ≤ (140737488355328 : Nat)) (c2 : n ≤ (9223372036854775807 : Nat)) (c3 : (0 : Nat) + n ≤ n) (c4 : TQ n (Sx.rowsOf ⟨false, 12, 0, 0⟩ (8 : Nat) (8 : Nat) (.fn (Sx.rowsOf ⟨false, 5, 0, 0⟩ (8 : Nat) (8 : Nat) (.fn fun j => elR (E j)))))) (c5 : PEQ n fun j => (elR (tz (decide ((↑kk : Int) = (1 : Int))) (rowsE (Sx.rowsOf ⟨false, 12, 0, 0⟩ (8 : Nat) (8 : Nat) (.fn (Sx.rowsOf ⟨false, 5, 0, 0⟩ (8 : Nat) (8 : Nat) (.fn fun j => elR (E j))))) ((0 : Nat) + j))))) (c6 : decide (Prod.fst (ofX (rowsE fun j => (elR (tz (decide ((↑kk : Int) = (1 : Int))) (rowsE (Sx.rowsOf ⟨false, 12, 0, 0⟩ (8 : Nat) (8 : Nat) (.fn (Sx.rowsOf ⟨false, 5, 0, 0⟩ (8 : Nat) (8 : Nat) (.fn fun j => elR (E j))))) ((0 : Nat) + j))))) n) = (0 : Int)) = true) : Sx.PieceN 22 (Sx.Ex.normal) [(1, .str true pt), (5, .bool true), (6, .ptr ⟨false, 8, 0, 0⟩), (8, .slc true true ⟨false, 10, 0, 0⟩ u), (9, .ptr ⟨false, 11, 0, 0⟩), (10, .int true .i64 (↑kk : Int)), (11, .ptr ⟨false, 20, 0, 0⟩), (12, .ptr ⟨false, 21, 0, 0⟩)] (netL n q r E M1 M2 M3 nd br ++ [(10, .cells true 1 u (.fn (cxR f))), (11, .cells true 2 1 (.fn fun x => [.int true .i64 g0, .int true .i64 g1])), (14, .mSI true (zipF (0 : Nat) (NM (rowsE (Sx.rowsOf ⟨false, 13, 0, 0⟩ (8 : Nat) (8 : Nat) (.fn fun j => elR (tz (decide ((↑kk : Int) = (1 : Int))) (rowsE (Sx.rowsOf ⟨false, 12, 0, 0⟩ (8 : Nat) (8 : Nat) (.fn (Sx.rowsOf ⟨false, 5, 0, 0⟩ (8 : Nat) (8 : Nat) (.fn fun j => elR (E j))))) j))))) n))), (15, .mSI true (zipF (0 : Nat) (ND (rowsE (Sx.rowsOf ⟨false, 13, 0, 0⟩ (8 : Nat) (8 : Nat) (.fn fun j => elR (tz (decide ((↑kk : Int) = (1 : Int))) (rowsE (Sx.rowsOf ⟨false, 12, 0, 0⟩ (8 : Nat) (8 : Nat) (.fn (Sx.rowsOf ⟨false, 5, 0, 0⟩ (8 : Nat) (8 : Nat) (.fn fun j => elR (E j))))) j))))) n))), (16, .mSI true (zipF (0 : Nat) (BR (rowsE (Sx.rowsOf ⟨false, 13, 0, 0⟩ (8 : Nat) (8 : Nat) (.fn fun j => elR (tz (decide ((↑kk : Int) = (1 : Int))) (rowsE (Sx.rowsOf ⟨false, 12, 0, 0⟩ (8 : Nat) (8 : Nat) (.fn (Sx.rowsOf ⟨false, 5, 0, 0⟩ (8 : Nat) (8 : Nat) (.fn fun j => elR (E j))))) j))))) n))), (17, .cells true 8 n (.fn fun j => (elR (tz (decide ((↑kk : Int) = (1 : Int))) (rowsE (Sx.rowsOf ⟨false, 12, 0, 0⟩ (8 : Nat) (8 : Nat) (.fn (Sx.rowsOf ⟨false, 5, 0, 0⟩ (8 : Nat) (8 : Nat) (.fn fun j => elR (E j))))) ((0 : Nat) + j)))))), (18, .cells true 1 (List.length (ND (rowsE fun j => (elR (tz (decide ((↑kk : Int) = (1 : Int))) (rowsE (Sx.rowsOf ⟨false, 12, 0, 0⟩ (8 : Nat) (8 : Nat) (.fn (Sx.rowsOf ⟨false, 5, 0, 0⟩ (8 : Nat) (8 : Nat) (.fn fun j => elR (E j))))) ((0 : Nat) + j))))) n)) (.fn fun j => [.str true (lget (ND (rowsE fun j => (elR (tz (decide ((↑kk : Int) = (1 : Int))) (rowsE (Sx.rowsOf ⟨false, 12, 0, 0⟩ (8 : Nat) (8 : Nat) (.fn (Sx.rowsOf ⟨false, 5, 0, 0⟩ (8 : Nat) (8 : Nat) (.fn fun j => elR (E j))))) ((0 : Nat) + j))))) n) j)])), (19, .cells true 1 (List.length (BR (rowsE fun j => (elR (tz (decide ((↑kk : Int) = (1 : Int))) (rowsE (Sx.rowsOf ⟨false, 12, 0, 0⟩ (8 : Nat) (8 : Nat) (.fn (Sx.rowsOf ⟨false, 5, 0, 0⟩ (8 : Nat) (8 : Nat) (.fn fun j => elR (E j))))) ((0 : Nat) + j))))) n)) (.fn fun j => [.str true (lget (BR (rowsE fun j => (elR (tz (decide ((↑kk : Int) = (1 : Int))) (rowsE (Sx.rowsOf ⟨false, 12, 0, 0⟩ (8 : Nat) (8 : Nat) (.fn (Sx.rowsOf ⟨false, 5, 0, 0⟩ (8 : Nat) (8 : Nat) (.fn fun j => elR (E j))))) ((0 : Nat) + j))))) n) j)])), (20, .cells true 7 1 (.fn fun x => [.bool true, .slc true true ⟨false, 17, 0, 0⟩ n, Sx.AV.mp (14 : Nat), .slc true true ⟨false, 18, 0, 0⟩ (List.length (ND (rowsE fun j => (elR (tz (decide ((↑kk : Int) = (1 : Int))) (rowsE (Sx.rowsOf ⟨false, 12, 0, 0⟩ (8 : Nat) (8 : Nat) (.fn (Sx.rowsOf ⟨false, 5, 0, 0⟩ (8 : Nat) (8 : Nat) (.fn fun j => elR (E j))))) ((0 : Nat) + j))))) n)), Sx.AV.mp (15 : Nat), .slc true true ⟨false, 19, 0, 0⟩ (List.length (BR (rowsE fun j => (elR (tz (decide ((↑kk : Int) = (1 : Int))) (rowsE (Sx.rowsOf ⟨false, 12, 0, 0⟩ (8 : Nat) (8 : Nat) (.fn (Sx.rowsOf ⟨false, 5, 0, 0⟩ (8 : Nat) (8 : Nat) (.fn fun j => elR (E j))))) ((0 : Nat) + j))))) n)), Sx.AV.mp (16 : Nat)])), (21, .cells true 2 1 (.lit [] (.n .e (some [.int false .i64 0, .int false .i64 0]) .e)))]) (piececallT Try.f8 ((Sx.nav [1,1,1,1,1,0,1,0,0,1,0,0,0] (Sx.bodyOf Try.f8))) (Sx.frL [(1, .str true pt), (5, .bool true), (6, .ptr ⟨false, 8, 0, 0⟩), (8, .slc true true ⟨false, 10, 0, 0⟩ u), (9, .ptr ⟨false, 11, 0, 0⟩), (10, .int true .i64 (kk : Int))]) (Sx.hpL (netL n q r E M1 M2 M3 nd br ++ [(10, .cells true 1 u (.fn (cxR f))), (11, .cells true 2 1 (.fn fun _ => [.int true .i64 g0, .int true .i64 g1]))])) 12 [true]) := Sx.eqn (by kernel_rfl) (ai (ai (ai (ai (ai (ai (ai trivial c0) (ai c1 c2)) c3) c4) c3) c5) c6)
theorem soJ_r0 (n q r u i m kk : Nat) (pt : Tx) (G E T : Nat → El) (M1 M2 M3 : List (Tx × Int)) (nd br : Nat → Tx) (f h : Nat → Nat × Nat) (s0 s1 : Nat) (g0 g1 er at_ : Int) (z : El) (t : Bool) : Sx.PieceN 22 (Sx.Ex.normal) [(1, .str true pt), (5, .bool true), (6, .ptr ⟨false, 8, 0, 0⟩), (8, .slc true true ⟨false, 10, 0, 0⟩ u), (9, .ptr ⟨false, 11, 0, 0⟩), (10, .int true .i64 (↑kk : Int)), (11, .ptr ⟨false, 20, 0, 0⟩)] [] (piececallT Try.f8 ((Sx.nav [1,1,1,1,1,0,1,0,0,1,0,0,1,0] (Sx.bodyOf Try.f8))) (Sx.frL [(1, .str true pt), (5, .bool true), (6, .ptr ⟨false, 8, 0, 0⟩), (8, .slc true true ⟨false, 10, 0, 0⟩ u), (9, .ptr ⟨false, 11, 0, 0⟩), (10, .int true .i64 (kk : Int)), (11, .ptr ⟨false, 20, 0, 0⟩), (12, .ptr ⟨false, 21, 0, 0⟩)]) (Sx.hpL [(21, .cells true 2 1 (.fn fun _ => [.int false .i64 0, .int false .i64 0]))]) 22 []) := Sx.eqn (by kernel_rfl) trivial
theorem soK_r0 (n q r u i m kk : Nat) (pt : Tx) (G E T : Nat → El) (M1 M2 M3 : List (Tx × Int)) (nd br : Nat → Tx) (f h : Nat → Nat × Nat) (s0 s1 : Nat) (g0 g1 er at_ : Int) (z : El) (t : Bool) (c0 : NetQ n q r n q r M1 M2 M3 (Sx.Cont.row (.fn fun j => elR (T j))) (Sx.Cont.row (.fn (txR nd))) (Sx.Cont.row (.fn (txR br)))) (c1 : decide (fbk (RB (rowsE fun j => elR (T j)) n) (0 : Nat) n = n) = true) : Sx.PieceN 24 (Sx.Ex.normal) [(1, .str true pt), (5, .bool true), (6, .ptr ⟨false, 8, 0, 0⟩), (8, .slc true true ⟨false, 10, 0, 0⟩ u), (9, .ptr ⟨false, 11, 0, 0⟩), (10, .int true .i64 (↑kk : Int)), (13, .slc true true ⟨false, 22, 0, 0⟩ (ulen (rowsE fun j => elR (T j)) n)), (14, .ptr ⟨false, 23, 0, 0⟩)] [(22, .cells true 1 (ulen (rowsE fun j => elR (T j)) n) (.fn fun j => [.cpx true (Prod.fst (RF (rowsE fun j => elR (T j)) n n j)) (Prod.snd (RF (rowsE fun j => elR (T j)) n n j))])), (23, .cells true 2 1 (.lit [] (.n .e (some [.int false .i64 0, .int false .i64 0]) .e)))] (piececallT Try.f8 ((Sx.nav [1,1,1,1,1,0,1,0,0,1,0,0,1,1,0] (Sx.bodyOf Try.f8))) (Sx.frL [(1, .str true pt), (5, .bool true), (6, .ptr ⟨false, 8, 0, 0⟩), (8, .slc true true ⟨false, 10, 0, 0⟩ u), (9, .ptr ⟨false, 11, 0, 0⟩), (10, .int true .i64 (kk : Int)), (11, .ptr ⟨false, 20, 0, 0⟩)]) (Sx.hpL (net2L n q r T M1 M2 M3 nd br)) 22 [true]) := Sx.eqn (by kernel_rfl) (ai (ai trivial c0) c1)
theorem soK_r1 (n q r u i m kk : Nat) (pt : Tx) (G E T : Nat → El) (M1 M2 M3 : List (Tx × Int)) (nd br : Nat → Tx) (f h : Nat → Nat × Nat) (s0 s1 : Nat) (g0 g1 er at_ : Int) (z : El) (t : Bool) (c0 : NetQ n q r n q r M1 M2 M3 (Sx.Cont.row (.fn fun j => elR (T j))) (Sx.Cont.row (.fn (txR nd))) (Sx.Cont.row (.fn (txR br)))) (c1 : decide (fbk (RB (rowsE fun j => elR (T j)) n) (0 : Nat) n = n) = false) : Sx.PieceN 24 (Sx.Ex.normal) [(1, .str true pt), (5, .bool true), (6, .ptr ⟨false, 8, 0, 0⟩), (8, .slc true true ⟨false, 10, 0, 0⟩ u), (9, .ptr ⟨false, 11, 0, 0⟩), (10, .int true .i64 (↑kk : Int)), (13, .nils), (14, .ptr ⟨false, 22, 0, 0⟩)] [(22, .cells true 2 1 (.lit [] (.n .e (some [.int false .i64 6, .int true .i64 (↑(fbk (RB (rowsE fun j => elR (T j)) n) (0 : Nat) n) : Int)]) .e)))] (piececallT Try.f8 ((Sx.nav [1,1,1,1,1,0,1,0,0,1,0,0,1,1,0] (Sx.bodyOf Try.f8))) (Sx.frL [(1, .str true pt), (5, .bool true), (6, .ptr ⟨false, 8, 0, 0⟩), (8, .slc true true ⟨false, 10, 0, 0⟩ u), (9, .ptr ⟨false, 11, 0, 0⟩), (10, .int true .i64 (kk : Int)), (11, .ptr ⟨false, 20, 0, 0⟩)]) (Sx.hpL (net2L n q r T M1 M2 M3 nd br)) 22 [false]) := Sx.eqn (by kernel_rfl) (ai (ai trivial c0) c1)
theorem soL_r0 (n q r u i m kk : Nat) (pt : Tx) (G E T : Nat → El) (M1 M2 M3 : List (Tx × Int)) (nd br : Nat → Tx) (f h : Nat → Nat × Nat) (s0 s1 : Nat) (g0 g1 er at_ : Int) (z : El) (t : Bool) (c0 : (!(decide ((0 : Int) = g0) && (decide ((0 : Int) = g1) && true))) = false) (c1 : (!decide ((↑u : Int) = (↑u : Int))) = false) : Sx.PieceN 24 (Sx.Ex.normal) [(1, .str true pt), (5, .bool true), (6, .ptr ⟨false, 8, 0, 0⟩), (8, .slc true true ⟨false, 10, 0, 0⟩ u), (9, .ptr ⟨false, 11, 0, 0⟩), (10, .int true .i64 (↑kk : Int)), (13, .slc true true ⟨false, 22, 0, 0⟩ u)] [(11, .cells true 2 1 (.fn fun x => [.int true .i64 g0, .int true .i64 g1]))] (piececallT Try.f8 ((Sx.nav [1,1,1,1,1,0,1,0,0,1,0,0,1,1,1,0] (Sx.bodyOf Try.f8))) (Sx.frL [(1, .str true pt), (5, .bool true), (6, .ptr ⟨false, 8, 0, 0⟩), (8, .slc true true ⟨false, 10, 0, 0⟩ u), (9, .ptr ⟨false, 11, 0, 0⟩), (10, .int true .i64 (kk : Int)), (13, .slc true true ⟨false, 22, 0, 0⟩ u), (14, .ptr ⟨false, 23, 0, 0⟩)]) (Sx.hpL [(11, .cells true 2 1 (.fn fun _ => [.int true .i64 g0, .int true .i64 g1])), (23, .cells true 2 1 (.fn fun _ => [.int false .i64 0, .int false .i64 0]))]) 24 [false, false]) := Sx.eqn (by kernel_rfl) (ai (ai trivial c0) c1)
theorem soM_r0 (n q r u i m kk : Nat) (pt : Tx) (G E T : Nat → El) (M1 M2 M3 : List (Tx × Int)) (nd br : Nat → Tx) (f h : Nat → Nat × Nat) (s0 s1 : Nat) (g0 g1 er at_ : Int) (z : El) (t : Bool) (c0 : (!(decide ((6 : Int) = g0) && (decide ((↑m : Int) = g1) && true))) = false) (c1 : (!decide ((0 : Int) = (↑u : Int))) = false) : Sx.PieceN 24 (Sx.Ex.normal) [(1, .str true pt), (5, .bool true), (6, .ptr ⟨false, 8, 0, 0⟩), (8, .slc true true ⟨false, 10, 0, 0⟩ u), (9, .ptr ⟨false, 11, 0, 0⟩), (10, .int true .i64 (↑kk : Int)), (13, .nils)] [(11, .cells true 2 1 (.fn fun x => [.int true .i64 g0, .int true .i64 g1]))] (piececallT Try.f8 ((Sx.nav [1,1,1,1,1,0,1,0,0,1,0,0,1,1,1,0] (Sx.bodyOf Try.f8))) (Sx.frL [(1, .str true pt), (5, .bool true), (6, .ptr ⟨false, 8, 0, 0⟩), (8, .slc true true ⟨false, 10, 0, 0⟩ u), (9, .ptr ⟨false, 11, 0, 0⟩), (10, .int true .i64 (kk : Int)), (13, .nils), (14, .ptr ⟨false, 22, 0, 0⟩)]) (Sx.hpL [(11, .cells true 2 1 (.fn fun _ => [.int true .i64 g0, .int true .i64 g1])), (22, .cells true 2 1 (.fn fun _ => [.int false .i64 6, .int true .i64 (m : Int)]))]) 24 [false, false]) := Sx.eqn (by kernel_rfl) (ai (ai trivial c0) c1)
theorem soN_r0 (n q r u i m kk : Nat) (pt : Tx) (G E T : Nat → El) (M1 M2 M3 : List (Tx × Int)) (nd br : Nat → Tx) (f h : Nat → Nat × Nat) (s0 s1 : Nat) (g0 g1 er at_ : Int) (z : El) (t : Bool) : Sx.PieceN 24 (Sx.Ex.normal) [(1, .str true pt), (5, .bool true), (6, .ptr ⟨false, 8, 0, 0⟩), (8, .slc true true ⟨false, 10, 0, 0⟩ u), (9, .ptr ⟨false, 11, 0, 0⟩), (10, .int true .i64 (↑kk : Int)), (13, .slc true true ⟨false, 22, 0, 0⟩ u), (15, .int false .i64 0)] [] (piececallT Try.f8 ((Sx.nav [1,1,1,1,1,0,1,0,0,1,0,0,1,1,1,1,0] (Sx.bodyOf Try.f8))) (Sx.frL [(1, .str true pt), (5, .bool true), (6, .ptr ⟨false, 8, 0, 0⟩), (8, .slc true true ⟨false, 10, 0, 0⟩ u), (9, .ptr ⟨false, 11, 0, 0⟩), (10, .int true .i64 (kk : Int)), (13, .slc true true ⟨false, 22, 0, 0⟩ u)]) (Sx.hpL []) 24 []) := Sx.eqn (by kernel_rfl) trivial
theorem soO_r0 (n q r u i m kk : Nat) (pt : Tx) (G E T : Nat → El) (M1 M2 M3 : List (Tx × Int)) (nd br : Nat → Tx) (f h : Nat → Nat × Nat) (s0 s1 : Nat) (g0 g1 er at_ : Int) (z : El) (t : Bool) (c0 : decide ((↑i : Int) < (↑u : Int)) = true) : Sx.PieceN 24 (Sx.Ex.normal) [(1, .str true pt), (5, .bool true), (6, .ptr ⟨false, 8, 0, 0⟩), (8, .slc true true ⟨false, 10, 0, 0⟩ u), (9, .ptr ⟨false, 11, 0, 0⟩), (10, .int true .i64 (↑kk : Int)), (13, .slc true true ⟨false, 22, 0, 0⟩ u), (15, .int true .i64 (↑i : Int))] [] (piececallT Try.f8 ((Sx.nav [1,1,1,1,1,0,1,0,0,1,0,0,1,1,1,1,1,0,0,0] (Sx.bodyOf Try.f8))) (Sx.frL [(1, .str true pt), (5, .bool true), (6, .ptr ⟨false, 8, 0, 0⟩), (8, .slc true true ⟨false, 10, 0, 0⟩ u), (9, .ptr ⟨false, 11, 0, 0⟩), (10, .int true .i64 (kk : Int)), (13, .slc true true ⟨false, 22, 0, 0⟩ u), (15, .int true .i64 (i : Int))]) (Sx.hpL []) 24 [true]) := Sx.eqn (by kernel_rfl) (ai trivial c0)
theorem soO_r1 (n q r u i m kk : Nat) (pt : Tx) (G E T : Nat → El) (M1 M2 M3 : List (Tx × Int)) (nd br : Nat → Tx) (f h : Nat → Nat × Nat) (s0 s1 : Nat) (g0 g1 er at_ : Int) (z : El) (t : Bool) (c0 : decide ((↑i : Int) < (↑u : Int)) = false) : Sx.PieceN 24 (Sx.Ex.exit (2 : Nat)) [(1, .str true pt), (5, .bool true), (6, .ptr ⟨false, 8, 0, 0⟩), (8, .slc true true ⟨false, 10, 0, 0⟩ u), (9, .ptr ⟨false, 11, 0, 0⟩), (10, .int true .i64 (↑kk : Int)), (13, .slc true true ⟨false, 22, 0, 0⟩ u), (15, .int true .i64 (↑i : Int))] [] (piececallT Try.f8 ((Sx.nav [1,1,1,1,1,0,1,0,0,1,0,0,1,1,1,1,1,0,0,0] (Sx.bodyOf Try.f8))) (Sx.frL [(1, .str true pt), (5, .bool true), (6, .ptr ⟨false, 8, 0, 0⟩), (8, .slc true true ⟨false, 10, 0, 0⟩ u), (9, .ptr ⟨false, 11, 0, 0⟩), (10, .int true .i64 (kk : Int)), (13, .slc true true ⟨false, 22, 0, 0⟩ u), (15, .int true .i64 (i : Int))]) (Sx.hpL []) 24 [false]) := Sx.eqn (by kernel_rfl) (ai trivial c0)
theorem soP_r0 (n q r u i m kk : Nat) (pt : Tx) (G E T : Nat → El) (M1 M2 M3 : List (Tx × Int)) (nd br : Nat → Tx) (f h : Nat → Nat × Nat) (s0 s1 : Nat) (g0 g1 er at_ : Int) (z : El) (t : Bool) (c0 : (0 : Int) ≤ (↑i : Int)) (c1 : (↑i : Int) < (↑u : Int)) (c2 : (0 : Nat) + i < u) (c3 : (0 : Nat) + i < u) (c4 : (!(Sx.feq (Prod.fst (h ((0 : Nat) + i))) (Sx.fneg (Prod.fst (f ((0 : Nat) + i)))) && Sx.feq (Prod.snd (h ((0 : Nat) + i))) (Sx.fneg (Prod.snd (f ((0 : Nat) + i)))))) = false) : Sx.PieceN 24 (Sx.Ex.normal) [(1, .str true pt), (5, .bool true), (6, .ptr ⟨false, 8, 0, 0⟩), (8, .slc true true ⟨false, 10, 0, 0⟩ u), (9, .ptr ⟨false, 11, 0, 0⟩), (10, .int true .i64 (↑kk : Int)), (13, .slc true true ⟨false, 22, 0, 0⟩ u), (15, .int true .i64 (↑i : Int))] [(10, .cells true 1 u (.fn (cxR f))), (22, .cells true 1 u (.fn (cxR h)))] (piececallT Try.f8 ((Sx.nav [1,1,1,1,1,0,1,0,0,1,0,0,1,1,1,1,1,0,0,1,0,0] (Sx.bodyOf Try.f8))) (Sx.frL [(1, .str true pt), (5, .bool true), (6, .ptr ⟨false, 8, 0, 0⟩), (8, .slc true true ⟨false, 10, 0, 0⟩ u), (9, .ptr ⟨false, 11, 0, 0⟩), (10, .int true .i64 (kk : Int)), (13, .slc true true ⟨false, 22, 0, 0⟩ u), (15, .int true .i64 (i : Int))]) (Sx.hpL [(10, .cells true 1 u (.fn (cxR f))), (22, .cells true 1 u (.fn (cxR h)))]) 24 [false]) := Sx.eqn (by kernel_rfl) (ai (ai (ai (ai (ai trivial (ai c0 c1)) c2) (ai c0 c1)) c3) c4)
theorem soN2_r0 (n q r u i m kk : Nat) (pt : Tx) (G E T : Nat → El) (M1 M2 M3 : List (Tx × Int)) (nd br : Nat → Tx) (f h : Nat → Nat × Nat) (s0 s1 : Nat) (g0 g1 er at_ : Int) (z : El) (t : Bool) : Sx.PieceN 24 (Sx.Ex.normal) [(1, .str true pt), (5, .bool true), (6, .ptr ⟨false, 8, 0, 0⟩), (8, .slc true true ⟨false, 10, 0, 0⟩ u), (9, .ptr ⟨false, 11, 0, 0⟩), (10, .int true .i64 (↑kk : Int)), (15, .int false .i64 0)] [] (piececallT Try.f8 ((Sx.nav [1,1,1,1,1,0,1,0,0,1,0,0,1,1,1,1,0] (Sx.bodyOf Try.f8))) (Sx.frL [(1, .str true pt), (5, .bool true), (6, .ptr ⟨false, 8, 0, 0⟩), (8, .slc true true ⟨false, 10, 0, 0⟩ u), (9, .ptr ⟨false, 11, 0, 0⟩), (10, .int true .i64 (kk : Int))]) (Sx.hpL []) 24 []) := Sx.eqn (by kernel_rfl) trivial
theorem soO2_r1 (n q r u i m kk : Nat) (pt : Tx) (G E T : Nat → El) (M1 M2 M3 : List (Tx × Int)) (nd br : Nat → Tx) (f h : Nat → Nat × Nat) (s0 s1 : Nat) (g0 g1 er at_ : Int) (z : El) (t : Bool) (c0 : decide ((↑i : Int) < (↑u : Int)) = false) : Sx.PieceN 24 (Sx.Ex.exit (2 : Nat)) [(1, .str true pt), (5, .bool true), (6, .ptr ⟨false, 8, 0, 0⟩), (8, .slc true true ⟨false, 10, 0, 0⟩ u), (9, .ptr ⟨false, 11, 0, 0⟩), (10, .int true .i64 (↑kk : Int))] [] (piececallT Try.f8 ((Sx.nav [1,1,1,1,1,0,1,0,0,1,0,0,1,1,1,1,1,0,0,0] (Sx.bodyOf Try.f8))) (Sx.frL [(1, .str true pt), (5, .bool true), (6, .ptr ⟨false, 8, 0, 0⟩), (8, .slc true true ⟨false, 10, 0, 0⟩ u), (9, .ptr ⟨false, 11, 0, 0⟩), (10, .int true .i64 (kk : Int)), (15, .int true .i64 (i : Int))]) (Sx.hpL []) 24 [false]) := Sx.eqn (by kernel_rfl) (ai trivial c0)
theorem soQ_r0 (n q r u i m kk : Nat) (pt : Tx) (G E T : Nat → El) (M1 M2 M3 : List (Tx × Int)) (nd br : Nat → Tx) (f h : Nat → Nat × Nat) (s0 s1 : Nat) (g0 g1 er at_ : Int) (z : El) (t : Bool) (c0 : (-9223372036854775808 : Int) ≤ (↑i : Int) + (1 : Int)) (c1 : (↑i : Int) + (1 : Int) ≤ (9223372036854775807 : Int)) : Sx.PieceN 24 (Sx.Ex.normal) [(1, .str true pt), (5, .bool true), (6, .ptr ⟨false, 8, 0, 0⟩), (8, .slc true true ⟨false, 10, 0, 0⟩ u), (9, .ptr ⟨false, 11, 0, 0⟩), (10, .int true .i64 (↑kk : Int)), (13, .slc true true ⟨false, 22, 0, 0⟩ u), (15, .int true .i64 ((↑i : Int) + (1 : Int)))] [] (piececallT Try.f8 ((Sx.nav [1,1,1,1,1,0,1,0,0,1,0,0,1,1,1,1,1,0,0,1,1] (Sx.bodyOf Try.f8))) (Sx.frL [(1, .str true pt), (5, .bool true), (6, .ptr ⟨false, 8, 0, 0⟩), (8, .slc true true ⟨false, 10, 0, 0⟩ u), (9, .ptr ⟨false, 11, 0, 0⟩), (10, .int true .i64 (kk : Int)), (13, .slc true true ⟨false, 22, 0, 0⟩ u), (15, .int true .i64 (i : Int))]) (Sx.hpL []) 24 []) := Sx.eqn (by kernel_rfl) (ai trivial (ai c0 c1))
theorem soR_r0 (n q r u i m kk : Nat) (pt : Tx) (G E T : Nat → El) (M1 M2 M3 : List (Tx × Int)) (nd br : Nat → Tx) (f h : Nat → Nat × Nat) (s0 s1 : Nat) (g0 g1 er at_ : Int) (z : El) (t : Bool) (c0 : (-9223372036854775808 : Int) ≤ (↑kk : Int) + (1 : Int)) (c1 : (↑kk : Int) + (1 : Int) ≤ (9223372036854775807 : Int)) : Sx.PieceN 12 (Sx.Ex.normal) [(1, .str true pt), (5, .bool true), (6, .ptr ⟨false, 8, 0, 0⟩), (8, .slc true true ⟨false, 10, 0, 0⟩ u), (9, .ptr ⟨false, 11, 0, 0⟩), (10, .int true .i64 ((↑kk : Int) + (1 : Int)))] [] (piececallT Try.f8 ((Sx.nav [1,1,1,1,1,0,1,0,0,1,1] (Sx.bodyOf Try.f8))) (Sx.frL [(1, .str true pt), (5, .bool true), (6, .ptr ⟨false, 8, 0, 0⟩), (8, .slc true true ⟨false, 10, 0, 0⟩ u), (9, .ptr ⟨false, 11, 0, 0⟩), (10, .int true .i64 (kk : Int))]) (Sx.hpL []) 12 []) := Sx.eqn (by kernel_rfl) (ai trivial (ai c0 c1))
theorem soS_r4 (n q r u i m kk : Nat) (pt : Tx) (G E T : Nat → El) (M1 M2 M3 : List (Tx × Int)) (nd br : Nat → Tx) (f h : Nat → Nat × Nat) (s0 s1 : Nat) (g0 g1 er at_ : Int) (z : El) (t : Bool) (c0 : (0 : Nat) + n ≤ n) (c1 : n * (104 : Nat) ≤ (140737488355328 : Nat)) (c2 : n ≤ (9223372036854775807 : Nat)) (c3 : ∀ (i : Nat), i < n → ∀ (o : Nat) (v : Sx.AV), (elR (E ((0 : Nat) + i)))[o]? = Option.some v → Sx.AV.inS (fun g => Sx.inR [(0, 15), (15, 16), (15, 15)] g = true) v) (c4 : n ≤ n) (c5 : (n + (1 : Nat)) * (104 : Nat) ≤ (140737488355328 : Nat)) (c6 : n + (1 : Nat) ≤ (9223372036854775807 : Nat)) (c7 : ∀ (i : Nat), i < n + (1 : Nat) → ∀ (o : Nat) (v : Sx.AV), (apz0 E n i)[o]? = Option.some v → Sx.AV.inS (fun g => Sx.inR [(0, 15), (17, 18), (16, 17), (16, 16), (15, 16), (15, 15)] g = true) v) (c8 : (0 : Nat) + (n + (1 : Nat)) ≤ n + (1 : Nat)) (c9 : PEQ (n + (1 : Nat)) (apz E n)) (c10 : decide (Prod.fst (ofX (rowsE (apz E n)) (n + 1)) = (0 : Int)) = false) (c11 : decide (Prod.fst (ofX (rowsE (apz E n)) (n + 1)) = (1 : Int)) = false) (c12 : (!Option.isSome (Sx.lfind Sx.seq pt M1)) = false) (c13 : (0 : Int) ≤ Option.getD (Sx.lfind Sx.seq pt M1) (0 : Int)) (c14 : Option.getD (Sx.lfind Sx.seq pt M1) (0 : Int) < (↑n : Int)) (c15 : (0 : Nat) + Int.toNat (Option.getD (Sx.lfind Sx.seq pt M1) (0 : Int)) < n) (c16 : (8 : Nat) ≤ (8 : Nat)) (c17 : (!decide (El.k (E ((0 : Nat) + Int.toNat (Option.rec (0 : Int) (fun val => val) (Sx.lfind Sx.seq pt M1)))) = (8 : Int))) = false) (c18 : (-9223372036854775808 : Int) ≤ (↑q : Int) + (↑r : Int)) (c19 : (↑q : Int) + (↑r : Int) ≤ (9223372036854775807 : Int)) (c20 : (0 : Int) ≤ (↑q : Int) + (↑r : Int)) (c21 : (↑q : Int) + (↑r : Int) ≤ (↑q : Int) + (↑r : Int)) (c22 : (16 : Int) * ((↑q : Int) + (↑r : Int)) ≤ (140737488355328 : Int)) (c23 : (↑q : Int) + (↑r : Int) ≤ (9223372036854775807 : Int)) (c24 : Int.toNat ((↑q : Int) + (↑r : Int)) = Int.toNat ((↑q : Int) + (↑r : Int))) (c25 : ∀ (i : Int), Sx.lfind Sx.seq (E ((0 : Nat) + Int.toNat (Option.getD (Sx.lfind Sx.seq pt M1) (0 : Int)))).3 M2 = Option.some i → (0 : Int) ≤ i ∧ i < (↑(Int.toNat ((↑q : Int) + (↑r : Int))) : Int)) (c26 : ∀ (j : Nat), j < Int.toNat (Int.ofNat (q + r)) → CxRow (Sx.AV.cells (Sx.ofVal (Go.Value.complex Go.FloatKind.f64 (0 : Nat) (0 : Nat))))) (c27 : Int.toNat ((↑q : Int) + (↑r : Int)) = Int.toNat (Int.ofNat (q + r))) (c28 : ∀ (i : Int), Sx.lfind Sx.seq (E ((0 : Nat) + Int.toNat (Option.getD (Sx.lfind Sx.seq pt M1) (0 : Int)))).4 M2 = Option.some i → (0 : Int) ≤ i ∧ i < (↑(Int.toNat ((↑q : Int) + (↑r : Int))) : Int)) (c29 : ∀ (j : Nat), j < Int.toNat (Int.ofNat (q + r)) → CxRow (cxR (Prod.fst (putV cadd (El.a (E ((0 : Nat) + Int.toNat (Option.getD (Sx.lfind Sx.seq pt M1) (0 : Int))))) M2 (cxof (.fn fun x => Sx.AV.cells (Sx.ofVal (Go.Value.complex Go.FloatKind.f64 (0 : Nat) (0 : Nat))))) (4607182418800017408, 0))) j)) : Sx.PieceN 30 (Sx.Ex.normal) [(1, .str true pt), (5, .bool true), (6, .ptr ⟨false, 8, 0, 0⟩), (16, .slc true true ⟨false, 21, 0, 0⟩ (Int.toNat (Int.ofNat (q + r)))), (17, .ptr ⟨false, 22, 0, 0⟩)] (netL n q r E M1 M2 M3 nd br ++ [(21, .cells true 1 (Int.toNat (Int.ofNat (q + r))) (.fn fun j => [.cpx true (Prod.fst (Prod.fst (putV csub (El.b (E ((0 : Nat) + Int.toNat (Option.getD (Sx.lfind Sx.seq pt M1) (0 : Int))))) M2 (cxof (.fn (cxR (Prod.fst (putV cadd (El.a (E ((0 : Nat) + Int.toNat (Option.getD (Sx.lfind Sx.seq pt M1) (0 : Int))))) M2 (cxof (.fn fun x => Sx.AV.cells (Sx.ofVal (Go.Value.complex Go.FloatKind.f64 (0 : Nat) (0 : Nat))))) (4607182418800017408, 0)))))) (4607182418800017408, 0)) j)) (Prod.snd (Prod.fst (putV csub (El.b (E ((0 : Nat) + Int.toNat (Option.getD (Sx.lfind Sx.seq pt M1) (0 : Int))))) M2 (cxof (.fn (cxR (Prod.fst (putV cadd (El.a (E ((0 : Nat) + Int.toNat (Option.getD (Sx.lfind Sx.seq pt M1) (0 : Int))))) M2 (cxof (.fn fun x => Sx.AV.cells (Sx.ofVal (Go.Value.complex Go.FloatKind.f64 (0 : Nat) (0 : Nat))))) (4607182418800017408, 0)))))) (4607182418800017408, 0)) j))])), (22, .cells true 2 1 (.lit [] (.n .e (some [.int false .i64 0, .int false .i64 0]) .e)))]) (piececallT Try.f8 ((Sx.nav [1,1,1,1,1,1,0] (Sx.bodyOf Try.f8))) (Sx.frL [(1, .str true pt), (5, .bool true), (6, .ptr ⟨false, 8, 0, 0⟩)]) (Sx.hpL (netL n q r E M1 M2 M3 nd br)) 12 [false, false, false, false]) := Sx.eqn (by kernel_rfl) (ai (ai (ai (ai (ai (ai (ai (ai (ai (ai (ai (ai (ai (ai (ai (ai (ai (ai trivial c0) (ai c1 c2)) c3) (ai c4 (ai c5 c6))) c7) c8) c9) c10) c11) c12) (ai c13 c14)) c15) c16) c17) (ai c18 c19)) (ai c20 (ai c21 (ai c22 c23)))) (ai c24 (ai c25 c26))) (ai c27 (ai c28 c29)))
theorem soS_r5 (n q r u i m kk : Nat) (pt : Tx) (G E T : Nat → El) (M1 M2 M3 : List (Tx × Int)) (nd br : Nat → Tx) (f h : Nat → Nat × Nat) (s0 s1 : Nat) (g0 g1 er at_ : Int) (z : El) (t : Bool) (c0 : (0 : Nat) + n ≤ n) (c1 : n * (104 : Nat) ≤ (140737488355328 : Nat)) (c2 : n ≤ (9223372036854775807 : Nat)) (c3 : ∀ (i : Nat), i < n → ∀ (o : Nat) (v : Sx.AV), (elR (E ((0 : Nat) + i)))[o]? = Option.some v → Sx.AV.inS (fun g => Sx.inR [(0, 15), (15, 16), (15, 15)] g = true) v) (c4 : n ≤ n) (c5 : (n + (1 : Nat)) * (104 : Nat) ≤ (140737488355328 : Nat)) (c6 : n + (1 : Nat) ≤ (9223372036854775807 : Nat)) (c7 : ∀ (i : Nat), i < n + (1 : Nat) → ∀ (o : Nat) (v : Sx.AV), (apz0 E n i)[o]? = Option.some v → Sx.AV.inS (fun g => Sx.inR [(0, 15), (17, 18), (16, 17), (16, 16), (15, 16), (15, 15)] g = true) v) (c8 : (0 : Nat) + (n + (1 : Nat)) ≤ n + (1 : Nat)) (c9 : PEQ (n + (1 : Nat)) (apz E n)) (c10 : decide (Prod.fst (ofX (rowsE (apz E n)) (n + 1)) = (0 : Int)) = false) (c11 : decide (Prod.fst (ofX (rowsE (apz E n)) (n + 1)) = (1 : Int)) = false) (c12 : (!Option.isSome (Sx.lfind Sx.seq pt M1)) = false) (c13 : (0 : Int) ≤ Option.getD (Sx.lfind Sx.seq pt M1) (0 : Int)) (c14 : Option.getD (Sx.lfind Sx.seq pt M1) (0 : Int) < (↑n : Int)) (c15 : (0 : Nat) + Int.toNat (Option.getD (Sx.lfind Sx.seq pt M1) (0 : Int)) < n) (c16 : (8 : Nat) ≤ (8 : Nat)) (c17 : (!decide (El.k (E ((0 : Nat) + Int.toNat (Option.rec (0 : Int) (fun val => val) (Sx.lfind Sx.seq pt M1)))) = (8 : Int))) = true) : Sx.PieceN 30 (Sx.Ex.normal) [(1, .str true pt), (5, .bool true), (6, .ptr ⟨false, 8, 0, 0⟩), (16, .nils), (17, .ptr ⟨false, 21, 0, 0⟩)] (netL n q r E M1 M2 M3 nd br ++ [(21, .cells true 2 1 (.lit [] (.n .e (some [.int false .i64 10, .int false .i64 (-1 : Int)]) .e)))]) (piececallT Try.f8 ((Sx.nav [1,1,1,1,1,1,0] (Sx.bodyOf Try.f8))) (Sx.frL [(1, .str true pt), (5, .bool true), (6, .ptr ⟨false, 8, 0, 0⟩)]) (Sx.hpL (netL n q r E M1 M2 M3 nd br)) 12 [false, false, false, true]) := Sx.eqn (by kernel_rfl) (ai (ai (ai (ai (ai (ai (ai (ai (ai (ai (ai (ai (ai (ai trivial c0) (ai c1 c2)) c3) (ai c4 (ai c5 c6))) c7) c8) c9) c10) c11) c12) (ai c13 c14)) c15) c16) c17)
theorem soS_r6 (n q r u i m kk : Nat) (pt : Tx) (G E T : Nat → El) (M1 M2 M3 : List (Tx × Int)) (nd br : Nat → Tx) (f h : Nat → Nat × Nat) (s0 s1 : Nat) (g0 g1 er at_ : Int) (z : El) (t : Bool) (c0 : (0 : Nat) + n ≤ n) (c1 : n * (104 : Nat) ≤ (140737488355328 : Nat)) (c2 : n ≤ (9223372036854775807 : Nat)) (c3 : ∀ (i : Nat), i < n → ∀ (o : Nat) (v : Sx.AV), (elR (E ((0 : Nat) + i)))[o]? = Option.some v → Sx.AV.inS (fun g => Sx.inR [(0, 15), (15, 16), (15, 15)] g = true) v) (c4 : n ≤ n) (c5 : (n + (1 : Nat)) * (104 : Nat) ≤ (140737488355328 : Nat)) (c6 : n + (1 : Nat) ≤ (9223372036854775807 : Nat)) (c7 : ∀ (i : Nat), i < n + (1 : Nat) → ∀ (o : Nat) (v : Sx.AV), (apz0 E n i)[o]? = Option.some v → Sx.AV.inS (fun g => Sx.inR [(0, 15), (17, 18), (16, 17), (16, 16), (15, 16), (15, 15)] g = true) v) (c8 : (0 : Nat) + (n + (1 : Nat)) ≤ n + (1 : Nat)) (c9 : PEQ (n + (1 : Nat)) (apz E n)) (c10 : decide (Prod.fst (ofX (rowsE (apz E n)) (n + 1)) = (0 : Int)) = false) (c11 : decide (Prod.fst (ofX (rowsE (apz E n)) (n + 1)) = (1 : Int)) = false) (c12 : (!Option.isSome (Sx.lfind Sx.seq pt M1)) = true) : Sx.PieceN 30 (Sx.Ex.normal) [(1, .str true pt), (5, .bool true), (6, .ptr ⟨false, 8, 0, 0⟩), (16, .nils), (17, .ptr ⟨false, 21, 0, 0⟩)] (netL n q r E M1 M2 M3 nd br ++ [(21, .cells true 2 1 (.lit [] (.n .e (some [.int false .i64 10, .int false .i64 (-1 : Int)]) .e)))]) (piececallT Try.f8 ((Sx.nav [1,1,1,1,1,1,0] (Sx.bodyOf Try.f8))) (Sx.frL [(1, .str true pt), (5, .bool true), (6, .ptr ⟨false, 8, 0, 0⟩)]) (Sx.hpL (netL n q r E M1 M2 M3 nd br)) 12 [false, false, true]) := Sx.eqn (by kernel_rfl) (ai (ai (ai (ai (ai (ai (ai (ai (ai (ai trivial c0) (ai c1 c2)) c3) (ai c4 (ai c5 c6))) c7) c8) c9) c10) c11) c12)
theorem soT_r0 (n q r u i m kk : Nat) (pt : Tx) (G E T : Nat → El) (M1 M2 M3 : List (Tx × Int)) (nd br : Nat → Tx) (f h : Nat → Nat × Nat) (s0 s1 : Nat) (g0 g1 er at_ : Int) (z : El) (t : Bool) (c0 : (!Option.isSome (Sx.lfind Sx.seq pt M1)) = false) (c1 : (0 : Int) ≤ Option.getD (Sx.lfind Sx.seq pt M1) (0 : Int)) (c2 : Option.getD (Sx.lfind Sx.seq pt M1) (0 : Int) < (↑n : Int)) (c3 : (0 : Nat) + Int.toNat (Option.getD (Sx.lfind Sx.seq pt M1) (0 : Int)) < n) (c4 : (8 : Nat) ≤ (8 : Nat)) : Sx.PieceN 16 (Sx.Ex.normal) [(5, .bool true), (6, .ptr ⟨false, 8, 0, 0⟩), (16, .nils), (17, .ptr ⟨false, 13, 0, 0⟩), (18, .ptr ⟨false, 15, 0, 0⟩), (19, .bool true)] (netL n q r E M1 M2 M3 nd br ++ [(15, .cells true 8 1 (.lit [] (Sx.T.n Sx.T.e (Option.some (elR (E ((0 : Nat) + Int.toNat (Option.getD (Sx.lfind Sx.seq pt M1) (0 : Int)))))) Sx.T.e)))]) (piececallT Try.f8 ((Sx.nav [1,1,1,1,1,1,1,0] (Sx.bodyOf Try.f8))) (Sx.frL [(1, .str true pt), (5, .bool true), (6, .ptr ⟨false, 8, 0, 0⟩), (16, .nils), (17, .ptr ⟨false, 13, 0, 0⟩)]) (Sx.hpL (netL n q r E M1 M2 M3 nd br)) 14 [false]) := Sx.eqn (by kernel_rfl) (ai (ai (ai (ai trivial c0) (ai c1 c2)) c3) c4)
theorem soT_r1 (n q r u i m kk : Nat) (pt : Tx) (G E T : Nat → El) (M1 M2 M3 : List (Tx × Int)) (nd br : Nat → Tx) (f h : Nat → Nat × Nat) (s0 s1 : Nat) (g0 g1 er at_ : Int) (z : El) (t : Bool) (c0 : (!Option.isSome (Sx.lfind Sx.seq pt M1)) = true) : Sx.PieceN 16 (Sx.Ex.normal) [(5, .bool true), (6, .ptr ⟨false, 8, 0, 0⟩), (16, .nils), (17, .ptr ⟨false, 13, 0, 0⟩), (18, .ptr ⟨false, 15, 0, 0⟩), (19, .bool false)] (netL n q r E M1 M2 M3 nd br ++ [(15, .cells true 8 1 (.lit [] (.n .e (some [.int false .u8 0, .str false [], .str false [], .str false [], .str false [], .str false [], .flt false 0, .int false .i64 0]) .e)))]) (piececallT Try.f8 ((Sx.nav [1,1,1,1,1,1,1,0] (Sx.bodyOf Try.f8))) (Sx.frL [(1, .str true pt), (5, .bool true), (6, .ptr ⟨false, 8, 0, 0⟩), (16, .nils), (17, .ptr ⟨false, 13, 0, 0⟩)]) (Sx.hpL (netL n q r E M1 M2 M3 nd br)) 14 [true]) := Sx.eqn (by kernel_rfl) (ai trivial c0)
theorem soTg_r0 (n q r u i m kk : Nat) (pt : Tx) (G E T : Nat → El) (M1 M2 M3 : List (Tx × Int)) (nd br : Nat → Tx) (f h : Nat → Nat × Nat) (s0 s1 : Nat) (g0 g1 er at_ : Int) (z : El) (t : Bool) (c0 : (!Option.isSome (Sx.lfind Sx.seq pt M1)) = false) (c1 : (0 : Int) ≤ Option.getD (Sx.lfind Sx.seq pt M1) (0 : Int)) (c2 : Option.getD (Sx.lfind Sx.seq pt M1) (0 : Int) < (↑n : Int)) (c3 : (0 : Nat) + Int.toNat (Option.getD (Sx.lfind Sx.seq pt M1) (0 : Int)) < n) (c4 : (8 : Nat) ≤ (8 : Nat)) : Sx.PieceN 16 (Sx.Ex.normal) [(5, .bool true), (6, .ptr ⟨false, 8, 0, 0⟩), (16, .slc true true ⟨false, 12, 0, 0⟩ u), (17, .ptr ⟨false, 13, 0, 0⟩), (18, .ptr ⟨false, 15, 0, 0⟩), (19, .bool true)] (netL n q r E M1 M2 M3 nd br ++ [(15, .cells true 8 1 (.lit [] (Sx.T.n Sx.T.e (Option.some (elR (E ((0 : Nat) + Int.toNat (Option.getD (Sx.lfind Sx.seq pt M1) (0 : Int)))))) Sx.T.e)))]) (piececallT Try.f8 ((Sx.nav [1,1,1,1,1,1,1,0] (Sx.bodyOf Try.f8))) (Sx.frL [(1, .str true pt), (5, .bool true), (6, .ptr ⟨false, 8, 0, 0⟩), (16, .slc true true ⟨false, 12, 0, 0⟩ u), (17, .ptr ⟨false, 13, 0, 0⟩)]) (Sx.hpL (netL n q r E M1 M2 M3 nd br)) 14 [false]) := Sx.eqn (by kernel_rfl) (ai (ai (ai (ai trivial c0) (ai c1 c2)) c3) c4)
theorem soU_r1 (n q r u i m kk : Nat) (pt : Tx) (G E T : Nat → El) (M1 M2 M3 : List (Tx × Int)) (nd br : Nat → Tx) (f h : Nat → Nat × Nat) (s0 s1 : Nat) (g0 g1 er at_ : Int) (z : El) (t : Bool) (c0 : (!t) = false) (c1 : (!decide (El.k z = (8 : Int))) = true) : Sx.PieceN 16 (Sx.Ex.ret) [(4, .bool true), (5, .bool true), (6, .ptr ⟨false, 8, 0, 0⟩), (16, .nils), (17, .ptr ⟨false, 13, 0, 0⟩), (18, .ptr ⟨false, 15, 0, 0⟩)] [(13, .cells true 2 1 (.fn fun x => [.int false .i64 10, .int false .i64 (-1 : Int)])), (15, .cells true 8 1 (.fn fun _ => elR z))] (piececallT Try.f8 ((Sx.nav [1,1,1,1,1,1,1,1,0] (Sx.bodyOf Try.f8))) (Sx.frL [(5, .bool true), (6, .ptr ⟨false, 8, 0, 0⟩), (16, .nils), (17, .ptr ⟨false, 13, 0, 0⟩), (18, .ptr ⟨false, 15, 0, 0⟩), (19, .sbool t)]) (Sx.hpL [(13, .cells true 2 1 (.fn fun _ => [.int false .i64 10, .int false .i64 (-1)])), (15, .cells true 8 1 (.fn fun _ => elR z))]) 16 [false, true]) := Sx.eqn (by kernel_rfl) (ai (ai trivial c0) c1)
theorem soU_r2 (n q r u i m kk : Nat) (pt : Tx) (G E T : Nat → El) (M1 M2 M3 : List (Tx × Int)) (nd br : Nat → Tx) (f h : Nat → Nat × Nat) (s0 s1 : Nat) (g0 g1 er at_ : Int) (z : El) (t : Bool) (c0 : (!t) = true) : Sx.PieceN 16 (Sx.Ex.ret) [(4, .bool true), (5, .bool true), (6, .ptr ⟨false, 8, 0, 0⟩), (16, .nils), (17, .ptr ⟨false, 13, 0, 0⟩), (18, .ptr ⟨false, 15, 0, 0⟩)] [(13, .cells true 2 1 (.fn fun x => [.int false .i64 10, .int false .i64 (-1 : Int)])), (15, .cells true 8 1 (.fn fun _ => elR z))] (piececallT Try.f8 ((Sx.nav [1,1,1,1,1,1,1,1,0] (Sx.bodyOf Try.f8))) (Sx.frL [(5, .bool true), (6, .ptr ⟨false, 8, 0, 0⟩), (16, .nils), (17, .ptr ⟨false, 13, 0, 0⟩), (18, .ptr ⟨false, 15, 0, 0⟩), (19, .sbool t)]) (Sx.hpL [(13, .cells true 2 1 (.fn fun _ => [.int false .i64 10, .int false .i64 (-1)])), (15, .cells true 8 1 (.fn fun _ => elR z))]) 16 [true]) := Sx.eqn (by kernel_rfl) (ai trivial c0)
theorem soV_r0 (n q r u i m kk : Nat) (pt : Tx) (G E T : Nat → El) (M1 M2 M3 : List (Tx × Int)) (nd br : Nat → Tx) (f h : Nat → Nat × Nat) (s0 s1 : Nat) (g0 g1 er at_ : Int) (z : El) (t : Bool) (c0 : (!t) = false) (c1 : (!decide (El.k z = (8 : Int))) = false) : Sx.PieceN 16 (Sx.Ex.normal) [(5, .bool true), (6, .ptr ⟨false, 8, 0, 0⟩), (16, .slc true true ⟨false, 12, 0, 0⟩ u), (17, .ptr ⟨false, 13, 0, 0⟩), (18, .ptr ⟨false, 15, 0, 0⟩)] [(13, .cells true 2 1 (.fn fun x => [.int false .i64 0, .int false .i64 0])), (15, .cells true 8 1 (.fn fun _ => elR z))] (piececallT Try.f8 ((Sx.nav [1,1,1,1,1,1,1,1,0] (Sx.bodyOf Try.f8))) (Sx.frL [(5, .bool true), (6, .ptr ⟨false, 8, 0, 0⟩), (16, .slc true true ⟨false, 12, 0, 0⟩ u), (17, .ptr ⟨false, 13, 0, 0⟩), (18, .ptr ⟨false, 15, 0, 0⟩), (19, .sbool t)]) (Sx.hpL [(13, .cells true 2 1 (.fn fun _ => [.int false .i64 0, .int false .i64 0])), (15, .cells true 8 1 (.fn fun _ => elR z))]) 16 [false, false]) := Sx.eqn (by kernel_rfl) (ai (ai trivial c0) c1)
theorem soW_r0 (n q r u i m kk : Nat) (pt : Tx) (G E T : Nat → El) (M1 M2 M3 : List (Tx × Int)) (nd br : Nat → Tx) (f h : Nat → Nat × Nat) (s0 s1 : Nat) (g0 g1 er at_ : Int) (z : El) (t : Bool) (c0 : (0 : Nat) + q ≤ q) (c1 : q * (16 : Nat) ≤ (140737488355328 : Nat)) (c2 : q ≤ (9223372036854775807 : Nat)) (c3 : (0 : Nat) + r ≤ r) (c4 : r * (16 : Nat) ≤ (140737488355328 : Nat)) (c5 : r ≤ (9223372036854775807 : Nat)) (c6 : (-9223372036854775808 : Int) ≤ (↑q : Int) + (↑r : Int)) (c7 : (↑q : Int) + (↑r : Int) ≤ (9223372036854775807 : Int)) (c8 : (!decide ((↑u : Int) = (↑q : Int) + (↑r : Int))) = false) : Sx.PieceN 20 (Sx.Ex.normal) [(5, .bool true), (6, .ptr ⟨false, 8, 0, 0⟩), (16, .slc true true ⟨false, 12, 0, 0⟩ u), (18, .ptr ⟨false, 15, 0, 0⟩)] (netL n q r E M1 M2 M3 nd br) (piececallT Try.f8 ((Sx.nav [1,1,1,1,1,1,1,1,1,0] (Sx.bodyOf Try.f8))) (Sx.frL [(5, .bool true), (6, .ptr ⟨false, 8, 0, 0⟩), (16, .slc true true ⟨false, 12, 0, 0⟩ u), (17, .ptr ⟨false, 13, 0, 0⟩), (18, .ptr ⟨false, 15, 0, 0⟩)]) (Sx.hpL (netL n q r E M1 M2 M3 nd br ++ [(13, .cells true 2 1 (.fn fun _ => [.int false .i64 0, .int false .i64 0]))])) 16 [false]) := Sx.eqn (by kernel_rfl) (ai (ai (ai (ai (ai (ai trivial c0) (ai c1 c2)) c3) (ai c4 c5)) (ai c6 c7)) c8)
theorem soX_r0 (n q r u i m kk : Nat) (pt : Tx) (G E T : Nat → El) (M1 M2 M3 : List (Tx × Int)) (nd br : Nat → Tx) (f h : Nat → Nat × Nat) (s0 s1 : Nat) (g0 g1 er at_ : Int) (z : El) (t : Bool) : Sx.PieceN 16 (Sx.Ex.normal) [(5, .bool true), (6, .ptr ⟨false, 8, 0, 0⟩), (16, .slc true true ⟨false, 12, 0, 0⟩ u), (18, .ptr ⟨false, 15, 0, 0⟩), (20, .int false .i64 0)] [] (piececallT Try.f8 ((Sx.nav [1,1,1,1,1,1,1,1,1,1,0,0] (Sx.bodyOf Try.f8))) (Sx.frL [(5, .bool true), (6, .ptr ⟨false, 8, 0, 0⟩), (16, .slc true true ⟨false, 12, 0, 0⟩ u), (18, .ptr ⟨false, 15, 0, 0⟩)]) (Sx.hpL []) 16 []) := Sx.eqn (by kernel_rfl) trivial
theorem sqA_r0 (n q r u i m kk : Nat) (pt : Tx) (G E T : Nat → El) (M1 M2 M3 : List (Tx × Int)) (nd br : Nat → Tx) (f h : Nat → Nat × Nat) (s0 s1 : Nat) (g0 g1 er at_ : Int) (z : El) (t : Bool) (c0 : decide ((↑i : Int) < (↑u : Int)) = true) : Sx.PieceN 16 (Sx.Ex.normal) [(5, .bool true), (6, .ptr ⟨false, 8, 0, 0⟩), (16, .slc true true ⟨false, 12, 0, 0⟩ u), (18, .ptr ⟨false, 15, 0, 0⟩), (20, .int true .i64 (↑i : Int))] [] (piececallT Try.f8 ((Sx.nav [1,1,1,1,1,1,1,1,1,1,0,1,0,0,0] (Sx.bodyOf Try.f8))) (Sx.frL [(5, .bool true), (6, .ptr ⟨false, 8, 0, 0⟩), (16, .slc true true ⟨false, 12, 0, 0⟩ u), (18, .ptr ⟨false, 15, 0, 0⟩), (20, .int true .i64 (i : Int))]) (Sx.hpL []) 16 [true]) := Sx.eqn (by kernel_rfl) (ai trivial c0)
theorem sqA_r1 (n q r u i m kk : Nat) (pt : Tx) (G E T : Nat → El) (M1 M2 M3 : List (Tx × Int)) (nd br : Nat → Tx) (f h : Nat → Nat × Nat) (s0 s1 : Nat) (g0 g1 er at_ : Int) (z : El) (t : Bool) (c0 : decide ((↑i : Int) < (↑u : Int)) = false) : Sx.PieceN 16 (Sx.Ex.exit (4 : Nat)) [(5, .bool true), (6, .ptr ⟨false, 8, 0, 0⟩), (16, .slc true true ⟨false, 12, 0, 0⟩ u), (18, .ptr ⟨false, 15, 0, 0⟩), (20, .int true .i64 (↑i : Int))] [] (piececallT Try.f8 ((Sx.nav [1,1,1,1,1,1,1,1,1,1,0,1,0,0,0] (Sx.bodyOf Try.f8))) (Sx.frL [(5, .bool true), (6, .ptr ⟨false, 8, 0, 0⟩), (16, .slc true true ⟨false, 12, 0, 0⟩ u), (18, .ptr ⟨false, 15, 0, 0⟩), (20, .int true .i64 (i : Int))]) (Sx.hpL []) 16 [false]) := Sx.eqn (by kernel_rfl) (ai trivial c0)
theorem sqB_r0 (n q r u i m kk : Nat) (pt : Tx) (G E T : Nat → El) (M1 M2 M3 : List (Tx × Int)) (nd br : Nat → Tx) (f h : Nat → Nat × Nat) (s0 s1 : Nat) (g0 g1 er at_ : Int) (z : El) (t : Bool) : Sx.PieceN 16 (Sx.Ex.normal) [(5, .bool true), (6, .ptr ⟨false, 8, 0, 0⟩), (16, .slc true true ⟨false, 12, 0, 0⟩ u), (18, .ptr ⟨false, 15, 0, 0⟩), (20, .int true .i64 (↑i : Int)), (21, .cpx false (0 : Nat) (0 : Nat))] [] (piececallT Try.f8 ((Sx.nav [1,1,1,1,1,1,1,1,1,1,0,1,0,0,1,0,0,0] (Sx.bodyOf Try.f8))) (Sx.frL [(5, .bool true), (6, .ptr ⟨false, 8, 0, 0⟩), (16, .slc true true ⟨false, 12, 0, 0⟩ u), (18, .ptr ⟨false, 15, 0, 0⟩), (20, .int true .i64 (i : Int))]) (Sx.hpL []) 16 []) := Sx.eqn (by kernel_rfl) trivial
theorem sqC_r0 (n q r u i m kk : Nat) (pt : Tx) (G E T : Nat → El) (M1 M2 M3 : List (Tx × Int)) (nd br : Nat → Tx) (f h : Nat → Nat × Nat) (s0 s1 : Nat) (g0 g1 er at_ : Int) (z : El) (t : Bool) (c0 : (0 : Nat) + q ≤ q) (c1 : q * (16 : Nat) ≤ (140737488355328 : Nat)) (c2 : q ≤ (9223372036854775807 : Nat)) (c3 : decide ((↑i : Int) < (↑q : Int)) = true) (c4 : (0 : Int) ≤ (↑i : Int)) (c5 : (↑i : Int) < (↑q : Int)) (c6 : (0 : Nat) + Int.toNat (Int.ofNat i) < q) (c7 : (nd ((0 : Nat) + ((0 : Nat) + Int.toNat (Int.ofNat i))) == El.a z) = true) : Sx.PieceN 18 (Sx.Ex.normal) [(5, .bool true), (6, .ptr ⟨false, 8, 0, 0⟩), (16, .slc true true ⟨false, 12, 0, 0⟩ u), (18, .ptr ⟨false, 15, 0, 0⟩), (20, .int true .i64 (↑i : Int)), (21, .cpx false (4607182418800017408 : Nat) (0 : Nat))] [(6, .cells true 1 q (.fn (txR nd))), (8, .cells true 7 1 (.fn fun _ => netG 2 3 4 5 6 7 n q r)), (15, .cells true 8 1 (.fn fun _ => elR z))] (piececallT Try.f8 ((Sx.nav [1,1,1,1,1,1,1,1,1,1,0,1,0,0,1,0,0,1,0] (Sx.bodyOf Try.f8))) (Sx.frL [(5, .bool true), (6, .ptr ⟨false, 8, 0, 0⟩), (16, .slc true true ⟨false, 12, 0, 0⟩ u), (18, .ptr ⟨false, 15, 0, 0⟩), (20, .int true .i64 (i : Int)), (21, .cpx true s0 s1)]) (Sx.hpL [(6, .cells true 1 q (.fn (txR nd))), (8, .cells true 7 1 (.fn fun _ => netG 2 3 4 5 6 7 n q r)), (15, .cells true 8 1 (.fn fun _ => elR z))]) 16 [true, true]) := Sx.eqn (by kernel_rfl) (ai (ai (ai (ai (ai (ai (ai (ai trivial c0) (ai c1 c2)) c3) c0) (ai c1 c2)) (ai c4 c5)) c6) c7)
theorem sqC_r1 (n q r u i m kk : Nat) (pt : Tx) (G E T : Nat → El) (M1 M2 M3 : List (Tx × Int)) (nd br : Nat → Tx) (f h : Nat → Nat × Nat) (s0 s1 : Nat) (g0 g1 er at_ : Int) (z : El) (t : Bool) (c0 : (0 : Nat) + q ≤ q) (c1 : q * (16 : Nat) ≤ (140737488355328 : Nat)) (c2 : q ≤ (9223372036854775807 : Nat)) (c3 : decide ((↑i : Int) < (↑q : Int)) = true) (c4 : (0 : Int) ≤ (↑i : Int)) (c5 : (↑i : Int) < (↑q : Int)) (c6 : (0 : Nat) + Int.toNat (Int.ofNat i) < q) (c7 : (nd ((0 : Nat) + ((0 : Nat) + Int.toNat (Int.ofNat i))) == El.a z) = false) : Sx.PieceN 18 (Sx.Ex.normal) [(5, .bool true), (6, .ptr ⟨false, 8, 0, 0⟩), (16, .slc true true ⟨false, 12, 0, 0⟩ u), (18, .ptr ⟨false, 15, 0, 0⟩), (20, .int true .i64 (↑i : Int)), (21, .cpx true s0 s1)] [(6, .cells true 1 q (.fn (txR nd))), (8, .cells true 7 1 (.fn fun _ => netG 2 3 4 5 6 7 n q r)), (15, .cells true 8 1 (.fn fun _ => elR z))] (piececallT Try.f8 ((Sx.nav [1,1,1,1,1,1,1,1,1,1,0,1,0,0,1,0,0,1,0] (Sx.bodyOf Try.f8))) (Sx.frL [(5, .bool true), (6, .ptr ⟨false, 8, 0, 0⟩), (16, .slc true true ⟨false, 12, 0, 0⟩ u), (18, .ptr ⟨false, 15, 0, 0⟩), (20, .int true .i64 (i : Int)), (21, .cpx true s0 s1)]) (Sx.hpL [(6, .cells true 1 q (.fn (txR nd))), (8, .cells true 7 1 (.fn fun _ => netG 2 3 4 5 6 7 n q r)), (15, .cells true 8 1 (.fn fun _ => elR z))]) 16 [true, false]) := Sx.eqn (by kernel_rfl) (ai (ai (ai (ai (ai (ai (ai (ai trivial c0) (ai c1 c2)) c3) c0) (ai c1 c2)) (ai c4 c5)) c6) c7)
theorem sqC_r2 (n q r u i m kk : Nat) (pt : Tx) (G E T : Nat → El) (M1 M2 M3 : List (Tx × Int)) (nd br : Nat → Tx) (f h : Nat → Nat × Nat) (s0 s1 : Nat) (g0 g1 er at_ : Int) (z : El) (t : Bool) (c0 : (0 : Nat) + q ≤ q) (c1 : q * (16 : Nat) ≤ (140737488355328 : Nat)) (c2 : q ≤ (9223372036854775807 : Nat)) (c3 : decide ((↑i : Int) < (↑q : Int)) = false) : Sx.PieceN 18 (Sx.Ex.normal) [(5, .bool true), (6, .ptr ⟨false, 8, 0, 0⟩), (16, .slc true true ⟨false, 12, 0, 0⟩ u), (18, .ptr ⟨false, 15, 0, 0⟩), (20, .int true .i64 (↑i : Int)), (21, .cpx true s0 s1)] [(6, .cells true 1 q (.fn (txR nd))), (8, .cells true 7 1 (.fn fun _ => netG 2 3 4 5 6 7 n q r)), (15, .cells true 8 1 (.fn fun _ => elR z))] (piececallT Try.f8 ((Sx.nav [1,1,1,1,1,1,1,1,1,1,0,1,0,0,1,0,0,1,0] (Sx.bodyOf Try.f8))) (Sx.frL [(5, .bool true), (6, .ptr ⟨false, 8, 0, 0⟩), (16, .slc true true ⟨false, 12, 0, 0⟩ u), (18, .ptr ⟨false, 15, 0, 0⟩), (20, .int true .i64 (i : Int)), (21, .cpx true s0 s1)]) (Sx.hpL [(6, .cells true 1 q (.fn (txR nd))), (8, .cells true 7 1 (.fn fun _ => netG 2 3 4 5 6 7 n q r)), (15, .cells true 8 1 (.fn fun _ => elR z))]) 16 [false]) := Sx.eqn (by kernel_rfl) (ai (ai (ai trivial c0) (ai c1 c2)) c3)
theorem sqD_r0 (n q r u i m kk : Nat) (pt : Tx) (G E T : Nat → El) (M1 M2 M3 : List (Tx × Int)) (nd br : Nat → Tx) (f h : Nat → Nat × Nat) (s0 s1 : Nat) (g0 g1 er at_ : Int) (z : El) (t : Bool) (c0 : (0 : Nat) + q ≤ q) (c1 : q * (16 : Nat) ≤ (140737488355328 : Nat)) (c2 : q ≤ (9223372036854775807 : Nat)) (c3 : decide ((↑i : Int) < (↑q : Int)) = true) (c4 : (0 : Int) ≤ (↑i : Int)) (c5 : (↑i : Int) < (↑q : Int)) (c6 : (0 : Nat) + Int.toNat (Int.ofNat i) < q) (c7 : (nd ((0 : Nat) + ((0 : Nat) + Int.toNat (Int.ofNat i))) == El.b z) = true) : Sx.PieceN 18 (Sx.Ex.normal) [(5, .bool true), (6, .ptr ⟨false, 8, 0, 0⟩), (16, .slc true true ⟨false, 12, 0, 0⟩ u), (18, .ptr ⟨false, 15, 0, 0⟩), (20, .int true .i64 (↑i : Int)), (21, .cpx false (13830554455654793216 : Nat) (0 : Nat))] [(6, .cells true 1 q (.fn (txR nd))), (8, .cells true 7 1 (.fn fun _ => netG 2 3 4 5 6 7 n q r)), (15, .cells true 8 1 (.fn fun _ => elR z))] (piececallT Try.f8 ((Sx.nav [1,1,1,1,1,1,1,1,1,1,0,1,0,0,1,0,0,1,1,0] (Sx.bodyOf Try.f8))) (Sx.frL [(5, .bool true), (6, .ptr ⟨false, 8, 0, 0⟩), (16, .slc true true ⟨false, 12, 0, 0⟩ u), (18, .ptr ⟨false, 15, 0, 0⟩), (20, .int true .i64 (i : Int)), (21, .cpx true s0 s1)]) (Sx.hpL [(6, .cells true 1 q (.fn (txR nd))), (8, .cells true 7 1 (.fn fun _ => netG 2 3 4 5 6 7 n q r)), (15, .cells true 8 1 (.fn fun _ => elR z))]) 16 [true, true]) := Sx.eqn (by kernel_rfl) (ai (ai (ai (ai (ai (ai (ai (ai trivial c0) (ai c1 c2)) c3) c0) (ai c1 c2)) (ai c4 c5)) c6) c7)
theorem sqD_r1 (n q r u i m kk : Nat) (pt : Tx) (G E T : Nat → El) (M1 M2 M3 : List (Tx × Int)) (nd br : Nat → Tx) (f h : Nat → Nat × Nat) (s0 s1 : Nat) (g0 g1 er at_ : Int) (z : El) (t : Bool) (c0 : (0 : Nat) + q ≤ q) (c1 : q * (16 : Nat) ≤ (140737488355328 : Nat)) (c2 : q ≤ (9223372036854775807 : Nat)) (c3 : decide ((↑i : Int) < (↑q : Int)) = true) (c4 : (0 : Int) ≤ (↑i : Int)) (c5 : (↑i : Int) < (↑q : Int)) (c6 : (0 : Nat) + Int.toNat (Int.ofNat i) < q) (c7 : (nd ((0 : Nat) + ((0 : Nat) + Int.toNat (Int.ofNat i))) == El.b z) = false) : Sx.PieceN 18 (Sx.Ex.normal) [(5, .bool true), (6, .ptr ⟨false, 8, 0, 0⟩), (16, .slc true true ⟨false, 12, 0, 0⟩ u), (18, .ptr ⟨false, 15, 0, 0⟩), (20, .int true .i64 (↑i : Int)), (21, .cpx true s0 s1)] [(6, .cells true 1 q (.fn (txR nd))), (8, .cells true 7 1 (.fn fun _ => netG 2 3 4 5 6 7 n q r)), (15, .cells true 8 1 (.fn fun _ => elR z))] (piececallT Try.f8 ((Sx.nav [1,1,1,1,1,1,1,1,1,1,0,1,0,0,1,0,0,1,1,0] (Sx.bodyOf Try.f8))) (Sx.frL [(5, .bool true), (6, .ptr ⟨false, 8, 0, 0⟩), (16, .slc true true ⟨false, 12, 0, 0⟩ u), (18, .ptr ⟨false, 15, 0, 0⟩), (20, .int true .i64 (i : Int)), (21, .cpx true s0 s1)]) (Sx.hpL [(6, .cells true 1 q (.fn (txR nd))), (8, .cells true 7 1 (.fn fun _ => netG 2 3 4 5 6 7 n q r)), (15, .cells true 8 1 (.fn fun _ => elR z))]) 16 [true, false]) := Sx.eqn (by kernel_rfl) (ai (ai (ai (ai (ai (ai (ai (ai trivial c0) (ai c1 c2)) c3) c0) (ai c1 c2)) (ai c4 c5)) c6) c7)
theorem sqD_r2 (n q r u i m kk : Nat) (pt : Tx) (G E T : Nat → El) (M1 M2 M3 : List (Tx × Int)) (nd br : Nat → Tx) (f h : Nat → Nat × Nat) (s0 s1 : Nat) (g0 g1 er at_ : Int) (z : El) (t : Bool) (c0 : (0 : Nat) + q ≤ q) (c1 : q * (16 : Nat) ≤ (140737488355328 : Nat)) (c2 : q ≤ (9223372036854775807 : Nat)) (c3 : decide ((↑i : Int) < (↑q : Int)) = false) : Sx.PieceN 18 (Sx.Ex.normal) [(5, .bool true), (6, .ptr ⟨false, 8, 0, 0⟩), (16, .slc true true ⟨false, 12, 0, 0⟩ u), (18, .ptr ⟨false, 15, 0, 0⟩), (20, .int true .i64 (↑i : Int)), (21, .cpx true s0 s1)] [(6, .cells true 1 q (.fn (txR nd))), (8, .cells true 7 1 (.fn fun _ => netG 2 3 4 5 6 7 n q r)), (15, .cells true 8 1 (.fn fun _ => elR z))] (piececallT Try.f8 ((Sx.nav [1,1,1,1,1,1,1,1,1,1,0,1,0,0,1,0,0,1,1,0] (Sx.bodyOf Try.f8))) (Sx.frL [(5, .bool true), (6, .ptr ⟨false, 8, 0, 0⟩), (16, .slc true true ⟨false, 12, 0, 0⟩ u), (18, .ptr ⟨false, 15, 0, 0⟩), (20, .int true .i64 (i : Int)), (21, .cpx true s0 s1)]) (Sx.hpL [(6, .cells true 1 q (.fn (txR nd))), (8, .cells true 7 1 (.fn fun _ => netG 2 3 4 5 6 7 n q r)), (15, .cells true 8 1 (.fn fun _ => elR z))]) 16 [false]) := Sx.eqn (by kernel_rfl) (ai (ai (ai trivial c0) (ai c1 c2)) c3)
theorem sqE_r0 (n q r u i m kk : Nat) (pt : Tx) (G E T : Nat → El) (M1 M2 M3 : List (Tx × Int)) (nd br : Nat → Tx) (f h : Nat → Nat × Nat) (s0 s1 : Nat) (g0 g1 er at_ : Int) (z : El) (t : Bool) (c0 : (0 : Int) ≤ (↑i : Int)) (c1 : (↑i : Int) < (↑u : Int)) (c2 : (0 : Nat) + i < u) (c3 : (!(Sx.feq (Prod.fst (f ((0 : Nat) + i))) s0 && Sx.feq (Prod.snd (f ((0 : Nat) + i))) s1)) = false) : Sx.PieceN 16 (Sx.Ex.normal) [(5, .bool true), (6, .ptr ⟨false, 8, 0, 0⟩), (16, .slc true true ⟨false, 12, 0, 0⟩ u), (18, .ptr ⟨false, 15, 0, 0⟩), (20, .int true .i64 (↑i : Int))] [(12, .cells true 1 u (.fn (cxR f)))] (piececallT Try.f8 ((Sx.nav [1,1,1,1,1,1,1,1,1,1,0,1,0,0,1,0,0,1,1,1] (Sx.bodyOf Try.f8))) (Sx.frL [(5, .bool true), (6, .ptr ⟨false, 8, 0, 0⟩), (16, .slc true true ⟨false, 12, 0, 0⟩ u), (18, .ptr ⟨false, 15, 0, 0⟩), (20, .int true .i64 (i : Int)), (21, .cpx true s0 s1)]) (Sx.hpL [(12, .cells true 1 u (.fn (cxR f)))]) 16 [false]) := Sx.eqn (by kernel_rfl) (ai (ai (ai trivial (ai c0 c1)) c2) c3)
theorem sqF_r0 (n q r u i m kk : Nat) (pt : Tx) (G E T : Nat → El) (M1 M2 M3 : List (Tx × Int)) (nd br : Nat → Tx) (f h : Nat → Nat × Nat) (s0 s1 : Nat) (g0 g1 er at_ : Int) (z : El) (t : Bool) (c0 : (-9223372036854775808 : Int) ≤ (↑i : Int) + (1 : Int)) (c1 : (↑i : Int) + (1 : Int) ≤ (9223372036854775807 : Int)) : Sx.PieceN 16 (Sx.Ex.normal) [(5, .bool true), (6, .ptr ⟨false, 8, 0, 0⟩), (16, .slc true true ⟨false, 12, 0, 0⟩ u), (18, .ptr ⟨false, 15, 0, 0⟩), (20, .int true .i64 ((↑i : Int) + (1 : Int)))] [] (piececallT Try.f8 ((Sx.nav [1,1,1,1,1,1,1,1,1,1,0,1,0,0,1,1] (Sx.bodyOf Try.f8))) (Sx.frL [(5, .bool true), (6, .ptr ⟨false, 8, 0, 0⟩), (16, .slc true true ⟨false, 12, 0, 0⟩ u), (18, .ptr ⟨false, 15, 0, 0⟩), (20, .int true .i64 (i : Int))]) (Sx.hpL []) 16 []) := Sx.eqn (by kernel_rfl) (ai trivial (ai c0 c1))
theorem soZ_r0 (n q r u i m kk : Nat) (pt : Tx) (G E T : Nat → El) (M1 M2 M3 : List (Tx × Int)) (nd br : Nat → Tx) (f h : Nat → Nat × Nat) (s0 s1 : Nat) (g0 g1 er at_ : Int) (z : El) (t : Bool) : Sx.PieceN 16 (Sx.Ex.ret) [(4, .bool true)] [] (piececallT Try.f8 ((Sx.nav [1,1,1,1,1,1,1,1,1,1,1] (Sx.bodyOf Try.f8))) (Sx.frL [(5, .bool true)]) (Sx.hpL []) 16 []) := Sx.eqn (by kernel_rfl) trivial
theorem rT {K K' : Nat} {e : Sx.Ex} {F : List (Nat × Sx.AV)} {Hl : List (Nat × Sx.ABk)} {c : Code} {fr : Sx.Fr} {H : Sx.T Sx.ABk} {path : List Bool} (B : Nat) (h : Sx.PieceN K' e F Hl (piececallT Try.f8 c fr H K path)) (hB : B ≤ K) : Sx.GoesB Try.prog c Try.f8.ntmps B K K' fr H fun e' fr' H' => e' = e ∧ fr' = Sx.frL F ∧ H' = Sx.hpL Hl := Sx.GoesB.runN callT_ok (callT_reg _) (Sx.LoopsIn.none _ _ _) h hB
theorem so_in (kk u : Nat) (pt : Tx) (G : Nat → El) (f h : Nat → Nat × Nat) (g0 g1 : Int) (hu : u ≤ 4096) (hh : ∀ m, m < u → (Sx.feq (h m).1 (Sx.fneg (f m).1) && Sx.feq (h m).2 (Sx.fneg (f m).2)) = true) :
  Sx.GoesB Try.prog (Sx.nav [1,1,1,1,1,0,1,0,0,1,0,0,1,1,1,1] (Sx.bodyOf Try.f8)) Try.f8.ntmps 24 24 24 (Sx.frL [(1, .str true pt), (5, .bool true), (6, .ptr ⟨false, 8, 0, 0⟩), (8, .slc true true ⟨false, 10, 0, 0⟩ u), (9, .ptr ⟨false, 11, 0, 0⟩), (10, .int true .i64 (kk : Int)), (13, .slc true true ⟨false, 22, 0, 0⟩ u)]) (Sx.hpL [(10, .cells true 1 u (.fn (cxR f))), (22, .cells true 1 u (.fn (cxR h)))]) (Sx.Nm [(1, .str true pt), (5, .bool true), (6, .ptr ⟨false, 8, 0, 0⟩), (8, .slc true true ⟨false, 10, 0, 0⟩ u), (9, .ptr ⟨false, 11, 0, 0⟩), (10, .int true .i64 (kk : Int))] [(10, .cells true 1 u (.fn (cxR f))), (22, .cells true 1 u (.fn (cxR h)))]) := by
 rw [show (Sx.nav [1,1,1,1,1,0,1,0,0,1,0,0,1,1,1,1] (Sx.bodyOf Try.f8)) = .seq (Sx.nav [1,1,1,1,1,0,1,0,0,1,0,0,1,1,1,1,0] (Sx.bodyOf Try.f8)) (.block 2 (.loop (Sx.nav [1,1,1,1,1,0,1,0,0,1,0,0,1,1,1,1,1,0,0] (Sx.bodyOf Try.f8)))) by kernel_rfl]
 refine Sx.GoesB.seqN (K1 := 24) (F1 := [(1, .str true pt), (5, .bool true), (6, .ptr ⟨false, 8, 0, 0⟩), (8, .slc true true ⟨false, 10, 0, 0⟩ u), (9, .ptr ⟨false, 11, 0, 0⟩), (10, .int true .i64 (kk : Int)), (13, .slc true true ⟨false, 22, 0, 0⟩ u), (15, .int true .i64 (0 : Nat))]) (H1 := [(10, .cells true 1 u (.fn (cxR f))), (22, .cells true 1 u (.fn (cxR h)))]) (Sx.GoesB.toN (Sx.GoesB.idleN (rT 24 (soN_r0 0 0 0 u 0 0 kk pt G G G [] [] [] (fun _ => []) (fun _ => []) f h 0 0 g0 g1 0 0 (G 0) true) (by omega)) (by omega) ⟨⟨by omega, fun i hi v hv => by rw [List.mem_singleton.1 hv]; rfl⟩, ⟨by omega, fun i hi v hv => by rw [List.mem_singleton.1 hv]; rfl⟩, trivial⟩) ⟨(Sx.re rfl), (Sx.re rfl), (Sx.re rfl), (Sx.re rfl), (Sx.re rfl), (Sx.re rfl), (Sx.re rfl), Sx.ri rfl, trivial⟩ ⟨(Sx.hs rfl), (Sx.hs rfl), trivial⟩) (by omega) ?_
 refine Sx.GoesB.rounds u (fun i => [(1, .str true pt), (5, .bool true), (6, .ptr ⟨false, 8, 0, 0⟩), (8, .slc true true ⟨false, 10, 0, 0⟩ u), (9, .ptr ⟨false, 11, 0, 0⟩), (10, .int true .i64 (kk : Int)), (13, .slc true true ⟨false, 22, 0, 0⟩ u), (15, .int true .i64 (i : Nat))]) (fun _ => [(10, .cells true 1 u (.fn (cxR f))), (22, .cells true 1 u (.fn (cxR h)))]) (fun i hi => ?_) ?_
 ·rw [show (Sx.nav [1,1,1,1,1,0,1,0,0,1,0,0,1,1,1,1,1,0,0] (Sx.bodyOf Try.f8)) = .seq (Sx.nav [1,1,1,1,1,0,1,0,0,1,0,0,1,1,1,1,1,0,0,0] (Sx.bodyOf Try.f8)) (.seq (.block 3 (Sx.nav [1,1,1,1,1,0,1,0,0,1,0,0,1,1,1,1,1,0,0,1,0,0] (Sx.bodyOf Try.f8))) (Sx.nav [1,1,1,1,1,0,1,0,0,1,0,0,1,1,1,1,1,0,0,1,1] (Sx.bodyOf Try.f8))) by kernel_rfl]
  refine Sx.GoesB.seqN (K1 := 24) (F1 := [(1, .str true pt), (5, .bool true), (6, .ptr ⟨false, 8, 0, 0⟩), (8, .slc true true ⟨false, 10, 0, 0⟩ u), (9, .ptr ⟨false, 11, 0, 0⟩), (10, .int true .i64 (kk : Int)), (13, .slc true true ⟨false, 22, 0, 0⟩ u), (15, .int true .i64 (i : Nat))]) (H1 := [(10, .cells true 1 u (.fn (cxR f))), (22, .cells true 1 u (.fn (cxR h)))]) (Sx.GoesB.idleN (rT 24 (soO_r0 0 0 0 u i 0 kk pt G G G [] [] [] (fun _ => []) (fun _ => []) f h 0 0 g0 g1 0 0 (G 0) true (decide_eq_true (by omega))) (by omega)) (by omega) ⟨⟨by omega, fun i hi v hv => by rw [List.mem_singleton.1 hv]; rfl⟩, ⟨by omega, fun i hi v hv => by rw [List.mem_singleton.1 hv]; rfl⟩, trivial⟩) (by omega) ?_
  refine Sx.GoesB.seqN (K1 := 24) (F1 := [(1, .str true pt), (5, .bool true), (6, .ptr ⟨false, 8, 0, 0⟩), (8, .slc true true ⟨false, 10, 0, 0⟩ u), (9, .ptr ⟨false, 11, 0, 0⟩), (10, .int true .i64 (kk : Int)), (13, .slc true true ⟨false, 22, 0, 0⟩ u), (15, .int true .i64 (i : Nat))]) (H1 := [(10, .cells true 1 u (.fn (cxR f))), (22, .cells true 1 u (.fn (cxR h)))]) (Sx.GoesB.blockN ?_) (by omega) ?_
  ·have e : (0 : Nat) + i = i := Nat.zero_add i
   have k := hh i hi
   exact Sx.GoesB.toN (rT 24 (soP_r0 0 0 0 u i 0 kk pt G G G [] [] [] (fun _ => []) (fun _ => []) f h 0 0 g0 g1 0 0 (G 0) true (by omega) (by omega) (by omega) (by omega) (by rw [e, k]; rfl)) (by omega)) ⟨(Sx.re rfl), (Sx.re rfl), (Sx.re rfl), (Sx.re rfl), (Sx.re rfl), (Sx.re rfl), (Sx.re rfl), Sx.ri rfl, trivial⟩ ⟨⟨_, rfl, rfl, rfl, rfl, fun j _ => rfl⟩, ⟨_, rfl, rfl, rfl, rfl, fun j _ => rfl⟩, trivial⟩
  ·exact Sx.GoesB.toN (Sx.GoesB.idleN (rT 24 (soQ_r0 0 0 0 u i 0 kk pt G G G [] [] [] (fun _ => []) (fun _ => []) f h 0 0 g0 g1 0 0 (G 0) true (by omega) (by omega)) (by omega)) (by omega) ⟨⟨by omega, fun i hi v hv => by rw [List.mem_singleton.1 hv]; rfl⟩, ⟨by omega, fun i hi v hv => by rw [List.mem_singleton.1 hv]; rfl⟩, trivial⟩) ⟨(Sx.re rfl), (Sx.re rfl), (Sx.re rfl), (Sx.re rfl), (Sx.re rfl), (Sx.re rfl), (Sx.re rfl), Sx.ri rfl, trivial⟩ ⟨(Sx.hs rfl), (Sx.hs rfl), trivial⟩
 ·rw [show (Sx.nav [1,1,1,1,1,0,1,0,0,1,0,0,1,1,1,1,1,0,0] (Sx.bodyOf Try.f8)) = .seq (Sx.nav [1,1,1,1,1,0,1,0,0,1,0,0,1,1,1,1,1,0,0,0] (Sx.bodyOf Try.f8)) (.seq (.block 3 (Sx.nav [1,1,1,1,1,0,1,0,0,1,0,0,1,1,1,1,1,0,0,1,0,0] (Sx.bodyOf Try.f8))) (Sx.nav [1,1,1,1,1,0,1,0,0,1,0,0,1,1,1,1,1,0,0,1,1] (Sx.bodyOf Try.f8))) by kernel_rfl]
  refine Sx.GoesB.seqX (K1 := 24) ((Sx.GoesB.idleX (F := [(1, .str true pt), (5, .bool true), (6, .ptr ⟨false, 8, 0, 0⟩), (8, .slc true true ⟨false, 10, 0, 0⟩ u), (9, .ptr ⟨false, 11, 0, 0⟩), (10, .int true .i64 (kk : Int)), (13, .slc true true ⟨false, 22, 0, 0⟩ u), (15, .int true .i64 (u : Nat))]) (xl := [(10, .cells true 1 u (.fn (cxR f))), (22, .cells true 1 u (.fn (cxR h)))]) (rT 24 (soO_r1 0 0 0 u u 0 kk pt G G G [] [] [] (fun _ => []) (fun _ => []) f h 0 0 g0 g1 0 0 (G 0) true (decide_eq_false (by omega))) (by omega)) (by omega) ⟨⟨by omega, fun i hi v hv => by rw [List.mem_singleton.1 hv]; rfl⟩, ⟨by omega, fun i hi v hv => by rw [List.mem_singleton.1 hv]; rfl⟩, trivial⟩).post fun e fr' H' h => ?_) (by omega)
  obtain ⟨rfl, rfl, rfl⟩ := h
  exact ⟨[(1, .str true pt), (5, .bool true), (6, .ptr ⟨false, 8, 0, 0⟩), (8, .slc true true ⟨false, 10, 0, 0⟩ u), (9, .ptr ⟨false, 11, 0, 0⟩), (10, .int true .i64 (kk : Int))], [(10, .cells true 1 u (.fn (cxR f))), (22, .cells true 1 u (.fn (cxR h)))], ⟨(Sx.re rfl), (Sx.re rfl), (Sx.re rfl), (Sx.re rfl), (Sx.re rfl), (Sx.re rfl), trivial⟩, ⟨(Sx.hs rfl), (Sx.hs rfl), trivial⟩, rfl, rfl, rfl⟩


def hkL (n u : Nat) (G : Nat → El) (f : Nat → Nat × Nat) (g0 g1 : Int) : List (Nat × Sx.ABk) := netL n (ND G n).length (BR G n).length G (zipF 0 (NM G n)) (zipF 0 (ND G n)) (zipF 0 (BR G n)) (lget (ND G n)) (lget (BR G n)) ++ [(10, .cells true 1 u (.fn (cxR f))), (11, .cells true 2 1 (.fn fun _ => [.int true .i64 g0, .int true .i64 g1]))]
theorem net_low (B n : Nat) (G : Nat → El) (hB : 9 ≤ B) : Sx.LowL B (netL n (ND G n).length (BR G n).length G (zipF 0 (NM G n)) (zipF 0 (ND G n)) (zipF 0 (BR G n)) (lget (ND G n)) (lget (BR G n))) := by
 have e : ∀ j, j < B → Nat.blt j B = true := fun j h => Nat.ble_eq_true_of_le h
 refine ⟨⟨by omega, trivial⟩, ⟨by omega, trivial⟩, ⟨by omega, trivial⟩, ⟨by omega, fun i hi v hv => List.all_eq_true.1 (elR_low _ (G i)) v hv⟩, ⟨by omega, fun i hi v hv => by rw [List.mem_singleton.1 hv]; rfl⟩, ⟨by omega, fun i hi v hv => by rw [List.mem_singleton.1 hv]; rfl⟩, ⟨by omega, fun i hi v hv => ?_⟩, trivial⟩
 have hv : v ∈ netG 2 3 4 5 6 7 n (ND G n).length (BR G n).length := hv
 simp only [netG, List.mem_cons, List.not_mem_nil, or_false] at hv
 rcases hv with rfl | rfl | rfl | rfl | rfl | rfl | rfl
 ·exact rfl
 ·exact e 5 (by omega)
 ·exact e 2 (by omega)
 ·exact e 6 (by omega)
 ·exact e 3 (by omega)
 ·exact e 7 (by omega)
 ·exact e 4 (by omega)
theorem net2_low (B n : Nat) (G T : Nat → El) (hB : 21 ≤ B) : Sx.LowL B (net2L n (ND G n).length (BR G n).length T (zipF 0 (NM G n)) (zipF 0 (ND G n)) (zipF 0 (BR G n)) (lget (ND G n)) (lget (BR G n))) := by
 have e : ∀ j, j < B → Nat.blt j B = true := fun j h => Nat.ble_eq_true_of_le h
 refine ⟨⟨by omega, trivial⟩, ⟨by omega, trivial⟩, ⟨by omega, trivial⟩, ⟨by omega, fun i hi v hv => List.all_eq_true.1 (elR_low _ (T i)) v hv⟩, ⟨by omega, fun i hi v hv => by rw [List.mem_singleton.1 hv]; rfl⟩, ⟨by omega, fun i hi v hv => by rw [List.mem_singleton.1 hv]; rfl⟩, ⟨by omega, fun i hi v hv => ?_⟩, trivial⟩
 have hv : v ∈ netG 14 15 16 17 18 19 n (ND G n).length (BR G n).length := hv
 simp only [netG, List.mem_cons, List.not_mem_nil, or_false] at hv
 rcases hv with rfl | rfl | rfl | rfl | rfl | rfl | rfl
 ·exact rfl
 ·exact e 17 (by omega)
 ·exact e 14 (by omega)
 ·exact e 18 (by omega)
 ·exact e 15 (by omega)
 ·exact e 19 (by omega)
 ·exact e 16 (by omega)
theorem lowL_app {B : Nat} : ∀ {l l' : List (Nat × Sx.ABk)}, Sx.LowL B l → Sx.LowL B l' → Sx.LowL B (l ++ l')
 | [], _, _, k => k
 | _ :: _, _, h, k => ⟨h.1, lowL_app h.2 k⟩
theorem rb_low (B g u : Nat) (f : Nat → Nat × Nat) (h : g < B) {l : List (Nat × Sx.ABk)} (k : Sx.LowL B l) : Sx.LowL B ((g, .cells true 1 u (.fn (cxR f))) :: l) := ⟨⟨h, fun i hi v hv => by rw [List.mem_singleton.1 hv]; rfl⟩, k⟩
theorem fa_low (B g : Nat) (s : Bool) (g0 g1 : Int) (h : g < B) {l : List (Nat × Sx.ABk)} (k : Sx.LowL B l) : Sx.LowL B ((g, .cells true 2 1 (.fn fun _ => [.int s .i64 g0, .int s .i64 g1])) :: l) := ⟨⟨h, fun i hi v hv => by
 simp only [Sx.Cont.row, List.mem_cons, List.not_mem_nil, or_false] at hv
 rcases hv with rfl | rfl <;> rfl⟩, k⟩
theorem hk_low (B n u : Nat) (G : Nat → El) (f : Nat → Nat × Nat) (g0 g1 : Int) (hB : 12 ≤ B) : Sx.LowL B (hkL n u G f g0 g1) := lowL_app (net_low B n G (by omega)) (rb_low _ _ _ _ (by omega) (fa_low _ _ _ _ _ (by omega) trivial))
theorem rowsT_is (ph : Bool) (G : Nat → El) : (rowsE fun j => elR (tz ph (rowsE (Sx.rowsOf ⟨false, 12, 0, 0⟩ 8 8 (.fn (Sx.rowsOf ⟨false, 5, 0, 0⟩ 8 8 (.fn fun j => elR (G j))))) (0 + j)))) = TE ph G := by
 funext j
 show tz ph (G (0 + (0 + (0 + j)))) = tz ph (G j)
 rw [Nat.zero_add, Nat.zero_add, Nat.zero_add]
theorem rowsT2_is (ph : Bool) (G : Nat → El) : rowsE (Sx.rowsOf ⟨false, 13, 0, 0⟩ 8 8 (.fn fun j => elR (tz ph (rowsE (Sx.rowsOf ⟨false, 12, 0, 0⟩ 8 8 (.fn (Sx.rowsOf ⟨false, 5, 0, 0⟩ 8 8 (.fn fun j => elR (G j))))) j)))) = TE ph G := by
 funext j
 show tz ph (G (0 + (0 + (0 + j)))) = tz ph (G j)
 rw [Nat.zero_add, Nat.zero_add, Nat.zero_add]
theorem so_body : (Sx.nav [1,1,1,1,1,0,1,0,0] (Sx.bodyOf Try.f8)) = .seq (Sx.nav [1,1,1,1,1,0,1,0,0,0] (Sx.bodyOf Try.f8)) (.seq (.block 1 (.seq (Sx.nav [1,1,1,1,1,0,1,0,0,1,0,0,0] (Sx.bodyOf Try.f8)) (.seq (Sx.nav [1,1,1,1,1,0,1,0,0,1,0,0,1,0] (Sx.bodyOf Try.f8)) (.seq (Sx.nav [1,1,1,1,1,0,1,0,0,1,0,0,1,1,0] (Sx.bodyOf Try.f8)) (.seq (Sx.nav [1,1,1,1,1,0,1,0,0,1,0,0,1,1,1,0] (Sx.bodyOf Try.f8)) (Sx.nav [1,1,1,1,1,0,1,0,0,1,0,0,1,1,1,1] (Sx.bodyOf Try.f8))))))) (Sx.nav [1,1,1,1,1,0,1,0,0,1,1] (Sx.bodyOf Try.f8))) := by kernel_rfl
theorem rowsC_el (G : Nat → El) : rowsE (Sx.Cont.row (.fn fun j => elR (G j))) = G := rfl
theorem so_round (n u kk : Nat) (pt : Tx) (G : Nat → El) (f : Nat → Nat × Nat) (g0 g1 : Int) (h256 : n ≤ 256) (hz : (ofR chkE G n).1 = 0) (hg : ∀ j, j < n → badE chkE G j = 0) (hv : ∀ j, j < n → (G j).v < 18446744073709551616) (hk : kk < 2)
  (hc : (fbk (RB G n) 0 n = n ∧ u = ulen G n ∧ f = RF G n n ∧ g0 = 0 ∧ g1 = 0 ∧ ∀ m, okN (RF G n n m)) ∨ (fbk (RB G n) 0 n ≠ n ∧ u = 0 ∧ g0 = 6 ∧ g1 = (fbk (RB G n) 0 n : Nat))) :
  Sx.GoesB Try.prog (Sx.nav [1,1,1,1,1,0,1,0,0] (Sx.bodyOf Try.f8)) Try.f8.ntmps 12 12 12 (Sx.frL [(1, .str true pt), (5, .bool true), (6, .ptr ⟨false, 8, 0, 0⟩), (8, .slc true true ⟨false, 10, 0, 0⟩ u), (9, .ptr ⟨false, 11, 0, 0⟩), (10, .int true .i64 (kk : Nat))]) (Sx.hpL (hkL n u G f g0 g1)) (Sx.Nm [(1, .str true pt), (5, .bool true), (6, .ptr ⟨false, 8, 0, 0⟩), (8, .slc true true ⟨false, 10, 0, 0⟩ u), (9, .ptr ⟨false, 11, 0, 0⟩), (10, .int true .i64 (kk + 1 : Nat))] (hkL n u G f g0 g1)) := by
 have lq := ND_b G n h256
 have lr := BR_b G n h256
 have hul : ulen G n = (ND G n).length + (BR G n).length := rfl
 rw [so_body]
 refine Sx.GoesB.seqN (K1 := 12) (F1 := [(1, .str true pt), (5, .bool true), (6, .ptr ⟨false, 8, 0, 0⟩), (8, .slc true true ⟨false, 10, 0, 0⟩ u), (9, .ptr ⟨false, 11, 0, 0⟩), (10, .int true .i64 (kk : Int))]) (H1 := hkL n u G f g0 g1) (Sx.GoesB.idleN (rT 12 (soH_r0 n (ND G n).length (BR G n).length u 0 0 kk pt G G G (zipF 0 (NM G n)) (zipF 0 (ND G n)) (zipF 0 (BR G n)) (lget (ND G n)) (lget (BR G n)) f f 0 0 g0 g1 0 0 (G 0) true (decide_eq_true (by omega))) (by omega)) (by omega) (hk_low 12 _ _ _ _ _ _ (by omega))) (by omega) ?_
 refine Sx.GoesB.seqN (K1 := 12) (F1 := [(1, .str true pt), (5, .bool true), (6, .ptr ⟨false, 8, 0, 0⟩), (8, .slc true true ⟨false, 10, 0, 0⟩ u), (9, .ptr ⟨false, 11, 0, 0⟩), (10, .int true .i64 (kk : Int))]) (H1 := hkL n u G f g0 g1) ?_ (by omega) (Sx.GoesB.toN (Sx.GoesB.idleN (rT 12 (soR_r0 n (ND G n).length (BR G n).length u 0 0 kk pt G G G (zipF 0 (NM G n)) (zipF 0 (ND G n)) (zipF 0 (BR G n)) (lget (ND G n)) (lget (BR G n)) f f 0 0 g0 g1 0 0 (G 0) true (by omega) (by omega)) (by omega)) (by omega) (hk_low 12 _ _ _ _ _ _ (by omega))) ⟨(Sx.re rfl), (Sx.re rfl), (Sx.re rfl), (Sx.re rfl), (Sx.re rfl), Sx.ri rfl, trivial⟩ ⟨(Sx.hs rfl), (Sx.hs rfl), (Sx.hs rfl), (Sx.hs rfl), (Sx.hs rfl), (Sx.hs rfl), (Sx.hs rfl), (Sx.hs rfl), (Sx.hs rfl), trivial⟩)
 refine Sx.GoesB.renN (K' := 24) (F0 := [(1, .str true pt), (5, .bool true), (6, .ptr ⟨false, 8, 0, 0⟩), (8, .slc true true ⟨false, 10, 0, 0⟩ u), (9, .ptr ⟨false, 11, 0, 0⟩), (10, .int true .i64 (kk : Int))]) (H0 := hkL n u G f g0 g1) id (Sx.GoesB.blockN ?_) (fun g hg => rfl) (fun i j _ _ h => h) ⟨⟨_, rfl, Sx.AV.ge.refl _, rfl⟩, ⟨_, rfl, Sx.AV.ge.refl _, rfl⟩, ⟨_, rfl, Sx.AV.ge.refl _, rfl⟩, ⟨_, rfl, Sx.AV.ge.refl _, rfl⟩, ⟨_, rfl, Sx.AV.ge.refl _, rfl⟩, ⟨_, rfl, Sx.AV.ge.refl _, rfl⟩, trivial⟩ ⟨rgM rfl rfl (by omega), rgM rfl rfl (by omega), rgM rfl rfl (by omega), rgR rfl rfl (fun j _ => rfl) (fun j _ => rfl) (by omega), rgR rfl rfl (fun j _ => rfl) (fun j _ => rfl) (by omega), rgR rfl rfl (fun j _ => rfl) (fun j _ => rfl) (by omega), rgB rfl rfl rfl (by omega), rgR rfl rfl (fun j _ => rfl) (fun j _ => rfl) (by omega), rgB rfl rfl rfl (by omega), trivial⟩
 have nn : ∀ j, j < n → (G j).v < 18446744073709551616 ∧ Sx.isnan (G j).v = false := fun j hj => ⟨hv j hj, src_nn (hv j hj) (chk_good (hg j hj))⟩
 have hI := rT 12 (soI_r0 n (ND G n).length (BR G n).length u 0 0 kk pt G G G (zipF 0 (NM G n)) (zipF 0 (ND G n)) (zipF 0 (BR G n)) (lget (ND G n)) (lget (BR G n)) f f 0 0 g0 g1 0 0 (G 0) true (by omega) (by omega) (by omega) (by omega)
  ⟨⟨fun j hj => RowGe_refl _ rfl⟩, by omega, fun j hj _ => nn (0 + (0 + j)) (by omega), fun j hj u hu => List.all_eq_true.1 (elR_low 0 _) u hu⟩
  ⟨⟨fun j hj => RowGe_refl _ rfl⟩, fun j hj u hu => List.all_eq_true.1 (elR_low 0 _) u hu⟩ (by rw [rowsT_is, ofX_is]; exact decide_eq_true (ofR_t hv hz))) (by omega)
 simp only [rowsT_is, rowsT2_is, ND_t, NM_t, BR_t] at hI
 refine Sx.GoesB.seqN (K1 := 22) (F1 := [(1, .str true pt), (5, .bool true), (6, .ptr ⟨false, 8, 0, 0⟩), (8, .slc true true ⟨false, 10, 0, 0⟩ u), (9, .ptr ⟨false, 11, 0, 0⟩), (10, .int true .i64 (kk : Int)), (11, .ptr ⟨false, 20, 0, 0⟩), (12, .ptr ⟨false, 21, 0, 0⟩)]) (H1 := (([(21, .cells true 2 1 (.fn fun _ => [.int false .i64 0, .int false .i64 0]))] : List (Nat × Sx.ABk)) ++ (hkL n u G f g0 g1 ++ net2L n (ND G n).length (BR G n).length (TE (decide ((kk : Int) = 1)) G) (zipF 0 (NM G n)) (zipF 0 (ND G n)) (zipF 0 (BR G n)) (lget (ND G n)) (lget (BR G n))))) (Sx.GoesB.toN hI ⟨(Sx.re rfl), (Sx.re rfl), (Sx.re rfl), (Sx.re rfl), (Sx.re rfl), (Sx.re rfl), (Sx.re rfl), (Sx.re rfl), trivial⟩ ⟨hbl1 rfl, (Sx.hs rfl), (Sx.hs rfl), (Sx.hs rfl), (Sx.hs rfl), (Sx.hs rfl), (Sx.hs rfl), (Sx.hs rfl), (Sx.hs rfl), (Sx.hs rfl), (Sx.hs rfl), (Sx.hs rfl), (Sx.hs rfl), gR rfl rfl (fun j _ => by
  show elR (tz _ (G (0 + (0 + (0 + j))))) = elR (tz _ (G j))
  simp only [Nat.zero_add]), ⟨_, rfl, rfl, rfl, rfl, fun j _ => rfl⟩, ⟨_, rfl, rfl, rfl, rfl, fun j _ => rfl⟩, ⟨_, rfl, rfl, rfl, rfl, fun j _ => rfl⟩, trivial⟩) (by omega) ?_
 refine Sx.GoesB.lower (B' := 22) ?_ (by omega)
 refine Sx.GoesB.seqN (K1 := 22) (F1 := [(1, .str true pt), (5, .bool true), (6, .ptr ⟨false, 8, 0, 0⟩), (8, .slc true true ⟨false, 10, 0, 0⟩ u), (9, .ptr ⟨false, 11, 0, 0⟩), (10, .int true .i64 (kk : Int)), (11, .ptr ⟨false, 20, 0, 0⟩)]) (H1 := net2L n (ND G n).length (BR G n).length (TE (decide ((kk : Int) = 1)) G) (zipF 0 (NM G n)) (zipF 0 (ND G n)) (zipF 0 (BR G n)) (lget (ND G n)) (lget (BR G n)) ++ hkL n u G f g0 g1) (Sx.GoesB.toN (Sx.GoesB.frameN (bl := [(21, .cells true 2 1 (.fn fun _ => [.int false .i64 0, .int false .i64 0]))]) (bl' := []) (xl := hkL n u G f g0 g1 ++ net2L n (ND G n).length (BR G n).length (TE (decide ((kk : Int) = 1)) G) (zipF 0 (NM G n)) (zipF 0 (ND G n)) (zipF 0 (BR G n)) (lget (ND G n)) (lget (BR G n))) (rT 22 (soJ_r0 n (ND G n).length (BR G n).length u 0 0 kk pt G G G (zipF 0 (NM G n)) (zipF 0 (ND G n)) (zipF 0 (BR G n)) (lget (ND G n)) (lget (BR G n)) f f 0 0 g0 g1 0 0 (G 0) true) (by omega)) (by omega) (lowL_app (hk_low 22 _ _ _ _ _ _ (by omega)) (net2_low 22 _ _ _ (by omega))) (by kernel_rfl) rfl trivial) ⟨(Sx.re rfl), (Sx.re rfl), (Sx.re rfl), (Sx.re rfl), (Sx.re rfl), (Sx.re rfl), (Sx.re rfl), trivial⟩ ⟨(Sx.hs rfl), (Sx.hs rfl), (Sx.hs rfl), (Sx.hs rfl), (Sx.hs rfl), (Sx.hs rfl), (Sx.hs rfl), (Sx.hs rfl), (Sx.hs rfl), (Sx.hs rfl), (Sx.hs rfl), (Sx.hs rfl), (Sx.hs rfl), (Sx.hs rfl), (Sx.hs rfl), (Sx.hs rfl), trivial⟩) (by omega) ?_
 have low := hk_low 22 n u G f g0 g1 (by omega)
 have nq : NetQ n (ND G n).length (BR G n).length n (ND G n).length (BR G n).length (zipF 0 (NM G n)) (zipF 0 (ND G n)) (zipF 0 (BR G n)) (Sx.Cont.row (.fn fun j => elR ((TE (decide ((kk : Int) = 1)) G) j))) (Sx.Cont.row (.fn (txR (lget (ND G n))))) (Sx.Cont.row (.fn (txR (lget (BR G n))))) := ⟨h256, rfl, rfl, rfl, by rw [rowsC_el, ND_t], by rw [rowsC_el, BR_t], by rw [rowsC_el, NM_t], by rw [rowsC_el, ND_t], by rw [rowsC_el, BR_t], fun j _ => RowGe_refl _ rfl, fun j _ => by rw [rowsC_el, ND_t]; exact RowGe_refl _ rfl, fun j _ => by rw [rowsC_el, BR_t]; exact RowGe_refl _ rfl⟩
 have ft := fbk_t (decide ((kk : Int) = 1)) hv hg
 have ul := ulen_t (decide ((kk : Int) = 1)) G n
 rcases hc with ⟨c1, rfl, rfl, rfl, rfl, hok⟩ | ⟨c1, rfl, rfl, rfl⟩
 ·have hK := rT 22 (soK_r0 n (ND G n).length (BR G n).length (ulen G n) 0 0 kk pt G G (TE (decide ((kk : Int) = 1)) G) (zipF 0 (NM G n)) (zipF 0 (ND G n)) (zipF 0 (BR G n)) (lget (ND G n)) (lget (BR G n)) (RF G n n) (RF G n n) 0 0 0 0 0 0 (G 0) true nq (by rw [rowsE_el, ft]; exact decide_eq_true c1)) (by omega)
  simp only [rowsE_el, ul] at hK
  refine Sx.GoesB.seqN (K1 := 24) (F1 := [(1, .str true pt), (5, .bool true), (6, .ptr ⟨false, 8, 0, 0⟩), (8, .slc true true ⟨false, 10, 0, 0⟩ (ulen G n)), (9, .ptr ⟨false, 11, 0, 0⟩), (10, .int true .i64 (kk : Int)), (13, .slc true true ⟨false, 22, 0, 0⟩ (ulen G n)), (14, .ptr ⟨false, 23, 0, 0⟩)]) (H1 := (([(11, .cells true 2 1 (.fn fun _ => [.int true .i64 0, .int true .i64 0])), (23, .cells true 2 1 (.fn fun _ => [.int false .i64 0, .int false .i64 0]))] : List (Nat × Sx.ABk)) ++ (netL n (ND G n).length (BR G n).length G (zipF 0 (NM G n)) (zipF 0 (ND G n)) (zipF 0 (BR G n)) (lget (ND G n)) (lget (BR G n)) ++ ([(10, .cells true 1 (ulen G n) (.fn (cxR (RF G n n)))), (22, .cells true 1 (ulen G n) (.fn (cxR (RF (TE (decide ((kk : Int) = 1)) G) n n))))] : List (Nat × Sx.ABk))))) (Sx.GoesB.toN (Sx.GoesB.frameN hK (by omega) (hk_low 22 _ _ _ _ _ _ (by omega)) (by kernel_rfl) (by kernel_rfl) ⟨.inl rfl, .inl rfl, trivial⟩) ⟨(Sx.re rfl), (Sx.re rfl), (Sx.re rfl), (Sx.re rfl), (Sx.re rfl), (Sx.re rfl), (Sx.re rfl), (Sx.re rfl), trivial⟩ ⟨(Sx.hs rfl), hbl1 rfl, (Sx.hs rfl), (Sx.hs rfl), (Sx.hs rfl), (Sx.hs rfl), (Sx.hs rfl), (Sx.hs rfl), (Sx.hs rfl), (Sx.hs rfl), ⟨_, rfl, rfl, rfl, rfl, fun j _ => rfl⟩, trivial⟩) (by omega) ?_
  refine Sx.GoesB.lower (B' := 24) ?_ (by omega)
  have nlow := net_low 24 n G (by omega)
  have rbl := rb_low 24 10 (ulen G n) (RF G n n) (by omega) (rb_low 24 22 (ulen G n) (RF (TE (decide ((kk : Int) = 1)) G) n n) (by omega) (l := []) trivial)
  refine Sx.GoesB.seqN (K1 := 24) (F1 := [(1, .str true pt), (5, .bool true), (6, .ptr ⟨false, 8, 0, 0⟩), (8, .slc true true ⟨false, 10, 0, 0⟩ (ulen G n)), (9, .ptr ⟨false, 11, 0, 0⟩), (10, .int true .i64 (kk : Int)), (13, .slc true true ⟨false, 22, 0, 0⟩ (ulen G n))]) (H1 := (([(10, .cells true 1 (ulen G n) (.fn (cxR (RF G n n)))), (22, .cells true 1 (ulen G n) (.fn (cxR (RF (TE (decide ((kk : Int) = 1)) G) n n))))] : List (Nat × Sx.ABk)) ++ (netL n (ND G n).length (BR G n).length G (zipF 0 (NM G n)) (zipF 0 (ND G n)) (zipF 0 (BR G n)) (lget (ND G n)) (lget (BR G n)) ++ ([(11, .cells true 2 1 (.fn fun _ => [.int true .i64 0, .int true .i64 0]))] : List (Nat × Sx.ABk))))) (Sx.GoesB.toN (Sx.GoesB.frameN (bl := [(11, .cells true 2 1 (.fn fun _ => [.int true .i64 0, .int true .i64 0])), (23, .cells true 2 1 (.fn fun _ => [.int false .i64 0, .int false .i64 0]))]) (rT 24 (soL_r0 n (ND G n).length (BR G n).length (ulen G n) 0 0 kk pt G G G (zipF 0 (NM G n)) (zipF 0 (ND G n)) (zipF 0 (BR G n)) (lget (ND G n)) (lget (BR G n)) (RF G n n) (RF (TE (decide ((kk : Int) = 1)) G) n n) 0 0 0 0 0 0 (G 0) true rfl (by rw [decide_eq_true rfl]; rfl)) (by omega)) (by omega) (lowL_app nlow rbl) (by kernel_rfl) (by kernel_rfl) ⟨.inl rfl, trivial⟩) ⟨(Sx.re rfl), (Sx.re rfl), (Sx.re rfl), (Sx.re rfl), (Sx.re rfl), (Sx.re rfl), (Sx.re rfl), trivial⟩ ⟨(Sx.hs rfl), (Sx.hs rfl), (Sx.hs rfl), (Sx.hs rfl), (Sx.hs rfl), (Sx.hs rfl), (Sx.hs rfl), (Sx.hs rfl), (Sx.hs rfl), (Sx.hs rfl), trivial⟩) (by omega) ?_
  exact Sx.GoesB.toN (Sx.GoesB.frameN (bl := [(10, .cells true 1 (ulen G n) (.fn (cxR (RF G n n)))), (22, .cells true 1 (ulen G n) (.fn (cxR (RF (TE (decide ((kk : Int) = 1)) G) n n))))]) (so_in kk (ulen G n) pt G (RF G n n) (RF (TE (decide ((kk : Int) = 1)) G) n n) 0 0 (by omega) (fun m _ => opp_eq (decide ((kk : Int) = 1)) hv hg hok m)) (by omega) (lowL_app nlow (fa_low 24 11 true 0 0 (by omega) (l := []) trivial)) (by kernel_rfl) (by kernel_rfl) ⟨.inl rfl, .inl rfl, trivial⟩) ⟨(Sx.re rfl), (Sx.re rfl), (Sx.re rfl), (Sx.re rfl), (Sx.re rfl), (Sx.re rfl), trivial⟩ ⟨(Sx.hs rfl), (Sx.hs rfl), (Sx.hs rfl), (Sx.hs rfl), (Sx.hs rfl), (Sx.hs rfl), (Sx.hs rfl), (Sx.hs rfl), (Sx.hs rfl), trivial⟩
 ·have hK := rT 22 (soK_r1 n (ND G n).length (BR G n).length 0 0 0 kk pt G G (TE (decide ((kk : Int) = 1)) G) (zipF 0 (NM G n)) (zipF 0 (ND G n)) (zipF 0 (BR G n)) (lget (ND G n)) (lget (BR G n)) f f 0 0 6 (fbk (RB G n) 0 n : Nat) 0 0 (G 0) true nq (by rw [rowsE_el, ft]; exact decide_eq_false c1)) (by omega)
  simp only [rowsE_el, ft] at hK
  refine Sx.GoesB.seqN (K1 := 24) (F1 := [(1, .str true pt), (5, .bool true), (6, .ptr ⟨false, 8, 0, 0⟩), (8, .slc true true ⟨false, 10, 0, 0⟩ 0), (9, .ptr ⟨false, 11, 0, 0⟩), (10, .int true .i64 (kk : Int)), (13, .nils), (14, .ptr ⟨false, 22, 0, 0⟩)]) (H1 := (([(11, .cells true 2 1 (.fn fun _ => [.int true .i64 6, .int true .i64 (fbk (RB G n) 0 n : Nat)])), (22, .cells true 2 1 (.fn fun _ => [.int false .i64 6, .int true .i64 (fbk (RB G n) 0 n : Int)]))] : List (Nat × Sx.ABk)) ++ (netL n (ND G n).length (BR G n).length G (zipF 0 (NM G n)) (zipF 0 (ND G n)) (zipF 0 (BR G n)) (lget (ND G n)) (lget (BR G n)) ++ ([(10, .cells true 1 0 (.fn (cxR f)))] : List (Nat × Sx.ABk))))) (Sx.GoesB.toN (Sx.GoesB.frameN hK (by omega) (hk_low 22 _ _ _ _ _ _ (by omega)) (by kernel_rfl) (by kernel_rfl) ⟨.inl rfl, trivial⟩) ⟨(Sx.re rfl), (Sx.re rfl), (Sx.re rfl), (Sx.re rfl), (Sx.re rfl), (Sx.re rfl), (Sx.re rfl), (Sx.re rfl), trivial⟩ ⟨(Sx.hs rfl), hbl1 rfl, (Sx.hs rfl), (Sx.hs rfl), (Sx.hs rfl), (Sx.hs rfl), (Sx.hs rfl), (Sx.hs rfl), (Sx.hs rfl), (Sx.hs rfl), trivial⟩) (by omega) ?_
  refine Sx.GoesB.lower (B' := 24) ?_ (by omega)
  have nlow := net_low 24 n G (by omega)
  have hk := hk_low 24 n 0 G f 6 (fbk (RB G n) 0 n : Nat) (by omega)
  refine Sx.GoesB.seqN (K1 := 24) (F1 := [(1, .str true pt), (5, .bool true), (6, .ptr ⟨false, 8, 0, 0⟩), (8, .slc true true ⟨false, 10, 0, 0⟩ 0), (9, .ptr ⟨false, 11, 0, 0⟩), (10, .int true .i64 (kk : Int))]) (H1 := hkL n 0 G f 6 (fbk (RB G n) 0 n : Nat)) (Sx.GoesB.toN (Sx.GoesB.frameN (bl := [(11, .cells true 2 1 (.fn fun _ => [.int true .i64 6, .int true .i64 (fbk (RB G n) 0 n : Nat)])), (22, .cells true 2 1 (.fn fun _ => [.int false .i64 6, .int true .i64 (fbk (RB G n) 0 n : Int)]))]) (rT 24 (soM_r0 n (ND G n).length (BR G n).length 0 0 (fbk (RB G n) 0 n) kk pt G G G (zipF 0 (NM G n)) (zipF 0 (ND G n)) (zipF 0 (BR G n)) (lget (ND G n)) (lget (BR G n)) f f 0 0 6 (fbk (RB G n) 0 n : Nat) 0 0 (G 0) true (by rw [decide_eq_true rfl, decide_eq_true rfl]; rfl) rfl) (by omega)) (by omega) (lowL_app nlow (rb_low 24 10 0 f (by omega) (l := []) trivial)) (by kernel_rfl) (by kernel_rfl) ⟨.inl rfl, trivial⟩) ⟨(Sx.re rfl), (Sx.re rfl), (Sx.re rfl), (Sx.re rfl), (Sx.re rfl), (Sx.re rfl), trivial⟩ ⟨(Sx.hs rfl), (Sx.hs rfl), (Sx.hs rfl), (Sx.hs rfl), (Sx.hs rfl), (Sx.hs rfl), (Sx.hs rfl), (Sx.hs rfl), (Sx.hs rfl), trivial⟩) (by omega) ?_
  rw [show (Sx.nav [1,1,1,1,1,0,1,0,0,1,0,0,1,1,1,1] (Sx.bodyOf Try.f8)) = .seq (Sx.nav [1,1,1,1,1,0,1,0,0,1,0,0,1,1,1,1,0] (Sx.bodyOf Try.f8)) (.block 2 (.loop (Sx.nav [1,1,1,1,1,0,1,0,0,1,0,0,1,1,1,1,1,0,0] (Sx.bodyOf Try.f8)))) by kernel_rfl]
  refine Sx.GoesB.seqN (K1 := 24) (F1 := [(1, .str true pt), (5, .bool true), (6, .ptr ⟨false, 8, 0, 0⟩), (8, .slc true true ⟨false, 10, 0, 0⟩ 0), (9, .ptr ⟨false, 11, 0, 0⟩), (10, .int true .i64 (kk : Int)), (15, .int true .i64 (0 : Nat))]) (H1 := hkL n 0 G f 6 (fbk (RB G n) 0 n : Nat)) (Sx.GoesB.toN (Sx.GoesB.idleN (rT 24 (soN2_r0 n (ND G n).length (BR G n).length 0 0 0 kk pt G G G (zipF 0 (NM G n)) (zipF 0 (ND G n)) (zipF 0 (BR G n)) (lget (ND G n)) (lget (BR G n)) f f 0 0 0 0 0 0 (G 0) true) (by omega)) (by omega) hk) ⟨(Sx.re rfl), (Sx.re rfl), (Sx.re rfl), (Sx.re rfl), (Sx.re rfl), (Sx.re rfl), Sx.ri rfl, trivial⟩ ⟨(Sx.hs rfl), (Sx.hs rfl), (Sx.hs rfl), (Sx.hs rfl), (Sx.hs rfl), (Sx.hs rfl), (Sx.hs rfl), (Sx.hs rfl), (Sx.hs rfl), trivial⟩) (by omega) ?_
  refine Sx.GoesB.rounds 0 (fun i => [(1, .str true pt), (5, .bool true), (6, .ptr ⟨false, 8, 0, 0⟩), (8, .slc true true ⟨false, 10, 0, 0⟩ 0), (9, .ptr ⟨false, 11, 0, 0⟩), (10, .int true .i64 (kk : Int)), (15, .int true .i64 (i : Nat))]) (fun _ => hkL n 0 G f 6 (fbk (RB G n) 0 n : Nat)) (fun i hi => absurd hi (Nat.not_lt_zero _)) ?_
  rw [show (Sx.nav [1,1,1,1,1,0,1,0,0,1,0,0,1,1,1,1,1,0,0] (Sx.bodyOf Try.f8)) = .seq (Sx.nav [1,1,1,1,1,0,1,0,0,1,0,0,1,1,1,1,1,0,0,0] (Sx.bodyOf Try.f8)) (.seq (.block 3 (Sx.nav [1,1,1,1,1,0,1,0,0,1,0,0,1,1,1,1,1,0,0,1,0,0] (Sx.bodyOf Try.f8))) (Sx.nav [1,1,1,1,1,0,1,0,0,1,0,0,1,1,1,1,1,0,0,1,1] (Sx.bodyOf Try.f8))) by kernel_rfl]
  exact Sx.GoesB.seqX (K1 := 24) (Sx.GoesB.idleX (xl := hkL n 0 G f 6 (fbk (RB G n) 0 n : Nat)) (rT 24 (soO2_r1 n (ND G n).length (BR G n).length 0 0 0 kk pt G G G (zipF 0 (NM G n)) (zipF 0 (ND G n)) (zipF 0 (BR G n)) (lget (ND G n)) (lget (BR G n)) f f 0 0 0 0 0 0 (G 0) true (decide_eq_false (by omega))) (by omega)) (by omega) hk) (by omega)


/-- what Driven makes, what the law expects -/
noncomputable def dvE (nodes : List Tx) (z : El) : Nat → Nat × Nat := (putV csub z.b (zipF 0 nodes) (putV cadd z.a (zipF 0 nodes) (fun _ => (0, 0)) (4607182418800017408, 0)).1 (4607182418800017408, 0)).1
def w1E (nodes : List Tx) (z : El) (i : Nat) : Nat × Nat := bif decide (i < nodes.length) then (bif lget nodes i == z.a then (4607182418800017408, 0) else (0, 0)) else (0, 0)
def w2E (nodes : List Tx) (z : El) (i : Nat) : Nat × Nat := bif decide (i < nodes.length) then (bif lget nodes i == z.b then (13830554455654793216, 0) else w1E nodes z i) else w1E nodes z i
theorem pos_iff' {x : Tx} {l : List Tx} {i : Nat} (hn : l.Nodup) (hi : i < l.length) : (lget l i == x) = decide (pos x l = some i) := by rw [← pos_iff hn hi]; exact BEq.comm
theorem feq4 : (Sx.feq (Sx.fadd 0 4607182418800017408) 4607182418800017408 && Sx.feq (Sx.fadd 0 0) 0) = true ∧ (Sx.feq (Sx.fsub 0 4607182418800017408) 13830554455654793216 && Sx.feq (Sx.fsub 0 0) 0) = true ∧ (Sx.feq 0 0 && Sx.feq 0 0) = true := by decide +kernel
theorem dv_is {nodes : List Tx} {z : El} (hn : nodes.Nodup) (hab : z.a ≠ z.b) (i : Nat) : (Sx.feq (dvE nodes z i).1 (w2E nodes z i).1 && Sx.feq (dvE nodes z i).2 (w2E nodes z i).2) = true := by
 unfold dvE w2E w1E
 rw [putV_at, putV_at]
 by_cases c : i < nodes.length
 ·rw [decide_eq_true c, cond_true, cond_true, pos_iff' hn c, pos_iff' hn c]
  by_cases b : pos z.b nodes = some i
  ·rw [decide_eq_true b]
   have a : ¬ pos z.a nodes = some i := fun a => hab ((pos_lt a).2.symm.trans (pos_lt b).2)
   rw [decide_eq_false a]
   exact feq4.2.1
  ·rw [decide_eq_false b]
   by_cases a : pos z.a nodes = some i
   ·rw [decide_eq_true a]; exact feq4.1
   ·rw [decide_eq_false a]; exact feq4.2.2
 ·rw [decide_eq_false c, decide_eq_false (fun b => c (pos_lt b).1), decide_eq_false (fun b => c (pos_lt b).1)]
  exact feq4.2.2
theorem chk_ab {z : El} (h : chkE z = 0) : z.a ≠ z.b := by
 intro e
 refine absurd h ?_
 unfold chkE chk_0
 have : (z.a == z.b) = true := by rw [e]; exact beq_self_eq_true _
 simp only [this, cond_true]
 repeat' (first | decide | apply cz0)
theorem ptz_body : (Sx.nav [1,1,1,1,1,1,1,1,1,1,0,1,0,0] (Sx.bodyOf Try.f8)) = .seq (Sx.nav [1,1,1,1,1,1,1,1,1,1,0,1,0,0,0] (Sx.bodyOf Try.f8)) (.seq (.block 5 (.seq (Sx.nav [1,1,1,1,1,1,1,1,1,1,0,1,0,0,1,0,0,0] (Sx.bodyOf Try.f8)) (.seq (Sx.nav [1,1,1,1,1,1,1,1,1,1,0,1,0,0,1,0,0,1,0] (Sx.bodyOf Try.f8)) (.seq (Sx.nav [1,1,1,1,1,1,1,1,1,1,0,1,0,0,1,0,0,1,1,0] (Sx.bodyOf Try.f8)) (Sx.nav [1,1,1,1,1,1,1,1,1,1,0,1,0,0,1,0,0,1,1,1] (Sx.bodyOf Try.f8)))))) (Sx.nav [1,1,1,1,1,1,1,1,1,1,0,1,0,0,1,1] (Sx.bodyOf Try.f8))) := by kernel_rfl
theorem sq_low (n : Nat) (G : Nat → El) (z : El) {l : List (Nat × Sx.ABk)} (k : Sx.LowL 16 l) : Sx.LowL 16 ([(6, .cells true 1 (ND G n).length (.fn (txR (lget (ND G n))))), (8, .cells true 7 1 (.fn fun _ => netG 2 3 4 5 6 7 n (ND G n).length (BR G n).length)), (15, .cells true 8 1 (.fn fun _ => elR z))] ++ l) := by
 have e : ∀ j, j < 16 → Nat.blt j 16 = true := fun j h => Nat.ble_eq_true_of_le h
 refine ⟨⟨by omega, fun i hi v hv => by rw [List.mem_singleton.1 hv]; rfl⟩, ⟨by omega, fun i hi v hv => ?_⟩, ⟨by omega, fun i hi v hv => List.all_eq_true.1 (elR_low _ z) v hv⟩, k⟩
 have hv : v ∈ netG 2 3 4 5 6 7 n (ND G n).length (BR G n).length := hv
 simp only [netG, List.mem_cons, List.not_mem_nil, or_false] at hv
 rcases hv with rfl | rfl | rfl | rfl | rfl | rfl | rfl <;> rfl
theorem sqC_goes (n i : Nat) (G : Nat → El) (z : El) (h256 : n ≤ 256) (hi : i < (ulen G n)) :
  Sx.GoesB Try.prog (Sx.nav [1,1,1,1,1,1,1,1,1,1,0,1,0,0,1,0,0,1,0] (Sx.bodyOf Try.f8)) Try.f8.ntmps 16 16 18 (Sx.frL [(5, .bool true), (6, .ptr ⟨false, 8, 0, 0⟩), (16, .slc true true ⟨false, 12, 0, 0⟩ (ulen G n)), (18, .ptr ⟨false, 15, 0, 0⟩), (20, .int true .i64 (i : Nat)), (21, .cpx true 0 0)]) (Sx.hpL [(6, .cells true 1 (ND G n).length (.fn (txR (lget (ND G n))))), (8, .cells true 7 1 (.fn fun _ => netG 2 3 4 5 6 7 n (ND G n).length (BR G n).length)), (15, .cells true 8 1 (.fn fun _ => elR z))]) (Sx.Nm [(5, .bool true), (6, .ptr ⟨false, 8, 0, 0⟩), (16, .slc true true ⟨false, 12, 0, 0⟩ (ulen G n)), (18, .ptr ⟨false, 15, 0, 0⟩), (20, .int true .i64 (i : Nat)), (21, .cpx true (w1E (ND G n) z i).1 (w1E (ND G n) z i).2)] [(6, .cells true 1 (ND G n).length (.fn (txR (lget (ND G n))))), (8, .cells true 7 1 (.fn fun _ => netG 2 3 4 5 6 7 n (ND G n).length (BR G n).length)), (15, .cells true 8 1 (.fn fun _ => elR z))]) := by
 have lq := ND_b G n h256
 have e : (0 : Nat) + (0 + Int.toNat (Int.ofNat i)) = i := by rw [Nat.zero_add, Nat.zero_add]; rfl
 have e' : (0 : Nat) + Int.toNat (Int.ofNat i) = i := by rw [Nat.zero_add]; rfl
 unfold w1E
 by_cases c : i < (ND G n).length
 ·rw [decide_eq_true c, cond_true]
  cases a : lget (ND G n) i == z.a with
  | true => exact Sx.GoesB.toN (rT 16 (sqC_r0 n (ND G n).length (BR G n).length (ulen G n) i 0 0 [] G G G (zipF 0 (NM G n)) (zipF 0 (ND G n)) (zipF 0 (BR G n)) (lget (ND G n)) (lget (BR G n)) (dvE (ND G n) z) (dvE (ND G n) z) ((0, 0)).1 ((0, 0)).2 0 0 0 0 z true (by omega) (by omega) (by omega) (decide_eq_true (by omega)) (by omega) (by omega) (by rw [e']; exact c) (by rw [e]; exact a)) (by omega)) ⟨(Sx.re rfl), (Sx.re rfl), (Sx.re rfl), (Sx.re rfl), Sx.ri rfl, ⟨_, rfl, Sx.AV.ge.cpx' _ _ rfl rfl⟩, trivial⟩ ⟨(Sx.hs rfl), (Sx.hs rfl), (Sx.hs rfl), trivial⟩
  | false => exact Sx.GoesB.toN (rT 16 (sqC_r1 n (ND G n).length (BR G n).length (ulen G n) i 0 0 [] G G G (zipF 0 (NM G n)) (zipF 0 (ND G n)) (zipF 0 (BR G n)) (lget (ND G n)) (lget (BR G n)) (dvE (ND G n) z) (dvE (ND G n) z) ((0, 0)).1 ((0, 0)).2 0 0 0 0 z true (by omega) (by omega) (by omega) (decide_eq_true (by omega)) (by omega) (by omega) (by rw [e']; exact c) (by rw [e]; exact a)) (by omega)) ⟨(Sx.re rfl), (Sx.re rfl), (Sx.re rfl), (Sx.re rfl), Sx.ri rfl, ⟨_, rfl, Sx.AV.ge.cpx' _ _ rfl rfl⟩, trivial⟩ ⟨(Sx.hs rfl), (Sx.hs rfl), (Sx.hs rfl), trivial⟩
 ·rw [decide_eq_false c, cond_false]
  exact Sx.GoesB.toN (rT 16 (sqC_r2 n (ND G n).length (BR G n).length (ulen G n) i 0 0 [] G G G (zipF 0 (NM G n)) (zipF 0 (ND G n)) (zipF 0 (BR G n)) (lget (ND G n)) (lget (BR G n)) (dvE (ND G n) z) (dvE (ND G n) z) ((0, 0)).1 ((0, 0)).2 0 0 0 0 z true (by omega) (by omega) (by omega) (decide_eq_false (by omega))) (by omega)) ⟨(Sx.re rfl), (Sx.re rfl), (Sx.re rfl), (Sx.re rfl), Sx.ri rfl, ⟨_, rfl, Sx.AV.ge.cpx' _ _ rfl rfl⟩, trivial⟩ ⟨(Sx.hs rfl), (Sx.hs rfl), (Sx.hs rfl), trivial⟩
theorem sqD_goes (n i : Nat) (G : Nat → El) (z : El) (h256 : n ≤ 256) (hi : i < (ulen G n)) :
  Sx.GoesB Try.prog (Sx.nav [1,1,1,1,1,1,1,1,1,1,0,1,0,0,1,0,0,1,1,0] (Sx.bodyOf Try.f8)) Try.f8.ntmps 16 16 18 (Sx.frL [(5, .bool true), (6, .ptr ⟨false, 8, 0, 0⟩), (16, .slc true true ⟨false, 12, 0, 0⟩ (ulen G n)), (18, .ptr ⟨false, 15, 0, 0⟩), (20, .int true .i64 (i : Nat)), (21, .cpx true (w1E (ND G n) z i).1 (w1E (ND G n) z i).2)]) (Sx.hpL [(6, .cells true 1 (ND G n).length (.fn (txR (lget (ND G n))))), (8, .cells true 7 1 (.fn fun _ => netG 2 3 4 5 6 7 n (ND G n).length (BR G n).length)), (15, .cells true 8 1 (.fn fun _ => elR z))]) (Sx.Nm [(5, .bool true), (6, .ptr ⟨false, 8, 0, 0⟩), (16, .slc true true ⟨false, 12, 0, 0⟩ (ulen G n)), (18, .ptr ⟨false, 15, 0, 0⟩), (20, .int true .i64 (i : Nat)), (21, .cpx true (w2E (ND G n) z i).1 (w2E (ND G n) z i).2)] [(6, .cells true 1 (ND G n).length (.fn (txR (lget (ND G n))))), (8, .cells true 7 1 (.fn fun _ => netG 2 3 4 5 6 7 n (ND G n).length (BR G n).length)), (15, .cells true 8 1 (.fn fun _ => elR z))]) := by
 have lq := ND_b G n h256
 have e : (0 : Nat) + (0 + Int.toNat (Int.ofNat i)) = i := by rw [Nat.zero_add, Nat.zero_add]; rfl
 have e' : (0 : Nat) + Int.toNat (Int.ofNat i) = i := by rw [Nat.zero_add]; rfl
 unfold w2E
 by_cases c : i < (ND G n).length
 ·rw [decide_eq_true c, cond_true]
  cases a : lget (ND G n) i == z.b with
  | true => exact Sx.GoesB.toN (rT 16 (sqD_r0 n (ND G n).length (BR G n).length (ulen G n) i 0 0 [] G G G (zipF 0 (NM G n)) (zipF 0 (ND G n)) (zipF 0 (BR G n)) (lget (ND G n)) (lget (BR G n)) (dvE (ND G n) z) (dvE (ND G n) z) (w1E (ND G n) z i).1 (w1E (ND G n) z i).2 0 0 0 0 z true (by omega) (by omega) (by omega) (decide_eq_true (by omega)) (by omega) (by omega) (by rw [e']; exact c) (by rw [e]; exact a)) (by omega)) ⟨(Sx.re rfl), (Sx.re rfl), (Sx.re rfl), (Sx.re rfl), Sx.ri rfl, ⟨_, rfl, Sx.AV.ge.cpx' _ _ rfl rfl⟩, trivial⟩ ⟨(Sx.hs rfl), (Sx.hs rfl), (Sx.hs rfl), trivial⟩
  | false => exact Sx.GoesB.toN (rT 16 (sqD_r1 n (ND G n).length (BR G n).length (ulen G n) i 0 0 [] G G G (zipF 0 (NM G n)) (zipF 0 (ND G n)) (zipF 0 (BR G n)) (lget (ND G n)) (lget (BR G n)) (dvE (ND G n) z) (dvE (ND G n) z) (w1E (ND G n) z i).1 (w1E (ND G n) z i).2 0 0 0 0 z true (by omega) (by omega) (by omega) (decide_eq_true (by omega)) (by omega) (by omega) (by rw [e']; exact c) (by rw [e]; exact a)) (by omega)) ⟨(Sx.re rfl), (Sx.re rfl), (Sx.re rfl), (Sx.re rfl), Sx.ri rfl, ⟨_, rfl, Sx.AV.ge.cpx' _ _ rfl rfl⟩, trivial⟩ ⟨(Sx.hs rfl), (Sx.hs rfl), (Sx.hs rfl), trivial⟩
 ·rw [decide_eq_false c, cond_false]
  exact Sx.GoesB.toN (rT 16 (sqD_r2 n (ND G n).length (BR G n).length (ulen G n) i 0 0 [] G G G (zipF 0 (NM G n)) (zipF 0 (ND G n)) (zipF 0 (BR G n)) (lget (ND G n)) (lget (BR G n)) (dvE (ND G n) z) (dvE (ND G n) z) (w1E (ND G n) z i).1 (w1E (ND G n) z i).2 0 0 0 0 z true (by omega) (by omega) (by omega) (decide_eq_false (by omega))) (by omega)) ⟨(Sx.re rfl), (Sx.re rfl), (Sx.re rfl), (Sx.re rfl), Sx.ri rfl, ⟨_, rfl, Sx.AV.ge.cpx' _ _ rfl rfl⟩, trivial⟩ ⟨(Sx.hs rfl), (Sx.hs rfl), (Sx.hs rfl), trivial⟩
theorem sq_round (n i : Nat) (G : Nat → El) (z : El) (h256 : n ≤ 256) (hi : i < (ulen G n)) (hab : z.a ≠ z.b) :
  Sx.GoesB Try.prog (Sx.nav [1,1,1,1,1,1,1,1,1,1,0,1,0,0] (Sx.bodyOf Try.f8)) Try.f8.ntmps 16 16 16 (Sx.frL [(5, .bool true), (6, .ptr ⟨false, 8, 0, 0⟩), (16, .slc true true ⟨false, 12, 0, 0⟩ (ulen G n)), (18, .ptr ⟨false, 15, 0, 0⟩), (20, .int true .i64 (i : Nat))]) (Sx.hpL [(6, .cells true 1 (ND G n).length (.fn (txR (lget (ND G n))))), (8, .cells true 7 1 (.fn fun _ => netG 2 3 4 5 6 7 n (ND G n).length (BR G n).length)), (15, .cells true 8 1 (.fn fun _ => elR z)), (12, .cells true 1 (ulen G n) (.fn (cxR (dvE (ND G n) z))))]) (Sx.Nm [(5, .bool true), (6, .ptr ⟨false, 8, 0, 0⟩), (16, .slc true true ⟨false, 12, 0, 0⟩ (ulen G n)), (18, .ptr ⟨false, 15, 0, 0⟩), (20, .int true .i64 (i + 1 : Nat))] [(6, .cells true 1 (ND G n).length (.fn (txR (lget (ND G n))))), (8, .cells true 7 1 (.fn fun _ => netG 2 3 4 5 6 7 n (ND G n).length (BR G n).length)), (15, .cells true 8 1 (.fn fun _ => elR z)), (12, .cells true 1 (ulen G n) (.fn (cxR (dvE (ND G n) z))))]) := by
 have lq := ND_b G n h256
 have lr := BR_b G n h256
 have hul : ulen G n = (ND G n).length + (BR G n).length := rfl
 have dl := rb_low 16 12 (ulen G n) (dvE (ND G n) z) (by omega) (l := []) trivial
 have al := sq_low n G z dl
 rw [ptz_body]
 refine Sx.GoesB.seqN (K1 := 16) (F1 := [(5, .bool true), (6, .ptr ⟨false, 8, 0, 0⟩), (16, .slc true true ⟨false, 12, 0, 0⟩ (ulen G n)), (18, .ptr ⟨false, 15, 0, 0⟩), (20, .int true .i64 (i : Nat))]) (H1 := [(6, .cells true 1 (ND G n).length (.fn (txR (lget (ND G n))))), (8, .cells true 7 1 (.fn fun _ => netG 2 3 4 5 6 7 n (ND G n).length (BR G n).length)), (15, .cells true 8 1 (.fn fun _ => elR z)), (12, .cells true 1 (ulen G n) (.fn (cxR (dvE (ND G n) z))))]) (Sx.GoesB.idleN (rT 16 (sqA_r0 n (ND G n).length (BR G n).length (ulen G n) i 0 0 [] G G G (zipF 0 (NM G n)) (zipF 0 (ND G n)) (zipF 0 (BR G n)) (lget (ND G n)) (lget (BR G n)) (dvE (ND G n) z) (dvE (ND G n) z) ((0, 0)).1 ((0, 0)).2 0 0 0 0 z true (decide_eq_true (by omega))) (by omega)) (by omega) al) (by omega) ?_
 refine Sx.GoesB.seqN (K1 := 16) (F1 := [(5, .bool true), (6, .ptr ⟨false, 8, 0, 0⟩), (16, .slc true true ⟨false, 12, 0, 0⟩ (ulen G n)), (18, .ptr ⟨false, 15, 0, 0⟩), (20, .int true .i64 (i : Nat))]) (H1 := [(6, .cells true 1 (ND G n).length (.fn (txR (lget (ND G n))))), (8, .cells true 7 1 (.fn fun _ => netG 2 3 4 5 6 7 n (ND G n).length (BR G n).length)), (15, .cells true 8 1 (.fn fun _ => elR z)), (12, .cells true 1 (ulen G n) (.fn (cxR (dvE (ND G n) z))))]) (Sx.GoesB.blockN ?_) (by omega) (Sx.GoesB.toN (Sx.GoesB.idleN (rT 16 (sqF_r0 n (ND G n).length (BR G n).length (ulen G n) i 0 0 [] G G G (zipF 0 (NM G n)) (zipF 0 (ND G n)) (zipF 0 (BR G n)) (lget (ND G n)) (lget (BR G n)) (dvE (ND G n) z) (dvE (ND G n) z) ((0, 0)).1 ((0, 0)).2 0 0 0 0 z true (by omega) (by omega)) (by omega)) (by omega) al) ⟨(Sx.re rfl), (Sx.re rfl), (Sx.re rfl), (Sx.re rfl), Sx.ri rfl, trivial⟩ ⟨(Sx.hs rfl), (Sx.hs rfl), (Sx.hs rfl), (Sx.hs rfl), trivial⟩)
 refine Sx.GoesB.seqN (K1 := 16) (F1 := [(5, .bool true), (6, .ptr ⟨false, 8, 0, 0⟩), (16, .slc true true ⟨false, 12, 0, 0⟩ (ulen G n)), (18, .ptr ⟨false, 15, 0, 0⟩), (20, .int true .i64 (i : Nat)), (21, .cpx true 0 0)]) (H1 := [(6, .cells true 1 (ND G n).length (.fn (txR (lget (ND G n))))), (8, .cells true 7 1 (.fn fun _ => netG 2 3 4 5 6 7 n (ND G n).length (BR G n).length)), (15, .cells true 8 1 (.fn fun _ => elR z)), (12, .cells true 1 (ulen G n) (.fn (cxR (dvE (ND G n) z))))]) (Sx.GoesB.toN (Sx.GoesB.idleN (rT 16 (sqB_r0 n (ND G n).length (BR G n).length (ulen G n) i 0 0 [] G G G (zipF 0 (NM G n)) (zipF 0 (ND G n)) (zipF 0 (BR G n)) (lget (ND G n)) (lget (BR G n)) (dvE (ND G n) z) (dvE (ND G n) z) ((0, 0)).1 ((0, 0)).2 0 0 0 0 z true) (by omega)) (by omega) al) ⟨(Sx.re rfl), (Sx.re rfl), (Sx.re rfl), (Sx.re rfl), (Sx.re rfl), ⟨_, rfl, Sx.AV.ge.cpx' _ _ rfl rfl⟩, trivial⟩ ⟨(Sx.hs rfl), (Sx.hs rfl), (Sx.hs rfl), (Sx.hs rfl), trivial⟩) (by omega) ?_
 refine Sx.GoesB.seqN (K1 := 16) (F1 := [(5, .bool true), (6, .ptr ⟨false, 8, 0, 0⟩), (16, .slc true true ⟨false, 12, 0, 0⟩ (ulen G n)), (18, .ptr ⟨false, 15, 0, 0⟩), (20, .int true .i64 (i : Nat)), (21, .cpx true (w1E (ND G n) z i).1 (w1E (ND G n) z i).2)]) (H1 := [(6, .cells true 1 (ND G n).length (.fn (txR (lget (ND G n))))), (8, .cells true 7 1 (.fn fun _ => netG 2 3 4 5 6 7 n (ND G n).length (BR G n).length)), (15, .cells true 8 1 (.fn fun _ => elR z)), (12, .cells true 1 (ulen G n) (.fn (cxR (dvE (ND G n) z))))]) (Sx.GoesB.renN id (Sx.GoesB.frameN (bl := [(6, .cells true 1 (ND G n).length (.fn (txR (lget (ND G n))))), (8, .cells true 7 1 (.fn fun _ => netG 2 3 4 5 6 7 n (ND G n).length (BR G n).length)), (15, .cells true 8 1 (.fn fun _ => elR z))]) (sqC_goes n i G z h256 hi) (by omega) dl (by kernel_rfl) (by kernel_rfl) ⟨.inl rfl, .inl rfl, .inl rfl, trivial⟩) (fun g hg => rfl) (fun i j _ _ h => h) ⟨⟨_, rfl, Sx.AV.ge.refl _, rfl⟩, ⟨_, rfl, Sx.AV.ge.refl _, rfl⟩, ⟨_, rfl, Sx.AV.ge.refl _, rfl⟩, ⟨_, rfl, Sx.AV.ge.refl _, rfl⟩, ⟨_, rfl, Sx.AV.ge.refl _, rfl⟩, ⟨_, rfl, Sx.AV.ge.refl _, rfl⟩, trivial⟩ ⟨rgR rfl rfl (fun j _ => rfl) (fun j _ => rfl) (by omega), rgB rfl rfl rfl (by omega), rgB rfl rfl rfl (by omega), rgR rfl rfl (fun j _ => rfl) (fun j _ => rfl) (by omega), trivial⟩) (by omega) ?_
 refine Sx.GoesB.seqN (K1 := 16) (F1 := [(5, .bool true), (6, .ptr ⟨false, 8, 0, 0⟩), (16, .slc true true ⟨false, 12, 0, 0⟩ (ulen G n)), (18, .ptr ⟨false, 15, 0, 0⟩), (20, .int true .i64 (i : Nat)), (21, .cpx true (w2E (ND G n) z i).1 (w2E (ND G n) z i).2)]) (H1 := [(6, .cells true 1 (ND G n).length (.fn (txR (lget (ND G n))))), (8, .cells true 7 1 (.fn fun _ => netG 2 3 4 5 6 7 n (ND G n).length (BR G n).length)), (15, .cells true 8 1 (.fn fun _ => elR z)), (12, .cells true 1 (ulen G n) (.fn (cxR (dvE (ND G n) z))))]) (Sx.GoesB.renN id (Sx.GoesB.frameN (bl := [(6, .cells true 1 (ND G n).length (.fn (txR (lget (ND G n))))), (8, .cells true 7 1 (.fn fun _ => netG 2 3 4 5 6 7 n (ND G n).length (BR G n).length)), (15, .cells true 8 1 (.fn fun _ => elR z))]) (sqD_goes n i G z h256 hi) (by omega) dl (by kernel_rfl) (by kernel_rfl) ⟨.inl rfl, .inl rfl, .inl rfl, trivial⟩) (fun g hg => rfl) (fun i j _ _ h => h) ⟨⟨_, rfl, Sx.AV.ge.refl _, rfl⟩, ⟨_, rfl, Sx.AV.ge.refl _, rfl⟩, ⟨_, rfl, Sx.AV.ge.refl _, rfl⟩, ⟨_, rfl, Sx.AV.ge.refl _, rfl⟩, ⟨_, rfl, Sx.AV.ge.refl _, rfl⟩, ⟨_, rfl, Sx.AV.ge.refl _, rfl⟩, trivial⟩ ⟨rgR rfl rfl (fun j _ => rfl) (fun j _ => rfl) (by omega), rgB rfl rfl rfl (by omega), rgB rfl rfl rfl (by omega), rgR rfl rfl (fun j _ => rfl) (fun j _ => rfl) (by omega), trivial⟩) (by omega) ?_
 refine Sx.GoesB.toN (Sx.GoesB.frameN (F := [(5, .bool true), (6, .ptr ⟨false, 8, 0, 0⟩), (16, .slc true true ⟨false, 12, 0, 0⟩ (ulen G n)), (18, .ptr ⟨false, 15, 0, 0⟩), (20, .int true .i64 (i : Nat))]) (bl := [(12, .cells true 1 (ulen G n) (.fn (cxR (dvE (ND G n) z))))]) (bl' := [(12, .cells true 1 (ulen G n) (.fn (cxR (dvE (ND G n) z))))]) (xl := [(6, .cells true 1 (ND G n).length (.fn (txR (lget (ND G n))))), (8, .cells true 7 1 (.fn fun _ => netG 2 3 4 5 6 7 n (ND G n).length (BR G n).length)), (15, .cells true 8 1 (.fn fun _ => elR z))]) (Sx.GoesB.toN (rT 16 (sqE_r0 n (ND G n).length (BR G n).length (ulen G n) i 0 0 [] G G G (zipF 0 (NM G n)) (zipF 0 (ND G n)) (zipF 0 (BR G n)) (lget (ND G n)) (lget (BR G n)) (dvE (ND G n) z) (dvE (ND G n) z) (w2E (ND G n) z i).1 (w2E (ND G n) z i).2 0 0 0 0 z true (by omega) (by omega) (by omega) (by rw [Nat.zero_add, dv_is (ND_nodup G n) hab i]; rfl)) (by omega)) ⟨(Sx.re rfl), (Sx.re rfl), (Sx.re rfl), (Sx.re rfl), Sx.ri rfl, trivial⟩ ⟨⟨_, rfl, rfl, rfl, rfl, fun j _ => rfl⟩, trivial⟩) (by omega) (by have := sq_low n G z (l := []) trivial; exact this) (by kernel_rfl) (by kernel_rfl) ⟨.inl rfl, trivial⟩) ⟨(Sx.re rfl), (Sx.re rfl), (Sx.re rfl), (Sx.re rfl), (Sx.re rfl), trivial⟩ ⟨(Sx.hs rfl), (Sx.hs rfl), (Sx.hs rfl), (Sx.hs rfl), trivial⟩


def sg2 (a b i : Nat) : Nat := if i = 12 then a else if i = 13 then b else i
theorem sg2_inj {a b : Nat} (h : 14 ≤ a) (h' : a < b) : ∀ i j, i < 14 → j < 14 → sg2 a b i = sg2 a b j → i = j := by
 intro i j hi hj e
 unfold sg2 at e
 split at e <;> split at e <;> (try split at e) <;> (try split at e) <;> omega
theorem sg2_low (a b : Nat) : ∀ g, g < 12 → sg2 a b g = g := by
 intro g hg
 unfold sg2
 rw [if_neg (by omega), if_neg (by omega)]
theorem so_bad (n : Nat) (pt : Tx) (G : Nat → El) (z : El) (h256 : n ≤ 256) (t : Bool) (ht : t = true → z.k ≠ 8)
  (h : Sx.GoesB Try.prog (Sx.nav [1,1,1,1,1,1,1,0] (Sx.bodyOf Try.f8)) Try.f8.ntmps 14 14 16 (Sx.frL [(1, .str true pt), (5, .bool true), (6, .ptr ⟨false, 8, 0, 0⟩), (16, .nils), (17, .ptr ⟨false, 13, 0, 0⟩)]) (Sx.hpL (netL n (ND G n).length (BR G n).length G (zipF 0 (NM G n)) (zipF 0 (ND G n)) (zipF 0 (BR G n)) (lget (ND G n)) (lget (BR G n)))) (Sx.Nm [(5, .bool true), (6, .ptr ⟨false, 8, 0, 0⟩), (16, .nils), (17, .ptr ⟨false, 13, 0, 0⟩), (18, .ptr ⟨false, 15, 0, 0⟩), (19, .sbool t)] (netL n (ND G n).length (BR G n).length G (zipF 0 (NM G n)) (zipF 0 (ND G n)) (zipF 0 (BR G n)) (lget (ND G n)) (lget (BR G n)) ++ [(15, .cells true 8 1 (.fn fun _ => elR z))]))) :
  Sx.GoesB Try.prog (.seq (Sx.nav [1,1,1,1,1,1,1,0] (Sx.bodyOf Try.f8)) (.seq (Sx.nav [1,1,1,1,1,1,1,1,0] (Sx.bodyOf Try.f8)) (.seq (Sx.nav [1,1,1,1,1,1,1,1,1,0] (Sx.bodyOf Try.f8)) (.seq (.seq (Sx.nav [1,1,1,1,1,1,1,1,1,1,0,0] (Sx.bodyOf Try.f8)) (.block 4 (.loop (Sx.nav [1,1,1,1,1,1,1,1,1,1,0,1,0,0] (Sx.bodyOf Try.f8))))) (Sx.nav [1,1,1,1,1,1,1,1,1,1,1] (Sx.bodyOf Try.f8)))))) Try.f8.ntmps 12 14 30 (Sx.frL [(1, .str true pt), (5, .bool true), (6, .ptr ⟨false, 8, 0, 0⟩), (16, .nils), (17, .ptr ⟨false, 13, 0, 0⟩)]) (Sx.hpL (netL n (ND G n).length (BR G n).length G (zipF 0 (NM G n)) (zipF 0 (ND G n)) (zipF 0 (BR G n)) (lget (ND G n)) (lget (BR G n)) ++ [(13, .cells true 2 1 (.fn fun _ => [.int false .i64 10, .int false .i64 (-1)]))])) (fun e fr' H' => (e = .ret ∨ e = .normal) ∧ ∃ u, fr'.get 4 = some u ∧ Sx.AV.ge u (.bool true)) := by
 refine Sx.GoesB.lower (B' := 14) ?_ (by omega)
 refine Sx.GoesB.seqN (K1 := 16) (F1 := [(5, .bool true), (6, .ptr ⟨false, 8, 0, 0⟩), (16, .nils), (17, .ptr ⟨false, 13, 0, 0⟩), (18, .ptr ⟨false, 15, 0, 0⟩), (19, .sbool t)]) (H1 := [(13, .cells true 2 1 (.fn fun _ => [.int false .i64 10, .int false .i64 (-1)])), (15, .cells true 8 1 (.fn fun _ => elR z))]) (Sx.GoesB.toN (Sx.GoesB.frameN h (by omega) (fa_low 14 13 false 10 (-1) (by omega) (l := []) trivial) (by kernel_rfl) (by kernel_rfl) ⟨.inl rfl, .inl rfl, .inl rfl, .inl rfl, .inl rfl, .inl rfl, .inl rfl, .inl rfl, trivial⟩) ⟨(Sx.re rfl), (Sx.re rfl), (Sx.re rfl), (Sx.re rfl), (Sx.re rfl), (Sx.re rfl), trivial⟩ ⟨(Sx.hs rfl), (Sx.hs rfl), trivial⟩) (by omega) ?_
 cases t with
 | false =>
  refine Sx.GoesB.seq (K1 := 16) (by omega) ((rT 14 (soU_r2 n (ND G n).length (BR G n).length (ulen G n) 0 0 0 pt G G G (zipF 0 (NM G n)) (zipF 0 (ND G n)) (zipF 0 (BR G n)) (lget (ND G n)) (lget (BR G n)) (fun _ => (0, 0)) (fun _ => (0, 0)) 0 0 0 0 0 0 z false rfl) (by omega)).mono fun e fr' H' h => ?_)
  obtain ⟨rfl, rfl, rfl⟩ := h
  exact ⟨.inl rfl, _, rfl, Sx.AV.ge.refl _⟩
 | true =>
  refine Sx.GoesB.seq (K1 := 16) (by omega) ((rT 14 (soU_r1 n (ND G n).length (BR G n).length (ulen G n) 0 0 0 pt G G G (zipF 0 (NM G n)) (zipF 0 (ND G n)) (zipF 0 (BR G n)) (lget (ND G n)) (lget (BR G n)) (fun _ => (0, 0)) (fun _ => (0, 0)) 0 0 0 0 0 0 z true rfl (by rw [decide_eq_false (ht rfl)]; rfl)) (by omega)).mono fun e fr' H' h => ?_)
  obtain ⟨rfl, rfl, rfl⟩ := h
  exact ⟨.inl rfl, _, rfl, Sx.AV.ge.refl _⟩
theorem so_good (n : Nat) (pt : Tx) (G : Nat → El) (z : El) (h256 : n ≤ 256) (hab : z.a ≠ z.b) (hk : z.k = 8)
  (h : Sx.GoesB Try.prog (Sx.nav [1,1,1,1,1,1,1,0] (Sx.bodyOf Try.f8)) Try.f8.ntmps 14 14 16 (Sx.frL [(1, .str true pt), (5, .bool true), (6, .ptr ⟨false, 8, 0, 0⟩), (16, .slc true true ⟨false, 12, 0, 0⟩ (ulen G n)), (17, .ptr ⟨false, 13, 0, 0⟩)]) (Sx.hpL (netL n (ND G n).length (BR G n).length G (zipF 0 (NM G n)) (zipF 0 (ND G n)) (zipF 0 (BR G n)) (lget (ND G n)) (lget (BR G n)))) (Sx.Nm [(5, .bool true), (6, .ptr ⟨false, 8, 0, 0⟩), (16, .slc true true ⟨false, 12, 0, 0⟩ (ulen G n)), (17, .ptr ⟨false, 13, 0, 0⟩), (18, .ptr ⟨false, 15, 0, 0⟩), (19, .sbool true)] (netL n (ND G n).length (BR G n).length G (zipF 0 (NM G n)) (zipF 0 (ND G n)) (zipF 0 (BR G n)) (lget (ND G n)) (lget (BR G n)) ++ [(15, .cells true 8 1 (.fn fun _ => elR z))]))) :
  Sx.GoesB Try.prog (.seq (Sx.nav [1,1,1,1,1,1,1,0] (Sx.bodyOf Try.f8)) (.seq (Sx.nav [1,1,1,1,1,1,1,1,0] (Sx.bodyOf Try.f8)) (.seq (Sx.nav [1,1,1,1,1,1,1,1,1,0] (Sx.bodyOf Try.f8)) (.seq (.seq (Sx.nav [1,1,1,1,1,1,1,1,1,1,0,0] (Sx.bodyOf Try.f8)) (.block 4 (.loop (Sx.nav [1,1,1,1,1,1,1,1,1,1,0,1,0,0] (Sx.bodyOf Try.f8))))) (Sx.nav [1,1,1,1,1,1,1,1,1,1,1] (Sx.bodyOf Try.f8)))))) Try.f8.ntmps 12 14 30 (Sx.frL [(1, .str true pt), (5, .bool true), (6, .ptr ⟨false, 8, 0, 0⟩), (16, .slc true true ⟨false, 12, 0, 0⟩ (ulen G n)), (17, .ptr ⟨false, 13, 0, 0⟩)]) (Sx.hpL (netL n (ND G n).length (BR G n).length G (zipF 0 (NM G n)) (zipF 0 (ND G n)) (zipF 0 (BR G n)) (lget (ND G n)) (lget (BR G n)) ++ [(12, .cells true 1 (ulen G n) (.fn (cxR (dvE (ND G n) z)))), (13, .cells true 2 1 (.fn fun _ => [.int false .i64 0, .int false .i64 0]))])) (fun e fr' H' => (e = .ret ∨ e = .normal) ∧ ∃ u, fr'.get 4 = some u ∧ Sx.AV.ge u (.bool true)) := by
 have lq := ND_b G n h256
 have lr := BR_b G n h256
 have hul : ulen G n = (ND G n).length + (BR G n).length := rfl
 refine Sx.GoesB.lower (B' := 14) ?_ (by omega)
 refine Sx.GoesB.seqN (K1 := 16) (F1 := [(5, .bool true), (6, .ptr ⟨false, 8, 0, 0⟩), (16, .slc true true ⟨false, 12, 0, 0⟩ (ulen G n)), (17, .ptr ⟨false, 13, 0, 0⟩), (18, .ptr ⟨false, 15, 0, 0⟩), (19, .sbool true)]) (H1 := ([(13, .cells true 2 1 (.fn fun _ => [.int false .i64 0, .int false .i64 0])), (15, .cells true 8 1 (.fn fun _ => elR z))] : List (Nat × Sx.ABk)) ++ (netL n (ND G n).length (BR G n).length G (zipF 0 (NM G n)) (zipF 0 (ND G n)) (zipF 0 (BR G n)) (lget (ND G n)) (lget (BR G n)) ++ ([(12, .cells true 1 (ulen G n) (.fn (cxR (dvE (ND G n) z))))] : List (Nat × Sx.ABk)))) (Sx.GoesB.toN (Sx.GoesB.frameN (xl := [(12, .cells true 1 (ulen G n) (.fn (cxR (dvE (ND G n) z)))), (13, .cells true 2 1 (.fn fun _ => [.int false .i64 0, .int false .i64 0]))]) h (by omega) (rb_low 14 12 _ _ (by omega) (fa_low 14 13 false 0 0 (by omega) (l := []) trivial)) (by kernel_rfl) (by kernel_rfl) ⟨.inl rfl, .inl rfl, .inl rfl, .inl rfl, .inl rfl, .inl rfl, .inl rfl, .inl rfl, trivial⟩) ⟨(Sx.re rfl), (Sx.re rfl), (Sx.re rfl), (Sx.re rfl), (Sx.re rfl), (Sx.re rfl), trivial⟩ ⟨(Sx.hs rfl), (Sx.hs rfl), (Sx.hs rfl), (Sx.hs rfl), (Sx.hs rfl), (Sx.hs rfl), (Sx.hs rfl), (Sx.hs rfl), (Sx.hs rfl), (Sx.hs rfl), trivial⟩) (by omega) ?_
 refine Sx.GoesB.lower (B' := 16) ?_ (by omega)
 have nl := net_low 16 n G (by omega)
 have dl := rb_low 16 12 (ulen G n) (dvE (ND G n) z) (by omega) (l := []) trivial
 have el : Sx.LowL 16 [(15, .cells true 8 1 (.fn fun _ => elR z)), (12, .cells true 1 (ulen G n) (.fn (cxR (dvE (ND G n) z))))] := ⟨⟨by omega, fun i hi v hv => List.all_eq_true.1 (elR_low _ z) v hv⟩, dl⟩
 refine Sx.GoesB.seqN (K1 := 16) (F1 := [(5, .bool true), (6, .ptr ⟨false, 8, 0, 0⟩), (16, .slc true true ⟨false, 12, 0, 0⟩ (ulen G n)), (17, .ptr ⟨false, 13, 0, 0⟩), (18, .ptr ⟨false, 15, 0, 0⟩)]) (H1 := (netL n (ND G n).length (BR G n).length G (zipF 0 (NM G n)) (zipF 0 (ND G n)) (zipF 0 (BR G n)) (lget (ND G n)) (lget (BR G n)) ++ ([(13, .cells true 2 1 (.fn fun _ => [.int false .i64 0, .int false .i64 0]))] : List (Nat × Sx.ABk))) ++ ([(15, .cells true 8 1 (.fn fun _ => elR z)), (12, .cells true 1 (ulen G n) (.fn (cxR (dvE (ND G n) z))))] : List (Nat × Sx.ABk))) (Sx.GoesB.toN (Sx.GoesB.frameN (bl := [(13, .cells true 2 1 (.fn fun _ => [.int false .i64 0, .int false .i64 0])), (15, .cells true 8 1 (.fn fun _ => elR z))]) (xl := netL n (ND G n).length (BR G n).length G (zipF 0 (NM G n)) (zipF 0 (ND G n)) (zipF 0 (BR G n)) (lget (ND G n)) (lget (BR G n)) ++ ([(12, .cells true 1 (ulen G n) (.fn (cxR (dvE (ND G n) z))))] : List (Nat × Sx.ABk))) (rT 16 (soV_r0 n (ND G n).length (BR G n).length (ulen G n) 0 0 0 pt G G G (zipF 0 (NM G n)) (zipF 0 (ND G n)) (zipF 0 (BR G n)) (lget (ND G n)) (lget (BR G n)) (fun _ => (0, 0)) (fun _ => (0, 0)) 0 0 0 0 0 0 z true rfl (by rw [decide_eq_true hk]; rfl)) (by omega)) (by omega) (lowL_app nl dl) (by kernel_rfl) (by kernel_rfl) ⟨.inl rfl, .inl rfl, trivial⟩) ⟨(Sx.re rfl), (Sx.re rfl), (Sx.re rfl), (Sx.re rfl), (Sx.re rfl), trivial⟩ ⟨(Sx.hs rfl), (Sx.hs rfl), (Sx.hs rfl), (Sx.hs rfl), (Sx.hs rfl), (Sx.hs rfl), (Sx.hs rfl), (Sx.hs rfl), (Sx.hs rfl), (Sx.hs rfl), trivial⟩) (by omega) ?_
 refine Sx.GoesB.seqN (K1 := 16) (F1 := [(5, .bool true), (6, .ptr ⟨false, 8, 0, 0⟩), (16, .slc true true ⟨false, 12, 0, 0⟩ (ulen G n)), (18, .ptr ⟨false, 15, 0, 0⟩)]) (H1 := [(6, .cells true 1 (ND G n).length (.fn (txR (lget (ND G n))))), (8, .cells true 7 1 (.fn fun _ => netG 2 3 4 5 6 7 n (ND G n).length (BR G n).length)), (15, .cells true 8 1 (.fn fun _ => elR z)), (12, .cells true 1 (ulen G n) (.fn (cxR (dvE (ND G n) z))))]) (Sx.GoesB.renN (K' := 20) (F0 := [(5, .bool true), (6, .ptr ⟨false, 8, 0, 0⟩), (16, .slc true true ⟨false, 12, 0, 0⟩ (ulen G n)), (18, .ptr ⟨false, 15, 0, 0⟩)]) (H0 := [(6, .cells true 1 (ND G n).length (.fn (txR (lget (ND G n))))), (8, .cells true 7 1 (.fn fun _ => netG 2 3 4 5 6 7 n (ND G n).length (BR G n).length)), (15, .cells true 8 1 (.fn fun _ => elR z)), (12, .cells true 1 (ulen G n) (.fn (cxR (dvE (ND G n) z))))]) id (Sx.GoesB.toN (Sx.GoesB.frameN (bl := netL n (ND G n).length (BR G n).length G (zipF 0 (NM G n)) (zipF 0 (ND G n)) (zipF 0 (BR G n)) (lget (ND G n)) (lget (BR G n)) ++ ([(13, .cells true 2 1 (.fn fun _ => [.int false .i64 0, .int false .i64 0]))] : List (Nat × Sx.ABk))) (xl := [(15, .cells true 8 1 (.fn fun _ => elR z)), (12, .cells true 1 (ulen G n) (.fn (cxR (dvE (ND G n) z))))]) (rT 16 (soW_r0 n (ND G n).length (BR G n).length (ulen G n) 0 0 0 pt G G G (zipF 0 (NM G n)) (zipF 0 (ND G n)) (zipF 0 (BR G n)) (lget (ND G n)) (lget (BR G n)) (fun _ => (0, 0)) (fun _ => (0, 0)) 0 0 0 0 0 0 z true (by omega) (by omega) (by omega) (by omega) (by omega) (by omega) (by omega) (by omega) (by rw [decide_eq_true (show ((ulen G n : Nat) : Int) = ((ND G n).length : Int) + ((BR G n).length : Int) by omega)]; rfl)) (by omega)) (by omega) el (by kernel_rfl) (by kernel_rfl) ⟨.inl rfl, .inl rfl, .inl rfl, .inl rfl, .inl rfl, .inl rfl, .inl rfl, trivial⟩) ⟨(Sx.re rfl), (Sx.re rfl), (Sx.re rfl), (Sx.re rfl), trivial⟩ ⟨(Sx.hs rfl), (Sx.hs rfl), (Sx.hs rfl), (Sx.hs rfl), trivial⟩) (fun g hg => rfl) (fun i j _ _ h => h) ⟨⟨_, rfl, Sx.AV.ge.refl _, rfl⟩, ⟨_, rfl, Sx.AV.ge.refl _, rfl⟩, ⟨_, rfl, Sx.AV.ge.refl _, rfl⟩, ⟨_, rfl, Sx.AV.ge.refl _, rfl⟩, trivial⟩ ⟨rgR rfl rfl (fun j _ => rfl) (fun j _ => rfl) (by omega), rgB rfl rfl rfl (by omega), rgB rfl rfl rfl (by omega), rgR rfl rfl (fun j _ => rfl) (fun j _ => rfl) (by omega), trivial⟩) (by omega) ?_
 have al := sq_low n G z dl
 refine Sx.GoesB.seqN (K1 := 16) (F1 := [(5, .bool true), (6, .ptr ⟨false, 8, 0, 0⟩), (16, .slc true true ⟨false, 12, 0, 0⟩ (ulen G n)), (18, .ptr ⟨false, 15, 0, 0⟩), (20, .int true .i64 (ulen G n : Nat))]) (H1 := [(6, .cells true 1 (ND G n).length (.fn (txR (lget (ND G n))))), (8, .cells true 7 1 (.fn fun _ => netG 2 3 4 5 6 7 n (ND G n).length (BR G n).length)), (15, .cells true 8 1 (.fn fun _ => elR z)), (12, .cells true 1 (ulen G n) (.fn (cxR (dvE (ND G n) z))))]) ?_ (by omega) ?_
 ·refine Sx.GoesB.seqN (K1 := 16) (F1 := [(5, .bool true), (6, .ptr ⟨false, 8, 0, 0⟩), (16, .slc true true ⟨false, 12, 0, 0⟩ (ulen G n)), (18, .ptr ⟨false, 15, 0, 0⟩), (20, .int true .i64 (0 : Nat))]) (H1 := [(6, .cells true 1 (ND G n).length (.fn (txR (lget (ND G n))))), (8, .cells true 7 1 (.fn fun _ => netG 2 3 4 5 6 7 n (ND G n).length (BR G n).length)), (15, .cells true 8 1 (.fn fun _ => elR z)), (12, .cells true 1 (ulen G n) (.fn (cxR (dvE (ND G n) z))))]) (Sx.GoesB.toN (Sx.GoesB.idleN (rT 16 (soX_r0 n (ND G n).length (BR G n).length (ulen G n) 0 0 0 [] G G G (zipF 0 (NM G n)) (zipF 0 (ND G n)) (zipF 0 (BR G n)) (lget (ND G n)) (lget (BR G n)) (dvE (ND G n) z) (dvE (ND G n) z) ((0, 0)).1 ((0, 0)).2 0 0 0 0 z true) (by omega)) (by omega) al) ⟨(Sx.re rfl), (Sx.re rfl), (Sx.re rfl), (Sx.re rfl), Sx.ri rfl, trivial⟩ ⟨(Sx.hs rfl), (Sx.hs rfl), (Sx.hs rfl), (Sx.hs rfl), trivial⟩) (by omega) ?_
  refine Sx.GoesB.rounds (ulen G n) (fun i => [(5, .bool true), (6, .ptr ⟨false, 8, 0, 0⟩), (16, .slc true true ⟨false, 12, 0, 0⟩ (ulen G n)), (18, .ptr ⟨false, 15, 0, 0⟩), (20, .int true .i64 (i : Nat))]) (fun _ => [(6, .cells true 1 (ND G n).length (.fn (txR (lget (ND G n))))), (8, .cells true 7 1 (.fn fun _ => netG 2 3 4 5 6 7 n (ND G n).length (BR G n).length)), (15, .cells true 8 1 (.fn fun _ => elR z)), (12, .cells true 1 (ulen G n) (.fn (cxR (dvE (ND G n) z))))]) (fun i hi => sq_round n i G z h256 hi hab) ?_
  rw [ptz_body]
  exact Sx.GoesB.seqX (K1 := 16) (Sx.GoesB.idleX (xl := [(6, .cells true 1 (ND G n).length (.fn (txR (lget (ND G n))))), (8, .cells true 7 1 (.fn fun _ => netG 2 3 4 5 6 7 n (ND G n).length (BR G n).length)), (15, .cells true 8 1 (.fn fun _ => elR z)), (12, .cells true 1 (ulen G n) (.fn (cxR (dvE (ND G n) z))))]) (rT 16 (sqA_r1 n (ND G n).length (BR G n).length (ulen G n) (ulen G n) 0 0 [] G G G (zipF 0 (NM G n)) (zipF 0 (ND G n)) (zipF 0 (BR G n)) (lget (ND G n)) (lget (BR G n)) (dvE (ND G n) z) (dvE (ND G n) z) ((0, 0)).1 ((0, 0)).2 0 0 0 0 z true (decide_eq_false (by omega))) (by omega)) (by omega) al) (by omega)
 ·refine Sx.GoesB.weakL (fl := [(5, .bool true)]) (bl := []) ⟨(Sx.re rfl), trivial⟩ trivial (((rT 16 (soZ_r0 n (ND G n).length (BR G n).length (ulen G n) 0 0 0 [] G G G (zipF 0 (NM G n)) (zipF 0 (ND G n)) (zipF 0 (BR G n)) (lget (ND G n)) (lget (BR G n)) (dvE (ND G n) z) (dvE (ND G n) z) ((0, 0)).1 ((0, 0)).2 0 0 0 0 z true) (by omega)).up (by omega)).mono fun e fr' H' h => ?_)
  obtain ⟨rfl, rfl, rfl⟩ := h
  exact ⟨.inl rfl, _, rfl, Sx.AV.ge.refl _⟩


theorem zr_ge : Sx.RowGe zrow (elR ⟨0, [], [], [], [], [], 0, 0⟩) := ⟨Sx.AV.ge.int _ _ _ _, rfl, Sx.AV.ge.str' _ _ rfl, rfl, Sx.AV.ge.str' _ _ rfl, rfl, Sx.AV.ge.str' _ _ rfl, rfl, Sx.AV.ge.str' _ _ rfl, rfl, Sx.AV.ge.str' _ _ rfl, rfl, ge_fltraw _ _, rfl, Sx.AV.ge.int _ _ _ _, rfl, trivial⟩
theorem cz_row : CxRow (Sx.AV.cells (Sx.ofVal (Go.Value.complex Go.FloatKind.f64 (0 : Nat) (0 : Nat)))) := show Sx.RowGe [.cpx false 0 0] [.cpx true 0 0] from ⟨Sx.AV.ge.cpx' _ _ rfl rfl, rfl, trivial⟩
theorem so_tail (n : Nat) (pt : Tx) (G : Nat → El) (h256 : n ≤ 256) (hg : ∀ j, j < n → badE chkE G j = 0) :
  Sx.GoesB Try.prog (Sx.nav [1,1,1,1,1,1] (Sx.bodyOf Try.f8)) Try.f8.ntmps 12 12 30 (Sx.frL [(1, .str true pt), (5, .bool true), (6, .ptr ⟨false, 8, 0, 0⟩)]) (Sx.hpL (netL n (ND G n).length (BR G n).length G (zipF 0 (NM G n)) (zipF 0 (ND G n)) (zipF 0 (BR G n)) (lget (ND G n)) (lget (BR G n)))) (fun e fr' H' => (e = .ret ∨ e = .normal) ∧ ∃ u, fr'.get 4 = some u ∧ Sx.AV.ge u (.bool true)) := by
 have lq := ND_b G n h256
 have lr := BR_b G n h256
 have hul : ulen G n = (ND G n).length + (BR G n).length := rfl
 obtain ⟨z0, z1⟩ := apz_err G n
 rw [show (Sx.nav [1,1,1,1,1,1] (Sx.bodyOf Try.f8)) = .seq (Sx.nav [1,1,1,1,1,1,0] (Sx.bodyOf Try.f8)) (.seq (Sx.nav [1,1,1,1,1,1,1,0] (Sx.bodyOf Try.f8)) (.seq (Sx.nav [1,1,1,1,1,1,1,1,0] (Sx.bodyOf Try.f8)) (.seq (Sx.nav [1,1,1,1,1,1,1,1,1,0] (Sx.bodyOf Try.f8)) (.seq (.seq (Sx.nav [1,1,1,1,1,1,1,1,1,1,0,0] (Sx.bodyOf Try.f8)) (.block 4 (.loop (Sx.nav [1,1,1,1,1,1,1,1,1,1,0,1,0,0] (Sx.bodyOf Try.f8))))) (Sx.nav [1,1,1,1,1,1,1,1,1,1,1] (Sx.bodyOf Try.f8)))))) by kernel_rfl]
 cases q : pos pt (NM G n) with
 | none =>
  have hq : (Sx.lfind Sx.seq pt (zipF 0 (NM G n))) = none := by rw [find_zip, q]; rfl
  refine Sx.GoesB.seqN (K1 := 14) (F1 := [(1, .str true pt), (5, .bool true), (6, .ptr ⟨false, 8, 0, 0⟩), (16, .nils), (17, .ptr ⟨false, 13, 0, 0⟩)]) (H1 := netL n (ND G n).length (BR G n).length G (zipF 0 (NM G n)) (zipF 0 (ND G n)) (zipF 0 (BR G n)) (lget (ND G n)) (lget (BR G n)) ++ ([(13, .cells true 2 1 (.fn fun _ => [.int false .i64 10, .int false .i64 (-1)]))] : List (Nat × Sx.ABk))) (Sx.GoesB.renN (F0 := [(1, .str true pt), (5, .bool true), (6, .ptr ⟨false, 8, 0, 0⟩), (16, .nils), (17, .ptr ⟨false, 21, 0, 0⟩)]) (H0 := netL n (ND G n).length (BR G n).length G (zipF 0 (NM G n)) (zipF 0 (ND G n)) (zipF 0 (BR G n)) (lget (ND G n)) (lget (BR G n)) ++ ([(21, .cells true 2 1 (.fn fun _ => [.int false .i64 10, .int false .i64 (-1)]))] : List (Nat × Sx.ABk))) (sg2 20 21) (Sx.GoesB.toN (rT 12 (soS_r6 n (ND G n).length (BR G n).length (ulen G n) 0 0 0 pt G G G (zipF 0 (NM G n)) (zipF 0 (ND G n)) (zipF 0 (BR G n)) (lget (ND G n)) (lget (BR G n)) (fun _ => (0, 0)) (fun _ => (0, 0)) 0 0 0 0 0 0 (G 0) true (by omega) (by omega) (by omega) (fun i hi o v hv => elR_inS hv) (Nat.le_refl _) (by omega) (by omega) (fun i hi o v hv => apz0_inS hv) (by omega) (peq_apz G n) (decide_eq_false z0) (decide_eq_false z1) (by rw [hq]; rfl)) (by omega)) ⟨(Sx.re rfl), (Sx.re rfl), (Sx.re rfl), (Sx.re rfl), (Sx.re rfl), trivial⟩ ⟨(Sx.hs rfl), (Sx.hs rfl), (Sx.hs rfl), (Sx.hs rfl), (Sx.hs rfl), (Sx.hs rfl), (Sx.hs rfl), hbl1 rfl, trivial⟩) (sg2_low _ _) (sg2_inj (by omega) (by omega)) ⟨⟨_, rfl, Sx.AV.ge.refl _, rfl⟩, ⟨_, rfl, Sx.AV.ge.refl _, rfl⟩, ⟨_, rfl, Sx.AV.ge.refl _, rfl⟩, ⟨_, rfl, Sx.AV.ge.refl _, rfl⟩, ⟨_, rfl, Sx.AV.ge.refl _, rfl⟩, trivial⟩ ⟨rgM rfl rfl (by omega), rgM rfl rfl (by omega), rgM rfl rfl (by omega), rgR rfl rfl (fun j _ => rfl) (fun j _ => rfl) (by omega), rgR rfl rfl (fun j _ => rfl) (fun j _ => rfl) (by omega), rgR rfl rfl (fun j _ => rfl) (fun j _ => rfl) (by omega), rgB rfl rfl rfl (by omega), rgB rfl rfl rfl (by omega), trivial⟩) (by omega) ?_
  exact so_bad n pt G ⟨0, [], [], [], [], [], 0, 0⟩ h256 false (fun h => by cases h) (goes_postG (rT 14 (soT_r1 n (ND G n).length (BR G n).length (ulen G n) 0 0 0 pt G G G (zipF 0 (NM G n)) (zipF 0 (ND G n)) (zipF 0 (BR G n)) (lget (ND G n)) (lget (BR G n)) (fun _ => (0, 0)) (fun _ => (0, 0)) 0 0 0 0 0 0 (G 0) true (by rw [hq]; rfl)) (by omega)) fun e fr' H' h => by
   obtain ⟨rfl, rfl, rfl⟩ := h
   exact ⟨[(5, .bool true), (6, .ptr ⟨false, 8, 0, 0⟩), (16, .nils), (17, .ptr ⟨false, 13, 0, 0⟩), (18, .ptr ⟨false, 15, 0, 0⟩), (19, .sbool false)], netL n (ND G n).length (BR G n).length G (zipF 0 (NM G n)) (zipF 0 (ND G n)) (zipF 0 (BR G n)) (lget (ND G n)) (lget (BR G n)) ++ ([(15, .cells true 8 1 (.fn fun _ => elR ⟨0, [], [], [], [], [], 0, 0⟩))] : List (Nat × Sx.ABk)), ⟨(Sx.re rfl), (Sx.re rfl), (Sx.re rfl), (Sx.re rfl), (Sx.re rfl), ⟨_, rfl, Sx.AV.ge.bool' rfl⟩, trivial⟩, ⟨⟨_, rfl, rfl⟩, ⟨_, rfl, rfl⟩, ⟨_, rfl, rfl⟩, ⟨_, rfl, rfl, rfl, rfl, fun j _ => RowGe_refl _ rfl⟩, ⟨_, rfl, rfl, rfl, rfl, fun j _ => RowGe_refl _ rfl⟩, ⟨_, rfl, rfl, rfl, rfl, fun j _ => RowGe_refl _ rfl⟩, ⟨_, rfl, rfl, rfl, rfl, fun j _ => RowGe_refl _ rfl⟩, ⟨_, rfl, rfl, rfl, rfl, of1 zr_ge⟩, trivial⟩, rfl, rfl, rfl⟩)
 | some p =>
  have hp : p < n := by have := (pos_lt q).1; rwa [NM_len] at this
  have hq : (Sx.lfind Sx.seq pt (zipF 0 (NM G n))) = some (p : Int) := by rw [find_zip, q]; simp
  have ep : (0 + Int.toNat (Option.getD (some (p : Int)) (0 : Int))) = p := by rw [Nat.zero_add]; rfl
  have s0 : (!Option.isSome (Sx.lfind Sx.seq pt (zipF 0 (NM G n)))) = false := by rw [hq]; rfl
  have s1 : (0 : Int) ≤ Option.getD (Sx.lfind Sx.seq pt (zipF 0 (NM G n))) (0 : Int) := by rw [hq]; show (0 : Int) ≤ (p : Int); omega
  have s2 : Option.getD (Sx.lfind Sx.seq pt (zipF 0 (NM G n))) (0 : Int) < (n : Int) := by rw [hq]; show (p : Int) < (n : Int); omega
  have s3 : (0 : Nat) + Int.toNat (Option.getD (Sx.lfind Sx.seq pt (zipF 0 (NM G n))) (0 : Int)) < n := by rw [hq, ep]; exact hp
  by_cases k8 : (G p).k = 8
  ·have hab : (G p).a ≠ (G p).b := chk_ab (chk_good (hg p hp))
   have hS := rT 12 (soS_r4 n (ND G n).length (BR G n).length (ulen G n) 0 0 0 pt G G G (zipF 0 (NM G n)) (zipF 0 (ND G n)) (zipF 0 (BR G n)) (lget (ND G n)) (lget (BR G n)) (fun _ => (0, 0)) (fun _ => (0, 0)) 0 0 0 0 0 0 (G 0) true (by omega) (by omega) (by omega) (fun i hi o v hv => elR_inS hv) (Nat.le_refl _) (by omega) (by omega) (fun i hi o v hv => apz0_inS hv) (by omega) (peq_apz G n) (decide_eq_false z0) (decide_eq_false z1) s0 s1 s2 s3 (Nat.le_refl _) (by rw [hq]; show (!decide ((G (0 + p)).k = 8)) = false; rw [Nat.zero_add, decide_eq_true k8]; rfl) (by omega) (by omega) (by omega) (by omega) (by omega) (by omega) rfl (find_nd (by show _ ≤ Int.toNat _; omega)) (fun j _ => cz_row) rfl (find_nd (by show _ ≤ Int.toNat _; omega)) (fun j _ => cx_row _ j)) (by omega)
   rw [hq, ep] at hS
   refine Sx.GoesB.seqN (K1 := 14) (F1 := [(1, .str true pt), (5, .bool true), (6, .ptr ⟨false, 8, 0, 0⟩), (16, .slc true true ⟨false, 12, 0, 0⟩ (ulen G n)), (17, .ptr ⟨false, 13, 0, 0⟩)]) (H1 := netL n (ND G n).length (BR G n).length G (zipF 0 (NM G n)) (zipF 0 (ND G n)) (zipF 0 (BR G n)) (lget (ND G n)) (lget (BR G n)) ++ ([(12, .cells true 1 (ulen G n) (.fn (cxR (dvE (ND G n) (G p))))), (13, .cells true 2 1 (.fn fun _ => [.int false .i64 0, .int false .i64 0]))] : List (Nat × Sx.ABk))) (Sx.GoesB.renN (F0 := [(1, .str true pt), (5, .bool true), (6, .ptr ⟨false, 8, 0, 0⟩), (16, .slc true true ⟨false, 21, 0, 0⟩ (ulen G n)), (17, .ptr ⟨false, 22, 0, 0⟩)]) (H0 := netL n (ND G n).length (BR G n).length G (zipF 0 (NM G n)) (zipF 0 (ND G n)) (zipF 0 (BR G n)) (lget (ND G n)) (lget (BR G n)) ++ ([(21, .cells true 1 (ulen G n) (.fn (cxR (dvE (ND G n) (G p))))), (22, .cells true 2 1 (.fn fun _ => [.int false .i64 0, .int false .i64 0]))] : List (Nat × Sx.ABk))) (sg2 21 22) (Sx.GoesB.toN hS ⟨(Sx.re rfl), (Sx.re rfl), (Sx.re rfl), (Sx.re rfl), (Sx.re rfl), trivial⟩ ⟨(Sx.hs rfl), (Sx.hs rfl), (Sx.hs rfl), (Sx.hs rfl), (Sx.hs rfl), (Sx.hs rfl), (Sx.hs rfl), gR rfl rfl (fun j _ => rfl), hbl1 rfl, trivial⟩) (sg2_low _ _) (sg2_inj (by omega) (by omega)) ⟨⟨_, rfl, Sx.AV.ge.refl _, rfl⟩, ⟨_, rfl, Sx.AV.ge.refl _, rfl⟩, ⟨_, rfl, Sx.AV.ge.refl _, rfl⟩, ⟨_, rfl, Sx.AV.ge.refl _, rfl⟩, ⟨_, rfl, Sx.AV.ge.refl _, rfl⟩, trivial⟩ ⟨rgM rfl rfl (by omega), rgM rfl rfl (by omega), rgM rfl rfl (by omega), rgR rfl rfl (fun j _ => rfl) (fun j _ => rfl) (by omega), rgR rfl rfl (fun j _ => rfl) (fun j _ => rfl) (by omega), rgR rfl rfl (fun j _ => rfl) (fun j _ => rfl) (by omega), rgB rfl rfl rfl (by omega), rgR rfl rfl (fun j _ => rfl) (fun j _ => rfl) (by omega), rgB rfl rfl rfl (by omega), trivial⟩) (by omega) ?_
   refine so_good n pt G (G p) h256 hab k8 (Sx.GoesB.toN (rT 14 (soTg_r0 n (ND G n).length (BR G n).length (ulen G n) 0 0 0 pt G G G (zipF 0 (NM G n)) (zipF 0 (ND G n)) (zipF 0 (BR G n)) (lget (ND G n)) (lget (BR G n)) (fun _ => (0, 0)) (fun _ => (0, 0)) 0 0 0 0 0 0 (G 0) true s0 s1 s2 s3 (Nat.le_refl _)) (by omega)) ⟨(Sx.re rfl), (Sx.re rfl), (Sx.re rfl), (Sx.re rfl), (Sx.re rfl), ⟨_, rfl, Sx.AV.ge.bool' rfl⟩, trivial⟩ ⟨(Sx.hs rfl), (Sx.hs rfl), (Sx.hs rfl), (Sx.hs rfl), (Sx.hs rfl), (Sx.hs rfl), (Sx.hs rfl), hbl1 rfl (by rw [hq, ep]; rfl), trivial⟩)
  ·refine Sx.GoesB.seqN (K1 := 14) (F1 := [(1, .str true pt), (5, .bool true), (6, .ptr ⟨false, 8, 0, 0⟩), (16, .nils), (17, .ptr ⟨false, 13, 0, 0⟩)]) (H1 := netL n (ND G n).length (BR G n).length G (zipF 0 (NM G n)) (zipF 0 (ND G n)) (zipF 0 (BR G n)) (lget (ND G n)) (lget (BR G n)) ++ ([(13, .cells true 2 1 (.fn fun _ => [.int false .i64 10, .int false .i64 (-1)]))] : List (Nat × Sx.ABk))) (Sx.GoesB.renN (F0 := [(1, .str true pt), (5, .bool true), (6, .ptr ⟨false, 8, 0, 0⟩), (16, .nils), (17, .ptr ⟨false, 21, 0, 0⟩)]) (H0 := netL n (ND G n).length (BR G n).length G (zipF 0 (NM G n)) (zipF 0 (ND G n)) (zipF 0 (BR G n)) (lget (ND G n)) (lget (BR G n)) ++ ([(21, .cells true 2 1 (.fn fun _ => [.int false .i64 10, .int false .i64 (-1)]))] : List (Nat × Sx.ABk))) (sg2 20 21) (Sx.GoesB.toN (rT 12 (soS_r5 n (ND G n).length (BR G n).length (ulen G n) 0 0 0 pt G G G (zipF 0 (NM G n)) (zipF 0 (ND G n)) (zipF 0 (BR G n)) (lget (ND G n)) (lget (BR G n)) (fun _ => (0, 0)) (fun _ => (0, 0)) 0 0 0 0 0 0 (G 0) true (by omega) (by omega) (by omega) (fun i hi o v hv => elR_inS hv) (Nat.le_refl _) (by omega) (by omega) (fun i hi o v hv => apz0_inS hv) (by omega) (peq_apz G n) (decide_eq_false z0) (decide_eq_false z1) s0 s1 s2 s3 (Nat.le_refl _) (by rw [hq]; show (!decide ((G (0 + p)).k = 8)) = true; rw [Nat.zero_add, decide_eq_false k8]; rfl)) (by omega)) ⟨(Sx.re rfl), (Sx.re rfl), (Sx.re rfl), (Sx.re rfl), (Sx.re rfl), trivial⟩ ⟨(Sx.hs rfl), (Sx.hs rfl), (Sx.hs rfl), (Sx.hs rfl), (Sx.hs rfl), (Sx.hs rfl), (Sx.hs rfl), hbl1 rfl, trivial⟩) (sg2_low _ _) (sg2_inj (by omega) (by omega)) ⟨⟨_, rfl, Sx.AV.ge.refl _, rfl⟩, ⟨_, rfl, Sx.AV.ge.refl _, rfl⟩, ⟨_, rfl, Sx.AV.ge.refl _, rfl⟩, ⟨_, rfl, Sx.AV.ge.refl _, rfl⟩, ⟨_, rfl, Sx.AV.ge.refl _, rfl⟩, trivial⟩ ⟨rgM rfl rfl (by omega), rgM rfl rfl (by omega), rgM rfl rfl (by omega), rgR rfl rfl (fun j _ => rfl) (fun j _ => rfl) (by omega), rgR rfl rfl (fun j _ => rfl) (fun j _ => rfl) (by omega), rgR rfl rfl (fun j _ => rfl) (fun j _ => rfl) (by omega), rgB rfl rfl rfl (by omega), rgB rfl rfl rfl (by omega), trivial⟩) (by omega) ?_
   exact so_bad n pt G (G p) h256 true (fun _ => k8) (Sx.GoesB.toN (rT 14 (soT_r0 n (ND G n).length (BR G n).length (ulen G n) 0 0 0 pt G G G (zipF 0 (NM G n)) (zipF 0 (ND G n)) (zipF 0 (BR G n)) (lget (ND G n)) (lget (BR G n)) (fun _ => (0, 0)) (fun _ => (0, 0)) 0 0 0 0 0 0 (G 0) true s0 s1 s2 s3 (Nat.le_refl _)) (by omega)) ⟨(Sx.re rfl), (Sx.re rfl), (Sx.re rfl), (Sx.re rfl), (Sx.re rfl), ⟨_, rfl, Sx.AV.ge.bool' rfl⟩, trivial⟩ ⟨(Sx.hs rfl), (Sx.hs rfl), (Sx.hs rfl), (Sx.hs rfl), (Sx.hs rfl), (Sx.hs rfl), (Sx.hs rfl), hbl1 rfl (by rw [hq, ep]; rfl), trivial⟩)


theorem goes_pre {P : Program} {n B K K' K2 : Nat} {c : Code} {fr : Sx.Fr} {H : Sx.T Sx.ABk} {fl : List (Nat × Sx.AV)} {bl : List (Nat × Sx.ABk)} {Post : Sx.Po} (σ : Nat → Nat) (hk : ∀ g, g < B → σ g = g) (hF : Sx.RenF K2 σ fr fl) (hB : Sx.RenG K2 σ H bl) (hi : ∀ i j, i < K2 → j < K2 → σ i = σ j → i = j) (h : Sx.GoesB P c n B K2 K' (Sx.frL fl) (Sx.hpL bl) Post) : Sx.GoesB P c n B K K' fr H Post := fun μ w a hg hf Q hQ => by
 have t : Sx.AtB n B K H μ w H fr a a w := ⟨μ, hg, ⟨.refl _ _, rfl, rfl, rfl, Nat.le_refl _, fun _ _ _ => rfl, fun _ _ h => h⟩, hf, rfl⟩
 obtain ⟨μ', k1, k2, k3, k4⟩ := (t.renG hk hF hB hi).of
 exact h μ' w a k1 k3 Q fun e fr' H' a' w' hp ha => hQ e fr' H' a' w' hp (Sx.AtB.trans k2 rfl ha)
theorem cond_or {b : Bool} {p q : Prop} (h : cond b p q) : p ∨ q := by
 cases b
 ·exact .inr h
 ·exact .inl h
def sg3 (i : Nat) : Nat := if i = 10 then 12 else if i = 11 then 10 else i
theorem sg3_inj : ∀ i j, i < 12 → j < 12 → sg3 i = sg3 j → i = j := by
 intro i j hi hj e
 unfold sg3 at e
 split at e <;> split at e <;> (try split at e) <;> (try split at e) <;> omega
theorem sg3_low : ∀ g, g < 10 → sg3 g = g := by
 intro g hg
 unfold sg3
 rw [if_neg (by omega), if_neg (by omega)]
theorem so_is0 : (Sx.bodyOf Try.f8) = .seq (Sx.nav [0] (Sx.bodyOf Try.f8)) (Sx.nav [1] (Sx.bodyOf Try.f8)) := by kernel_rfl
theorem so_is1 : (Sx.nav [1] (Sx.bodyOf Try.f8)) = .seq (Sx.nav [1,0] (Sx.bodyOf Try.f8)) (Sx.nav [1,1] (Sx.bodyOf Try.f8)) := by kernel_rfl
theorem so_is2 : (Sx.nav [1,1] (Sx.bodyOf Try.f8)) = .seq (Sx.nav [1,1,0] (Sx.bodyOf Try.f8)) (Sx.nav [1,1,1] (Sx.bodyOf Try.f8)) := by kernel_rfl
theorem so_is3 : (Sx.nav [1,1,1] (Sx.bodyOf Try.f8)) = .seq (Sx.nav [1,1,1,0] (Sx.bodyOf Try.f8)) (Sx.nav [1,1,1,1] (Sx.bodyOf Try.f8)) := by kernel_rfl
theorem so_is4 : (Sx.nav [1,1,1,1] (Sx.bodyOf Try.f8)) = .seq (Sx.nav [1,1,1,1,0] (Sx.bodyOf Try.f8)) (Sx.nav [1,1,1,1,1] (Sx.bodyOf Try.f8)) := by kernel_rfl
theorem so_is5 : (Sx.nav [1,1,1,1,1] (Sx.bodyOf Try.f8)) = .seq (Sx.nav [1,1,1,1,1,0] (Sx.bodyOf Try.f8)) (Sx.nav [1,1,1,1,1,1] (Sx.bodyOf Try.f8)) := by kernel_rfl
theorem so_loop (n u : Nat) (pt : Tx) (G : Nat → El) (f : Nat → Nat × Nat) (g0 g1 : Int) (h256 : n ≤ 256) (hz : (ofR chkE G n).1 = 0) (hg : ∀ j, j < n → badE chkE G j = 0) (hv : ∀ j, j < n → (G j).v < 18446744073709551616)
  (hc : (fbk (RB G n) 0 n = n ∧ u = ulen G n ∧ f = RF G n n ∧ g0 = 0 ∧ g1 = 0 ∧ ∀ m, okN (RF G n n m)) ∨ (fbk (RB G n) 0 n ≠ n ∧ u = 0 ∧ g0 = 6 ∧ g1 = (fbk (RB G n) 0 n : Nat))) :
  Sx.GoesB Try.prog (Sx.nav [1,1,1,1,1] (Sx.bodyOf Try.f8)) Try.f8.ntmps 10 12 30 (Sx.frL [(1, .str true pt), (5, .bool true), (6, .ptr ⟨false, 8, 0, 0⟩), (8, .slc true true ⟨false, 10, 0, 0⟩ u), (9, .ptr ⟨false, 11, 0, 0⟩)]) (Sx.hpL (hkL n u G f g0 g1)) RESP := by
 have hl := fun (B : Nat) (hB : 12 ≤ B) => hk_low B n u G f g0 g1 hB
 rw [so_is5]
 refine Sx.GoesB.lower (B' := 12) ?_ (by omega)
 refine Sx.GoesB.seqN (K1 := 12) (F1 := [(1, .str true pt), (5, .bool true), (6, .ptr ⟨false, 8, 0, 0⟩)]) (H1 := netL n (ND G n).length (BR G n).length G (zipF 0 (NM G n)) (zipF 0 (ND G n)) (zipF 0 (BR G n)) (lget (ND G n)) (lget (BR G n))) ?_ (by omega) (so_tail n pt G h256 hg)
 rw [show (Sx.nav [1,1,1,1,1,0] (Sx.bodyOf Try.f8)) = .seq (Sx.nav [1,1,1,1,1,0,0] (Sx.bodyOf Try.f8)) (.block 0 (.loop (Sx.nav [1,1,1,1,1,0,1,0,0] (Sx.bodyOf Try.f8)))) by kernel_rfl]
 refine Sx.GoesB.seqN (K1 := 12) (F1 := [(1, .str true pt), (5, .bool true), (6, .ptr ⟨false, 8, 0, 0⟩), (8, .slc true true ⟨false, 10, 0, 0⟩ u), (9, .ptr ⟨false, 11, 0, 0⟩), (10, .int true .i64 (0 : Nat))]) (H1 := hkL n u G f g0 g1) (Sx.GoesB.toN (Sx.GoesB.idleN (rT 12 (soG_r0 n (ND G n).length (BR G n).length u 0 0 0 pt G G G (zipF 0 (NM G n)) (zipF 0 (ND G n)) (zipF 0 (BR G n)) (lget (ND G n)) (lget (BR G n)) f f 0 0 g0 g1 0 0 (G 0) true) (by omega)) (by omega) (hl 12 (by omega))) ⟨(Sx.re rfl), (Sx.re rfl), (Sx.re rfl), (Sx.re rfl), (Sx.re rfl), Sx.ri rfl, trivial⟩ ⟨(Sx.hs rfl), (Sx.hs rfl), (Sx.hs rfl), (Sx.hs rfl), (Sx.hs rfl), (Sx.hs rfl), (Sx.hs rfl), (Sx.hs rfl), (Sx.hs rfl), trivial⟩) (by omega) ?_
 refine Sx.GoesB.rounds 2 (fun kk => [(1, .str true pt), (5, .bool true), (6, .ptr ⟨false, 8, 0, 0⟩), (8, .slc true true ⟨false, 10, 0, 0⟩ u), (9, .ptr ⟨false, 11, 0, 0⟩), (10, .int true .i64 (kk : Nat))]) (fun _ => hkL n u G f g0 g1) (fun kk hk => so_round n u kk pt G f g0 g1 h256 hz hg hv hk hc) ?_
 rw [so_body]
 refine Sx.GoesB.seqX (K1 := 12) ((Sx.GoesB.idleX (F := [(1, .str true pt), (5, .bool true), (6, .ptr ⟨false, 8, 0, 0⟩), (8, .slc true true ⟨false, 10, 0, 0⟩ u), (9, .ptr ⟨false, 11, 0, 0⟩), (10, .int true .i64 (2 : Nat))]) (xl := hkL n u G f g0 g1) (rT 12 (soH_r1 n (ND G n).length (BR G n).length u 0 0 2 pt G G G (zipF 0 (NM G n)) (zipF 0 (ND G n)) (zipF 0 (BR G n)) (lget (ND G n)) (lget (BR G n)) f f 0 0 g0 g1 0 0 (G 0) true (decide_eq_false (by omega))) (by omega)) (by omega) (hl 12 (by omega))).post fun e fr' H' h => ?_) (by omega)
 obtain ⟨rfl, rfl, rfl⟩ := h
 exact ⟨[(1, .str true pt), (5, .bool true), (6, .ptr ⟨false, 8, 0, 0⟩)], netL n (ND G n).length (BR G n).length G (zipF 0 (NM G n)) (zipF 0 (ND G n)) (zipF 0 (BR G n)) (lget (ND G n)) (lget (BR G n)), ⟨(Sx.re rfl), (Sx.re rfl), (Sx.re rfl), trivial⟩, ⟨(Sx.hs rfl), (Sx.hs rfl), (Sx.hs rfl), (Sx.hs rfl), (Sx.hs rfl), (Sx.hs rfl), (Sx.hs rfl), trivial⟩, rfl, rfl, rfl⟩
theorem law_goes (n : Nat) (pt : Tx) (G : Nat → El) (h1 : n * 104 ≤ 140737488355328) (hv : ∀ j, j < n → (G j).v < 18446744073709551616) :
  Sx.GoesB Try.prog (Sx.bodyOf Try.f8) Try.f8.ntmps 1 1 30 (Sx.frameOf [.slc true false ⟨false, 0, 0, 0⟩ n, .str true pt] 0 .e) (Sx.hpL [(0, .cells false 8 n (.fn fun j => zR (G j)))]) RESP := by
 rw [so_is0]
 refine Sx.GoesB.seqN (K1 := 1) (F1 := [(0, .slc true false ⟨false, 0, 0, 0⟩ n), (1, .str true pt)]) (H1 := [(0, .cells false 8 n (.fn fun j => zR (G j)))]) (rT 1 (soA_r0 n (ND G n).length (BR G n).length 0 0 0 0 pt G G G (zipF 0 (NM G n)) (zipF 0 (ND G n)) (zipF 0 (BR G n)) (lget (ND G n)) (lget (BR G n)) (fun _ => (0, 0)) (fun _ => (0, 0)) 0 0 0 0 0 0 (G 0) true) (by omega)) (by omega) ?_
 rw [so_is1]
 refine Sx.GoesB.seqN (K1 := 1) (F1 := [(0, .slc true false ⟨false, 0, 0, 0⟩ n), (1, .str true pt), (5, .bool true)]) (H1 := [(0, .cells false 8 n (.fn fun j => zR (G j)))]) (rT 1 (soB_r0 n (ND G n).length (BR G n).length 0 0 0 0 pt G G G (zipF 0 (NM G n)) (zipF 0 (ND G n)) (zipF 0 (BR G n)) (lget (ND G n)) (lget (BR G n)) (fun _ => (0, 0)) (fun _ => (0, 0)) 0 0 0 0 0 0 (G 0) true) (by omega)) (by omega) ?_
 rw [so_is2]
 by_cases t : decide ((ofX G n).1 = 0) = true
 ·have hC := rT 1 (soC_r0 n (ND G n).length (BR G n).length 0 0 0 0 pt G G G (zipF 0 (NM G n)) (zipF 0 (ND G n)) (zipF 0 (BR G n)) (lget (ND G n)) (lget (BR G n)) (fun _ => (0, 0)) (fun _ => (0, 0)) 0 0 0 0 0 0 (G 0) true (by omega) h1 (fun j hj => ⟨RowGe_refl (zR (G (0 + j))) rfl, by rw [Nat.zero_add]; exact hv j hj⟩) (fun j hj u hu => List.all_eq_true.1 (show (zR (G (0 + j))).all (fun v => v.low 0) = true from rfl) u hu) (by omega) ⟨⟨fun j hj => RowGe_refl _ rfl⟩, fun j hj u hu => List.all_eq_true.1 (elR_low 0 _) u hu⟩ (by simp only [Nat.zero_add, rowsE_el]; exact t)) (by omega)
  simp only [Nat.zero_add, rowsE_of, rowsE_el] at hC
  have hz := of_decide_eq_true t
  rw [ofX_is] at hz
  obtain ⟨hn, hg⟩ := ofR_zero hz
  have lq := ND_b G n hn
  have lr := BR_b G n hn
  have hul : ulen G n = (ND G n).length + (BR G n).length := rfl
  refine Sx.GoesB.seqN (K1 := 10) (F1 := [(0, .slc true false ⟨false, 0, 0, 0⟩ n), (1, .str true pt), (5, .bool true), (6, .ptr ⟨false, 8, 0, 0⟩), (7, .ptr ⟨false, 9, 0, 0⟩)]) (H1 := netL n (ND G n).length (BR G n).length G (zipF 0 (NM G n)) (zipF 0 (ND G n)) (zipF 0 (BR G n)) (lget (ND G n)) (lget (BR G n)) ++ ([(9, .cells true 2 1 (.fn fun _ => [.int false .i64 0, .int false .i64 0]))] : List (Nat × Sx.ABk))) (Sx.GoesB.toN hC ⟨(Sx.re rfl), (Sx.re rfl), (Sx.re rfl), (Sx.re rfl), (Sx.re rfl), trivial⟩ ⟨(Sx.hs rfl), (Sx.hs rfl), (Sx.hs rfl), (Sx.hs rfl), ⟨_, rfl, rfl, rfl, rfl, fun j _ => rfl⟩, ⟨_, rfl, rfl, rfl, rfl, fun j _ => rfl⟩, ⟨_, rfl, rfl, rfl, rfl, fun j _ => rfl⟩, hbl1 rfl, trivial⟩) (by omega) ?_
  rw [so_is3]
  refine Sx.GoesB.seqN (K1 := 10) (F1 := [(0, .slc true false ⟨false, 0, 0, 0⟩ n), (1, .str true pt), (5, .bool true), (6, .ptr ⟨false, 8, 0, 0⟩)]) (H1 := netL n (ND G n).length (BR G n).length G (zipF 0 (NM G n)) (zipF 0 (ND G n)) (zipF 0 (BR G n)) (lget (ND G n)) (lget (BR G n))) (Sx.GoesB.toN (rT 1 (soD_r0 n (ND G n).length (BR G n).length 0 0 0 0 pt G G G (zipF 0 (NM G n)) (zipF 0 (ND G n)) (zipF 0 (BR G n)) (lget (ND G n)) (lget (BR G n)) (fun _ => (0, 0)) (fun _ => (0, 0)) 0 0 0 0 0 0 (G 0) true) (by omega)) ⟨(Sx.re rfl), (Sx.re rfl), (Sx.re rfl), (Sx.re rfl), trivial⟩ ⟨(Sx.hs rfl), (Sx.hs rfl), (Sx.hs rfl), (Sx.hs rfl), (Sx.hs rfl), (Sx.hs rfl), (Sx.hs rfl), trivial⟩) (by omega) ?_
  rw [so_is4]
  by_cases t : fbk (RB G n) 0 n = n
  ·have hF := rT 1 (soF_r0 n (ND G n).length (BR G n).length 0 0 0 0 pt G G G (zipF 0 (NM G n)) (zipF 0 (ND G n)) (zipF 0 (BR G n)) (lget (ND G n)) (lget (BR G n)) (fun _ => (0, 0)) (fun _ => (0, 0)) 0 0 0 0 0 0 (G 0) true ⟨hn, rfl, rfl, rfl, rfl, rfl, rfl, rfl, rfl, fun j hj => RowGe_refl _ rfl, fun j hj => RowGe_refl _ rfl, fun j hj => RowGe_refl _ rfl⟩ (by simp only [rowsE_el]; exact decide_eq_true t)) (by omega)
   simp only [rowsE_el] at hF
   have hok := RF_ok (E := G) (n := n) n (fbk_end t)
   refine Sx.GoesB.seqN (K1 := 12) (F1 := [(1, .str true pt), (5, .bool true), (6, .ptr ⟨false, 8, 0, 0⟩), (8, .slc true true ⟨false, 10, 0, 0⟩ (ulen G n)), (9, .ptr ⟨false, 11, 0, 0⟩)]) (H1 := hkL n (ulen G n) G (RF G n n) 0 0) (goes_postG hF fun e fr' H' h => ?_) (by omega) (Sx.GoesB.lower (B' := 10) (so_loop n (ulen G n) pt G (RF G n n) 0 0 hn hz hg hv (.inl ⟨t, rfl, rfl, rfl, rfl, hok⟩)) (by omega))
   obtain ⟨rfl, rfl, rfl⟩ := h
   exact ⟨[(1, .str true pt), (5, .bool true), (6, .ptr ⟨false, 8, 0, 0⟩), (8, .slc true true ⟨false, 10, 0, 0⟩ (ulen G n)), (9, .ptr ⟨false, 11, 0, 0⟩)], hkL n (ulen G n) G (RF G n n) 0 0, ⟨(Sx.re rfl), (Sx.re rfl), (Sx.re rfl), (Sx.re rfl), (Sx.re rfl), trivial⟩, ⟨⟨_, rfl, rfl⟩, ⟨_, rfl, rfl⟩, ⟨_, rfl, rfl⟩, ⟨_, rfl, rfl, rfl, rfl, fun j _ => RowGe_refl _ rfl⟩, ⟨_, rfl, rfl, rfl, rfl, fun j _ => RowGe_refl _ rfl⟩, ⟨_, rfl, rfl, rfl, rfl, fun j _ => RowGe_refl _ rfl⟩, ⟨_, rfl, rfl, rfl, rfl, fun j _ => RowGe_refl _ rfl⟩, ⟨_, rfl, rfl, rfl, rfl, fun j _ => RowGe_refl _ rfl⟩, ⟨_, rfl, rfl, rfl, rfl, of1 ⟨Sx.AV.ge.int _ _ _ _, rfl, Sx.AV.ge.int _ _ _ _, rfl, trivial⟩⟩, trivial⟩, rfl, rfl, rfl⟩
  ·have hF := rT 1 (soF_r1 n (ND G n).length (BR G n).length 0 0 0 0 pt G G G (zipF 0 (NM G n)) (zipF 0 (ND G n)) (zipF 0 (BR G n)) (lget (ND G n)) (lget (BR G n)) (fun _ => (0, 0)) (fun _ => (0, 0)) 0 0 0 0 0 0 (G 0) true ⟨hn, rfl, rfl, rfl, rfl, rfl, rfl, rfl, rfl, fun j hj => RowGe_refl _ rfl, fun j hj => RowGe_refl _ rfl, fun j hj => RowGe_refl _ rfl⟩ (by simp only [rowsE_el]; exact decide_eq_false t)) (by omega)
   simp only [rowsE_el] at hF
   refine Sx.GoesB.seqN (K1 := 12) (F1 := [(1, .str true pt), (5, .bool true), (6, .ptr ⟨false, 8, 0, 0⟩), (8, .nils), (9, .ptr ⟨false, 10, 0, 0⟩)]) (H1 := netL n (ND G n).length (BR G n).length G (zipF 0 (NM G n)) (zipF 0 (ND G n)) (zipF 0 (BR G n)) (lget (ND G n)) (lget (BR G n)) ++ ([(10, .cells true 2 1 (.fn fun _ => [.int true .i64 6, .int true .i64 (fbk (RB G n) 0 n : Nat)]))] : List (Nat × Sx.ABk))) (goes_postG hF fun e fr' H' h => ?_) (by omega) ?_
   ·obtain ⟨rfl, rfl, rfl⟩ := h
    exact ⟨[(1, .str true pt), (5, .bool true), (6, .ptr ⟨false, 8, 0, 0⟩), (8, .nils), (9, .ptr ⟨false, 10, 0, 0⟩)], netL n (ND G n).length (BR G n).length G (zipF 0 (NM G n)) (zipF 0 (ND G n)) (zipF 0 (BR G n)) (lget (ND G n)) (lget (BR G n)) ++ ([(10, .cells true 2 1 (.fn fun _ => [.int true .i64 6, .int true .i64 (fbk (RB G n) 0 n : Nat)]))] : List (Nat × Sx.ABk)), ⟨(Sx.re rfl), (Sx.re rfl), (Sx.re rfl), (Sx.re rfl), (Sx.re rfl), trivial⟩, ⟨⟨_, rfl, rfl⟩, ⟨_, rfl, rfl⟩, ⟨_, rfl, rfl⟩, ⟨_, rfl, rfl, rfl, rfl, fun j _ => RowGe_refl _ rfl⟩, ⟨_, rfl, rfl, rfl, rfl, fun j _ => RowGe_refl _ rfl⟩, ⟨_, rfl, rfl, rfl, rfl, fun j _ => RowGe_refl _ rfl⟩, ⟨_, rfl, rfl, rfl, rfl, fun j _ => RowGe_refl _ rfl⟩, ⟨_, rfl, rfl, rfl, rfl, of1 ⟨Sx.AV.ge.int _ _ _ _, rfl, Sx.AV.ge.int _ _ _ _, rfl, trivial⟩⟩, trivial⟩, rfl, rfl, rfl⟩
   ·refine Sx.GoesB.phantom 8 1 (cxR fun _ => (0, 0)) rfl (by omega) (by omega) ?_
    refine Sx.GoesB.weakL (fl := [(1, .str true pt), (5, .bool true), (6, .ptr ⟨false, 8, 0, 0⟩), (8, .slc true true ⟨false, 12, 0, 0⟩ 0), (9, .ptr ⟨false, 10, 0, 0⟩)]) (bl := netL n (ND G n).length (BR G n).length G (zipF 0 (NM G n)) (zipF 0 (ND G n)) (zipF 0 (BR G n)) (lget (ND G n)) (lget (BR G n)) ++ ([(10, .cells true 2 1 (.fn fun _ => [.int true .i64 6, .int true .i64 (fbk (RB G n) 0 n : Nat)])), (12, .cells true 1 0 (.fn (cxR fun _ => (0, 0))))] : List (Nat × Sx.ABk))) ⟨(Sx.re rfl), (Sx.re rfl), (Sx.re rfl), (Sx.re rfl), (Sx.re rfl), trivial⟩ ⟨(Sx.hs rfl), (Sx.hs rfl), (Sx.hs rfl), (Sx.hs rfl), (Sx.hs rfl), (Sx.hs rfl), (Sx.hs rfl), (Sx.hs rfl), (Sx.hs rfl), trivial⟩ ?_
    exact Sx.GoesB.lower (B' := 10) (goes_pre (K2 := 12) (fl := [(1, .str true pt), (5, .bool true), (6, .ptr ⟨false, 8, 0, 0⟩), (8, .slc true true ⟨false, 10, 0, 0⟩ 0), (9, .ptr ⟨false, 11, 0, 0⟩)]) (bl := hkL n 0 G (fun _ => (0, 0)) 6 (fbk (RB G n) 0 n : Nat)) sg3 sg3_low ⟨⟨_, rfl, Sx.AV.ge.refl _, rfl⟩, ⟨_, rfl, Sx.AV.ge.refl _, rfl⟩, ⟨_, rfl, Sx.AV.ge.refl _, rfl⟩, ⟨_, rfl, Sx.AV.ge.refl _, rfl⟩, ⟨_, rfl, Sx.AV.ge.refl _, rfl⟩, trivial⟩ ⟨rgM rfl rfl (by omega), rgM rfl rfl (by omega), rgM rfl rfl (by omega), rgR rfl rfl (fun j _ => rfl) (fun j _ => rfl) (by omega), rgR rfl rfl (fun j _ => rfl) (fun j _ => rfl) (by omega), rgR rfl rfl (fun j _ => rfl) (fun j _ => rfl) (by omega), rgB rfl rfl rfl (by omega), rgR rfl rfl (fun j _ => rfl) (fun j _ => rfl) (by omega), rgB rfl rfl rfl (by omega), trivial⟩ sg3_inj (so_loop n 0 pt G (fun _ => (0, 0)) 6 (fbk (RB G n) 0 n : Nat) hn hz hg hv (.inr ⟨t, rfl, rfl, rfl⟩))) (by omega)
 ·have t := Bool.eq_false_iff.2 t
  have hC := rT 1 (soC_r1 n (ND G n).length (BR G n).length 0 0 0 0 pt G G G (zipF 0 (NM G n)) (zipF 0 (ND G n)) (zipF 0 (BR G n)) (lget (ND G n)) (lget (BR G n)) (fun _ => (0, 0)) (fun _ => (0, 0)) 0 0 0 0 0 0 (G 0) true (by omega) h1 (fun j hj => ⟨RowGe_refl (zR (G (0 + j))) rfl, by rw [Nat.zero_add]; exact hv j hj⟩) (fun j hj u hu => List.all_eq_true.1 (show (zR (G (0 + j))).all (fun v => v.low 0) = true from rfl) u hu) (by omega) ⟨⟨fun j hj => RowGe_refl _ rfl⟩, fun j hj u hu => List.all_eq_true.1 (elR_low 0 _) u hu⟩ (by simp only [Nat.zero_add, rowsE_el]; exact t)) (by omega)
  simp only [Nat.zero_add, rowsE_of, rowsE_el] at hC
  refine Sx.GoesB.seqN (K1 := 10) (F1 := [(0, .slc true false ⟨false, 0, 0, 0⟩ n), (1, .str true pt), (5, .bool true), (6, .nilp), (7, .ptr ⟨false, 2, 0, 0⟩)]) (H1 := [(2, .cells true 2 1 (.fn fun _ => [.int true .i64 (ofX G n).1, .int true .i64 (ofX G n).2]))]) (Sx.GoesB.toN hC ⟨(Sx.re rfl), (Sx.re rfl), (Sx.re rfl), (Sx.re rfl), (Sx.re rfl), trivial⟩ ⟨hbl1 rfl, trivial⟩) (by omega) ?_
  rw [so_is3]
  refine Sx.GoesB.seq (K1 := 10) (by omega) ((soE 1 (by omega) n (ND G n).length (BR G n).length 0 0 0 0 pt G G G (zipF 0 (NM G n)) (zipF 0 (ND G n)) (zipF 0 (BR G n)) (lget (ND G n)) (lget (BR G n)) (fun _ => (0, 0)) (fun _ => (0, 0)) 0 0 0 0 (ofX G n).1 (ofX G n).2 (G 0) true).mono fun e fr' H' h => ?_)
  rcases cond_or h with h | h
  ·obtain ⟨rfl, rfl, rfl⟩ := h
   exact ⟨.inl rfl, _, rfl, Sx.AV.ge.refl _⟩
  ·obtain ⟨rfl, rfl, rfl⟩ := h
   exact ⟨.inl rfl, _, rfl, Sx.AV.ge.refl _⟩


theorem viewN {N : Nat} {μ : Sx.MM} {hp : Array Obj} {g sz m : Nat} {c : Sx.Cont} {rows : Nat → List Sx.AV} (h : Sx.BkOk N μ hp g (.cells false sz m c)) (k : ∀ j, j < m → Sx.RowGe (c.row j) (rows j)) : Sx.BkOk N μ hp g (.cells false sz m (.fn rows)) := by
 refine ⟨h.1, h.2.1, fun hr => ?_⟩
 obtain ⟨cur, ty, fz, p1, p2, p3, p4⟩ := h.2.2 hr
 exact ⟨cur, ty, fz, p1, p2, p3, fun i hi => Sx.RowOk.ge (p4 i hi) (k i hi)⟩
theorem law_walk {H : Type} {enc : TypeId × Value → H} {base : Nat} {d0 d1 : DataW H} {p0 : List MemPlace} {wd : World} (v0 : Value) (hv0 : Value.okWide Try.prog wd .any base 36 v0) (h0 : DataW.Trod enc Try.prog wd 0 (fun _ => true) true 36 v0 d0 p0) (z0 : (DataW.weightsEach Try.prog [36, 9] [d0, d1]).all (· ≤ reachBytes) = true) (k1 : ByteArray) (w1 : k1.size ≤ reachBytes) (w' : World) (hw : w' = wd) :
  Calls Try.prog 8 #[v0, .string k1] wd fun e w' => e = .returned (.bool true) ∧ Below wd.heap.size wd w' := by
 obtain ⟨a0, len0, cap0, rfl⟩ := okWide_slice Try.underlying36 hv0
 obtain ⟨fuel0, hx0⟩ := h0
 obtain ⟨n0, blk0, bs0, c0, hval0, hbk0, hok0, hlen0⟩ := Sx.open_slc (n := 3) (shs := [.int .u8, .str, .str, .str, .str, .str, .int .u64, .int .i64]) (v := .slice a0 len0 cap0) Try.underlying36 (by kernel_rfl) (by kernel_rfl) (by decide) hx0
 have hn0 : n0 * 104 ≤ 140737488351232 := by
  rcases hlen0 with ⟨rfl, _⟩ | ⟨es, sps, e1, e2⟩
  ·omega
  ·dsimp only at e1
   have h := sized_slice z0 (j := 0) (t := 36) (e := 24) (elems := es) (spare := sps) rfl (by rw [← e1]; rfl) Try.underlying36
   rw [show Try.prog.bytesOf 24 = 104 by kernel_rfl, e2] at h
   have hR : reachBytes = 140737488351232 := rfl
   rw [hR] at h
   exact Nat.le_trans (Nat.mul_le_mul_right 104 (Nat.le_add_right n0 sps.length)) h
 have bd : ∀ {x : Value}, (Sx.Sh.int .u64).ok x → 0 ≤ Sx.intOf x ∧ Sx.intOf x < 18446744073709551616 := fun {x} h => by
  obtain ⟨n, rfl, hw⟩ := h
  have := bounds_u64 hw
  simp only [Sx.intOf]; omega
 have hg := Sx.gv_gok (l := [⟨8, n0, blk0, bs0, fun j => zR ((fun j => (⟨Sx.intOf (c0 j 0), Sx.strOf (c0 j 1), Sx.strOf (c0 j 2), Sx.strOf (c0 j 3), Sx.strOf (c0 j 4), Sx.strOf (c0 j 5), (Sx.intOf (c0 j 6)).toNat, Sx.intOf (c0 j 7)⟩ : El)) j)⟩]) (hp := wd.heap) fun i v hi μ N e1 e2 e3 => by
  match i, hi with
  | 0, hi =>
   cases hi
   refine viewN (hbk0 μ 0 N e1 e2 e3) fun j hj => ?_
   have e : (((Sx.intOf (c0 j 6)).toNat : Nat) : Int) = Sx.intOf (c0 j 6) := Int.toNat_of_nonneg (bd (hok0 j hj 6 _ rfl)).1
   show Sx.RowGe [.int true .u8 (Sx.intOf (c0 j 0)), .str true (Sx.strOf (c0 j 1)), .str true (Sx.strOf (c0 j 2)), .str true (Sx.strOf (c0 j 3)), .str true (Sx.strOf (c0 j 4)), .str true (Sx.strOf (c0 j 5)), .int true .u64 (Sx.intOf (c0 j 6)), .int true .i64 (Sx.intOf (c0 j 7))] [.int true .u8 (Sx.intOf (c0 j 0)), .str true (Sx.strOf (c0 j 1)), .str true (Sx.strOf (c0 j 2)), .str true (Sx.strOf (c0 j 3)), .str true (Sx.strOf (c0 j 4)), .str true (Sx.strOf (c0 j 5)), .int true .u64 (((Sx.intOf (c0 j 6)).toNat : Nat) : Int), .int true .i64 (Sx.intOf (c0 j 7))]
   rw [e]
   exact RowGe_refl _ rfl
  | i + 1, hi => simp at hi
 exact Sx.goes_true Try.func8 rfl (by kernel_rfl) (t := 4) (by kernel_rfl) (law_goes n0 k1.data.toList (fun j => (⟨Sx.intOf (c0 j 0), Sx.strOf (c0 j 1), Sx.strOf (c0 j 2), Sx.strOf (c0 j 3), Sx.strOf (c0 j 4), Sx.strOf (c0 j 5), (Sx.intOf (c0 j 6)).toNat, Sx.intOf (c0 j 7)⟩ : El)) (by omega) (fun j hj => by have := bd (hok0 j hj 6 _ rfl); show (Sx.intOf (c0 j 6)).toNat < 18446744073709551616; omega)) hg (fun B => Sx.gv_may (l := [⟨8, n0, blk0, bs0, fun j => zR ((fun j => (⟨Sx.intOf (c0 j 0), Sx.strOf (c0 j 1), Sx.strOf (c0 j 2), Sx.strOf (c0 j 3), Sx.strOf (c0 j 4), Sx.strOf (c0 j 5), (Sx.intOf (c0 j 6)).toNat, Sx.intOf (c0 j 7)⟩ : El)) j)⟩])) (by simp only [Sx.Reps]; exact ⟨_, _, rfl, hval0 _ 0 _ (by decide) rfl rfl rfl, _, _, rfl, by simp only [Sx.Rep], rfl⟩)



set_option maxRecDepth 100000 in
theorem law_lifted (os : Os) (started : os.Started) (H : Type) (enc : TypeId × Value → H) :
  ReturnsInHanded {} Try.checked os 8 .any (Rows.sourceOppositeSpec.pre6 enc Try.prog Try.f8 Rows.sourceOppositeRow.domain false) (Rows.sourceOppositeSpec.post enc Try.prog Try.f8 false true false false) := by
 refine returnsInHanded_of_change_sized (C := Try.checked) own started (by kernel_rfl) Try.func8
  (ChangeSpec.witness6 (enc := enc) (C := Try.checked) false ⟨#[], #[.slice none 0 0, .string ⟨#[]⟩], []⟩ 8 (by kernel_rfl) (by kernel_rfl) (by kernel_rfl) (by kernel_rfl)) ?_
 intro W base args ds gs before hval0 hW hcnd hsz0 _
 have hval : ∀ (j : Nat) t v, Try.f8.params[j]? = some t → args[j]? = some v → Value.okWide Try.prog W .any base t v := hval0
 have hsz1 : (DataW.weightsEach Try.prog (Try.f8.params.toList ++ Rows.sourceOppositeSpec.plain.varTypes Try.prog) (ds ++ gs)).all (· ≤ reachBytes) = true := hsz0
 have hsz : (DataW.weightsEach Try.prog [36, 9] (ds ++ gs)).all (· ≤ reachBytes) = true := by
  have e : Try.f8.params.toList ++ Rows.sourceOppositeSpec.plain.varTypes Try.prog = [36, 9] := by rw [Try.params8]; kernel_rfl
  rw [← e]; exact hsz1
 have hW' := hW
 obtain ⟨p, q, hA0, hV, rfl, hfz, hnd⟩ := hW
 have hA : DataW.TrodAll enc Try.prog W 0 (fun _ => true) true Try.f8.params.toList args.toList ds p := hA0
 rw [Try.params8] at hA hval
 obtain ⟨v0, vs0, d0, ds0, p0, q0, hargs, rfl, rfl, h0, r0⟩ := trodAll_cons hA
 obtain ⟨v1, vs1, d1, ds1, p1, q1, rfl, rfl, rfl, h1, r1⟩ := trodAll_cons r0
 obtain ⟨rfl, rfl, rfl⟩ := trodAll_nil r1
 obtain rfl : args = #[v0, v1] := by cases args; simp_all
 obtain ⟨rfl, rfl⟩ := trodVars_none hV
 rw [List.append_nil] at hsz
 have hk0 := h0
 have hlt0 : ∀ x ∈ p0, x.block < W.heap.size := DataW.TrodAll.lt (trodAll_mk1 h0)
 have hk1 := h1
 have hlt1 : ∀ x ∈ p1, x.block < W.heap.size := DataW.TrodAll.lt (trodAll_mk1 h1)
 obtain ⟨s1, e1, ed1, ep1, w1⟩ := Go.ChangeMaps.open_string Try.underlying9 (hval 1 9 v1 rfl rfl) h1
 have z1 : s1.size ≤ reachBytes := by
  have := sized_string hsz (j := 1) (t := 9) (bytes := s1.data.toList) rfl (by rw [← ed1]; rfl)
  simpa using this
 subst e1
 clear hA0 hval0 hsz0 hsz1
 refine (law_walk v0 (hval 0 36 v0 rfl rfl) h0 hsz s1 z1 W rfl).mono fun e W' ⟨he, bel⟩ => ?_
 subst he
 exact ⟨_, rfl, _, _, _, [], _, [], hW', trodAll_mk1 (shut_bool Try.underlying4 _), (trodAll_cons_mk (Below.trod laidOut (by kernel_rfl) (of_decide_eq_true (by kernel_rfl)) hk0 bel hlt0) (trodAll_cons_mk (Below.trod laidOut (by kernel_rfl) (of_decide_eq_true (by kernel_rfl)) hk1 bel hlt1) trodAll_mk0)), rfl, bel.frame _, fun h => by cases h⟩
theorem law_over : Rows.sourceOppositeRow.holds Try.pinned (OpenSpec.ofChange Rows.sourceOppositeSpec) :=
 OpenClaim.holds_of_wide 8 Try.f8 rfl rfl rfl rfl rfl rfl rfl ⟨rfl, rfl, rfl, rfl, rfl⟩ rfl rfl rfl rfl rfl (by kernel_rfl) Try.func8 (by kernel_rfl)
  (of_decide_eq_true (by kernel_rfl)) (by unfold Func.isWrapper; first | (rw [if_pos (by decide +kernel)]; kernel_rfl) | (rw [if_neg (by decide +kernel)]; exact ⟨rfl, rfl⟩))
  (fun os started H enc _ => law_lifted os started H enc)
/-- THE STATEMENT -/
theorem sourceOpposite_proved : Rows.SourceOppositeSaid := law_over
#print axioms sourceOpposite_proved
end Go.Proofs.Ytdagokpedjfepaa
