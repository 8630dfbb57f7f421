/- What the package resonance tells of the examples: awake; no conditions. -/
import Derived.Test.YteggchdkjamdmaaGreatRows
import Derived.ProofKit
import Derived.OpenShut
import Derived.KernelRfl
import Derived.SizedLaws
import Derived.Carry
import Derived.ChangeMaps5
import Derived.Test.YteggchdkjamdmaaGreatResonanceNonePB
namespace Go.Proofs.YteggchdkjamdmaaGreat
open Go.RowKit
set_option linter.unusedVariables false
set_option linter.unusedSimpArgs false
noncomputable def of36 (args : List Sx.AV) : Sx.M Sx.AV := Sx.orS (exS args) (Sx.orS (bk1S args) (Sx.orS (fl1S args) (Sx.orS (fl2S args) (Sx.orS (fl3S args) (ofD args)))))
theorem of36_ok {args : List Sx.AV} {x : Sx.AV} {g g' : Sx.G} (h : of36 args g = .done x g') : Sx.CallIs Tryz.prog 36 args x g g' := by
  unfold of36 at h
  rcases Sx.orS_done h with h | h
  · exact ex_ok h
  rcases Sx.orS_done h with h | h
  · exact bk1_ok h
  rcases Sx.orS_done h with h | h
  · exact fl1_ok h
  rcases Sx.orS_done h with h | h
  · exact fl2_ok h
  rcases Sx.orS_done h with h | h
  · exact fl3_ok h
  exact ofD_ok h
theorem of36_tch (args : List Sx.AV) : Sx.Tch (of36 args) := Sx.orS_tch (ex_tch args) (Sx.orS_tch (bk1_tch args) (Sx.orS_tch (fl1_tch args) (Sx.orS_tch (fl2_tch args) (Sx.orS_tch (fl3_tch args) (ofD_tch args)))))
noncomputable def gam1 : Sx.Known := fun f => bif Nat.beq f 21 then some Sx.ofBits else (bif Nat.beq f 48 then some Sx.toBits else (bif Nat.beq f 36 then some of36 else (none)))
theorem gam1_ok : Sx.KnownOk Tryz.prog gam1 := by
  intro f s h
  unfold gam1 at h
  cases h1 : Nat.beq f 21 with
  | true =>
    rw [h1] at h
    cases h
    cases Nat.eq_of_beq_eq_true h1
    exact (Sx.ofBits_is Tryz.prog).callIs Tryz.func21 (by kernel_rfl) (by kernel_rfl) (by kernel_rfl) (by kernel_rfl)
  | false =>
    rw [h1, cond_false] at h
    clear h1
    cases h1 : Nat.beq f 48 with
    | true =>
      rw [h1] at h
      cases h
      cases Nat.eq_of_beq_eq_true h1
      exact (Sx.toBits_is Tryz.prog).callIs Tryz.func48 (by kernel_rfl) (by kernel_rfl) (by kernel_rfl) (by kernel_rfl)
    | false =>
      rw [h1, cond_false] at h
      clear h1
      cases h1 : Nat.beq f 36 with
      | true =>
        rw [h1] at h
        cases h
        cases Nat.eq_of_beq_eq_true h1
        exact fun args v g g' h => of36_ok h
      | false =>
        rw [h1, cond_false] at h
        clear h1
        cases h
theorem gam1_tch : Sx.KnownT gam1 := by
  intro f s h
  unfold gam1 at h
  cases h1 : Nat.beq f 21 with
  | true => rw [h1] at h; cases h; exact Sx.Tch.ofBits
  | false =>
    rw [h1, cond_false] at h
    clear h1
    cases h1 : Nat.beq f 48 with
    | true => rw [h1] at h; cases h; exact Sx.Tch.toBits
    | false =>
      rw [h1, cond_false] at h
      clear h1
      cases h1 : Nat.beq f 36 with
      | true => rw [h1] at h; cases h; exact of36_tch
      | false =>
        rw [h1, cond_false] at h
        clear h1
        cases h
noncomputable def call1 : Sx.Calls' := Sx.runN Tryz.prog gam1 (Sx.regionC Tryz.prog) 1000 50
theorem call1_ok : Sx.CallOk Tryz.prog call1 := Sx.engineC gam1_ok gam1_tch nosuch mixed 1000 50
set_option maxRecDepth 100000 in
theorem call1_tch : Sx.CallT call1 := Sx.runA_tch gam1_tch (fun _ _ _ h => by cases h) (fun call hc n l fr => Sx.regionC_tch hc n l fr) 50
theorem call1_reg (n : Nat) : Sx.RegionOk Tryz.prog (Sx.regionC Tryz.prog call1 n) n := Sx.runN_regionC gam1_ok gam1_tch nosuch mixed 1000 50 n
theorem fnA_run : Sx.sumUp exBl (call1 14 [.ptr ⟨false, 5, 0, 0⟩, .str false [80, 49], .flt false 4602678819172646912, .flt false 4616189618054758400] ⟨Sx.hpL exBl, 68, [], [], True⟩) = ((.tup [.agg [.raw false 4607182418800017408, .raw false 4607182418800017408, .int false .i64 53], .agg [.int false .i64 0, .int false .i64 0]]), Sx.condsR [] True, true) := by kernel_rfl
noncomputable def fnAS : List Sx.AV → Sx.M Sx.AV := Sx.tabS [.ptr ⟨false, 5, 0, 0⟩, .str false [80, 49], .flt false 4602678819172646912, .flt false 4616189618054758400] 68 exBl (Sx.allB []) (.tup [.agg [.raw false 4607182418800017408, .raw false 4607182418800017408, .int false .i64 53], .agg [.int false .i64 0, .int false .i64 0]])
theorem fnA_ok {args : List Sx.AV} {x : Sx.AV} {g g' : Sx.G} (h : fnAS args g = .done x g') : Sx.CallIs Tryz.prog 14 args x g g' :=
  Sx.tabS_ok (fun v g' h => call1_ok _ _ _ _ _ h) fnA_run (by kernel_rfl) (fun _ _ _ h => h) exBl_low (by kernel_rfl) h
theorem fnA_tch (args : List Sx.AV) : Sx.Tch (fnAS args) := Sx.tabS_tch _ _ _ _ _ _
theorem fnB_run : Sx.sumUp exBl (call1 14 [.ptr ⟨false, 5, 0, 0⟩, .str false [80, 49], .flt false 4611686018427387904, .flt false 4607182418800017408] ⟨Sx.hpL exBl, 68, [], [], True⟩) = ((.tup [.agg [.flt false 0, .flt false 0, .int false .i64 0], .agg [.int false .i64 2, .int false .i64 (-1)]]), Sx.condsR [] True, true) := by kernel_rfl
noncomputable def fnBS : List Sx.AV → Sx.M Sx.AV := Sx.tabS [.ptr ⟨false, 5, 0, 0⟩, .str false [80, 49], .flt false 4611686018427387904, .flt false 4607182418800017408] 68 exBl (Sx.allB []) (.tup [.agg [.flt false 0, .flt false 0, .int false .i64 0], .agg [.int false .i64 2, .int false .i64 (-1)]])
theorem fnB_ok {args : List Sx.AV} {x : Sx.AV} {g g' : Sx.G} (h : fnBS args g = .done x g') : Sx.CallIs Tryz.prog 14 args x g g' :=
  Sx.tabS_ok (fun v g' h => call1_ok _ _ _ _ _ h) fnB_run (by kernel_rfl) (fun _ _ _ h => h) exBl_low (by kernel_rfl) h
theorem fnB_tch (args : List Sx.AV) : Sx.Tch (fnBS args) := Sx.tabS_tch _ _ _ _ _ _
theorem fnC_run : Sx.sumUp exBl (call1 14 [.ptr ⟨false, 5, 0, 0⟩, .str false [80, 49], .flt false 9221120237041090560, .flt false 4607182418800017408] ⟨Sx.hpL exBl, 68, [], [], True⟩) = ((.tup [.agg [.flt false 0, .flt false 0, .int false .i64 0], .agg [.int false .i64 5, .int false .i64 (-1)]]), Sx.condsR [] True, true) := by kernel_rfl
noncomputable def fnCS : List Sx.AV → Sx.M Sx.AV := Sx.tabS [.ptr ⟨false, 5, 0, 0⟩, .str false [80, 49], .flt false 9221120237041090560, .flt false 4607182418800017408] 68 exBl (Sx.allB []) (.tup [.agg [.flt false 0, .flt false 0, .int false .i64 0], .agg [.int false .i64 5, .int false .i64 (-1)]])
theorem fnC_ok {args : List Sx.AV} {x : Sx.AV} {g g' : Sx.G} (h : fnCS args g = .done x g') : Sx.CallIs Tryz.prog 14 args x g g' :=
  Sx.tabS_ok (fun v g' h => call1_ok _ _ _ _ _ h) fnC_run (by kernel_rfl) (fun _ _ _ h => h) exBl_low (by kernel_rfl) h
theorem fnC_tch (args : List Sx.AV) : Sx.Tch (fnCS args) := Sx.tabS_tch _ _ _ _ _ _
theorem fnD_run : Sx.sumUp exBl (call1 14 [.ptr ⟨false, 5, 0, 0⟩, .str false [80, 49], .flt false 4611686018427387904, .flt false 4613937818241073152] ⟨Sx.hpL exBl, 68, [], [], True⟩) = ((.tup [.agg [.flt false 0, .flt false 0, .int false .i64 0], .agg [.int false .i64 370, .int false .i64 (-1)]]), Sx.condsR [] True, true) := by kernel_rfl
noncomputable def fnDS : List Sx.AV → Sx.M Sx.AV := Sx.tabS [.ptr ⟨false, 5, 0, 0⟩, .str false [80, 49], .flt false 4611686018427387904, .flt false 4613937818241073152] 68 exBl (Sx.allB []) (.tup [.agg [.flt false 0, .flt false 0, .int false .i64 0], .agg [.int false .i64 370, .int false .i64 (-1)]])
theorem fnD_ok {args : List Sx.AV} {x : Sx.AV} {g g' : Sx.G} (h : fnDS args g = .done x g') : Sx.CallIs Tryz.prog 14 args x g g' :=
  Sx.tabS_ok (fun v g' h => call1_ok _ _ _ _ _ h) fnD_run (by kernel_rfl) (fun _ _ _ h => h) exBl_low (by kernel_rfl) h
theorem fnD_tch (args : List Sx.AV) : Sx.Tch (fnDS args) := Sx.tabS_tch _ _ _ _ _ _
theorem fnE_run : Sx.sumUp exBl (call1 14 [.ptr ⟨false, 5, 0, 0⟩, .str false [82, 49], .flt false 4607182418800017408, .flt false 4611686018427387904] ⟨Sx.hpL exBl, 68, [], [], True⟩) = ((.tup [.agg [.flt false 0, .flt false 0, .int false .i64 0], .agg [.int false .i64 10, .int false .i64 (-1)]]), Sx.condsR [] True, true) := by kernel_rfl
noncomputable def fnES : List Sx.AV → Sx.M Sx.AV := Sx.tabS [.ptr ⟨false, 5, 0, 0⟩, .str false [82, 49], .flt false 4607182418800017408, .flt false 4611686018427387904] 68 exBl (Sx.allB []) (.tup [.agg [.flt false 0, .flt false 0, .int false .i64 0], .agg [.int false .i64 10, .int false .i64 (-1)]])
theorem fnE_ok {args : List Sx.AV} {x : Sx.AV} {g g' : Sx.G} (h : fnES args g = .done x g') : Sx.CallIs Tryz.prog 14 args x g g' :=
  Sx.tabS_ok (fun v g' h => call1_ok _ _ _ _ _ h) fnE_run (by kernel_rfl) (fun _ _ _ h => h) exBl_low (by kernel_rfl) h
theorem fnE_tch (args : List Sx.AV) : Sx.Tch (fnES args) := Sx.tabS_tch _ _ _ _ _ _
theorem fnF_run : Sx.sumUp exBl (call1 14 [.ptr ⟨false, 5, 0, 0⟩, .str false [76, 49], .flt false 4607182418800017408, .flt false 4611686018427387904] ⟨Sx.hpL exBl, 68, [], [], True⟩) = ((.tup [.agg [.flt false 0, .flt false 0, .int false .i64 0], .agg [.int false .i64 2, .int false .i64 (-1)]]), Sx.condsR [] True, true) := by kernel_rfl
noncomputable def fnFS : List Sx.AV → Sx.M Sx.AV := Sx.tabS [.ptr ⟨false, 5, 0, 0⟩, .str false [76, 49], .flt false 4607182418800017408, .flt false 4611686018427387904] 68 exBl (Sx.allB []) (.tup [.agg [.flt false 0, .flt false 0, .int false .i64 0], .agg [.int false .i64 2, .int false .i64 (-1)]])
theorem fnF_ok {args : List Sx.AV} {x : Sx.AV} {g g' : Sx.G} (h : fnFS args g = .done x g') : Sx.CallIs Tryz.prog 14 args x g g' :=
  Sx.tabS_ok (fun v g' h => call1_ok _ _ _ _ _ h) fnF_run (by kernel_rfl) (fun _ _ _ h => h) exBl_low (by kernel_rfl) h
theorem fnF_tch (args : List Sx.AV) : Sx.Tch (fnFS args) := Sx.tabS_tch _ _ _ _ _ _
theorem arA_run : Sx.sumUp exBl (call1 31 [.ptr ⟨false, 5, 0, 0⟩, .str false [80, 49], .flt false 4607182418800017408, .flt false 4607182418800017408, .flt false 4611686018427387904] ⟨Sx.hpL exBl, 68, [], [], True⟩) = ((.tup [.agg [.flt false 0, .flt false 0, .flt false 0, .flt false 0], .agg [.int false .i64 2, .int false .i64 (-1)]]), Sx.condsR [] True, true) := by kernel_rfl
noncomputable def arAS : List Sx.AV → Sx.M Sx.AV := Sx.tabS [.ptr ⟨false, 5, 0, 0⟩, .str false [80, 49], .flt false 4607182418800017408, .flt false 4607182418800017408, .flt false 4611686018427387904] 68 exBl (Sx.allB []) (.tup [.agg [.flt false 0, .flt false 0, .flt false 0, .flt false 0], .agg [.int false .i64 2, .int false .i64 (-1)]])
theorem arA_ok {args : List Sx.AV} {x : Sx.AV} {g g' : Sx.G} (h : arAS args g = .done x g') : Sx.CallIs Tryz.prog 31 args x g g' :=
  Sx.tabS_ok (fun v g' h => call1_ok _ _ _ _ _ h) arA_run (by kernel_rfl) (fun _ _ _ h => h) exBl_low (by kernel_rfl) h
theorem arA_tch (args : List Sx.AV) : Sx.Tch (arAS args) := Sx.tabS_tch _ _ _ _ _ _
theorem arB_run : Sx.sumUp exBl (call1 31 [.ptr ⟨false, 5, 0, 0⟩, .str false [80, 49], .flt false 4611686018427387904, .flt false 4607182418800017408, .flt false 4611686018427387904] ⟨Sx.hpL exBl, 68, [], [], True⟩) = ((.tup [.agg [.flt false 0, .flt false 0, .flt false 0, .flt false 0], .agg [.int false .i64 2, .int false .i64 (-1)]]), Sx.condsR [] True, true) := by kernel_rfl
noncomputable def arBS : List Sx.AV → Sx.M Sx.AV := Sx.tabS [.ptr ⟨false, 5, 0, 0⟩, .str false [80, 49], .flt false 4611686018427387904, .flt false 4607182418800017408, .flt false 4611686018427387904] 68 exBl (Sx.allB []) (.tup [.agg [.flt false 0, .flt false 0, .flt false 0, .flt false 0], .agg [.int false .i64 2, .int false .i64 (-1)]])
theorem arB_ok {args : List Sx.AV} {x : Sx.AV} {g g' : Sx.G} (h : arBS args g = .done x g') : Sx.CallIs Tryz.prog 31 args x g g' :=
  Sx.tabS_ok (fun v g' h => call1_ok _ _ _ _ _ h) arB_run (by kernel_rfl) (fun _ _ _ h => h) exBl_low (by kernel_rfl) h
theorem arB_tch (args : List Sx.AV) : Sx.Tch (arBS args) := Sx.tabS_tch _ _ _ _ _ _
theorem arC_run : Sx.sumUp flBl (call1 31 [.ptr ⟨false, 161, 0, 0⟩, .str false [80, 49], .flt false 4607182418800017408, .flt false 4602678819172646912, .flt false 4611686018427387904] ⟨Sx.hpL flBl, 220, [], [], True⟩) = ((.tup [.agg [.flt false 0, .flt false 0, .flt false 0, .flt false 0], .agg [.int false .i64 380, .int false .i64 (-1)]]), Sx.condsR [] True, true) := by kernel_rfl
noncomputable def arCS : List Sx.AV → Sx.M Sx.AV := Sx.tabS [.ptr ⟨false, 161, 0, 0⟩, .str false [80, 49], .flt false 4607182418800017408, .flt false 4602678819172646912, .flt false 4611686018427387904] 220 flBl (Sx.allB []) (.tup [.agg [.flt false 0, .flt false 0, .flt false 0, .flt false 0], .agg [.int false .i64 380, .int false .i64 (-1)]])
theorem arC_ok {args : List Sx.AV} {x : Sx.AV} {g g' : Sx.G} (h : arCS args g = .done x g') : Sx.CallIs Tryz.prog 31 args x g g' :=
  Sx.tabS_ok (fun v g' h => call1_ok _ _ _ _ _ h) arC_run (by kernel_rfl) (fun _ _ _ h => h) flBl_low (by kernel_rfl) h
theorem arC_tch (args : List Sx.AV) : Sx.Tch (arCS args) := Sx.tabS_tch _ _ _ _ _ _
theorem reA_run : Sx.sumUp exBl (call1 16 [.ptr ⟨false, 5, 0, 0⟩, .str false [80, 49], .flt false 0] ⟨Sx.hpL exBl, 68, [], [], True⟩) = ((.tup [.flt false 0, .agg [.int false .i64 2, .int false .i64 (-1)]]), Sx.condsR [] True, true) := by kernel_rfl
noncomputable def reAS : List Sx.AV → Sx.M Sx.AV := Sx.tabS [.ptr ⟨false, 5, 0, 0⟩, .str false [80, 49], .flt false 0] 68 exBl (Sx.allB []) (.tup [.flt false 0, .agg [.int false .i64 2, .int false .i64 (-1)]])
theorem reA_ok {args : List Sx.AV} {x : Sx.AV} {g g' : Sx.G} (h : reAS args g = .done x g') : Sx.CallIs Tryz.prog 16 args x g g' :=
  Sx.tabS_ok (fun v g' h => call1_ok _ _ _ _ _ h) reA_run (by kernel_rfl) (fun _ _ _ h => h) exBl_low (by kernel_rfl) h
theorem reA_tch (args : List Sx.AV) : Sx.Tch (reAS args) := Sx.tabS_tch _ _ _ _ _ _
theorem xcA_run : Sx.sumUp bkBl (call1 27 [.ptr ⟨false, 86, 0, 0⟩, .str false [80, 49], .flt false 4607182418800017408] ⟨Sx.hpL bkBl, 153, [], [], True⟩) = ((.tup [.flt false 13830554455654793216, .agg [.int false .i64 0, .int false .i64 0]]), Sx.condsR [] True, true) := by kernel_rfl
noncomputable def xcAS : List Sx.AV → Sx.M Sx.AV := Sx.tabS [.ptr ⟨false, 86, 0, 0⟩, .str false [80, 49], .flt false 4607182418800017408] 153 bkBl (Sx.allB []) (.tup [.flt false 13830554455654793216, .agg [.int false .i64 0, .int false .i64 0]])
theorem xcA_ok {args : List Sx.AV} {x : Sx.AV} {g g' : Sx.G} (h : xcAS args g = .done x g') : Sx.CallIs Tryz.prog 27 args x g g' :=
  Sx.tabS_ok (fun v g' h => call1_ok _ _ _ _ _ h) xcA_run (by kernel_rfl) (fun _ _ _ h => h) bkBl_low (by kernel_rfl) h
theorem xcA_tch (args : List Sx.AV) : Sx.Tch (xcAS args) := Sx.tabS_tch _ _ _ _ _ _
noncomputable def s14 (args : List Sx.AV) : Sx.M Sx.AV := Sx.orS (fnAS args) (Sx.orS (fnBS args) (Sx.orS (fnCS args) (Sx.orS (fnDS args) (Sx.orS (fnES args) (Sx.orS (fnFS args) (call1 14 args))))))
theorem s14_ok {args : List Sx.AV} {x : Sx.AV} {g g' : Sx.G} (h : s14 args g = .done x g') : Sx.CallIs Tryz.prog 14 args x g g' := by
  unfold s14 at h
  rcases Sx.orS_done h with h | h
  · exact fnA_ok h
  rcases Sx.orS_done h with h | h
  · exact fnB_ok h
  rcases Sx.orS_done h with h | h
  · exact fnC_ok h
  rcases Sx.orS_done h with h | h
  · exact fnD_ok h
  rcases Sx.orS_done h with h | h
  · exact fnE_ok h
  rcases Sx.orS_done h with h | h
  · exact fnF_ok h
  exact call1_ok _ _ _ _ _ h
theorem s14_tch (args : List Sx.AV) : Sx.Tch (s14 args) := Sx.orS_tch (fnA_tch args) (Sx.orS_tch (fnB_tch args) (Sx.orS_tch (fnC_tch args) (Sx.orS_tch (fnD_tch args) (Sx.orS_tch (fnE_tch args) (Sx.orS_tch (fnF_tch args) (call1_tch 14 args))))))
noncomputable def s31 (args : List Sx.AV) : Sx.M Sx.AV := Sx.orS (arAS args) (Sx.orS (arBS args) (Sx.orS (arCS args) (call1 31 args)))
theorem s31_ok {args : List Sx.AV} {x : Sx.AV} {g g' : Sx.G} (h : s31 args g = .done x g') : Sx.CallIs Tryz.prog 31 args x g g' := by
  unfold s31 at h
  rcases Sx.orS_done h with h | h
  · exact arA_ok h
  rcases Sx.orS_done h with h | h
  · exact arB_ok h
  rcases Sx.orS_done h with h | h
  · exact arC_ok h
  exact call1_ok _ _ _ _ _ h
theorem s31_tch (args : List Sx.AV) : Sx.Tch (s31 args) := Sx.orS_tch (arA_tch args) (Sx.orS_tch (arB_tch args) (Sx.orS_tch (arC_tch args) (call1_tch 31 args)))
noncomputable def s16 (args : List Sx.AV) : Sx.M Sx.AV := Sx.orS (reAS args) (call1 16 args)
theorem s16_ok {args : List Sx.AV} {x : Sx.AV} {g g' : Sx.G} (h : s16 args g = .done x g') : Sx.CallIs Tryz.prog 16 args x g g' := by
  unfold s16 at h
  rcases Sx.orS_done h with h | h
  · exact reA_ok h
  exact call1_ok _ _ _ _ _ h
theorem s16_tch (args : List Sx.AV) : Sx.Tch (s16 args) := Sx.orS_tch (reA_tch args) (call1_tch 16 args)
noncomputable def s27 (args : List Sx.AV) : Sx.M Sx.AV := Sx.orS (xcAS args) (call1 27 args)
theorem s27_ok {args : List Sx.AV} {x : Sx.AV} {g g' : Sx.G} (h : s27 args g = .done x g') : Sx.CallIs Tryz.prog 27 args x g g' := by
  unfold s27 at h
  rcases Sx.orS_done h with h | h
  · exact xcA_ok h
  exact call1_ok _ _ _ _ _ h
theorem s27_tch (args : List Sx.AV) : Sx.Tch (s27 args) := Sx.orS_tch (xcA_tch args) (call1_tch 27 args)
noncomputable def gam2 : Sx.Known := fun f => bif Nat.beq f 21 then some Sx.ofBits else (bif Nat.beq f 48 then some Sx.toBits else (bif Nat.beq f 36 then some of36 else (bif Nat.beq f 14 then some s14 else (bif Nat.beq f 31 then some s31 else (bif Nat.beq f 16 then some s16 else (bif Nat.beq f 27 then some s27 else (none)))))))
theorem gam2_ok : Sx.KnownOk Tryz.prog gam2 := by
  intro f s h
  unfold gam2 at h
  cases h1 : Nat.beq f 21 with
  | true =>
    rw [h1] at h
    cases h
    cases Nat.eq_of_beq_eq_true h1
    exact (Sx.ofBits_is Tryz.prog).callIs Tryz.func21 (by kernel_rfl) (by kernel_rfl) (by kernel_rfl) (by kernel_rfl)
  | false =>
    rw [h1, cond_false] at h
    clear h1
    cases h1 : Nat.beq f 48 with
    | true =>
      rw [h1] at h
      cases h
      cases Nat.eq_of_beq_eq_true h1
      exact (Sx.toBits_is Tryz.prog).callIs Tryz.func48 (by kernel_rfl) (by kernel_rfl) (by kernel_rfl) (by kernel_rfl)
    | false =>
      rw [h1, cond_false] at h
      clear h1
      cases h1 : Nat.beq f 36 with
      | true =>
        rw [h1] at h
        cases h
        cases Nat.eq_of_beq_eq_true h1
        exact fun args v g g' h => of36_ok h
      | false =>
        rw [h1, cond_false] at h
        clear h1
        cases h1 : Nat.beq f 14 with
        | true =>
          rw [h1] at h
          cases h
          cases Nat.eq_of_beq_eq_true h1
          exact fun args v g g' h => s14_ok h
        | false =>
          rw [h1, cond_false] at h
          clear h1
          cases h1 : Nat.beq f 31 with
          | true =>
            rw [h1] at h
            cases h
            cases Nat.eq_of_beq_eq_true h1
            exact fun args v g g' h => s31_ok h
          | false =>
            rw [h1, cond_false] at h
            clear h1
            cases h1 : Nat.beq f 16 with
            | true =>
              rw [h1] at h
              cases h
              cases Nat.eq_of_beq_eq_true h1
              exact fun args v g g' h => s16_ok h
            | false =>
              rw [h1, cond_false] at h
              clear h1
              cases h1 : Nat.beq f 27 with
              | true =>
                rw [h1] at h
                cases h
                cases Nat.eq_of_beq_eq_true h1
                exact fun args v g g' h => s27_ok h
              | false =>
                rw [h1, cond_false] at h
                clear h1
                cases h
theorem gam2_tch : Sx.KnownT gam2 := by
  intro f s h
  unfold gam2 at h
  cases h1 : Nat.beq f 21 with
  | true => rw [h1] at h; cases h; exact Sx.Tch.ofBits
  | false =>
    rw [h1, cond_false] at h
    clear h1
    cases h1 : Nat.beq f 48 with
    | true => rw [h1] at h; cases h; exact Sx.Tch.toBits
    | false =>
      rw [h1, cond_false] at h
      clear h1
      cases h1 : Nat.beq f 36 with
      | true => rw [h1] at h; cases h; exact of36_tch
      | false =>
        rw [h1, cond_false] at h
        clear h1
        cases h1 : Nat.beq f 14 with
        | true => rw [h1] at h; cases h; exact s14_tch
        | false =>
          rw [h1, cond_false] at h
          clear h1
          cases h1 : Nat.beq f 31 with
          | true => rw [h1] at h; cases h; exact s31_tch
          | false =>
            rw [h1, cond_false] at h
            clear h1
            cases h1 : Nat.beq f 16 with
            | true => rw [h1] at h; cases h; exact s16_tch
            | false =>
              rw [h1, cond_false] at h
              clear h1
              cases h1 : Nat.beq f 27 with
              | true => rw [h1] at h; cases h; exact s27_tch
              | false =>
                rw [h1, cond_false] at h
                clear h1
                cases h
noncomputable def call2 : Sx.Calls' := Sx.runN Tryz.prog gam2 (Sx.regionC Tryz.prog) 1000 50
theorem call2_ok : Sx.CallOk Tryz.prog call2 := Sx.engineC gam2_ok gam2_tch nosuch mixed 1000 50
set_option maxRecDepth 100000 in
theorem call2_tch : Sx.CallT call2 := Sx.runA_tch gam2_tch (fun _ _ _ h => by cases h) (fun call hc n l fr => Sx.regionC_tch hc n l fr) 50
theorem call2_reg (n : Nat) : Sx.RegionOk Tryz.prog (Sx.regionC Tryz.prog call2 n) n := Sx.runN_regionC gam2_ok gam2_tch nosuch mixed 1000 50 n
theorem aw_run : Sx.sumUp [] (call2 19 [] ⟨Sx.hpL [], 0, [], [], True⟩) = (.bool true, Sx.condsR [] True, true) := by kernel_rfl
noncomputable def awS : List Sx.AV → Sx.M Sx.AV := Sx.tabS [] 0 [] (Sx.allB []) (.bool true)
theorem aw_ok {args : List Sx.AV} {x : Sx.AV} {g g' : Sx.G} (h : awS args g = .done x g') : Sx.CallIs Tryz.prog 19 args x g g' :=
  Sx.tabS_ok (fun v g' h => call2_ok _ _ _ _ _ h) aw_run (by kernel_rfl) (fun _ _ _ h => h) (by kernel_rfl) (by kernel_rfl) h
theorem aw_tch (args : List Sx.AV) : Sx.Tch (awS args) := Sx.tabS_tch _ _ _ _ _ _
noncomputable def gam3 : Sx.Known := fun f => bif Nat.beq f 21 then some Sx.ofBits else (bif Nat.beq f 48 then some Sx.toBits else (bif Nat.beq f 36 then some of36 else (bif Nat.beq f 14 then some s14 else (bif Nat.beq f 31 then some s31 else (bif Nat.beq f 16 then some s16 else (bif Nat.beq f 27 then some s27 else (bif Nat.beq f 19 then some awS else (none))))))))
theorem gam3_ok : Sx.KnownOk Tryz.prog gam3 := by
  intro f s h
  unfold gam3 at h
  cases h1 : Nat.beq f 21 with
  | true =>
    rw [h1] at h
    cases h
    cases Nat.eq_of_beq_eq_true h1
    exact (Sx.ofBits_is Tryz.prog).callIs Tryz.func21 (by kernel_rfl) (by kernel_rfl) (by kernel_rfl) (by kernel_rfl)
  | false =>
    rw [h1, cond_false] at h
    clear h1
    cases h1 : Nat.beq f 48 with
    | true =>
      rw [h1] at h
      cases h
      cases Nat.eq_of_beq_eq_true h1
      exact (Sx.toBits_is Tryz.prog).callIs Tryz.func48 (by kernel_rfl) (by kernel_rfl) (by kernel_rfl) (by kernel_rfl)
    | false =>
      rw [h1, cond_false] at h
      clear h1
      cases h1 : Nat.beq f 36 with
      | true =>
        rw [h1] at h
        cases h
        cases Nat.eq_of_beq_eq_true h1
        exact fun args v g g' h => of36_ok h
      | false =>
        rw [h1, cond_false] at h
        clear h1
        cases h1 : Nat.beq f 14 with
        | true =>
          rw [h1] at h
          cases h
          cases Nat.eq_of_beq_eq_true h1
          exact fun args v g g' h => s14_ok h
        | false =>
          rw [h1, cond_false] at h
          clear h1
          cases h1 : Nat.beq f 31 with
          | true =>
            rw [h1] at h
            cases h
            cases Nat.eq_of_beq_eq_true h1
            exact fun args v g g' h => s31_ok h
          | false =>
            rw [h1, cond_false] at h
            clear h1
            cases h1 : Nat.beq f 16 with
            | true =>
              rw [h1] at h
              cases h
              cases Nat.eq_of_beq_eq_true h1
              exact fun args v g g' h => s16_ok h
            | false =>
              rw [h1, cond_false] at h
              clear h1
              cases h1 : Nat.beq f 27 with
              | true =>
                rw [h1] at h
                cases h
                cases Nat.eq_of_beq_eq_true h1
                exact fun args v g g' h => s27_ok h
              | false =>
                rw [h1, cond_false] at h
                clear h1
                cases h1 : Nat.beq f 19 with
                | true =>
                  rw [h1] at h
                  cases h
                  cases Nat.eq_of_beq_eq_true h1
                  exact fun args v g g' h => aw_ok h
                | false =>
                  rw [h1, cond_false] at h
                  clear h1
                  cases h
theorem gam3_tch : Sx.KnownT gam3 := by
  intro f s h
  unfold gam3 at h
  cases h1 : Nat.beq f 21 with
  | true => rw [h1] at h; cases h; exact Sx.Tch.ofBits
  | false =>
    rw [h1, cond_false] at h
    clear h1
    cases h1 : Nat.beq f 48 with
    | true => rw [h1] at h; cases h; exact Sx.Tch.toBits
    | false =>
      rw [h1, cond_false] at h
      clear h1
      cases h1 : Nat.beq f 36 with
      | true => rw [h1] at h; cases h; exact of36_tch
      | false =>
        rw [h1, cond_false] at h
        clear h1
        cases h1 : Nat.beq f 14 with
        | true => rw [h1] at h; cases h; exact s14_tch
        | false =>
          rw [h1, cond_false] at h
          clear h1
          cases h1 : Nat.beq f 31 with
          | true => rw [h1] at h; cases h; exact s31_tch
          | false =>
            rw [h1, cond_false] at h
            clear h1
            cases h1 : Nat.beq f 16 with
            | true => rw [h1] at h; cases h; exact s16_tch
            | false =>
              rw [h1, cond_false] at h
              clear h1
              cases h1 : Nat.beq f 27 with
              | true => rw [h1] at h; cases h; exact s27_tch
              | false =>
                rw [h1, cond_false] at h
                clear h1
                cases h1 : Nat.beq f 19 with
                | true => rw [h1] at h; cases h; exact aw_tch
                | false =>
                  rw [h1, cond_false] at h
                  clear h1
                  cases h
noncomputable def call3 : Sx.Calls' := Sx.runN Tryz.prog gam3 (Sx.regionC Tryz.prog) 1000 50
theorem call3_ok : Sx.CallOk Tryz.prog call3 := Sx.engineC gam3_ok gam3_tch nosuch mixed 1000 50
set_option maxRecDepth 100000 in
theorem call3_tch : Sx.CallT call3 := Sx.runA_tch gam3_tch (fun _ _ _ h => by cases h) (fun call hc n l fr => Sx.regionC_tch hc n l fr) 50
theorem call3_reg (n : Nat) : Sx.RegionOk Tryz.prog (Sx.regionC Tryz.prog call3 n) n := Sx.runN_regionC gam3_ok gam3_tch nosuch mixed 1000 50 n
end Go.Proofs.YteggchdkjamdmaaGreat
