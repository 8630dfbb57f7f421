/- What thevenin.Of does, by the engine, and at four closed nets; no conditions. -/
import Derived.Test.YteggchdkjamdmaaGreatRows
import Derived.ProofKit
import Derived.OpenShut
import Derived.KernelRfl
import Derived.SizedLaws
import Derived.Carry
import Derived.ChangeMaps5
import Derived.Test.YteggchdkjamdmaaGreatSm3
namespace Go.Proofs.YteggchdkjamdmaaGreat
open Go.RowKit
set_option linter.unusedVariables false
set_option linter.unusedSimpArgs false
theorem nosuch : Sx.noSuch Tryz.prog = true := by kernel_rfl
theorem mixed : Tryz.prog.follows .mixedOrders = true := by kernel_rfl
noncomputable def gam0 : Sx.Known := fun f => bif Nat.beq f 21 then some Sx.ofBits else (bif Nat.beq f 48 then some Sx.toBits else (none))
theorem gam0_ok : Sx.KnownOk Tryz.prog gam0 := by
  intro f s h
  unfold gam0 at h
  cases h1 : Nat.beq f 21 with
  | true =>
    rw [h1] at h
    cases h
    cases Nat.eq_of_beq_eq_true h1
    exact (Sx.ofBits_is Tryz.prog).callIs Tryz.func21 (by kernel_rfl) (by kernel_rfl) (by kernel_rfl) (by kernel_rfl)
  | false =>
    rw [h1, cond_false] at h
    clear h1
    cases h1 : Nat.beq f 48 with
    | true =>
      rw [h1] at h
      cases h
      cases Nat.eq_of_beq_eq_true h1
      exact (Sx.toBits_is Tryz.prog).callIs Tryz.func48 (by kernel_rfl) (by kernel_rfl) (by kernel_rfl) (by kernel_rfl)
    | false =>
      rw [h1, cond_false] at h
      clear h1
      cases h
theorem gam0_tch : Sx.KnownT gam0 := by
  intro f s h
  unfold gam0 at h
  cases h1 : Nat.beq f 21 with
  | true => rw [h1] at h; cases h; exact Sx.Tch.ofBits
  | false =>
    rw [h1, cond_false] at h
    clear h1
    cases h1 : Nat.beq f 48 with
    | true => rw [h1] at h; cases h; exact Sx.Tch.toBits
    | false =>
      rw [h1, cond_false] at h
      clear h1
      cases h
noncomputable def call0 : Sx.Calls' := Sx.runN Tryz.prog gam0 (Sx.regionC Tryz.prog) 1000 50
theorem call0_ok : Sx.CallOk Tryz.prog call0 := Sx.engineC gam0_ok gam0_tch nosuch mixed 1000 50
set_option maxRecDepth 100000 in
theorem call0_tch : Sx.CallT call0 := Sx.runA_tch gam0_tch (fun _ _ _ h => by cases h) (fun call hc n l fr => Sx.regionC_tch hc n l fr) 50
theorem call0_reg (n : Nat) : Sx.RegionOk Tryz.prog (Sx.regionC Tryz.prog call0 n) n := Sx.runN_regionC gam0_ok gam0_tch nosuch mixed 1000 50 n
noncomputable def ofPre : Code := match Sx.bodyOf Tryz.f36 with | .seq a _ => a | _ => .skip
noncomputable def ofRest : Code := match Sx.bodyOf Tryz.f36 with | .seq _ (.seq _ c) => c | _ => .skip
noncomputable def ofOp (j : Nat) : Oper := match Sx.bodyOf Tryz.f36 with | .seq _ (.seq (.region _ l _) _) => l.toList.getD j default | _ => default
noncomputable def ofD (args : List Sx.AV) : Sx.M Sx.AV :=
  Sx.runDef Tryz.prog call0 (Sx.regionC Tryz.prog call0) 1000 Tryz.f36 Tryz.f61 ofPre 18 61 [] [.tmp 8, .tmp 6, .tmp 7] ofRest (Sx.bodyOf Tryz.f61) args
theorem of_body : Tryz.f36.body = some (.seq ofPre (.seq (.region 1 #[ofOp 0, ofOp 1] false) ofRest)) := by kernel_rfl
theorem ofD_ok {args : List Sx.AV} {v : Sx.AV} {g g' : Sx.G} (h : ofD args g = .done v g') : Sx.CallIs Tryz.prog 36 args v g g' :=
  Sx.runDef_sound call0_ok call0_reg (Sx.NoSuch.of nosuch) (cc := ⟨.value (.tmp 18), #[], #[]⟩) Tryz.func36 of_body (by kernel_rfl) (by kernel_rfl) (by kernel_rfl) (by kernel_rfl) (by kernel_rfl) (by kernel_rfl) rfl rfl Tryz.func61 (by kernel_rfl) h
theorem ofD_tch (args : List Sx.AV) : Sx.Tch (ofD args) := Sx.runDef_tch call0_tch (fun n l fr => Sx.regionC_tch call0_tch n l fr) _ _ _ _ _ _ _ _ _ _ _
noncomputable def exBl : List (Nat × Sx.ABk) := [(2, .mSI .false [([80, 49], 0), ([76, 49], 1), ([67, 49], 2)]), (3, .mSI .false [([97], 0), ([98], 1)]), (4, .mSI .false []), (5, Sx.litB .true 7 [[(.bool .true), (.slc .false .true ⟨.false, 67, 0, 0⟩ 3), (.mp 2), (.slc .false .true ⟨.false, 51, 0, 0⟩ 2), (.mp 3), .nils, (.mp 4)]]), (51, Sx.litB .true 1 [[(.str .false [97])], [(.str .false [98])]]), (67, Sx.litB .true 8 [[(.int .false .u8 8), (.str .false [80, 49]), (.str .false [97]), (.str .false [48]), (.str .false []), (.str .false []), (.flt .false 4607182418800017408), (.int .false .i64 0)], [(.int .false .u8 2), (.str .false [76, 49]), (.str .false [97]), (.str .false [98]), (.str .false []), (.str .false []), (.flt .false 4607182418800017408), (.int .false .i64 0)], [(.int .false .u8 3), (.str .false [67, 49]), (.str .false [98]), (.str .false [48]), (.str .false []), (.str .false []), (.flt .false 4607182418800017408), (.int .false .i64 0)]])]
theorem exBl_low : Sx.lowBl 68 exBl = true := by kernel_rfl
noncomputable def bkBl : List (Nat × Sx.ABk) := [(83, .mSI .false [([80, 49], 0), ([82, 49], 1), ([71, 49], 2)]), (84, .mSI .false [([97], 0)]), (85, .mSI .false []), (86, Sx.litB .true 7 [[(.bool .true), (.slc .false .true ⟨.false, 152, 0, 0⟩ 3), (.mp 83), (.slc .false .true ⟨.false, 115, 0, 0⟩ 1), (.mp 84), .nils, (.mp 85)]]), (115, Sx.litB .true 1 [[(.str .false [97])]]), (152, Sx.litB .true 8 [[(.int .false .u8 8), (.str .false [80, 49]), (.str .false [97]), (.str .false [48]), (.str .false []), (.str .false []), (.flt .false 4607182418800017408), (.int .false .i64 0)], [(.int .false .u8 1), (.str .false [82, 49]), (.str .false [97]), (.str .false [48]), (.str .false []), (.str .false []), (.flt .false 4607182418800017408), (.int .false .i64 0)], [(.int .false .u8 6), (.str .false [71, 49]), (.str .false [97]), (.str .false [48]), (.str .false [97]), (.str .false [48]), (.flt .false 13835058055282163712), (.int .false .i64 0)]])]
theorem bkBl_low : Sx.lowBl 153 bkBl = true := by kernel_rfl
noncomputable def flBl : List (Nat × Sx.ABk) := [(158, .mSI .false [([80, 49], 0), ([82, 49], 1), ([76, 49], 2)]), (159, .mSI .false [([97], 0), ([98], 1)]), (160, .mSI .false []), (161, Sx.litB .true 7 [[(.bool .true), (.slc .false .true ⟨.false, 219, 0, 0⟩ 3), (.mp 158), (.slc .false .true ⟨.false, 205, 0, 0⟩ 2), (.mp 159), .nils, (.mp 160)]]), (205, Sx.litB .true 1 [[(.str .false [97])], [(.str .false [98])]]), (219, Sx.litB .true 8 [[(.int .false .u8 8), (.str .false [80, 49]), (.str .false [97]), (.str .false [48]), (.str .false []), (.str .false []), (.flt .false 4607182418800017408), (.int .false .i64 0)], [(.int .false .u8 1), (.str .false [82, 49]), (.str .false [97]), (.str .false [98]), (.str .false []), (.str .false []), (.flt .false 4607182418800017408), (.int .false .i64 0)], [(.int .false .u8 2), (.str .false [76, 49]), (.str .false [98]), (.str .false [48]), (.str .false []), (.str .false []), (.flt .false 4607182418800017408), (.int .false .i64 0)]])]
theorem flBl_low : Sx.lowBl 220 flBl = true := by kernel_rfl
theorem bk1_run : Sx.sumUp bkBl (ofD [.ptr ⟨false, 86, 0, 0⟩, .str false [80, 49], .flt false 4607182418800017408] ⟨Sx.hpL bkBl, 153, [], [], True⟩) = ((.tup [.cpx false 9223372036854775808 9223372036854775808, .cpx false 13830554455654793216 9223372036854775808, .agg [.int false .i64 0, .int false .i64 (0)]]), Sx.condsR [] True, true) := by kernel_rfl
noncomputable def bk1S : List Sx.AV → Sx.M Sx.AV := Sx.tabS [.ptr ⟨false, 86, 0, 0⟩, .str false [80, 49], .flt false 4607182418800017408] 153 bkBl (Sx.allB []) (.tup [.cpx false 9223372036854775808 9223372036854775808, .cpx false 13830554455654793216 9223372036854775808, .agg [.int false .i64 0, .int false .i64 (0)]])
theorem bk1_ok {args : List Sx.AV} {x : Sx.AV} {g g' : Sx.G} (h : bk1S args g = .done x g') : Sx.CallIs Tryz.prog 36 args x g g' :=
  Sx.tabS_ok (fun v g' h => ofD_ok h) bk1_run (by kernel_rfl) (fun _ _ _ h => h) bkBl_low (by kernel_rfl) h
theorem bk1_tch (args : List Sx.AV) : Sx.Tch (bk1S args) := Sx.tabS_tch _ _ _ _ _ _
theorem fl1_run : Sx.sumUp flBl (ofD [.ptr ⟨false, 161, 0, 0⟩, .str false [80, 49], .flt false 4602678819172646912] ⟨Sx.hpL flBl, 220, [], [], True⟩) = ((.tup [.cpx false 0 0, .cpx false 4607182418800017408 4602678819172646912, .agg [.int false .i64 0, .int false .i64 (0)]]), Sx.condsR [] True, true) := by kernel_rfl
noncomputable def fl1S : List Sx.AV → Sx.M Sx.AV := Sx.tabS [.ptr ⟨false, 161, 0, 0⟩, .str false [80, 49], .flt false 4602678819172646912] 220 flBl (Sx.allB []) (.tup [.cpx false 0 0, .cpx false 4607182418800017408 4602678819172646912, .agg [.int false .i64 0, .int false .i64 (0)]])
theorem fl1_ok {args : List Sx.AV} {x : Sx.AV} {g g' : Sx.G} (h : fl1S args g = .done x g') : Sx.CallIs Tryz.prog 36 args x g g' :=
  Sx.tabS_ok (fun v g' h => ofD_ok h) fl1_run (by kernel_rfl) (fun _ _ _ h => h) flBl_low (by kernel_rfl) h
theorem fl1_tch (args : List Sx.AV) : Sx.Tch (fl1S args) := Sx.tabS_tch _ _ _ _ _ _
theorem fl2_run : Sx.sumUp flBl (ofD [.ptr ⟨false, 161, 0, 0⟩, .str false [80, 49], .flt false 4607182418800017408] ⟨Sx.hpL flBl, 220, [], [], True⟩) = ((.tup [.cpx false 0 0, .cpx false 4607182418800017408 4607182418800017408, .agg [.int false .i64 0, .int false .i64 (0)]]), Sx.condsR [] True, true) := by kernel_rfl
noncomputable def fl2S : List Sx.AV → Sx.M Sx.AV := Sx.tabS [.ptr ⟨false, 161, 0, 0⟩, .str false [80, 49], .flt false 4607182418800017408] 220 flBl (Sx.allB []) (.tup [.cpx false 0 0, .cpx false 4607182418800017408 4607182418800017408, .agg [.int false .i64 0, .int false .i64 (0)]])
theorem fl2_ok {args : List Sx.AV} {x : Sx.AV} {g g' : Sx.G} (h : fl2S args g = .done x g') : Sx.CallIs Tryz.prog 36 args x g g' :=
  Sx.tabS_ok (fun v g' h => ofD_ok h) fl2_run (by kernel_rfl) (fun _ _ _ h => h) flBl_low (by kernel_rfl) h
theorem fl2_tch (args : List Sx.AV) : Sx.Tch (fl2S args) := Sx.tabS_tch _ _ _ _ _ _
theorem fl3_run : Sx.sumUp flBl (ofD [.ptr ⟨false, 161, 0, 0⟩, .str false [80, 49], .flt false 4611686018427387904] ⟨Sx.hpL flBl, 220, [], [], True⟩) = ((.tup [.cpx false 0 0, .cpx false 4607182418800017408 4611686018427387904, .agg [.int false .i64 0, .int false .i64 (0)]]), Sx.condsR [] True, true) := by kernel_rfl
noncomputable def fl3S : List Sx.AV → Sx.M Sx.AV := Sx.tabS [.ptr ⟨false, 161, 0, 0⟩, .str false [80, 49], .flt false 4611686018427387904] 220 flBl (Sx.allB []) (.tup [.cpx false 0 0, .cpx false 4607182418800017408 4611686018427387904, .agg [.int false .i64 0, .int false .i64 (0)]])
theorem fl3_ok {args : List Sx.AV} {x : Sx.AV} {g g' : Sx.G} (h : fl3S args g = .done x g') : Sx.CallIs Tryz.prog 36 args x g g' :=
  Sx.tabS_ok (fun v g' h => ofD_ok h) fl3_run (by kernel_rfl) (fun _ _ _ h => h) flBl_low (by kernel_rfl) h
theorem fl3_tch (args : List Sx.AV) : Sx.Tch (fl3S args) := Sx.tabS_tch _ _ _ _ _ _
end Go.Proofs.YteggchdkjamdmaaGreat
