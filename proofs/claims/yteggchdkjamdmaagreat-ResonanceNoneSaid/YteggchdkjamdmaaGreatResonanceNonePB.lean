/- What thevenin.Of tells of the example net, whatever the omega; no conditions. -/
import Derived.Test.YteggchdkjamdmaaGreatRows
import Derived.ProofKit
import Derived.OpenShut
import Derived.KernelRfl
import Derived.SizedLaws
import Derived.Carry
import Derived.ChangeMaps5
import Derived.Test.YteggchdkjamdmaaGreatResonanceNonePA
namespace Go.Proofs.YteggchdkjamdmaaGreat
open Go.RowKit
set_option linter.unusedVariables false
set_option linter.unusedSimpArgs false
noncomputable def exPath : List Bool := [false, false, false, false, false, false, false, false, false, false, false, true, false, true, false, true, false, true, false, true, false, false, false, false, true, false, false, true, false, false, false, false, false, false, false, false, false, true, false, true, false, true, false, true, false, true, false, false, false, false, true, false, false, true, false, true, false, true, false, true, false, true, false, true, false, true, false, true, false, false, false, false, true, true, true, false, true, false, true, false, false, true, false, false, true, false, true, false, false, true, false, false, false, false, false, false, false, false, false, true, false, true, false, true, false, true, false, true, false, false, false, false, true, false, false, true, false, true, false, true, false, true, false, true, false, true, false, true, false, true, false, false, false, false, true, true, true, false, true, false, true, false, false, true, false, false, true, false, true, false, false, true, false, true, true, true, false]
noncomputable def exT (w : Nat) : (Nat × Nat) × (Nat × Nat) × List (Bool × Bool) :=
  let x0 := Sx.fmul w 4607182418800017408
  let x1 := Sx.fdiv 4607182418800017408 x0
  let x2 := Sx.fneg x1
  let x3 := Sx.fadd 0 x2
  let x4 := Sx.fdiv 0 x3
  let x5 := Sx.fmul 0 x4
  let x6 := Sx.fsub 0 x2
  let x7 := Sx.fadd x5 x6
  let x8 := Sx.fmul 0 x4
  let x9 := Sx.fadd x8 x3
  let x10 := Sx.fdiv x7 x9
  let x11 := Sx.fmul x10 0
  let x12 := Sx.fmul x6 x4
  let x13 := Sx.fsub x12 0
  let x14 := Sx.fdiv x13 x9
  let x15 := Sx.fmul x14 0
  let x16 := Sx.fsub x11 x15
  let x17 := Sx.fsub 0 x16
  let x18 := Sx.fmul x10 0
  let x19 := Sx.fmul x14 x6
  let x20 := Sx.fsub x18 x19
  let x21 := Sx.fsub 0 x20
  let x22 := Sx.fadd x3 x0
  let x23 := Sx.fmul x10 x6
  let x24 := Sx.fmul x14 0
  let x25 := Sx.fadd x23 x24
  let x26 := Sx.fsub x22 x25
  let x27 := Sx.fdiv x21 x26
  let x28 := Sx.fmul x17 x27
  let x29 := Sx.fadd x11 x15
  let x30 := Sx.fsub 0 x29
  let x31 := Sx.fadd x28 x30
  let x32 := Sx.fmul x21 x27
  let x33 := Sx.fadd x32 x26
  let x34 := Sx.fdiv x31 x33
  let x35 := Sx.fmul 0 x34
  let x36 := Sx.fmul x30 x27
  let x37 := Sx.fsub x36 x17
  let x38 := Sx.fdiv x37 x33
  let x39 := Sx.fmul x6 x38
  let x40 := Sx.fsub x35 x39
  let x41 := Sx.fsub 0 x40
  let x42 := Sx.fmul x41 x4
  let x43 := Sx.fmul 0 x38
  let x44 := Sx.fmul x6 x34
  let x45 := Sx.fadd x43 x44
  let x46 := Sx.fsub 0 x45
  let x47 := Sx.fadd x42 x46
  let x48 := Sx.fdiv x47 x9
  let x49 := Sx.fsub x48 0
  let x50 := Sx.fmul x46 x4
  let x51 := Sx.fsub x50 x41
  let x52 := Sx.fdiv x51 x9
  let x53 := Sx.fsub x52 0
  let x54 := Sx.fmul x10 4607182418800017408
  let x55 := Sx.fsub x54 x15
  let x56 := Sx.fsub 0 x55
  let x57 := Sx.fmul x56 x27
  let x58 := Sx.fmul x14 4607182418800017408
  let x59 := Sx.fadd x11 x58
  let x60 := Sx.fsub 0 x59
  let x61 := Sx.fadd x57 x60
  let x62 := Sx.fdiv x61 x33
  let x63 := Sx.fmul 0 x62
  let x64 := Sx.fmul x60 x27
  let x65 := Sx.fsub x64 x56
  let x66 := Sx.fdiv x65 x33
  let x67 := Sx.fmul x6 x66
  let x68 := Sx.fsub x63 x67
  let x69 := Sx.fsub 4607182418800017408 x68
  let x70 := Sx.fmul x69 x4
  let x71 := Sx.fmul 0 x66
  let x72 := Sx.fmul x6 x62
  let x73 := Sx.fadd x71 x72
  let x74 := Sx.fsub 0 x73
  let x75 := Sx.fadd x70 x74
  let x76 := Sx.fdiv x75 x9
  let x77 := Sx.fsub x76 0
  let x78 := Sx.fmul x74 x4
  let x79 := Sx.fsub x78 x69
  let x80 := Sx.fdiv x79 x9
  let x81 := Sx.fsub x80 0
  let x82 := Sx.fabs w
  let x83 := Sx.fgt x82 9218868437227405311
  let x84 := Sx.feq w w
  let x85 := Bool.not x84
  let x86 := Sx.fle w 0
  let x87 := Sx.fsub w w
  let x88 := Sx.feq x87 0
  let x89 := Bool.not x88
  let x90 := Sx.fgt w 0
  let x91 := Bool.not x90
  let x92 := Sx.fsub x0 x0
  let x93 := Sx.feq x92 0
  let x94 := Bool.not x93
  let x95 := Sx.fsub x2 x2
  let x96 := Sx.feq x95 0
  let x97 := Bool.not x96
  let x98 := Sx.fsub x3 x3
  let x99 := Sx.feq x98 0
  let x100 := Bool.not x99
  let x101 := Sx.fsub x6 x6
  let x102 := Sx.feq x101 0
  let x103 := Bool.not x102
  let x104 := Sx.fsub x22 x22
  let x105 := Sx.feq x104 0
  let x106 := Bool.not x105
  let x107 := Sx.fabs x3
  let x108 := Sx.fadd 0 x107
  let x109 := Sx.fgt x108 x108
  let x110 := Sx.feq x3 0
  let x111 := Sx.fabs x6
  let x112 := Sx.fadd 0 x111
  let x113 := Sx.fgt x112 x108
  let x114 := Sx.fge 0 x107
  let x115 := Sx.fsub x10 x10
  let x116 := Sx.feq x115 0
  let x117 := Sx.fsub x14 x14
  let x118 := Sx.feq x117 0
  let x119 := Sx.fsub x21 x21
  let x120 := Sx.feq x119 0
  let x121 := Sx.fsub x26 x26
  let x122 := Sx.feq x121 0
  let x123 := Bool.not x122
  let x124 := Sx.feq x21 0
  let x125 := Sx.fabs x21
  let x126 := Sx.fabs x26
  let x127 := Sx.fadd x125 x126
  let x128 := Sx.fgt x127 x127
  let x129 := Sx.feq x26 0
  let x130 := Sx.fsub x17 x17
  let x131 := Sx.feq x130 0
  let x132 := Sx.fge x125 x126
  let x133 := Sx.fsub x30 x30
  let x134 := Sx.feq x133 0
  let x135 := Bool.not x134
  let x136 := Sx.fsub x34 x34
  let x137 := Sx.feq x136 0
  let x138 := Sx.fsub x38 x38
  let x139 := Sx.feq x138 0
  let x140 := Bool.not x139
  let x141 := Sx.fsub x41 x41
  let x142 := Sx.feq x141 0
  let x143 := Sx.fsub x46 x46
  let x144 := Sx.feq x143 0
  let x145 := Bool.not x144
  let x146 := Sx.fsub x48 x48
  let x147 := Sx.feq x146 0
  let x148 := Sx.fsub x52 x52
  let x149 := Sx.feq x148 0
  let x150 := Bool.not x149
  let x151 := Sx.fsub x56 x56
  let x152 := Sx.feq x151 0
  let x153 := Sx.fsub x60 x60
  let x154 := Sx.feq x153 0
  let x155 := Bool.not x154
  let x156 := Sx.fsub x62 x62
  let x157 := Sx.feq x156 0
  let x158 := Sx.fsub x66 x66
  let x159 := Sx.feq x158 0
  let x160 := Bool.not x159
  let x161 := Sx.fsub x69 x69
  let x162 := Sx.feq x161 0
  let x163 := Sx.fsub x74 x74
  let x164 := Sx.feq x163 0
  let x165 := Bool.not x164
  let x166 := Sx.fsub x76 x76
  let x167 := Sx.feq x166 0
  let x168 := Sx.fsub x80 x80
  let x169 := Sx.feq x168 0
  let x170 := Bool.not x169
  let x171 := Sx.fsub x49 x49
  let x172 := Sx.feq x171 0
  let x173 := Sx.fsub x53 x53
  let x174 := Sx.feq x173 0
  let x175 := Sx.fsub x77 x77
  let x176 := Sx.feq x175 0
  let x177 := Sx.fsub x81 x81
  let x178 := Sx.feq x177 0
  let x179 := Bool.not x178
  ((x49, x53), (x77, x81), [(x83, false), (x85, false), (x86, false), (x89, false), (x91, false), (x83, false), (x85, false), (x86, false), (x89, false), (x91, false), (x94, false), (true, true), (x97, false), (true, true), (x100, false), (true, true), (x100, false), (true, true), (x103, false), (true, true), (x103, false), (x89, false), (x91, false), (x94, false), (true, true), (x94, false), (x103, false), (true, true), (x106, false), (x89, false), (x91, false), (x83, false), (x85, false), (x86, false), (x89, false), (x91, false), (x94, false), (true, true), (x97, false), (true, true), (x100, false), (true, true), (x100, false), (true, true), (x103, false), (true, true), (x103, false), (x89, false), (x91, false), (x94, false), (true, true), (x94, false), (x103, false), (true, true), (x106, false), (true, true), (x100, false), (true, true), (x103, false), (true, true), (x103, false), (true, true), (x106, false), (true, true), (x100, false), (true, true), (x109, false), (true, true), (x103, false), (x110, false), (x113, false), (x114, false), (x116, true), (x118, true), (x120, true), (x123, false), (x120, true), (x123, false), (x124, true), (x128, false), (x129, false), (x131, true), (x132, false), (x135, false), (x137, true), (x140, false), (x142, true), (x114, false), (x145, false), (x147, true), (x150, false), (x89, false), (x91, false), (x83, false), (x85, false), (x86, false), (x89, false), (x91, false), (x94, false), (true, true), (x97, false), (true, true), (x100, false), (true, true), (x100, false), (true, true), (x103, false), (true, true), (x103, false), (x89, false), (x91, false), (x94, false), (true, true), (x94, false), (x103, false), (true, true), (x106, false), (true, true), (x100, false), (true, true), (x103, false), (true, true), (x103, false), (true, true), (x106, false), (true, true), (x100, false), (true, true), (x109, false), (true, true), (x103, false), (x110, false), (x113, false), (x114, false), (x116, true), (x118, true), (x120, true), (x123, false), (x120, true), (x123, false), (x124, true), (x128, false), (x129, false), (x152, true), (x132, false), (x155, false), (x157, true), (x160, false), (x162, true), (x114, false), (x165, false), (x167, true), (x170, false), (x172, true), (x174, true), (x176, true), (x179, false)])
noncomputable def exA (w : Nat) : List Sx.AV := [.ptr ⟨false, 5, 0, 0⟩, .str false [80, 49], .flt true w]
noncomputable def exV (s : Bool) (w : Nat) : Sx.AV := .tup [.cpx s (exT w).1.1 (exT w).1.2, .cpx s (exT w).2.1.1 (exT w).2.1.2, .agg [.int false .i64 0, .int false .i64 0]]
theorem ex_run (w : Nat) : Sx.sumUp exBl (ofD (exA w) ⟨Sx.hpL exBl, 68, [], exPath, True⟩) = (exV true w, Sx.condsR (exT w).2.2 True, true) := by kernel_rfl
noncomputable def wOf : List Sx.AV → Nat
  | [_, _, w] => (match w.fl1 with | .flt _ x => x | _ => 0)
  | _ => 0
noncomputable def exRow (p : Nat × (Nat × Nat) × (Nat × Nat)) : Bool :=
  Sx.allB (exT p.1).2.2 && (Nat.beq (exT p.1).1.1 p.2.1.1 && (Nat.beq (exT p.1).1.2 p.2.1.2 && (Nat.beq (exT p.1).2.1.1 p.2.2.1 && Nat.beq (exT p.1).2.1.2 p.2.2.2)))
noncomputable def exTab0 : List (Nat × (Nat × Nat) × (Nat × Nat)) := [(4602678819172646912, (9223372036854775808, 0), (9223372036854775808, 13832806255468478464)), (4616189618054758400, (9223372036854775808, 0), (9223372036854775808, 4615626668101337088)), (4609434218613702656, (9223372036854775808, 0), (9223372036854775808, 4605681218924227243)), (4606056518893174784, (9223372036854775808, 0), (9223372036854775808, 13821868942087721544)), (4607745368753438720, (9223372036854775808, 0), (9223372036854775808, 4597674819586679696)), (4606900943823306752, (9223372036854775808, 0), (9223372036854775808, 13812612695848978490)), (4607323156288372736, (9223372036854775808, 0), (9223372036854775808, 4589031547574554485)), (4607112050055839744, (9223372036854775808, 0), (9223372036854775808, 13803550588597764576)), (4607217603172106240, (9223372036854775808, 0), (9223372036854775808, 4580125909410776064)), (4607164826613972992, (9223372036854775808, 0), (9223372036854775808, 13794530065289084800))]
theorem exTab0_ok : exTab0.all exRow = true := by kernel_rfl
noncomputable def exTab1 : List (Nat × (Nat × Nat) × (Nat × Nat)) := [(4607191214893039616, (9223372036854775808, 0), (9223372036854775808, 4571144842834411775)), (4607178020753506304, (9223372036854775808, 0), (9223372036854775808, 13785519559429849472)), (4607184617823272960, (9223372036854775808, 0), (9223372036854775808, 4562144224576274176)), (4607181319288389632, (9223372036854775808, 0), (9223372036854775808, 13776511535037812734)), (4607182968555831296, (9223372036854775808, 0), (9223372036854775808, 4553138673582858235)), (4607182143922110464, (9223372036854775808, 0), (9223372036854775808, 13767504129593179904)), (4607182556238970880, (9223372036854775808, 0), (9223372036854775808, 4544131886582071808)), (4607182350080540672, (9223372036854775808, 0), (9223372036854775808, 13758496878796865532)), (4607182453159755776, (9223372036854775808, 0), (9223372036854775808, 4535124790402613256)), (4607182401620148224, (9223372036854775808, 0), (9223372036854775808, 13749489666657067008))]
theorem exTab1_ok : exTab1.all exRow = true := by kernel_rfl
noncomputable def exTab2 : List (Nat × (Nat × Nat) × (Nat × Nat)) := [(4607182427389952000, (9223372036854775808, 0), (9223372036854775808, 4526117616917364736)), (4607182414505050112, (9223372036854775808, 0), (9223372036854775808, 13740482464181123584)), (4607182420947501056, (9223372036854775808, 0), (9223372036854775808, 4517110424105120768)), (4607182417726275584, (9223372036854775808, 0), (9223372036854775808, 13731475264121077664)), (4607182419336888320, (9223372036854775808, 0), (9223372036854775808, 4508103226460995392)), (4607182418531581952, (9223372036854775808, 0), (9223372036854775808, 13722468064665010170)), (4607182418934235136, (9223372036854775808, 0), (9223372036854775808, 4499096027608907764)), (4607182418732908544, (9223372036854775808, 0), (9223372036854775808, 13713460865276051456)), (4607182418833571840, (9223372036854775808, 0), (9223372036854775808, 4490088828521938944)), (4607182418783240192, (9223372036854775808, 0), (9223372036854775808, 13704453666071642112))]
theorem exTab2_ok : exTab2.all exRow = true := by kernel_rfl
noncomputable def exTab3 : List (Nat × (Nat × Nat) × (Nat × Nat)) := [(4607182418808406016, (9223372036854775808, 0), (9223372036854775808, 4481081629242032128)), (4607182418795823104, (9223372036854775808, 0), (9223372036854775808, 13695446466829484032)), (4607182418802114560, (9223372036854775808, 0), (9223372036854775808, 4472074429980999680)), (4607182418798968832, (9223372036854775808, 0), (9223372036854775808, 13686439267577888768)), (4607182418800541696, (9223372036854775808, 0), (9223372036854775808, 4463067230724685824)), (4607182418799755264, (9223372036854775808, 0), (9223372036854775808, 13677432068323934208)), (4607182418800148480, (9223372036854775808, 0), (9223372036854775808, 4454060031469551616)), (4607182418799951872, (9223372036854775808, 0), (9223372036854775808, 13668424869069389824)), (4607182418800050176, (9223372036854775808, 0), (9223372036854775808, 4445052832214712320)), (4607182418800001024, (9223372036854775808, 0), (9223372036854775808, 13659417669814697984))]
theorem exTab3_ok : exTab3.all exRow = true := by kernel_rfl
noncomputable def exTab4 : List (Nat × (Nat × Nat) × (Nat × Nat)) := [(4607182418800025600, (9223372036854775808, 0), (9223372036854775808, 4436045632959946752)), (4607182418800013312, (9223372036854775808, 0), (9223372036854775808, 13650410470559969280)), (4607182418800019456, (9223372036854775808, 0), (9223372036854775808, 4427038433705199616)), (4607182418800016384, (9223372036854775808, 0), (9223372036854775808, 13641403271305231360)), (4607182418800017920, (9223372036854775808, 0), (9223372036854775808, 4418031234450457088)), (4607182418800017152, (9223372036854775808, 0), (9223372036854775808, 13632396072050491136)), (4607182418800017536, (9223372036854775808, 0), (9223372036854775808, 4409024035195715712)), (4607182418800017344, (9223372036854775808, 0), (9223372036854775808, 13623388872795750336)), (4607182418800017440, (9223372036854775808, 0), (9223372036854775808, 4400016835940974624)), (4607182418800017392, (9223372036854775808, 0), (9223372036854775808, 13614381673541009392))]
theorem exTab4_ok : exTab4.all exRow = true := by kernel_rfl
noncomputable def exTab5 : List (Nat × (Nat × Nat) × (Nat × Nat)) := [(4607182418800017416, (9223372036854775808, 0), (9223372036854775808, 4391009636686233608)), (4607182418800017404, (9223372036854775808, 0), (9223372036854775808, 13605374474286268412)), (4607182418800017410, (9223372036854775808, 0), (9223372036854775808, 4382002437431492610)), (4607182418800017407, (9223372036854775808, 0), (9223372036854775808, 13600870874658897918)), (4607182418800017408, (9223372036854775808, 0), (9223372036854775808, 0)), (4611686018427387904, (9223372036854775808, 0), (9223372036854775808, 4609434218613702656)), (4613937818241073152, (9223372036854775808, 0), (9223372036854775808, 4613187218303178069))]
theorem exTab5_ok : exTab5.all exRow = true := by kernel_rfl
noncomputable def exTab : List (Nat × (Nat × Nat) × (Nat × Nat)) := exTab0 ++ exTab1 ++ exTab2 ++ exTab3 ++ exTab4 ++ exTab5
theorem exTab_ok : exTab.all exRow = true := by
  simp only [exTab, List.all_append, exTab0_ok, exTab1_ok, exTab2_ok, exTab3_ok, exTab4_ok, exTab5_ok, Bool.and_self]
noncomputable def findW (w : Nat) : List (Nat × (Nat × Nat) × (Nat × Nat)) → Option (Nat × (Nat × Nat) × (Nat × Nat))
  | [] => none
  | p :: l => bif Nat.beq p.1 w then some p else findW w l
theorem findW_of {w : Nat} {p : Nat × (Nat × Nat) × (Nat × Nat)} : ∀ {l : List (Nat × (Nat × Nat) × (Nat × Nat))}, findW w l = some p → p ∈ l ∧ p.1 = w
  | [], h => by cases h
  | q :: l, h => by
    unfold findW at h
    cases e : Nat.beq q.1 w with
    | true => rw [e, cond_true] at h; cases h; exact ⟨List.mem_cons_self, Nat.eq_of_beq_eq_true e⟩
    | false => rw [e, cond_false] at h; exact ⟨List.mem_cons_of_mem _ (findW_of h).1, (findW_of h).2⟩
noncomputable def isEx : List Sx.AV → Bool
  | .ptr a :: _ => Sx.AA.eqb a ⟨false, 5, 0, 0⟩
  | _ => false
noncomputable def exS (args : List Sx.AV) : Sx.M Sx.AV := (Sx.M.okIf (isEx args)).andThen fun _ =>
  match findW (wOf args) exTab with
  | some p => Sx.tabS (exA (wOf args)) 68 exBl true (.tup [.cpx false p.2.1.1 p.2.1.2, .cpx false p.2.2.1 p.2.2.2, .agg [.int false .i64 0, .int false .i64 0]]) args
  | none => Sx.M.no
theorem ex_ok {args : List Sx.AV} {x : Sx.AV} {g g' : Sx.G} (h : exS args g = .done x g') : Sx.CallIs Tryz.prog 36 args x g g' := by
  unfold exS at h
  obtain ⟨_, _, h1, h⟩ := Sx.done_of h
  obtain ⟨_, rfl⟩ := Sx.okIf_done h1
  generalize hf : findW (wOf args) exTab = o at h
  cases o with
  | none => exact (Sx.no_done h).elim
  | some p =>
    obtain ⟨hm, hw⟩ := findW_of hf
    have hr := List.all_eq_true.1 exTab_ok p hm
    simp only [exRow, Bool.and_eq_true, hw] at hr
    obtain ⟨h0, h1, h2, h3, h4⟩ := hr
    refine Sx.tabS_ok (u := exV true (wOf args)) (l := (exT (wOf args)).2.2) (fun v g' h => ofD_ok h) (ex_run (wOf args)) (by rfl) (fun N μ c h => ?_) exBl_low (by rfl) (by rw [h0]; exact h)
    simp only [exV, Sx.Rep, Sx.Reps] at h ⊢
    rw [← Nat.eq_of_beq_eq_true h1, ← Nat.eq_of_beq_eq_true h2, ← Nat.eq_of_beq_eq_true h3, ← Nat.eq_of_beq_eq_true h4]
    exact h
theorem ex_tch (args : List Sx.AV) : Sx.Tch (exS args) := by
  unfold exS
  refine (Sx.Tch.okIf _).andThen fun _ => ?_
  split
  · exact Sx.tabS_tch _ _ _ _ _ _
  · exact Sx.Tch.no
end Go.Proofs.YteggchdkjamdmaaGreat
