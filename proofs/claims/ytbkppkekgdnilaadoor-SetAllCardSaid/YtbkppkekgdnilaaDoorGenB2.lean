/-
  What functions of this seat come to, and that they do: part 2.
-/
import Derived.Test.YtbkppkekgdnilaaDoorGenB1
set_option linter.unusedVariables false
set_option maxRecDepth 20000
namespace Go.Fw
open Go.Proofs

/-! ### haruspex/haruspexlaw1.SetAll -/

def L1_SetAll_env (F : Nat) : Env := envOf [(9, L1_begun_m F), (10, bitset_Set_Add_m F), (11, L1_may_m F), (12, bitset_Set_Has_m F), (13, bitset_Set_Len_m F), (14, bitset_Set_All_m F), (15, bitset_Set_Remove_m F), (16, L1_Cut_m F), (17, bitset_Of_m F), (18, bitset_Set_First_m F), (19, R1_Eq_m F), (20, L1_of_m F), (22, R1_In_m F), (23, R1_Put_m F), (24, L1_without_m F), (25, bitset_Set_Join_m F)]

noncomputable def L1_SetAll_R (F : Nat) := rK Tryd.prog TrydG (L1_SetAll_env F) Tryd.f7
noncomputable def L1_SetAll_D (F : Nat) := dK Tryd.prog TrydG (L1_SetAll_env F) Tryd.f7

def L1_SetAll_r43 (F : Nat) (K : Value → M Value) : M Value :=
  K (.bool true)

theorem L1_SetAll_r43_ok (F : Nat) (K : Value → M Value) : L1_SetAll_r43 F K = L1_SetAll_R F 43 [] [2] K := by kernel_rfl

def L1_SetAll_k0 (F : Nat) : M Value :=
  L1_SetAll_r43 F (fun x2 => ret x2)

def L1_SetAll_r8 (F : Nat) (x0 x4 x5 x6 : Value) (K : Value → Value → Value → Value → M Value) : M Value :=
  bnd (opBin .add x6 (.int .i64 (1))) fun v28 => K x0 x4 x5 v28

theorem L1_SetAll_r8_ok (F : Nat) (x0 x4 x5 x6 : Value) (K : Value → Value → Value → Value → M Value) : L1_SetAll_r8 F x0 x4 x5 x6 K = L1_SetAll_R F 8 [(6, x6), (5, x5), (4, x4), (0, x0)] [0, 4, 5, 6] K := by kernel_rfl

def L1_SetAll_k2 (F : Nat) (A1 : Value → Value → Value → Value → M Value) (x0 x4 x5 x6 : Value) : M Value :=
  L1_SetAll_r8 F x0 x4 x5 x6 (fun x0 x4 x5 x6 => A1 x0 x4 x5 x6)

def L1_SetAll_r42 (F : Nat) (K : Value → M Value) : M Value :=
  K (.bool false)

theorem L1_SetAll_r42_ok (F : Nat) (K : Value → M Value) : L1_SetAll_r42 F K = L1_SetAll_R F 42 [] [2] K := by kernel_rfl

def L1_SetAll_r41 (F : Nat) (x0 x4 x5 x6 : Value) (K : Value → Value → Value → Value → Value → M Value) : M Value :=
  bnd (bitset_Set_Len F x4) fun v143 => bnd (opLen x5) fun v145 => bnd (opBin .neq v143 v145) fun v146 => onB v146 (K x0 x4 x5 x6 (.bool true)) (bnd (bitset_Set_All F x4) fun v149 => bnd (R1_Eq F v149 x5) fun v151 => bnd (opNot v151) fun v152 => K x0 x4 x5 x6 v152)

theorem L1_SetAll_r41_ok (F : Nat) (x0 x4 x5 x6 : Value) (K : Value → Value → Value → Value → Value → M Value) : L1_SetAll_r41 F x0 x4 x5 x6 K = L1_SetAll_R F 41 [(6, x6), (5, x5), (4, x4), (0, x0)] [0, 4, 5, 6, 153] K := by kernel_rfl

def L1_SetAll_k3 (F : Nat) (A1 : Value → Value → Value → Value → M Value) (x0 x4 x5 x6 : Value) : M Value :=
  L1_SetAll_r41 F x0 x4 x5 x6 (fun x0 x4 x5 x6 x153 => onB x153 (L1_SetAll_r42 F (fun x2 => ret x2)) (L1_SetAll_k2 F A1 x0 x4 x5 x6))

def L1_SetAll_r24 (F : Nat) (x0 x4 x5 x6 x7 : Value) (K : Value → Value → Value → Value → M Value) : M Value :=
  bnd (opFieldAddr 1 x7) fun v82 => bnd (opLoad v82) fun v83 => bnd (R1_Put F x5 v83) fun v84 => K x0 x4 v84 x6

theorem L1_SetAll_r24_ok (F : Nat) (x0 x4 x5 x6 x7 : Value) (K : Value → Value → Value → Value → M Value) : L1_SetAll_r24 F x0 x4 x5 x6 x7 K = L1_SetAll_R F 24 [(7, x7), (6, x6), (5, x5), (4, x4), (0, x0)] [0, 4, 5, 6] K := by kernel_rfl

def L1_SetAll_r23 (F : Nat) (x0 x4 x5 x6 x7 x8 : Value) (K : Value → Value → Value → Value → Value → Value → M Value) : M Value :=
  K x0 x4 x5 x6 x7 x8

theorem L1_SetAll_r23_ok (F : Nat) (x0 x4 x5 x6 x7 x8 : Value) (K : Value → Value → Value → Value → Value → Value → M Value) : L1_SetAll_r23 F x0 x4 x5 x6 x7 x8 K = L1_SetAll_R F 23 [(8, x8), (7, x7), (6, x6), (5, x5), (4, x4), (0, x0)] [0, 4, 5, 6, 7, 80] K := by kernel_rfl

def L1_SetAll_r22 (F : Nat) (K : Value → M Value) : M Value :=
  K (.bool false)

theorem L1_SetAll_r22_ok (F : Nat) (K : Value → M Value) : L1_SetAll_r22 F K = L1_SetAll_R F 22 [] [2] K := by kernel_rfl

def L1_SetAll_r21 (F : Nat) (x0 x4 x5 x6 x7 x8 : Value) (K : Value → Value → Value → Value → Value → Value → Value → M Value) : M Value :=
  bnd (opFieldAddr 1 x7) fun v75 => bnd (opLoad v75) fun v76 => bnd (bitset_Set_Add F x4 v76) fun v77 => bnd (opEq eqB true v77 x8) fun v79 => K x0 x4 x5 x6 x7 x8 v79

theorem L1_SetAll_r21_ok (F : Nat) (x0 x4 x5 x6 x7 x8 : Value) (K : Value → Value → Value → Value → Value → Value → Value → M Value) : L1_SetAll_r21 F x0 x4 x5 x6 x7 x8 K = L1_SetAll_R F 21 [(8, x8), (7, x7), (6, x6), (5, x5), (4, x4), (0, x0)] [0, 4, 5, 6, 7, 8, 79] K := by kernel_rfl

def L1_SetAll_r20 (F : Nat) (x0 x4 x5 x6 x7 : Value) (K : Value → Value → Value → Value → Value → Value → M Value) : M Value :=
  bnd (opFieldAddr 1 x7) fun v64 => bnd (opLoad v64) fun v65 => bnd (L1_may F v65) fun v66 => onB v66 (bnd (opFieldAddr 1 x7) fun v69 => bnd (opLoad v69) fun v70 => bnd (R1_In F x5 v70) fun v71 => bnd (opNot v71) fun v72 => K x0 x4 x5 x6 x7 v72) (K x0 x4 x5 x6 x7 (.bool false))

theorem L1_SetAll_r20_ok (F : Nat) (x0 x4 x5 x6 x7 : Value) (K : Value → Value → Value → Value → Value → Value → M Value) : L1_SetAll_r20 F x0 x4 x5 x6 x7 K = L1_SetAll_R F 20 [(7, x7), (6, x6), (5, x5), (4, x4), (0, x0)] [0, 4, 5, 6, 7, 8] K := by kernel_rfl

def L1_SetAll_r28 (F : Nat) (x0 x4 x5 x6 x7 : Value) (K : Value → Value → Value → Value → M Value) : M Value :=
  bnd (opFieldAddr 1 x7) fun v97 => bnd (opLoad v97) fun v98 => bnd (opBuildSlice 1 (rep 1 [(.int .i64 (0))]) [(0, 1, false, v98)]) fun v99 => bnd (L1_without F x5 v99) fun v100 => K x0 x4 v100 x6

theorem L1_SetAll_r28_ok (F : Nat) (x0 x4 x5 x6 x7 : Value) (K : Value → Value → Value → Value → M Value) : L1_SetAll_r28 F x0 x4 x5 x6 x7 K = L1_SetAll_R F 28 [(7, x7), (6, x6), (5, x5), (4, x4), (0, x0)] [0, 4, 5, 6] K := by kernel_rfl

def L1_SetAll_r27 (F : Nat) (K : Value → M Value) : M Value :=
  K (.bool false)

theorem L1_SetAll_r27_ok (F : Nat) (K : Value → M Value) : L1_SetAll_r27 F K = L1_SetAll_R F 27 [] [2] K := by kernel_rfl

def L1_SetAll_r26 (F : Nat) (x0 x4 x5 x6 x7 : Value) (K : Value → Value → Value → Value → Value → Value → M Value) : M Value :=
  bnd (opFieldAddr 1 x7) fun v88 => bnd (opLoad v88) fun v89 => bnd (opFieldAddr 1 x7) fun v92 => bnd (opLoad v92) fun v93 => bnd (bitset_Set_Remove F x4 v89) fun v90 => bnd (opChk false v92 v93) fun _ => bnd (R1_In F x5 v93) fun v94 => bnd (opEq eqB true v90 v94) fun v95 => K x0 x4 x5 x6 x7 v95

theorem L1_SetAll_r26_ok (F : Nat) (x0 x4 x5 x6 x7 : Value) (K : Value → Value → Value → Value → Value → Value → M Value) : L1_SetAll_r26 F x0 x4 x5 x6 x7 K = L1_SetAll_D F 26 [0, 1, 2, 4, 5, 6, 3, 7, 8] [(7, x7), (6, x6), (5, x5), (4, x4), (0, x0)] [0, 4, 5, 6, 7, 95] K := by kernel_rfl

theorem L1_SetAll_r26_good : goodOrder (opsOf Tryd.f7 26) [0, 1, 2, 4, 5, 6, 3, 7, 8] = true := by kernel_rfl

def L1_SetAll_r37 (F : Nat) (K : Value → M Value) : M Value :=
  K (.bool false)

theorem L1_SetAll_r37_ok (F : Nat) (K : Value → M Value) : L1_SetAll_r37 F K = L1_SetAll_R F 37 [] [2] K := by kernel_rfl

def L1_SetAll_r36 (F : Nat) (x0 x4 x5 x6 x7 x10 : Value) (K : Value → Value → Value → Value → Value → M Value) : M Value :=
  bnd (opFieldAddr 2 x7) fun v121 => bnd (opLoad v121) fun v122 => bnd (L1_Cut F v122 (.int .i64 (40))) fun v123 => bnd (bitset_Of F v123) fun v124 => bnd (bitset_Set_Join F x4 v124) fun v125 => bnd (opLen x5) fun v127 => bnd (opBin .gtr v127 x10) fun v129 => bnd (opEq eqB true v125 v129) fun v130 => K x0 x4 x5 x6 v130

theorem L1_SetAll_r36_ok (F : Nat) (x0 x4 x5 x6 x7 x10 : Value) (K : Value → Value → Value → Value → Value → M Value) : L1_SetAll_r36 F x0 x4 x5 x6 x7 x10 K = L1_SetAll_R F 36 [(10, x10), (7, x7), (6, x6), (5, x5), (4, x4), (0, x0)] [0, 4, 5, 6, 130] K := by kernel_rfl

def L1_SetAll_k4 (F : Nat) (A1 : Value → Value → Value → Value → M Value) (x0 x4 x5 x6 x7 x10 : Value) : M Value :=
  L1_SetAll_r36 F x0 x4 x5 x6 x7 x10 (fun x0 x4 x5 x6 x130 => onB x130 (L1_SetAll_r37 F (fun x2 => ret x2)) (L1_SetAll_k3 F A1 x0 x4 x5 x6))

def L1_SetAll_r34 (F : Nat) (x0 x4 x5 x6 x7 x9 x10 x11 : Value) (K : Value → Value → Value → Value → Value → Value → Value → Value → M Value) : M Value :=
  bnd (opBin .add x11 (.int .i64 (1))) fun v113 => K x0 x4 x5 x6 x7 x9 x10 v113

theorem L1_SetAll_r34_ok (F : Nat) (x0 x4 x5 x6 x7 x9 x10 x11 : Value) (K : Value → Value → Value → Value → Value → Value → Value → Value → M Value) : L1_SetAll_r34 F x0 x4 x5 x6 x7 x9 x10 x11 K = L1_SetAll_R F 34 [(11, x11), (10, x10), (9, x9), (7, x7), (6, x6), (5, x5), (4, x4), (0, x0)] [0, 4, 5, 6, 7, 9, 10, 11] K := by kernel_rfl

def L1_SetAll_r35 (F : Nat) (x0 x4 x5 x6 x7 x9 x10 x11 : Value) (K : Value → Value → Value → Value → Value → Value → Value → Value → M Value) : M Value :=
  bnd (opIndexAddr 1 x9 x11) fun v117 => bnd (opLoad v117) fun v118 => bnd (R1_Put F x5 v118) fun v119 => K x0 x4 v119 x6 x7 x9 x10 x11

theorem L1_SetAll_r35_ok (F : Nat) (x0 x4 x5 x6 x7 x9 x10 x11 : Value) (K : Value → Value → Value → Value → Value → Value → Value → Value → M Value) : L1_SetAll_r35 F x0 x4 x5 x6 x7 x9 x10 x11 K = L1_SetAll_R F 35 [(11, x11), (10, x10), (9, x9), (7, x7), (6, x6), (5, x5), (4, x4), (0, x0)] [0, 4, 5, 6, 7, 9, 10, 11] K := by kernel_rfl

def L1_SetAll_r33 (F : Nat) (x0 x4 x5 x6 x7 x9 x10 x11 : Value) (K : Value → Value → Value → Value → Value → Value → Value → Value → Value → M Value) : M Value :=
  bnd (opLen x9) fun v110 => bnd (opBin .lss x11 v110) fun v111 => K x0 x4 x5 x6 x7 x9 x10 x11 v111

theorem L1_SetAll_r33_ok (F : Nat) (x0 x4 x5 x6 x7 x9 x10 x11 : Value) (K : Value → Value → Value → Value → Value → Value → Value → Value → Value → M Value) : L1_SetAll_r33 F x0 x4 x5 x6 x7 x9 x10 x11 K = L1_SetAll_R F 33 [(11, x11), (10, x10), (9, x9), (7, x7), (6, x6), (5, x5), (4, x4), (0, x0)] [0, 4, 5, 6, 7, 9, 10, 11, 111] K := by kernel_rfl

def L1_SetAll_b5 (F : Nat) (E5_5 : Value → Value → Value → Value → Value → Value → M Value) (A5 : Value → Value → Value → Value → Value → Value → Value → Value → M Value) (x0 x4 x5 x6 x7 x9 x10 x11 : Value) : M Value :=
  L1_SetAll_r33 F x0 x4 x5 x6 x7 x9 x10 x11 (fun x0 x4 x5 x6 x7 x9 x10 x11 x111 => onB x111 (L1_SetAll_r35 F x0 x4 x5 x6 x7 x9 x10 x11 (fun x0 x4 x5 x6 x7 x9 x10 x11 => L1_SetAll_r34 F x0 x4 x5 x6 x7 x9 x10 x11 (fun x0 x4 x5 x6 x7 x9 x10 x11 => A5 x0 x4 x5 x6 x7 x9 x10 x11))) (E5_5 x0 x4 x5 x6 x7 x10))

def L1_SetAll_l5 (F : Nat) (E5_5 : Value → Value → Value → Value → Value → Value → M Value) : Nat → Value → Value → Value → Value → Value → Value → Value → Value → M Value
  | 0, _, _, _, _, _, _, _, _ => fail
  | k5 + 1, x0, x4, x5, x6, x7, x9, x10, x11 => L1_SetAll_b5 F E5_5 (L1_SetAll_l5 F E5_5 k5) x0 x4 x5 x6 x7 x9 x10 x11

theorem L1_SetAll_l5_s (F : Nat) (E5_5 : Value → Value → Value → Value → Value → Value → M Value) (k5 : Nat) (x0 x4 x5 x6 x7 x9 x10 x11 : Value) : L1_SetAll_l5 F E5_5 (k5 + 1) x0 x4 x5 x6 x7 x9 x10 x11 = L1_SetAll_b5 F E5_5 (L1_SetAll_l5 F E5_5 k5) x0 x4 x5 x6 x7 x9 x10 x11 := rfl

def L1_SetAll_r32 (F : Nat) (x0 x4 x5 x6 x7 x9 x10 : Value) (K : Value → Value → Value → Value → Value → Value → Value → Value → M Value) : M Value :=
  K x0 x4 x5 x6 x7 x9 x10 (.int .i64 (0))

theorem L1_SetAll_r32_ok (F : Nat) (x0 x4 x5 x6 x7 x9 x10 : Value) (K : Value → Value → Value → Value → Value → Value → Value → Value → M Value) : L1_SetAll_r32 F x0 x4 x5 x6 x7 x9 x10 K = L1_SetAll_R F 32 [(10, x10), (9, x9), (7, x7), (6, x6), (5, x5), (4, x4), (0, x0)] [0, 4, 5, 6, 7, 9, 10, 11] K := by kernel_rfl

def L1_SetAll_r31 (F : Nat) (x0 x4 x5 x6 x7 x9 : Value) (K : Value → Value → Value → Value → Value → Value → Value → M Value) : M Value :=
  bnd (opLen x5) fun v107 => K x0 x4 x5 x6 x7 x9 v107

theorem L1_SetAll_r31_ok (F : Nat) (x0 x4 x5 x6 x7 x9 : Value) (K : Value → Value → Value → Value → Value → Value → Value → M Value) : L1_SetAll_r31 F x0 x4 x5 x6 x7 x9 K = L1_SetAll_R F 31 [(9, x9), (7, x7), (6, x6), (5, x5), (4, x4), (0, x0)] [0, 4, 5, 6, 7, 9, 10] K := by kernel_rfl

def L1_SetAll_r30 (F : Nat) (x0 x4 x5 x6 x7 : Value) (K : Value → Value → Value → Value → Value → Value → M Value) : M Value :=
  bnd (opFieldAddr 2 x7) fun v103 => bnd (opLoad v103) fun v104 => bnd (L1_of F v104) fun v105 => K x0 x4 x5 x6 x7 v105

theorem L1_SetAll_r30_ok (F : Nat) (x0 x4 x5 x6 x7 : Value) (K : Value → Value → Value → Value → Value → Value → M Value) : L1_SetAll_r30 F x0 x4 x5 x6 x7 K = L1_SetAll_R F 30 [(7, x7), (6, x6), (5, x5), (4, x4), (0, x0)] [0, 4, 5, 6, 7, 9] K := by kernel_rfl

def L1_SetAll_r40 (F : Nat) (K : Value → M Value) : M Value :=
  K (.bool false)

theorem L1_SetAll_r40_ok (F : Nat) (K : Value → M Value) : L1_SetAll_r40 F K = L1_SetAll_R F 40 [] [2] K := by kernel_rfl

def L1_SetAll_r39 (F : Nat) (x0 x4 x5 x6 x7 : Value) (K : Value → Value → Value → Value → Value → M Value) : M Value :=
  bnd (opFieldAddr 1 x7) fun v134 => bnd (opLoad v134) fun v135 => bnd (opFieldAddr 1 x7) fun v138 => bnd (opLoad v138) fun v139 => bnd (bitset_Set_Has F x4 v135) fun v136 => bnd (opChk false v138 v139) fun _ => bnd (R1_In F x5 v139) fun v140 => bnd (opEq eqB true v136 v140) fun v141 => K x0 x4 x5 x6 v141

theorem L1_SetAll_r39_ok (F : Nat) (x0 x4 x5 x6 x7 : Value) (K : Value → Value → Value → Value → Value → M Value) : L1_SetAll_r39 F x0 x4 x5 x6 x7 K = L1_SetAll_D F 39 [0, 1, 2, 4, 5, 6, 3, 7, 8] [(7, x7), (6, x6), (5, x5), (4, x4), (0, x0)] [0, 4, 5, 6, 141] K := by kernel_rfl

theorem L1_SetAll_r39_good : goodOrder (opsOf Tryd.f7 39) [0, 1, 2, 4, 5, 6, 3, 7, 8] = true := by kernel_rfl

def L1_SetAll_r18 (F : Nat) (K : Value → M Value) : M Value :=
  K (.bool false)

theorem L1_SetAll_r18_ok (F : Nat) (K : Value → M Value) : L1_SetAll_r18 F K = L1_SetAll_R F 18 [] [2] K := by kernel_rfl

def L1_SetAll_r17 (F : Nat) (x0 x4 x5 x6 x7 x12 : Value) (K : Value → Value → Value → Value → Value → M Value) : M Value :=
  bnd (opFieldAddr 1 x7) fun v57 => bnd (opLoad v57) fun v58 => bnd (bitset_Set_First F x4 v58) fun v59 => bnd (opBin .neq v59 x12) fun v61 => K x0 x4 x5 x6 v61

theorem L1_SetAll_r17_ok (F : Nat) (x0 x4 x5 x6 x7 x12 : Value) (K : Value → Value → Value → Value → Value → M Value) : L1_SetAll_r17 F x0 x4 x5 x6 x7 x12 K = L1_SetAll_R F 17 [(12, x12), (7, x7), (6, x6), (5, x5), (4, x4), (0, x0)] [0, 4, 5, 6, 61] K := by kernel_rfl

def L1_SetAll_k6 (F : Nat) (A1 : Value → Value → Value → Value → M Value) (x0 x4 x5 x6 x7 x12 : Value) : M Value :=
  L1_SetAll_r17 F x0 x4 x5 x6 x7 x12 (fun x0 x4 x5 x6 x61 => onB x61 (L1_SetAll_r18 F (fun x2 => ret x2)) (L1_SetAll_k3 F A1 x0 x4 x5 x6))

def L1_SetAll_r14 (F : Nat) (x0 x4 x5 x6 x7 x12 x13 : Value) (K : Value → Value → Value → Value → Value → Value → Value → M Value) : M Value :=
  bnd (opBin .add x13 (.int .i64 (1))) fun v44 => K x0 x4 x5 x6 x7 x12 v44

theorem L1_SetAll_r14_ok (F : Nat) (x0 x4 x5 x6 x7 x12 x13 : Value) (K : Value → Value → Value → Value → Value → Value → Value → M Value) : L1_SetAll_r14 F x0 x4 x5 x6 x7 x12 x13 K = L1_SetAll_R F 14 [(13, x13), (12, x12), (7, x7), (6, x6), (5, x5), (4, x4), (0, x0)] [0, 4, 5, 6, 7, 12, 13] K := by kernel_rfl

def L1_SetAll_k8 (F : Nat) (A7 : Value → Value → Value → Value → Value → Value → Value → M Value) (x0 x4 x5 x6 x7 x12 x13 : Value) : M Value :=
  L1_SetAll_r14 F x0 x4 x5 x6 x7 x12 x13 (fun x0 x4 x5 x6 x7 x12 x13 => A7 x0 x4 x5 x6 x7 x12 x13)

def L1_SetAll_r16 (F : Nat) (x0 x4 x5 x6 x7 x13 : Value) (K : Value → Value → Value → Value → Value → Value → Value → M Value) : M Value :=
  bnd (opIndexAddr 1 x5 x13) fun v54 => bnd (opLoad v54) fun v55 => K x0 x4 x5 x6 x7 v55 x13

theorem L1_SetAll_r16_ok (F : Nat) (x0 x4 x5 x6 x7 x13 : Value) (K : Value → Value → Value → Value → Value → Value → Value → M Value) : L1_SetAll_r16 F x0 x4 x5 x6 x7 x13 K = L1_SetAll_R F 16 [(13, x13), (7, x7), (6, x6), (5, x5), (4, x4), (0, x0)] [0, 4, 5, 6, 7, 12, 13] K := by kernel_rfl

def L1_SetAll_r15 (F : Nat) (x0 x4 x5 x6 x7 x12 x13 : Value) (K : Value → Value → Value → Value → Value → Value → Value → Value → M Value) : M Value :=
  bnd (opIndexAddr 1 x5 x13) fun v47 => bnd (opLoad v47) fun v48 => bnd (opFieldAddr 1 x7) fun v49 => bnd (opLoad v49) fun v50 => bnd (opBin .geq v48 v50) fun v51 => K x0 x4 x5 x6 x7 x12 x13 v51

theorem L1_SetAll_r15_ok (F : Nat) (x0 x4 x5 x6 x7 x12 x13 : Value) (K : Value → Value → Value → Value → Value → Value → Value → Value → M Value) : L1_SetAll_r15 F x0 x4 x5 x6 x7 x12 x13 K = L1_SetAll_D F 15 [0, 1, 2, 3, 4, 5, 6] [(13, x13), (12, x12), (7, x7), (6, x6), (5, x5), (4, x4), (0, x0)] [0, 4, 5, 6, 7, 12, 13, 51] K := by kernel_rfl

theorem L1_SetAll_r15_good : goodOrder (opsOf Tryd.f7 15) [0, 1, 2, 3, 4, 5, 6] = true := by kernel_rfl

def L1_SetAll_r13 (F : Nat) (x0 x4 x5 x6 x7 x12 x13 : Value) (K : Value → Value → Value → Value → Value → Value → Value → Value → M Value) : M Value :=
  bnd (opLen x5) fun v37 => bnd (opBin .lss x13 v37) fun v38 => onB v38 (bnd (opBin .lss x12 (.int .i64 (0))) fun v41 => K x0 x4 x5 x6 x7 x12 x13 v41) (K x0 x4 x5 x6 x7 x12 x13 (.bool false))

theorem L1_SetAll_r13_ok (F : Nat) (x0 x4 x5 x6 x7 x12 x13 : Value) (K : Value → Value → Value → Value → Value → Value → Value → Value → M Value) : L1_SetAll_r13 F x0 x4 x5 x6 x7 x12 x13 K = L1_SetAll_R F 13 [(13, x13), (12, x12), (7, x7), (6, x6), (5, x5), (4, x4), (0, x0)] [0, 4, 5, 6, 7, 12, 13, 42] K := by kernel_rfl

def L1_SetAll_b7 (F : Nat) (E7_3 : Value → Value → Value → Value → Value → Value → M Value) (A7 : Value → Value → Value → Value → Value → Value → Value → M Value) (x0 x4 x5 x6 x7 x12 x13 : Value) : M Value :=
  L1_SetAll_r13 F x0 x4 x5 x6 x7 x12 x13 (fun x0 x4 x5 x6 x7 x12 x13 x42 => onB x42 (L1_SetAll_r15 F x0 x4 x5 x6 x7 x12 x13 (fun x0 x4 x5 x6 x7 x12 x13 x51 => onB x51 (L1_SetAll_r16 F x0 x4 x5 x6 x7 x13 (fun x0 x4 x5 x6 x7 x12 x13 => L1_SetAll_k8 F A7 x0 x4 x5 x6 x7 x12 x13)) (L1_SetAll_k8 F A7 x0 x4 x5 x6 x7 x12 x13))) (E7_3 x0 x4 x5 x6 x7 x12))

def L1_SetAll_l7 (F : Nat) (E7_3 : Value → Value → Value → Value → Value → Value → M Value) : Nat → Value → Value → Value → Value → Value → Value → Value → M Value
  | 0, _, _, _, _, _, _, _ => fail
  | k7 + 1, x0, x4, x5, x6, x7, x12, x13 => L1_SetAll_b7 F E7_3 (L1_SetAll_l7 F E7_3 k7) x0 x4 x5 x6 x7 x12 x13

theorem L1_SetAll_l7_s (F : Nat) (E7_3 : Value → Value → Value → Value → Value → Value → M Value) (k7 : Nat) (x0 x4 x5 x6 x7 x12 x13 : Value) : L1_SetAll_l7 F E7_3 (k7 + 1) x0 x4 x5 x6 x7 x12 x13 = L1_SetAll_b7 F E7_3 (L1_SetAll_l7 F E7_3 k7) x0 x4 x5 x6 x7 x12 x13 := rfl

def L1_SetAll_r12 (F : Nat) (x0 x4 x5 x6 x7 x12 : Value) (K : Value → Value → Value → Value → Value → Value → Value → M Value) : M Value :=
  K x0 x4 x5 x6 x7 x12 (.int .i64 (0))

theorem L1_SetAll_r12_ok (F : Nat) (x0 x4 x5 x6 x7 x12 : Value) (K : Value → Value → Value → Value → Value → Value → Value → M Value) : L1_SetAll_r12 F x0 x4 x5 x6 x7 x12 K = L1_SetAll_R F 12 [(12, x12), (7, x7), (6, x6), (5, x5), (4, x4), (0, x0)] [0, 4, 5, 6, 7, 12, 13] K := by kernel_rfl

def L1_SetAll_r11 (F : Nat) (x0 x4 x5 x6 x7 : Value) (K : Value → Value → Value → Value → Value → Value → M Value) : M Value :=
  K x0 x4 x5 x6 x7 (.int .i64 (-1))

theorem L1_SetAll_r11_ok (F : Nat) (x0 x4 x5 x6 x7 : Value) (K : Value → Value → Value → Value → Value → Value → M Value) : L1_SetAll_r11 F x0 x4 x5 x6 x7 K = L1_SetAll_R F 11 [(7, x7), (6, x6), (5, x5), (4, x4), (0, x0)] [0, 4, 5, 6, 7, 12] K := by kernel_rfl

def L1_SetAll_r38 (F : Nat) (x0 x4 x5 x6 x7 x34 : Value) (K : Value → Value → Value → Value → Value → Value → M Value) : M Value :=
  bnd (opBin .eql x34 (.int .i64 (3))) fun v132 => K x0 x4 x5 x6 x7 v132

theorem L1_SetAll_r38_ok (F : Nat) (x0 x4 x5 x6 x7 x34 : Value) (K : Value → Value → Value → Value → Value → Value → M Value) : L1_SetAll_r38 F x0 x4 x5 x6 x7 x34 K = L1_SetAll_R F 38 [(34, x34), (7, x7), (6, x6), (5, x5), (4, x4), (0, x0)] [0, 4, 5, 6, 7, 131] K := by kernel_rfl

def L1_SetAll_r29 (F : Nat) (x0 x4 x5 x6 x7 x34 : Value) (K : Value → Value → Value → Value → Value → Value → Value → M Value) : M Value :=
  bnd (opBin .eql x34 (.int .i64 (2))) fun v102 => K x0 x4 x5 x6 x7 x34 v102

theorem L1_SetAll_r29_ok (F : Nat) (x0 x4 x5 x6 x7 x34 : Value) (K : Value → Value → Value → Value → Value → Value → Value → M Value) : L1_SetAll_r29 F x0 x4 x5 x6 x7 x34 K = L1_SetAll_R F 29 [(34, x34), (7, x7), (6, x6), (5, x5), (4, x4), (0, x0)] [0, 4, 5, 6, 7, 34, 101] K := by kernel_rfl

def L1_SetAll_r25 (F : Nat) (x0 x4 x5 x6 x7 x34 : Value) (K : Value → Value → Value → Value → Value → Value → Value → M Value) : M Value :=
  bnd (opBin .eql x34 (.int .i64 (1))) fun v86 => K x0 x4 x5 x6 x7 x34 v86

theorem L1_SetAll_r25_ok (F : Nat) (x0 x4 x5 x6 x7 x34 : Value) (K : Value → Value → Value → Value → Value → Value → Value → M Value) : L1_SetAll_r25 F x0 x4 x5 x6 x7 x34 K = L1_SetAll_R F 25 [(34, x34), (7, x7), (6, x6), (5, x5), (4, x4), (0, x0)] [0, 4, 5, 6, 7, 34, 85] K := by kernel_rfl

def L1_SetAll_r19 (F : Nat) (x0 x4 x5 x6 x7 x34 : Value) (K : Value → Value → Value → Value → Value → Value → Value → M Value) : M Value :=
  bnd (opBin .eql x34 (.int .i64 (0))) fun v63 => K x0 x4 x5 x6 x7 x34 v63

theorem L1_SetAll_r19_ok (F : Nat) (x0 x4 x5 x6 x7 x34 : Value) (K : Value → Value → Value → Value → Value → Value → Value → M Value) : L1_SetAll_r19 F x0 x4 x5 x6 x7 x34 K = L1_SetAll_R F 19 [(34, x34), (7, x7), (6, x6), (5, x5), (4, x4), (0, x0)] [0, 4, 5, 6, 7, 34, 62] K := by kernel_rfl

def L1_SetAll_r10 (F : Nat) (x0 x4 x5 x6 x7 : Value) (K : Value → Value → Value → Value → Value → Value → M Value) : M Value :=
  bnd (opFieldAddr 0 x7) fun v33 => bnd (opLoad v33) fun v34 => K x0 x4 x5 x6 x7 v34

theorem L1_SetAll_r10_ok (F : Nat) (x0 x4 x5 x6 x7 : Value) (K : Value → Value → Value → Value → Value → Value → M Value) : L1_SetAll_r10 F x0 x4 x5 x6 x7 K = L1_SetAll_R F 10 [(7, x7), (6, x6), (5, x5), (4, x4), (0, x0)] [0, 4, 5, 6, 7, 34] K := by kernel_rfl

def L1_SetAll_r9 (F : Nat) (x0 x4 x5 x6 : Value) (K : Value → Value → Value → Value → Value → M Value) : M Value :=
  bnd (opIndexAddr 3 x0 x6) fun v31 => bnd (opLoadN 3 v31) fun v32 => bnd (opPtr [(.int .i64 (0)), (.int .i64 (0)), (.slice none 0 0)]) fun v7 => bnd (opStoreN 3 v7 v32) fun _ => K x0 x4 x5 x6 v7

theorem L1_SetAll_r9_ok (F : Nat) (x0 x4 x5 x6 : Value) (K : Value → Value → Value → Value → Value → M Value) : L1_SetAll_r9 F x0 x4 x5 x6 K = L1_SetAll_R F 9 [(6, x6), (5, x5), (4, x4), (0, x0)] [0, 4, 5, 6, 7] K := by kernel_rfl

def L1_SetAll_r7 (F : Nat) (x0 x4 x5 x6 : Value) (K : Value → Value → Value → Value → Value → M Value) : M Value :=
  bnd (opLen x0) fun v21 => bnd (opBin .lss x6 v21) fun v22 => onB v22 (bnd (opBin .lss x6 (.int .i64 (50))) fun v25 => K x0 x4 x5 x6 v25) (K x0 x4 x5 x6 (.bool false))

theorem L1_SetAll_r7_ok (F : Nat) (x0 x4 x5 x6 : Value) (K : Value → Value → Value → Value → Value → M Value) : L1_SetAll_r7 F x0 x4 x5 x6 K = L1_SetAll_R F 7 [(6, x6), (5, x5), (4, x4), (0, x0)] [0, 4, 5, 6, 26] K := by kernel_rfl

def L1_SetAll_b1 (F : Nat) (E1_0 : M Value) (A1 : Value → Value → Value → Value → M Value) (x0 x4 x5 x6 : Value) : M Value :=
  L1_SetAll_r7 F x0 x4 x5 x6 (fun x0 x4 x5 x6 x26 => onB x26 (L1_SetAll_r9 F x0 x4 x5 x6 (fun x0 x4 x5 x6 x7 => L1_SetAll_r10 F x0 x4 x5 x6 x7 (fun x0 x4 x5 x6 x7 x34 => L1_SetAll_r19 F x0 x4 x5 x6 x7 x34 (fun x0 x4 x5 x6 x7 x34 x62 => onB x62 (L1_SetAll_r20 F x0 x4 x5 x6 x7 (fun x0 x4 x5 x6 x7 x8 => L1_SetAll_r21 F x0 x4 x5 x6 x7 x8 (fun x0 x4 x5 x6 x7 x8 x79 => onB x79 (L1_SetAll_r22 F (fun x2 => ret x2)) (L1_SetAll_r23 F x0 x4 x5 x6 x7 x8 (fun x0 x4 x5 x6 x7 x80 => onB x80 (L1_SetAll_r24 F x0 x4 x5 x6 x7 (fun x0 x4 x5 x6 => L1_SetAll_k3 F A1 x0 x4 x5 x6)) (L1_SetAll_k3 F A1 x0 x4 x5 x6)))))) (L1_SetAll_r25 F x0 x4 x5 x6 x7 x34 (fun x0 x4 x5 x6 x7 x34 x85 => onB x85 (L1_SetAll_r26 F x0 x4 x5 x6 x7 (fun x0 x4 x5 x6 x7 x95 => onB x95 (L1_SetAll_r27 F (fun x2 => ret x2)) (L1_SetAll_r28 F x0 x4 x5 x6 x7 (fun x0 x4 x5 x6 => L1_SetAll_k3 F A1 x0 x4 x5 x6)))) (L1_SetAll_r29 F x0 x4 x5 x6 x7 x34 (fun x0 x4 x5 x6 x7 x34 x101 => onB x101 (L1_SetAll_r30 F x0 x4 x5 x6 x7 (fun x0 x4 x5 x6 x7 x9 => L1_SetAll_r31 F x0 x4 x5 x6 x7 x9 (fun x0 x4 x5 x6 x7 x9 x10 => L1_SetAll_r32 F x0 x4 x5 x6 x7 x9 x10 (fun x0 x4 x5 x6 x7 x9 x10 x11 => L1_SetAll_l5 F (fun x0 x4 x5 x6 x7 x10 => L1_SetAll_k4 F A1 x0 x4 x5 x6 x7 x10) F x0 x4 x5 x6 x7 x9 x10 x11)))) (L1_SetAll_r38 F x0 x4 x5 x6 x7 x34 (fun x0 x4 x5 x6 x7 x131 => onB x131 (L1_SetAll_r39 F x0 x4 x5 x6 x7 (fun x0 x4 x5 x6 x141 => onB x141 (L1_SetAll_r40 F (fun x2 => ret x2)) (L1_SetAll_k3 F A1 x0 x4 x5 x6))) (L1_SetAll_r11 F x0 x4 x5 x6 x7 (fun x0 x4 x5 x6 x7 x12 => L1_SetAll_r12 F x0 x4 x5 x6 x7 x12 (fun x0 x4 x5 x6 x7 x12 x13 => L1_SetAll_l7 F (fun x0 x4 x5 x6 x7 x12 => L1_SetAll_k6 F A1 x0 x4 x5 x6 x7 x12) F x0 x4 x5 x6 x7 x12 x13))))))))))))) (E1_0 ))

def L1_SetAll_l1 (F : Nat) (E1_0 : M Value) : Nat → Value → Value → Value → Value → M Value
  | 0, _, _, _, _ => fail
  | k1 + 1, x0, x4, x5, x6 => L1_SetAll_b1 F E1_0 (L1_SetAll_l1 F E1_0 k1) x0 x4 x5 x6

theorem L1_SetAll_l1_s (F : Nat) (E1_0 : M Value) (k1 : Nat) (x0 x4 x5 x6 : Value) : L1_SetAll_l1 F E1_0 (k1 + 1) x0 x4 x5 x6 = L1_SetAll_b1 F E1_0 (L1_SetAll_l1 F E1_0 k1) x0 x4 x5 x6 := rfl

def L1_SetAll_r6 (F : Nat) (x0 x4 x5 : Value) (K : Value → Value → Value → Value → M Value) : M Value :=
  K x0 x4 x5 (.int .i64 (0))

theorem L1_SetAll_r6_ok (F : Nat) (x0 x4 x5 : Value) (K : Value → Value → Value → Value → M Value) : L1_SetAll_r6 F x0 x4 x5 K = L1_SetAll_R F 6 [(5, x5), (4, x4), (0, x0)] [0, 4, 5, 6] K := by kernel_rfl

def L1_SetAll_r5 (F : Nat) (x0 x4 : Value) (K : Value → Value → Value → M Value) : M Value :=
  K x0 x4 (.slice none 0 0)

theorem L1_SetAll_r5_ok (F : Nat) (x0 x4 : Value) (K : Value → Value → Value → M Value) : L1_SetAll_r5 F x0 x4 K = L1_SetAll_R F 5 [(4, x4), (0, x0)] [0, 4, 5] K := by kernel_rfl

def L1_SetAll_r4 (F : Nat) (x0 : Value) (K : Value → Value → M Value) : M Value :=
  bnd (opBuild [(.slice none 0 0)] []) fun v17 => bnd (opBoxN v17) fun v18 => K x0 v18

theorem L1_SetAll_r4_ok (F : Nat) (x0 : Value) (K : Value → Value → M Value) : L1_SetAll_r4 F x0 K = L1_SetAll_R F 4 [(0, x0)] [0, 4] K := by kernel_rfl

def L1_SetAll_r3 (F : Nat) (K : Value → M Value) : M Value :=
  K (.bool false)

theorem L1_SetAll_r3_ok (F : Nat) (K : Value → M Value) : L1_SetAll_r3 F K = L1_SetAll_R F 3 [] [2] K := by kernel_rfl

def L1_SetAll_r2 (F : Nat) (x0 x3 : Value) (K : Value → Value → M Value) : M Value :=
  bnd (opNot x3) fun v16 => K x0 v16

theorem L1_SetAll_r2_ok (F : Nat) (x0 x3 : Value) (K : Value → Value → M Value) : L1_SetAll_r2 F x0 x3 K = L1_SetAll_R F 2 [(3, x3), (0, x0)] [0, 16] K := by kernel_rfl

def L1_SetAll_r1 (F : Nat) (x0 : Value) (K : Value → Value → M Value) : M Value :=
  bnd (L1_begun F) fun v14 => K x0 v14

theorem L1_SetAll_r1_ok (F : Nat) (x0 : Value) (K : Value → Value → M Value) : L1_SetAll_r1 F x0 K = L1_SetAll_R F 1 [(0, x0)] [0, 3] K := by kernel_rfl

def L1_SetAll_r0 (F : Nat) (x0 : Value) (K : Value → M Value) : M Value :=
  K x0

theorem L1_SetAll_r0_ok (F : Nat) (x0 : Value) (K : Value → M Value) : L1_SetAll_r0 F x0 K = L1_SetAll_R F 0 [(0, x0)] [0] K := by kernel_rfl

def L1_SetAll (F : Nat) (x0 : Value) : M Value :=
  L1_SetAll_r0 F x0 (fun x0 => L1_SetAll_r1 F x0 (fun x0 x3 => L1_SetAll_r2 F x0 x3 (fun x0 x16 => onB x16 (L1_SetAll_r3 F (fun x2 => ret x2)) (L1_SetAll_r4 F x0 (fun x0 x4 => L1_SetAll_r5 F x0 x4 (fun x0 x4 x5 => L1_SetAll_r6 F x0 x4 x5 (fun x0 x4 x5 x6 => L1_SetAll_l1 F (L1_SetAll_k0 F ) F x0 x4 x5 x6)))))))

def L1_SetAll_m (F : Nat) : List Value → M Value
  | [x0] => L1_SetAll F x0
  | _ => fail

theorem L1_SetAll_body : Tryd.f7.body = some (.seq (.region 0 (opsOf Tryd.f7 0) false) (.seq (.region 1 (opsOf Tryd.f7 1) false) (.seq (.seq (.region 2 (opsOf Tryd.f7 2) false) (.cond (.tmp 16) (.seq (.region 3 (opsOf Tryd.f7 3) false) .ret) .skip)) (.seq (.region 4 (opsOf Tryd.f7 4) false) (.seq (.region 5 (opsOf Tryd.f7 5) false) (.seq (.seq (.region 6 (opsOf Tryd.f7 6) false) (.block 0 (.loop (.seq (.seq (.region 7 (opsOf Tryd.f7 7) false) (.cond (.tmp 26) .skip (.exit 0))) (.seq (.block 1 (.seq (.region 9 (opsOf Tryd.f7 9) false) (.seq (.seq (.region 10 (opsOf Tryd.f7 10) false) (.block 2 (.seq (.region 19 (opsOf Tryd.f7 19) false) (.cond (.tmp 62) (.seq (.region 20 (opsOf Tryd.f7 20) false) (.seq (.seq (.region 21 (opsOf Tryd.f7 21) false) (.cond (.tmp 79) (.seq (.region 22 (opsOf Tryd.f7 22) false) .ret) .skip)) (.seq (.region 23 (opsOf Tryd.f7 23) false) (.cond (.tmp 80) (.region 24 (opsOf Tryd.f7 24) false) .skip)))) (.seq (.region 25 (opsOf Tryd.f7 25) false) (.cond (.tmp 85) (.seq (.seq (.region 26 (opsOf Tryd.f7 26) true) (.cond (.tmp 95) (.seq (.region 27 (opsOf Tryd.f7 27) false) .ret) .skip)) (.region 28 (opsOf Tryd.f7 28) false)) (.seq (.region 29 (opsOf Tryd.f7 29) false) (.cond (.tmp 101) (.seq (.region 30 (opsOf Tryd.f7 30) false) (.seq (.region 31 (opsOf Tryd.f7 31) false) (.seq (.seq (.region 32 (opsOf Tryd.f7 32) false) (.block 5 (.loop (.seq (.seq (.region 33 (opsOf Tryd.f7 33) false) (.cond (.tmp 111) .skip (.exit 5))) (.seq (.block 6 (.region 35 (opsOf Tryd.f7 35) false)) (.region 34 (opsOf Tryd.f7 34) false)))))) (.seq (.region 36 (opsOf Tryd.f7 36) false) (.cond (.tmp 130) (.seq (.region 37 (opsOf Tryd.f7 37) false) .ret) .skip))))) (.seq (.region 38 (opsOf Tryd.f7 38) false) (.cond (.tmp 131) (.seq (.region 39 (opsOf Tryd.f7 39) true) (.cond (.tmp 141) (.seq (.region 40 (opsOf Tryd.f7 40) false) .ret) .skip)) (.seq (.region 11 (opsOf Tryd.f7 11) false) (.seq (.seq (.region 12 (opsOf Tryd.f7 12) false) (.block 3 (.loop (.seq (.seq (.region 13 (opsOf Tryd.f7 13) false) (.cond (.tmp 42) .skip (.exit 3))) (.seq (.block 4 (.seq (.region 15 (opsOf Tryd.f7 15) true) (.cond (.tmp 51) (.region 16 (opsOf Tryd.f7 16) false) .skip))) (.region 14 (opsOf Tryd.f7 14) false)))))) (.seq (.region 17 (opsOf Tryd.f7 17) false) (.cond (.tmp 61) (.seq (.region 18 (opsOf Tryd.f7 18) false) .ret) .skip)))))))))))))) (.seq (.region 41 (opsOf Tryd.f7 41) false) (.cond (.tmp 153) (.seq (.region 42 (opsOf Tryd.f7 42) false) .ret) .skip))))) (.region 8 (opsOf Tryd.f7 8) false)))))) (.seq (.region 43 (opsOf Tryd.f7 43) false) .ret))))))) := by kernel_rfl

theorem L1_SetAll_ok (F : Nat) : Sim Tryd.prog TrydG 7 (L1_SetAll_m F) := by
 have hE : EnvOK Tryd.prog TrydG (L1_SetAll_env F) := (EnvOK.cons (L1_begun_ok F) (EnvOK.cons (bitset_Set_Add_ok F) (EnvOK.cons (L1_may_ok F) (EnvOK.cons (bitset_Set_Has_ok F) (EnvOK.cons (bitset_Set_Len_ok F) (EnvOK.cons (bitset_Set_All_ok F) (EnvOK.cons (bitset_Set_Remove_ok F) (EnvOK.cons (L1_Cut_ok F) (EnvOK.cons (bitset_Of_ok F) (EnvOK.cons (bitset_Set_First_ok F) (EnvOK.cons (R1_Eq_ok F) (EnvOK.cons (L1_of_ok F) (EnvOK.cons (R1_In_ok F) (EnvOK.cons (R1_Put_ok F) (EnvOK.cons (L1_without_ok F) (EnvOK.cons (bitset_Set_Join_ok F) EnvOK.nil))))))))))))))))
 refine Sim.of_body (E := L1_SetAll_env F) Tryd.func7 L1_SetAll_body Tryd.call7 ?_ ?_
 · intro args hl; unfold L1_SetAll_m; split
   · exact absurd hl (Nat.not_lt.2 (Nat.le_of_ble_eq_true rfl))
   · rfl
 · intro args ρ h w z; unfold L1_SetAll_m; split
   · rename_i x0; show OKc _ _ [(0, x0)] _ _
     refine rSeq ?_
     refine cLess [0] ?_
     refine xR hE [0] rfl (L1_SetAll_r0_ok F _ _) ?_
     intro x0
     show OKq _ _ _ [(0, x0)] _
     refine rThen ?_
     refine rSeq ?_
     refine cLess [0] ?_
     refine xR hE [0, 3] rfl (L1_SetAll_r1_ok F _ _) ?_
     intro x0 x3
     show OKq _ _ _ [(3, x3), (0, x0)] _
     refine rThen ?_
     refine rSeq ?_
     refine rSeq ?_
     refine cLess [3, 0] ?_
     refine xR hE [0, 16] rfl (L1_SetAll_r2_ok F _ _ _) ?_
     intro x0 x16
     show OKq _ _ _ [(16, x16), (0, x0)] _
     refine rThen ?_
     refine xCond rfl rfl ?_ ?_
     · refine rSeq ?_
       refine cLess [] ?_
       refine xR hE [2] rfl (L1_SetAll_r3_ok F _) ?_
       intro x2
       show OKq _ _ _ [(2, x2)] _
       refine rThen ?_
       refine rRet ?_
       refine xThenR ?_
       exact rDone (.inr rfl) rfl
     · refine rSkip ?_
       refine rThen ?_
       refine rSeq ?_
       refine cLess [0] ?_
       refine xR hE [0, 4] rfl (L1_SetAll_r4_ok F _ _) ?_
       intro x0 x4
       show OKq _ _ _ [(4, x4), (0, x0)] _
       refine rThen ?_
       refine rSeq ?_
       refine cLess [4, 0] ?_
       refine xR hE [0, 4, 5] rfl (L1_SetAll_r5_ok F _ _ _) ?_
       intro x0 x4 x5
       show OKq _ _ _ [(5, x5), (4, x4), (0, x0)] _
       refine rThen ?_
       refine xSeq [] (L1_SetAll_k0 F ) ?_ fun hj0 => ?_
       · show OKc _ _ [] _ _
         refine rSeq ?_
         refine cLess [] ?_
         refine xR hE [2] rfl (L1_SetAll_r43_ok F _) ?_
         intro x2
         show OKq _ _ _ [(2, x2)] _
         refine rThen ?_
         refine rRet ?_
         exact rDone (.inr rfl) rfl
       · refine rSeq ?_
         refine cLess [5, 4, 0] ?_
         refine xR hE [0, 4, 5, 6] rfl (L1_SetAll_r6_ok F _ _ _ _) ?_
         intro x0 x4 x5 x6
         show OKq _ _ _ [(6, x6), (5, x5), (4, x4), (0, x0)] _
         refine rThen ?_
         refine rBlock ?_
         refine cLess [6, 5, 4, 0] ?_
         refine xLoopAt [0, 4, 5, 6] [] (fun k1 => L1_SetAll_l1 F (L1_SetAll_k0 F ) k1) F [x0, x4, x5, x6] rfl rfl (fun _ _ _ _ => rfl) fun I hI1 k1 => ?_
         intro x0 x4 x5 x6
         show OKc _ _ [(6, x6), (5, x5), (4, x4), (0, x0)] _ _
         refine cAs (L1_SetAll_l1_s F _ _ _ _ _ _) ?_
         refine rSeq ?_
         refine rSeq ?_
         refine cLess [6, 5, 4, 0] ?_
         refine xR hE [0, 4, 5, 6, 26] rfl (L1_SetAll_r7_ok F _ _ _ _ _) ?_
         intro x0 x4 x5 x6 x26
         show OKq _ _ _ [(26, x26), (6, x6), (5, x5), (4, x4), (0, x0)] _
         refine rThen ?_
         refine xCond rfl rfl ?_ ?_
         · refine rSkip ?_
           refine rThen ?_
           refine xSeq [0, 4, 5, 6] (L1_SetAll_k2 F (L1_SetAll_l1 F (L1_SetAll_k0 F ) k1) ) ?_ fun hj2 => ?_
           · intro x0 x4 x5 x6
             show OKc _ _ [(6, x6), (5, x5), (4, x4), (0, x0)] _ _
             refine cLess [6, 5, 4, 0] ?_
             refine xR hE [0, 4, 5, 6] rfl (L1_SetAll_r8_ok F _ _ _ _ _) ?_
             intro x0 x4 x5 x6
             show OKq _ _ _ [(6, x6), (5, x5), (4, x4), (0, x0)] _
             exact qLess [6, 5, 4, 0] (hI1 k1 x0 x4 x5 x6)
           · refine rBlock ?_
             refine rSeq ?_
             refine cLess [6, 5, 4, 0] ?_
             refine xR hE [0, 4, 5, 6, 7] rfl (L1_SetAll_r9_ok F _ _ _ _ _) ?_
             intro x0 x4 x5 x6 x7
             show OKq _ _ _ [(7, x7), (6, x6), (5, x5), (4, x4), (0, x0)] _
             refine rThen ?_
             refine xSeq [0, 4, 5, 6] (L1_SetAll_k3 F (L1_SetAll_l1 F (L1_SetAll_k0 F ) k1) ) ?_ fun hj3 => ?_
             · intro x0 x4 x5 x6
               show OKc _ _ [(6, x6), (5, x5), (4, x4), (0, x0)] _ _
               refine rSeq ?_
               refine cLess [6, 5, 4, 0] ?_
               refine xR hE [0, 4, 5, 6, 153] rfl (L1_SetAll_r41_ok F _ _ _ _ _) ?_
               intro x0 x4 x5 x6 x153
               show OKq _ _ _ [(153, x153), (6, x6), (5, x5), (4, x4), (0, x0)] _
               refine rThen ?_
               refine xCond rfl rfl ?_ ?_
               · refine rSeq ?_
                 refine cLess [] ?_
                 refine xR hE [2] rfl (L1_SetAll_r42_ok F _) ?_
                 intro x2
                 show OKq _ _ _ [(2, x2)] _
                 refine rThen ?_
                 refine rRet ?_
                 refine xBlockR ?_
                 refine xThenR ?_
                 refine xThenR ?_
                 refine xBlockR ?_
                 refine xThenR ?_
                 exact rDone (.inr rfl) rfl
               · refine rSkip ?_
                 refine xBlockN ?_
                 exact qLess [6, 5, 4, 0] (hj2 x0 x4 x5 x6)
             · refine rSeq ?_
               refine cLess [7, 6, 5, 4, 0] ?_
               refine xR hE [0, 4, 5, 6, 7, 34] rfl (L1_SetAll_r10_ok F _ _ _ _ _ _) ?_
               intro x0 x4 x5 x6 x7 x34
               show OKq _ _ _ [(34, x34), (7, x7), (6, x6), (5, x5), (4, x4), (0, x0)] _
               refine rThen ?_
               refine rBlock ?_
               refine rSeq ?_
               refine cLess [34, 7, 6, 5, 4, 0] ?_
               refine xR hE [0, 4, 5, 6, 7, 34, 62] rfl (L1_SetAll_r19_ok F _ _ _ _ _ _ _) ?_
               intro x0 x4 x5 x6 x7 x34 x62
               show OKq _ _ _ [(62, x62), (34, x34), (7, x7), (6, x6), (5, x5), (4, x4), (0, x0)] _
               refine rThen ?_
               refine xCond rfl rfl ?_ ?_
               · refine rSeq ?_
                 refine cLess [7, 6, 5, 4, 0] ?_
                 refine xR hE [0, 4, 5, 6, 7, 8] rfl (L1_SetAll_r20_ok F _ _ _ _ _ _) ?_
                 intro x0 x4 x5 x6 x7 x8
                 show OKq _ _ _ [(8, x8), (7, x7), (6, x6), (5, x5), (4, x4), (0, x0)] _
                 refine rThen ?_
                 refine rSeq ?_
                 refine rSeq ?_
                 refine cLess [8, 7, 6, 5, 4, 0] ?_
                 refine xR hE [0, 4, 5, 6, 7, 8, 79] rfl (L1_SetAll_r21_ok F _ _ _ _ _ _ _) ?_
                 intro x0 x4 x5 x6 x7 x8 x79
                 show OKq _ _ _ [(79, x79), (8, x8), (7, x7), (6, x6), (5, x5), (4, x4), (0, x0)] _
                 refine rThen ?_
                 refine xCond rfl rfl ?_ ?_
                 · refine rSeq ?_
                   refine cLess [] ?_
                   refine xR hE [2] rfl (L1_SetAll_r22_ok F _) ?_
                   intro x2
                   show OKq _ _ _ [(2, x2)] _
                   refine rThen ?_
                   refine rRet ?_
                   refine xThenR ?_
                   refine xBlockR ?_
                   refine xThenR ?_
                   refine xBlockR ?_
                   refine xThenR ?_
                   refine xThenR ?_
                   refine xBlockR ?_
                   refine xThenR ?_
                   exact rDone (.inr rfl) rfl
                 · refine rSkip ?_
                   refine rThen ?_
                   refine rSeq ?_
                   refine cLess [8, 7, 6, 5, 4, 0] ?_
                   refine xR hE [0, 4, 5, 6, 7, 80] rfl (L1_SetAll_r23_ok F _ _ _ _ _ _ _) ?_
                   intro x0 x4 x5 x6 x7 x80
                   show OKq _ _ _ [(80, x80), (7, x7), (6, x6), (5, x5), (4, x4), (0, x0)] _
                   refine rThen ?_
                   refine xCond rfl rfl ?_ ?_
                   · refine cLess [7, 6, 5, 4, 0] ?_
                     refine xR hE [0, 4, 5, 6] rfl (L1_SetAll_r24_ok F _ _ _ _ _ _) ?_
                     intro x0 x4 x5 x6
                     show OKq _ _ _ [(6, x6), (5, x5), (4, x4), (0, x0)] _
                     refine xBlockN ?_
                     exact qLess [6, 5, 4, 0] (hj3 x0 x4 x5 x6)
                   · refine rSkip ?_
                     refine xBlockN ?_
                     exact qLess [6, 5, 4, 0] (hj3 x0 x4 x5 x6)
               · refine rSeq ?_
                 refine cLess [34, 7, 6, 5, 4, 0] ?_
                 refine xR hE [0, 4, 5, 6, 7, 34, 85] rfl (L1_SetAll_r25_ok F _ _ _ _ _ _ _) ?_
                 intro x0 x4 x5 x6 x7 x34 x85
                 show OKq _ _ _ [(85, x85), (34, x34), (7, x7), (6, x6), (5, x5), (4, x4), (0, x0)] _
                 refine rThen ?_
                 refine xCond rfl rfl ?_ ?_
                 · refine rSeq ?_
                   refine rSeq ?_
                   refine cLess [7, 6, 5, 4, 0] ?_
                   refine xD Trydmix hE [0, 4, 5, 6, 7, 95] rfl L1_SetAll_r26_good (L1_SetAll_r26_ok F _ _ _ _ _ _) ?_
                   intro x0 x4 x5 x6 x7 x95
                   show OKq _ _ _ [(95, x95), (7, x7), (6, x6), (5, x5), (4, x4), (0, x0)] _
                   refine rThen ?_
                   refine xCond rfl rfl ?_ ?_
                   · refine rSeq ?_
                     refine cLess [] ?_
                     refine xR hE [2] rfl (L1_SetAll_r27_ok F _) ?_
                     intro x2
                     show OKq _ _ _ [(2, x2)] _
                     refine rThen ?_
                     refine rRet ?_
                     refine xThenR ?_
                     refine xBlockR ?_
                     refine xThenR ?_
                     refine xBlockR ?_
                     refine xThenR ?_
                     refine xThenR ?_
                     refine xBlockR ?_
                     refine xThenR ?_
                     exact rDone (.inr rfl) rfl
                   · refine rSkip ?_
                     refine rThen ?_
                     refine cLess [7, 6, 5, 4, 0] ?_
                     refine xR hE [0, 4, 5, 6] rfl (L1_SetAll_r28_ok F _ _ _ _ _ _) ?_
                     intro x0 x4 x5 x6
                     show OKq _ _ _ [(6, x6), (5, x5), (4, x4), (0, x0)] _
                     refine xBlockN ?_
                     exact qLess [6, 5, 4, 0] (hj3 x0 x4 x5 x6)
                 · refine rSeq ?_
                   refine cLess [34, 7, 6, 5, 4, 0] ?_
                   refine xR hE [0, 4, 5, 6, 7, 34, 101] rfl (L1_SetAll_r29_ok F _ _ _ _ _ _ _) ?_
                   intro x0 x4 x5 x6 x7 x34 x101
                   show OKq _ _ _ [(101, x101), (34, x34), (7, x7), (6, x6), (5, x5), (4, x4), (0, x0)] _
                   refine rThen ?_
                   refine xCond rfl rfl ?_ ?_
                   · refine rSeq ?_
                     refine cLess [7, 6, 5, 4, 0] ?_
                     refine xR hE [0, 4, 5, 6, 7, 9] rfl (L1_SetAll_r30_ok F _ _ _ _ _ _) ?_
                     intro x0 x4 x5 x6 x7 x9
                     show OKq _ _ _ [(9, x9), (7, x7), (6, x6), (5, x5), (4, x4), (0, x0)] _
                     refine rThen ?_
                     refine rSeq ?_
                     refine cLess [9, 7, 6, 5, 4, 0] ?_
                     refine xR hE [0, 4, 5, 6, 7, 9, 10] rfl (L1_SetAll_r31_ok F _ _ _ _ _ _ _) ?_
                     intro x0 x4 x5 x6 x7 x9 x10
                     show OKq _ _ _ [(10, x10), (9, x9), (7, x7), (6, x6), (5, x5), (4, x4), (0, x0)] _
                     refine rThen ?_
                     refine xSeq [0, 4, 5, 6, 7, 10] (L1_SetAll_k4 F (L1_SetAll_l1 F (L1_SetAll_k0 F ) k1) ) ?_ fun hj4 => ?_
                     · intro x0 x4 x5 x6 x7 x10
                       show OKc _ _ [(10, x10), (7, x7), (6, x6), (5, x5), (4, x4), (0, x0)] _ _
                       refine rSeq ?_
                       refine cLess [10, 7, 6, 5, 4, 0] ?_
                       refine xR hE [0, 4, 5, 6, 130] rfl (L1_SetAll_r36_ok F _ _ _ _ _ _ _) ?_
                       intro x0 x4 x5 x6 x130
                       show OKq _ _ _ [(130, x130), (6, x6), (5, x5), (4, x4), (0, x0)] _
                       refine rThen ?_
                       refine xCond rfl rfl ?_ ?_
                       · refine rSeq ?_
                         refine cLess [] ?_
                         refine xR hE [2] rfl (L1_SetAll_r37_ok F _) ?_
                         intro x2
                         show OKq _ _ _ [(2, x2)] _
                         refine rThen ?_
                         refine rRet ?_
                         refine xBlockR ?_
                         refine xThenR ?_
                         refine xBlockR ?_
                         refine xThenR ?_
                         refine xThenR ?_
                         refine xBlockR ?_
                         refine xThenR ?_
                         exact rDone (.inr rfl) rfl
                       · refine rSkip ?_
                         refine xBlockN ?_
                         exact qLess [6, 5, 4, 0] (hj3 x0 x4 x5 x6)
                     · refine rSeq ?_
                       refine cLess [10, 9, 7, 6, 5, 4, 0] ?_
                       refine xR hE [0, 4, 5, 6, 7, 9, 10, 11] rfl (L1_SetAll_r32_ok F _ _ _ _ _ _ _ _) ?_
                       intro x0 x4 x5 x6 x7 x9 x10 x11
                       show OKq _ _ _ [(11, x11), (10, x10), (9, x9), (7, x7), (6, x6), (5, x5), (4, x4), (0, x0)] _
                       refine rThen ?_
                       refine rBlock ?_
                       refine cLess [11, 10, 9, 7, 6, 5, 4, 0] ?_
                       refine xLoopAt [0, 4, 5, 6, 7, 9, 10, 11] [] (fun k5 => L1_SetAll_l5 F (fun x0 x4 x5 x6 x7 x10 => L1_SetAll_k4 F (L1_SetAll_l1 F (L1_SetAll_k0 F ) k1) x0 x4 x5 x6 x7 x10) k5) F [x0, x4, x5, x6, x7, x9, x10, x11] rfl rfl (fun _ _ _ _ _ _ _ _ => rfl) fun I hI5 k5 => ?_
                       intro x0 x4 x5 x6 x7 x9 x10 x11
                       show OKc _ _ [(11, x11), (10, x10), (9, x9), (7, x7), (6, x6), (5, x5), (4, x4), (0, x0)] _ _
                       refine cAs (L1_SetAll_l5_s F _ _ _ _ _ _ _ _ _ _) ?_
                       refine rSeq ?_
                       refine rSeq ?_
                       refine cLess [11, 10, 9, 7, 6, 5, 4, 0] ?_
                       refine xR hE [0, 4, 5, 6, 7, 9, 10, 11, 111] rfl (L1_SetAll_r33_ok F _ _ _ _ _ _ _ _ _) ?_
                       intro x0 x4 x5 x6 x7 x9 x10 x11 x111
                       show OKq _ _ _ [(111, x111), (11, x11), (10, x10), (9, x9), (7, x7), (6, x6), (5, x5), (4, x4), (0, x0)] _
                       refine rThen ?_
                       refine xCond rfl rfl ?_ ?_
                       · refine rSkip ?_
                         refine rThen ?_
                         refine rSeq ?_
                         refine rBlock ?_
                         refine cLess [11, 10, 9, 7, 6, 5, 4, 0] ?_
                         refine xR hE [0, 4, 5, 6, 7, 9, 10, 11] rfl (L1_SetAll_r35_ok F _ _ _ _ _ _ _ _ _) ?_
                         intro x0 x4 x5 x6 x7 x9 x10 x11
                         show OKq _ _ _ [(11, x11), (10, x10), (9, x9), (7, x7), (6, x6), (5, x5), (4, x4), (0, x0)] _
                         refine xBlockN ?_
                         refine rThen ?_
                         refine cLess [11, 10, 9, 7, 6, 5, 4, 0] ?_
                         refine xR hE [0, 4, 5, 6, 7, 9, 10, 11] rfl (L1_SetAll_r34_ok F _ _ _ _ _ _ _ _ _) ?_
                         intro x0 x4 x5 x6 x7 x9 x10 x11
                         show OKq _ _ _ [(11, x11), (10, x10), (9, x9), (7, x7), (6, x6), (5, x5), (4, x4), (0, x0)] _
                         exact qLess [11, 10, 9, 7, 6, 5, 4, 0] (hI5 k5 x0 x4 x5 x6 x7 x9 x10 x11)
                       · refine rExit ?_
                         refine xThenX ?_
                         refine xThenX ?_
                         refine rOut ?_
                         exact qLess [10, 7, 6, 5, 4, 0] (hj4 x0 x4 x5 x6 x7 x10)
                   · refine rSeq ?_
                     refine cLess [34, 7, 6, 5, 4, 0] ?_
                     refine xR hE [0, 4, 5, 6, 7, 131] rfl (L1_SetAll_r38_ok F _ _ _ _ _ _ _) ?_
                     intro x0 x4 x5 x6 x7 x131
                     show OKq _ _ _ [(131, x131), (7, x7), (6, x6), (5, x5), (4, x4), (0, x0)] _
                     refine rThen ?_
                     refine xCond rfl rfl ?_ ?_
                     · refine rSeq ?_
                       refine cLess [7, 6, 5, 4, 0] ?_
                       refine xD Trydmix hE [0, 4, 5, 6, 141] rfl L1_SetAll_r39_good (L1_SetAll_r39_ok F _ _ _ _ _ _) ?_
                       intro x0 x4 x5 x6 x141
                       show OKq _ _ _ [(141, x141), (6, x6), (5, x5), (4, x4), (0, x0)] _
                       refine rThen ?_
                       refine xCond rfl rfl ?_ ?_
                       · refine rSeq ?_
                         refine cLess [] ?_
                         refine xR hE [2] rfl (L1_SetAll_r40_ok F _) ?_
                         intro x2
                         show OKq _ _ _ [(2, x2)] _
                         refine rThen ?_
                         refine rRet ?_
                         refine xBlockR ?_
                         refine xThenR ?_
                         refine xBlockR ?_
                         refine xThenR ?_
                         refine xThenR ?_
                         refine xBlockR ?_
                         refine xThenR ?_
                         exact rDone (.inr rfl) rfl
                       · refine rSkip ?_
                         refine xBlockN ?_
                         exact qLess [6, 5, 4, 0] (hj3 x0 x4 x5 x6)
                     · refine rSeq ?_
                       refine cLess [7, 6, 5, 4, 0] ?_
                       refine xR hE [0, 4, 5, 6, 7, 12] rfl (L1_SetAll_r11_ok F _ _ _ _ _ _) ?_
                       intro x0 x4 x5 x6 x7 x12
                       show OKq _ _ _ [(12, x12), (7, x7), (6, x6), (5, x5), (4, x4), (0, x0)] _
                       refine rThen ?_
                       refine xSeq [0, 4, 5, 6, 7, 12] (L1_SetAll_k6 F (L1_SetAll_l1 F (L1_SetAll_k0 F ) k1) ) ?_ fun hj6 => ?_
                       · intro x0 x4 x5 x6 x7 x12
                         show OKc _ _ [(12, x12), (7, x7), (6, x6), (5, x5), (4, x4), (0, x0)] _ _
                         refine rSeq ?_
                         refine cLess [12, 7, 6, 5, 4, 0] ?_
                         refine xR hE [0, 4, 5, 6, 61] rfl (L1_SetAll_r17_ok F _ _ _ _ _ _ _) ?_
                         intro x0 x4 x5 x6 x61
                         show OKq _ _ _ [(61, x61), (6, x6), (5, x5), (4, x4), (0, x0)] _
                         refine rThen ?_
                         refine xCond rfl rfl ?_ ?_
                         · refine rSeq ?_
                           refine cLess [] ?_
                           refine xR hE [2] rfl (L1_SetAll_r18_ok F _) ?_
                           intro x2
                           show OKq _ _ _ [(2, x2)] _
                           refine rThen ?_
                           refine rRet ?_
                           refine xBlockR ?_
                           refine xThenR ?_
                           refine xBlockR ?_
                           refine xThenR ?_
                           refine xThenR ?_
                           refine xBlockR ?_
                           refine xThenR ?_
                           exact rDone (.inr rfl) rfl
                         · refine rSkip ?_
                           refine xBlockN ?_
                           exact qLess [6, 5, 4, 0] (hj3 x0 x4 x5 x6)
                       · refine rSeq ?_
                         refine cLess [12, 7, 6, 5, 4, 0] ?_
                         refine xR hE [0, 4, 5, 6, 7, 12, 13] rfl (L1_SetAll_r12_ok F _ _ _ _ _ _ _) ?_
                         intro x0 x4 x5 x6 x7 x12 x13
                         show OKq _ _ _ [(13, x13), (12, x12), (7, x7), (6, x6), (5, x5), (4, x4), (0, x0)] _
                         refine rThen ?_
                         refine rBlock ?_
                         refine cLess [13, 12, 7, 6, 5, 4, 0] ?_
                         refine xLoopAt [0, 4, 5, 6, 7, 12, 13] [] (fun k7 => L1_SetAll_l7 F (fun x0 x4 x5 x6 x7 x12 => L1_SetAll_k6 F (L1_SetAll_l1 F (L1_SetAll_k0 F ) k1) x0 x4 x5 x6 x7 x12) k7) F [x0, x4, x5, x6, x7, x12, x13] rfl rfl (fun _ _ _ _ _ _ _ => rfl) fun I hI7 k7 => ?_
                         intro x0 x4 x5 x6 x7 x12 x13
                         show OKc _ _ [(13, x13), (12, x12), (7, x7), (6, x6), (5, x5), (4, x4), (0, x0)] _ _
                         refine cAs (L1_SetAll_l7_s F _ _ _ _ _ _ _ _ _) ?_
                         refine rSeq ?_
                         refine rSeq ?_
                         refine cLess [13, 12, 7, 6, 5, 4, 0] ?_
                         refine xR hE [0, 4, 5, 6, 7, 12, 13, 42] rfl (L1_SetAll_r13_ok F _ _ _ _ _ _ _ _) ?_
                         intro x0 x4 x5 x6 x7 x12 x13 x42
                         show OKq _ _ _ [(42, x42), (13, x13), (12, x12), (7, x7), (6, x6), (5, x5), (4, x4), (0, x0)] _
                         refine rThen ?_
                         refine xCond rfl rfl ?_ ?_
                         · refine rSkip ?_
                           refine rThen ?_
                           refine xSeq [0, 4, 5, 6, 7, 12, 13] (L1_SetAll_k8 F (L1_SetAll_l7 F (fun x0 x4 x5 x6 x7 x12 => L1_SetAll_k6 F (L1_SetAll_l1 F (L1_SetAll_k0 F ) k1) x0 x4 x5 x6 x7 x12) k7) ) ?_ fun hj8 => ?_
                           · intro x0 x4 x5 x6 x7 x12 x13
                             show OKc _ _ [(13, x13), (12, x12), (7, x7), (6, x6), (5, x5), (4, x4), (0, x0)] _ _
                             refine cLess [13, 12, 7, 6, 5, 4, 0] ?_
                             refine xR hE [0, 4, 5, 6, 7, 12, 13] rfl (L1_SetAll_r14_ok F _ _ _ _ _ _ _ _) ?_
                             intro x0 x4 x5 x6 x7 x12 x13
                             show OKq _ _ _ [(13, x13), (12, x12), (7, x7), (6, x6), (5, x5), (4, x4), (0, x0)] _
                             exact qLess [13, 12, 7, 6, 5, 4, 0] (hI7 k7 x0 x4 x5 x6 x7 x12 x13)
                           · refine rBlock ?_
                             refine rSeq ?_
                             refine cLess [13, 12, 7, 6, 5, 4, 0] ?_
                             refine xD Trydmix hE [0, 4, 5, 6, 7, 12, 13, 51] rfl L1_SetAll_r15_good (L1_SetAll_r15_ok F _ _ _ _ _ _ _ _) ?_
                             intro x0 x4 x5 x6 x7 x12 x13 x51
                             show OKq _ _ _ [(51, x51), (13, x13), (12, x12), (7, x7), (6, x6), (5, x5), (4, x4), (0, x0)] _
                             refine rThen ?_
                             refine xCond rfl rfl ?_ ?_
                             · refine cLess [13, 7, 6, 5, 4, 0] ?_
                               refine xR hE [0, 4, 5, 6, 7, 12, 13] rfl (L1_SetAll_r16_ok F _ _ _ _ _ _ _) ?_
                               intro x0 x4 x5 x6 x7 x12 x13
                               show OKq _ _ _ [(13, x13), (12, x12), (7, x7), (6, x6), (5, x5), (4, x4), (0, x0)] _
                               refine xBlockN ?_
                               exact qLess [13, 12, 7, 6, 5, 4, 0] (hj8 x0 x4 x5 x6 x7 x12 x13)
                             · refine rSkip ?_
                               refine xBlockN ?_
                               exact qLess [13, 12, 7, 6, 5, 4, 0] (hj8 x0 x4 x5 x6 x7 x12 x13)
                         · refine rExit ?_
                           refine xThenX ?_
                           refine xThenX ?_
                           refine rOut ?_
                           exact qLess [12, 7, 6, 5, 4, 0] (hj6 x0 x4 x5 x6 x7 x12)
         · refine rExit ?_
           refine xThenX ?_
           refine xThenX ?_
           refine rOut ?_
           exact qLess [] (hj0 )
   · exact rFail


/-! ### haruspex/haruspexlaw1.SetPairs -/

def L1_SetPairs_env (F : Nat) : Env := envOf [(9, L1_begun_m F), (10, bitset_Set_Add_m F), (14, bitset_Set_All_m F), (16, L1_Cut_m F), (17, bitset_Of_m F), (19, R1_Eq_m F), (20, L1_of_m F), (21, bitset_Set_Eq_m F), (24, L1_without_m F), (26, bitset_Set_Copy_m F), (27, bitset_Set_Less_m F), (28, bitset_Set_Meet_m F), (29, bitset_Set_In_m F)]

noncomputable def L1_SetPairs_R (F : Nat) := rK Tryd.prog TrydG (L1_SetPairs_env F) Tryd.f8
noncomputable def L1_SetPairs_D (F : Nat) := dK Tryd.prog TrydG (L1_SetPairs_env F) Tryd.f8

def L1_SetPairs_r11 (F : Nat) (x6 x7 x8 x9 x10 x12 : Value) (K : Value → M Value) : M Value :=
  onB x12 (bnd (bitset_Set_Eq F x6 x7) fun v57 => bnd (R1_Eq F x8 x9) fun v60 => bnd (opEq eqB false v57 v60) fun v61 => onB v61 (bnd (bitset_Set_In F x6 x7) fun v66 => bnd (opLen x10) fun v68 => bnd (opLen x8) fun v70 => bnd (opBin .eql v68 v70) fun v71 => bnd (opEq eqB false v66 v71) fun v72 => onB v72 (bnd (bitset_Set_All F x6) fun v76 => bnd (R1_Eq F v76 x8) fun v78 => onB v78 (bnd (bitset_Set_All F x7) fun v82 => bnd (R1_Eq F v82 x9) fun v84 => K v84) (K (.bool false))) (K (.bool false))) (K (.bool false))) (K (.bool false))

theorem L1_SetPairs_r11_ok (F : Nat) (x6 x7 x8 x9 x10 x12 : Value) (K : Value → M Value) : L1_SetPairs_r11 F x6 x7 x8 x9 x10 x12 K = L1_SetPairs_R F 11 [(12, x12), (10, x10), (9, x9), (8, x8), (7, x7), (6, x6)] [4] K := by kernel_rfl

def L1_SetPairs_r10 (F : Nat) (x6 x7 x8 x9 x10 : Value) (K : Value → Value → Value → Value → Value → Value → M Value) : M Value :=
  bnd (bitset_Set_Less F x6 x7) fun v39 => bnd (bitset_Set_All F v39) fun v40 => bnd (L1_without F x8 x9) fun v43 => bnd (R1_Eq F v40 v43) fun v44 => onB v44 (bnd (bitset_Set_Meet F x6 x7) fun v48 => bnd (bitset_Set_All F v48) fun v49 => bnd (R1_Eq F v49 x10) fun v51 => K x6 x7 x8 x9 x10 v51) (K x6 x7 x8 x9 x10 (.bool false))

theorem L1_SetPairs_r10_ok (F : Nat) (x6 x7 x8 x9 x10 : Value) (K : Value → Value → Value → Value → Value → Value → M Value) : L1_SetPairs_r10 F x6 x7 x8 x9 x10 K = L1_SetPairs_R F 10 [(10, x10), (9, x9), (8, x8), (7, x7), (6, x6)] [6, 7, 8, 9, 10, 12] K := by kernel_rfl

def L1_SetPairs_r9 (F : Nat) (x6 x7 x8 x9 x10 x11 : Value) (K : Value → Value → Value → Value → Value → M Value) : M Value :=
  bnd (bitset_Set_Add F x11 (.int .i64 (77))) fun v36 => K x6 x7 x8 x9 x10

theorem L1_SetPairs_r9_ok (F : Nat) (x6 x7 x8 x9 x10 x11 : Value) (K : Value → Value → Value → Value → Value → M Value) : L1_SetPairs_r9 F x6 x7 x8 x9 x10 x11 K = L1_SetPairs_R F 9 [(11, x11), (10, x10), (9, x9), (8, x8), (7, x7), (6, x6)] [6, 7, 8, 9, 10] K := by kernel_rfl

def L1_SetPairs_r8 (F : Nat) (x6 x7 x8 x9 x10 : Value) (K : Value → Value → Value → Value → Value → Value → M Value) : M Value :=
  bnd (bitset_Set_Copy F x6) fun v34 => K x6 x7 x8 x9 x10 v34

theorem L1_SetPairs_r8_ok (F : Nat) (x6 x7 x8 x9 x10 : Value) (K : Value → Value → Value → Value → Value → Value → M Value) : L1_SetPairs_r8 F x6 x7 x8 x9 x10 K = L1_SetPairs_R F 8 [(10, x10), (9, x9), (8, x8), (7, x7), (6, x6)] [6, 7, 8, 9, 10, 11] K := by kernel_rfl

def L1_SetPairs_r7 (F : Nat) (x6 x7 x8 x9 : Value) (K : Value → Value → Value → Value → Value → M Value) : M Value :=
  bnd (L1_without F x8 x9) fun v31 => bnd (L1_without F x8 v31) fun v32 => K x6 x7 x8 x9 v32

theorem L1_SetPairs_r7_ok (F : Nat) (x6 x7 x8 x9 : Value) (K : Value → Value → Value → Value → Value → M Value) : L1_SetPairs_r7 F x6 x7 x8 x9 K = L1_SetPairs_R F 7 [(9, x9), (8, x8), (7, x7), (6, x6)] [6, 7, 8, 9, 10] K := by kernel_rfl

def L1_SetPairs_r6 (F : Nat) (x0 x1 x6 x7 : Value) (K : Value → Value → Value → Value → M Value) : M Value :=
  bnd (L1_of F x0) fun v25 => bnd (L1_of F x1) fun v27 => K x6 x7 v25 v27

theorem L1_SetPairs_r6_ok (F : Nat) (x0 x1 x6 x7 : Value) (K : Value → Value → Value → Value → M Value) : L1_SetPairs_r6 F x0 x1 x6 x7 K = L1_SetPairs_R F 6 [(7, x7), (6, x6), (1, x1), (0, x0)] [6, 7, 8, 9] K := by kernel_rfl

def L1_SetPairs_r5 (F : Nat) (x0 x1 : Value) (K : Value → Value → Value → Value → M Value) : M Value :=
  bnd (bitset_Of F x0) fun v21 => bnd (bitset_Of F x1) fun v23 => K x0 x1 v21 v23

theorem L1_SetPairs_r5_ok (F : Nat) (x0 x1 : Value) (K : Value → Value → Value → Value → M Value) : L1_SetPairs_r5 F x0 x1 K = L1_SetPairs_R F 5 [(1, x1), (0, x0)] [0, 1, 6, 7] K := by kernel_rfl

def L1_SetPairs_r4 (F : Nat) (x0 x1 : Value) (K : Value → Value → M Value) : M Value :=
  bnd (L1_Cut F x0 (.int .i64 (40))) fun v17 => bnd (L1_Cut F x1 (.int .i64 (40))) fun v19 => K v17 v19

theorem L1_SetPairs_r4_ok (F : Nat) (x0 x1 : Value) (K : Value → Value → M Value) : L1_SetPairs_r4 F x0 x1 K = L1_SetPairs_R F 4 [(1, x1), (0, x0)] [0, 1] K := by kernel_rfl

def L1_SetPairs_r3 (F : Nat) (K : Value → M Value) : M Value :=
  K (.bool false)

theorem L1_SetPairs_r3_ok (F : Nat) (K : Value → M Value) : L1_SetPairs_r3 F K = L1_SetPairs_R F 3 [] [4] K := by kernel_rfl

def L1_SetPairs_r2 (F : Nat) (x0 x1 x5 : Value) (K : Value → Value → Value → M Value) : M Value :=
  bnd (opNot x5) fun v15 => K x0 x1 v15

theorem L1_SetPairs_r2_ok (F : Nat) (x0 x1 x5 : Value) (K : Value → Value → Value → M Value) : L1_SetPairs_r2 F x0 x1 x5 K = L1_SetPairs_R F 2 [(5, x5), (1, x1), (0, x0)] [0, 1, 15] K := by kernel_rfl

def L1_SetPairs_r1 (F : Nat) (x0 x1 : Value) (K : Value → Value → Value → M Value) : M Value :=
  bnd (L1_begun F) fun v13 => K x0 x1 v13

theorem L1_SetPairs_r1_ok (F : Nat) (x0 x1 : Value) (K : Value → Value → Value → M Value) : L1_SetPairs_r1 F x0 x1 K = L1_SetPairs_R F 1 [(1, x1), (0, x0)] [0, 1, 5] K := by kernel_rfl

def L1_SetPairs_r0 (F : Nat) (x0 x1 : Value) (K : Value → Value → M Value) : M Value :=
  K x0 x1

theorem L1_SetPairs_r0_ok (F : Nat) (x0 x1 : Value) (K : Value → Value → M Value) : L1_SetPairs_r0 F x0 x1 K = L1_SetPairs_R F 0 [(1, x1), (0, x0)] [0, 1] K := by kernel_rfl

def L1_SetPairs (F : Nat) (x0 x1 : Value) : M Value :=
  L1_SetPairs_r0 F x0 x1 (fun x0 x1 => L1_SetPairs_r1 F x0 x1 (fun x0 x1 x5 => L1_SetPairs_r2 F x0 x1 x5 (fun x0 x1 x15 => onB x15 (L1_SetPairs_r3 F (fun x4 => ret x4)) (L1_SetPairs_r4 F x0 x1 (fun x0 x1 => L1_SetPairs_r5 F x0 x1 (fun x0 x1 x6 x7 => L1_SetPairs_r6 F x0 x1 x6 x7 (fun x6 x7 x8 x9 => L1_SetPairs_r7 F x6 x7 x8 x9 (fun x6 x7 x8 x9 x10 => L1_SetPairs_r8 F x6 x7 x8 x9 x10 (fun x6 x7 x8 x9 x10 x11 => L1_SetPairs_r9 F x6 x7 x8 x9 x10 x11 (fun x6 x7 x8 x9 x10 => L1_SetPairs_r10 F x6 x7 x8 x9 x10 (fun x6 x7 x8 x9 x10 x12 => L1_SetPairs_r11 F x6 x7 x8 x9 x10 x12 (fun x4 => ret x4))))))))))))

def L1_SetPairs_m (F : Nat) : List Value → M Value
  | [x0, x1] => L1_SetPairs F x0 x1
  | _ => fail

theorem L1_SetPairs_body : Tryd.f8.body = some (.seq (.region 0 (opsOf Tryd.f8 0) false) (.seq (.region 1 (opsOf Tryd.f8 1) false) (.seq (.seq (.region 2 (opsOf Tryd.f8 2) false) (.cond (.tmp 15) (.seq (.region 3 (opsOf Tryd.f8 3) false) .ret) .skip)) (.seq (.region 4 (opsOf Tryd.f8 4) false) (.seq (.region 5 (opsOf Tryd.f8 5) false) (.seq (.region 6 (opsOf Tryd.f8 6) false) (.seq (.region 7 (opsOf Tryd.f8 7) false) (.seq (.region 8 (opsOf Tryd.f8 8) false) (.seq (.region 9 (opsOf Tryd.f8 9) false) (.seq (.region 10 (opsOf Tryd.f8 10) false) (.seq (.region 11 (opsOf Tryd.f8 11) false) .ret))))))))))) := by kernel_rfl

theorem L1_SetPairs_ok (F : Nat) : Sim Tryd.prog TrydG 8 (L1_SetPairs_m F) := by
 have hE : EnvOK Tryd.prog TrydG (L1_SetPairs_env F) := (EnvOK.cons (L1_begun_ok F) (EnvOK.cons (bitset_Set_Add_ok F) (EnvOK.cons (bitset_Set_All_ok F) (EnvOK.cons (L1_Cut_ok F) (EnvOK.cons (bitset_Of_ok F) (EnvOK.cons (R1_Eq_ok F) (EnvOK.cons (L1_of_ok F) (EnvOK.cons (bitset_Set_Eq_ok F) (EnvOK.cons (L1_without_ok F) (EnvOK.cons (bitset_Set_Copy_ok F) (EnvOK.cons (bitset_Set_Less_ok F) (EnvOK.cons (bitset_Set_Meet_ok F) (EnvOK.cons (bitset_Set_In_ok F) EnvOK.nil)))))))))))))
 refine Sim.of_body (E := L1_SetPairs_env F) Tryd.func8 L1_SetPairs_body Tryd.call8 ?_ ?_
 · intro args hl; unfold L1_SetPairs_m; split
   · exact absurd hl (Nat.not_lt.2 (Nat.le_of_ble_eq_true rfl))
   · rfl
 · intro args ρ h w z; unfold L1_SetPairs_m; split
   · rename_i x0 x1; show OKc _ _ [(0, x0), (1, x1)] _ _
     refine rSeq ?_
     refine cLess [1, 0] ?_
     refine xR hE [0, 1] rfl (L1_SetPairs_r0_ok F _ _ _) ?_
     intro x0 x1
     show OKq _ _ _ [(1, x1), (0, x0)] _
     refine rThen ?_
     refine rSeq ?_
     refine cLess [1, 0] ?_
     refine xR hE [0, 1, 5] rfl (L1_SetPairs_r1_ok F _ _ _) ?_
     intro x0 x1 x5
     show OKq _ _ _ [(5, x5), (1, x1), (0, x0)] _
     refine rThen ?_
     refine rSeq ?_
     refine rSeq ?_
     refine cLess [5, 1, 0] ?_
     refine xR hE [0, 1, 15] rfl (L1_SetPairs_r2_ok F _ _ _ _) ?_
     intro x0 x1 x15
     show OKq _ _ _ [(15, x15), (1, x1), (0, x0)] _
     refine rThen ?_
     refine xCond rfl rfl ?_ ?_
     · refine rSeq ?_
       refine cLess [] ?_
       refine xR hE [4] rfl (L1_SetPairs_r3_ok F _) ?_
       intro x4
       show OKq _ _ _ [(4, x4)] _
       refine rThen ?_
       refine rRet ?_
       refine xThenR ?_
       exact rDone (.inr rfl) rfl
     · refine rSkip ?_
       refine rThen ?_
       refine rSeq ?_
       refine cLess [1, 0] ?_
       refine xR hE [0, 1] rfl (L1_SetPairs_r4_ok F _ _ _) ?_
       intro x0 x1
       show OKq _ _ _ [(1, x1), (0, x0)] _
       refine rThen ?_
       refine rSeq ?_
       refine cLess [1, 0] ?_
       refine xR hE [0, 1, 6, 7] rfl (L1_SetPairs_r5_ok F _ _ _) ?_
       intro x0 x1 x6 x7
       show OKq _ _ _ [(7, x7), (6, x6), (1, x1), (0, x0)] _
       refine rThen ?_
       refine rSeq ?_
       refine cLess [7, 6, 1, 0] ?_
       refine xR hE [6, 7, 8, 9] rfl (L1_SetPairs_r6_ok F _ _ _ _ _) ?_
       intro x6 x7 x8 x9
       show OKq _ _ _ [(9, x9), (8, x8), (7, x7), (6, x6)] _
       refine rThen ?_
       refine rSeq ?_
       refine cLess [9, 8, 7, 6] ?_
       refine xR hE [6, 7, 8, 9, 10] rfl (L1_SetPairs_r7_ok F _ _ _ _ _) ?_
       intro x6 x7 x8 x9 x10
       show OKq _ _ _ [(10, x10), (9, x9), (8, x8), (7, x7), (6, x6)] _
       refine rThen ?_
       refine rSeq ?_
       refine cLess [10, 9, 8, 7, 6] ?_
       refine xR hE [6, 7, 8, 9, 10, 11] rfl (L1_SetPairs_r8_ok F _ _ _ _ _ _) ?_
       intro x6 x7 x8 x9 x10 x11
       show OKq _ _ _ [(11, x11), (10, x10), (9, x9), (8, x8), (7, x7), (6, x6)] _
       refine rThen ?_
       refine rSeq ?_
       refine cLess [11, 10, 9, 8, 7, 6] ?_
       refine xR hE [6, 7, 8, 9, 10] rfl (L1_SetPairs_r9_ok F _ _ _ _ _ _ _) ?_
       intro x6 x7 x8 x9 x10
       show OKq _ _ _ [(10, x10), (9, x9), (8, x8), (7, x7), (6, x6)] _
       refine rThen ?_
       refine rSeq ?_
       refine cLess [10, 9, 8, 7, 6] ?_
       refine xR hE [6, 7, 8, 9, 10, 12] rfl (L1_SetPairs_r10_ok F _ _ _ _ _ _) ?_
       intro x6 x7 x8 x9 x10 x12
       show OKq _ _ _ [(12, x12), (10, x10), (9, x9), (8, x8), (7, x7), (6, x6)] _
       refine rThen ?_
       refine rSeq ?_
       refine cLess [12, 10, 9, 8, 7, 6] ?_
       refine xR hE [4] rfl (L1_SetPairs_r11_ok F _ _ _ _ _ _ _) ?_
       intro x4
       show OKq _ _ _ [(4, x4)] _
       refine rThen ?_
       refine rRet ?_
       exact rDone (.inr rfl) rfl
   · exact rFail


end Go.Fw
