/-
  What functions of this seat come to, and that they do: part 4.
-/
import Derived.Test.YtdomcfoabnhlfaaGenQ3
set_option linter.unusedVariables false
set_option maxRecDepth 20000
namespace Go.Fw
open Go.Proofs

/-! ### haruspex/haruspexref8.Types -/

def R8_Types_env (F : Nat) : Env := envOf [(13, R8_Code_m F), (32, R8_Points_m F), (38, R8_Nowhere_m F), (60, R8_eq_m F), (61, R8_Fits_m F)]

noncomputable def R8_Types_R (F : Nat) := rK Try.prog TryG (R8_Types_env F) Try.f41
noncomputable def R8_Types_D (F : Nat) := dK Try.prog TryG (R8_Types_env F) Try.f41

def R8_Types_r27 (F : Nat) (x2 x14 : Value) (K : Value → Value → M Value) : M Value :=
  bnd (opFieldAddr 0 x14) fun v183 => bnd (opLoad v183) fun v184 => bnd (opLen v184) fun v185 => bnd (opBin .eql v185 (.int .i64 (0))) fun v186 => bnd (R8_Nowhere F) fun v182 => bnd (opChk false v183 v184) fun _ => onB v186 (bnd (opFieldAddr 1 x14) fun v188 => bnd (opFieldAddr 0 v188) fun v189 => bnd (opLoad v189) fun v190 => bnd (opBin .eql v190 (.int .i64 (0))) fun v191 => bnd (opStoreN 3 x2 v182) fun _ => bnd (opChk false v189 v190) fun _ => K x2 v191) (bnd (opStoreN 3 x2 v182) fun _ => K x2 (.bool false))

theorem R8_Types_r27_ok (F : Nat) (x2 x14 : Value) (K : Value → Value → M Value) : R8_Types_r27 F x2 x14 K = R8_Types_D F 27 [1, 2, 3, 4, 0, 5, 6, 7, 8, 9, 10, 11, 12] [(14, x14), (2, x2)] [2, 3] K := by kernel_rfl

theorem R8_Types_r27_good : goodOrder (opsOf Try.f41 27) [1, 2, 3, 4, 0, 5, 6, 7, 8, 9, 10, 11, 12] = true := by kernel_rfl

def R8_Types_r26 (F : Nat) (x0 x2 : Value) (K : Value → Value → M Value) : M Value :=
  bnd (opNil x0) fun v166 => bnd (opFieldAddr 1 v166) fun v167 => bnd (opLoad v167) fun v168 => bnd (opNil x0) fun v170 => bnd (opFieldAddr 4 v170) fun v171 => bnd (opLoad v171) fun v172 => bnd (opNil x0) fun v174 => bnd (opFieldAddr 5 v174) fun v175 => bnd (opLoad v175) fun v176 => bnd (opIndexAddr 3 v172 v176) fun v177 => bnd (opFieldAddr 0 v177) fun v178 => bnd (opLoad v178) fun v179 => bnd (opIndexAddr 3 v168 v179) fun v180 => bnd (opLoadN 3 v180) fun v181 => bnd (opPtr [(.slice none 0 0), (.int .i64 (0)), (.int .i64 (0))]) fun v14 => bnd (opStoreN 3 v14 v181) fun _ => K x2 v14

theorem R8_Types_r26_ok (F : Nat) (x0 x2 : Value) (K : Value → Value → M Value) : R8_Types_r26 F x0 x2 K = R8_Types_D F 26 [0, 1, 2, 3, 4, 5, 6, 7, 8, 9, 10, 11, 12, 13, 14, 15, 16, 17, 18] [(2, x2), (0, x0)] [2, 14] K := by kernel_rfl

theorem R8_Types_r26_good : goodOrder (opsOf Try.f41 26) [0, 1, 2, 3, 4, 5, 6, 7, 8, 9, 10, 11, 12, 13, 14, 15, 16, 17, 18] = true := by kernel_rfl

def R8_Types_k0 (F : Nat) (x0 x2 : Value) : M Value :=
  R8_Types_r26 F x0 x2 (fun x2 x14 => R8_Types_r27 F x2 x14 (fun x2 x3 => bnd (opLoadN 3 x2) fun r0 => tupK [r0, x3]))

def R8_Types_r15 (F : Nat) (x0 x2 x7 x8 : Value) (K : Value → Value → Value → Value → M Value) : M Value :=
  bnd (opBin .add x8 (.int .i64 (1))) fun v83 => K x0 x2 x7 v83

theorem R8_Types_r15_ok (F : Nat) (x0 x2 x7 x8 : Value) (K : Value → Value → Value → Value → M Value) : R8_Types_r15 F x0 x2 x7 x8 K = R8_Types_R F 15 [(8, x8), (7, x7), (2, x2), (0, x0)] [0, 2, 7, 8] K := by kernel_rfl

def R8_Types_r25 (F : Nat) (x2 x7 x8 : Value) (K : Value → Value → M Value) : M Value :=
  bnd (opIndexAddr 3 x7 x8) fun v163 => bnd (opLoadN 3 v163) fun v164 => bnd (opStoreN 3 x2 v164) fun _ => K x2 (.bool false)

theorem R8_Types_r25_ok (F : Nat) (x2 x7 x8 : Value) (K : Value → Value → M Value) : R8_Types_r25 F x2 x7 x8 K = R8_Types_R F 25 [(8, x8), (7, x7), (2, x2)] [2, 3] K := by kernel_rfl

def R8_Types_r24 (F : Nat) (x0 x2 x7 x8 x13 : Value) (K : Value → Value → Value → Value → Value → M Value) : M Value :=
  K x0 x2 x7 x8 x13

theorem R8_Types_r24_ok (F : Nat) (x0 x2 x7 x8 x13 : Value) (K : Value → Value → Value → Value → Value → M Value) : R8_Types_r24 F x0 x2 x7 x8 x13 K = R8_Types_R F 24 [(13, x13), (8, x8), (7, x7), (2, x2), (0, x0)] [0, 2, 7, 8, 160] K := by kernel_rfl

def R8_Types_k2 (F : Nat) (A1 : Value → Value → Value → Value → M Value) (x0 x2 x7 x8 x13 : Value) : M Value :=
  R8_Types_r24 F x0 x2 x7 x8 x13 (fun x0 x2 x7 x8 x160 => onB x160 (R8_Types_r25 F x2 x7 x8 (fun x2 x3 => bnd (opLoadN 3 x2) fun r0 => tupK [r0, x3])) (R8_Types_r15 F x0 x2 x7 x8 (fun x0 x2 x7 x8 => A1 x0 x2 x7 x8)))

def R8_Types_r23 (F : Nat) (x0 x2 x7 x8 x9 x10 : Value) (K : Value → Value → Value → Value → Value → M Value) : M Value :=
  bnd (opFieldAddr 1 x9) fun v143 => bnd (opLoad v143) fun v144 => bnd (opFieldAddr 2 x10) fun v145 => bnd (opLoad v145) fun v146 => bnd (opIndexAddr 2 v144 v146) fun v147 => bnd (opLoadN 2 v147) fun v148 => bnd (opNil x0) fun v150 => bnd (opFieldAddr 1 v150) fun v151 => bnd (opLoad v151) fun v152 => bnd (opFieldAddr 0 x9) fun v153 => bnd (opLoad v153) fun v154 => bnd (opIndexAddr 3 v152 v154) fun v155 => bnd (opFieldAddr 1 v155) fun v156 => bnd (opLoadN 2 v156) fun v157 => bnd (R8_eq F v148 v157) fun v158 => bnd (opNot v158) fun v159 => K x0 x2 x7 x8 v159

theorem R8_Types_r23_ok (F : Nat) (x0 x2 x7 x8 x9 x10 : Value) (K : Value → Value → Value → Value → Value → M Value) : R8_Types_r23 F x0 x2 x7 x8 x9 x10 K = R8_Types_D F 23 [0, 1, 2, 3, 4, 5, 6, 7, 8, 9, 10, 11, 12, 13, 14, 15, 16, 17] [(10, x10), (9, x9), (8, x8), (7, x7), (2, x2), (0, x0)] [0, 2, 7, 8, 13] K := by kernel_rfl

theorem R8_Types_r23_good : goodOrder (opsOf Try.f41 23) [0, 1, 2, 3, 4, 5, 6, 7, 8, 9, 10, 11, 12, 13, 14, 15, 16, 17] = true := by kernel_rfl

def R8_Types_r22 (F : Nat) (x0 x2 x7 x8 x9 x10 x12 x13 : Value) (K : Value → Value → Value → Value → Value → Value → Value → Value → M Value) : M Value :=
  bnd (opNot x12) fun v137 => onB v137 (bnd (opFieldAddr 1 x10) fun v139 => bnd (opLoad v139) fun v140 => bnd (opBin .eql v140 (.int .i64 (3))) fun v141 => K x0 x2 x7 x8 x9 x10 x13 v141) (K x0 x2 x7 x8 x9 x10 x13 (.bool false))

theorem R8_Types_r22_ok (F : Nat) (x0 x2 x7 x8 x9 x10 x12 x13 : Value) (K : Value → Value → Value → Value → Value → Value → Value → Value → M Value) : R8_Types_r22 F x0 x2 x7 x8 x9 x10 x12 x13 K = R8_Types_R F 22 [(13, x13), (12, x12), (10, x10), (9, x9), (8, x8), (7, x7), (2, x2), (0, x0)] [0, 2, 7, 8, 9, 10, 13, 142] K := by kernel_rfl

def R8_Types_k3 (F : Nat) (A1 : Value → Value → Value → Value → M Value) (x0 x2 x7 x8 x9 x10 x12 x13 : Value) : M Value :=
  R8_Types_r22 F x0 x2 x7 x8 x9 x10 x12 x13 (fun x0 x2 x7 x8 x9 x10 x13 x142 => onB x142 (R8_Types_r23 F x0 x2 x7 x8 x9 x10 (fun x0 x2 x7 x8 x13 => R8_Types_k2 F A1 x0 x2 x7 x8 x13)) (R8_Types_k2 F A1 x0 x2 x7 x8 x13))

def R8_Types_r21 (F : Nat) (x0 x2 x7 x8 x9 x10 x12 : Value) (K : Value → Value → Value → Value → Value → Value → Value → Value → M Value) : M Value :=
  bnd (opFieldAddr 1 x9) fun v128 => bnd (opLoad v128) fun v129 => bnd (opFieldAddr 2 x10) fun v130 => bnd (opLoad v130) fun v131 => bnd (opIndexAddr 2 v129 v131) fun v132 => bnd (opFieldAddr 0 v132) fun v133 => bnd (opLoad v133) fun v134 => bnd (opBin .neq v134 (.int .i64 (0))) fun v135 => K x0 x2 x7 x8 x9 x10 x12 v135

theorem R8_Types_r21_ok (F : Nat) (x0 x2 x7 x8 x9 x10 x12 : Value) (K : Value → Value → Value → Value → Value → Value → Value → Value → M Value) : R8_Types_r21 F x0 x2 x7 x8 x9 x10 x12 K = R8_Types_R F 21 [(12, x12), (10, x10), (9, x9), (8, x8), (7, x7), (2, x2), (0, x0)] [0, 2, 7, 8, 9, 10, 12, 13] K := by kernel_rfl

def R8_Types_r20 (F : Nat) (x0 x2 x7 x8 x9 x10 x12 x13 : Value) (K : Value → Value → Value → Value → Value → Value → Value → Value → Value → M Value) : M Value :=
  bnd (opNot x12) fun v122 => onB v122 (bnd (opFieldAddr 1 x10) fun v124 => bnd (opLoad v124) fun v125 => bnd (opBin .eql v125 (.int .i64 (2))) fun v126 => K x0 x2 x7 x8 x9 x10 x12 x13 v126) (K x0 x2 x7 x8 x9 x10 x12 x13 (.bool false))

theorem R8_Types_r20_ok (F : Nat) (x0 x2 x7 x8 x9 x10 x12 x13 : Value) (K : Value → Value → Value → Value → Value → Value → Value → Value → Value → M Value) : R8_Types_r20 F x0 x2 x7 x8 x9 x10 x12 x13 K = R8_Types_R F 20 [(13, x13), (12, x12), (10, x10), (9, x9), (8, x8), (7, x7), (2, x2), (0, x0)] [0, 2, 7, 8, 9, 10, 12, 13, 127] K := by kernel_rfl

def R8_Types_r19 (F : Nat) (x0 x2 x7 x8 x9 x10 x11 x12 : Value) (K : Value → Value → Value → Value → Value → Value → Value → Value → M Value) : M Value :=
  onB x12 (bnd (opLoadN 3 x9) fun v116 => bnd (opLoadN 6 x11) fun v117 => bnd (R8_Fits F x0 v116 v117) fun v118 => bnd (opNot v118) fun v119 => K x0 x2 x7 x8 x9 x10 x12 v119) (K x0 x2 x7 x8 x9 x10 x12 (.bool false))

theorem R8_Types_r19_ok (F : Nat) (x0 x2 x7 x8 x9 x10 x11 x12 : Value) (K : Value → Value → Value → Value → Value → Value → Value → Value → M Value) : R8_Types_r19 F x0 x2 x7 x8 x9 x10 x11 x12 K = R8_Types_R F 19 [(12, x12), (11, x11), (10, x10), (9, x9), (8, x8), (7, x7), (2, x2), (0, x0)] [0, 2, 7, 8, 9, 10, 12, 13] K := by kernel_rfl

def R8_Types_r18 (F : Nat) (x0 x2 x7 x8 x9 x10 : Value) (K : Value → Value → Value → Value → Value → Value → Value → Value → M Value) : M Value :=
  bnd (opIndexAddr 3 x7 x8) fun v108 => bnd (opLoadN 3 v108) fun v109 => bnd (R8_Code F x0 v109) fun v110 => bnd (opExtract v110 0) fun v111 => bnd (opExtract v110 1) fun v112 => bnd (opPtr [(.int .i64 (0)), (.int .i64 (0)), (.int .i64 (0)), (.int .i64 (0)), (.int .i64 (0)), (.slice none 0 0)]) fun v11 => bnd (opStoreN 6 v11 v111) fun _ => K x0 x2 x7 x8 x9 x10 v11 v112

theorem R8_Types_r18_ok (F : Nat) (x0 x2 x7 x8 x9 x10 : Value) (K : Value → Value → Value → Value → Value → Value → Value → Value → M Value) : R8_Types_r18 F x0 x2 x7 x8 x9 x10 K = R8_Types_R F 18 [(10, x10), (9, x9), (8, x8), (7, x7), (2, x2), (0, x0)] [0, 2, 7, 8, 9, 10, 11, 12] K := by kernel_rfl

def R8_Types_r17 (F : Nat) (x0 x2 x7 x8 x9 : Value) (K : Value → Value → Value → Value → Value → Value → M Value) : M Value :=
  bnd (opFieldAddr 2 x9) fun v95 => bnd (opLoad v95) fun v96 => bnd (opIndexAddr 3 x7 x8) fun v99 => bnd (opFieldAddr 1 v99) fun v100 => bnd (opLoad v100) fun v101 => bnd (opIndexAddr 5 v96 v101) fun v102 => bnd (opLoadN 5 v102) fun v103 => bnd (opPtr [(.slice none 0 0), (.int .i64 (0)), (.int .i64 (0)), (.int .i64 (0)), (.int .i64 (0))]) fun v10 => bnd (opStoreN 5 v10 v103) fun _ => K x0 x2 x7 x8 x9 v10

theorem R8_Types_r17_ok (F : Nat) (x0 x2 x7 x8 x9 : Value) (K : Value → Value → Value → Value → Value → Value → M Value) : R8_Types_r17 F x0 x2 x7 x8 x9 K = R8_Types_D F 17 [0, 1, 2, 3, 4, 5, 6, 7, 8, 9, 10] [(9, x9), (8, x8), (7, x7), (2, x2), (0, x0)] [0, 2, 7, 8, 9, 10] K := by kernel_rfl

theorem R8_Types_r17_good : goodOrder (opsOf Try.f41 17) [0, 1, 2, 3, 4, 5, 6, 7, 8, 9, 10] = true := by kernel_rfl

def R8_Types_r16 (F : Nat) (x0 x2 x7 x8 : Value) (K : Value → Value → Value → Value → Value → M Value) : M Value :=
  bnd (opNil x0) fun v85 => bnd (opFieldAddr 4 v85) fun v86 => bnd (opLoad v86) fun v87 => bnd (opIndexAddr 3 x7 x8) fun v90 => bnd (opFieldAddr 0 v90) fun v91 => bnd (opLoad v91) fun v92 => bnd (opIndexAddr 3 v87 v92) fun v93 => bnd (opLoadN 3 v93) fun v94 => bnd (opPtr [(.int .i64 (0)), (.slice none 0 0), (.slice none 0 0)]) fun v9 => bnd (opStoreN 3 v9 v94) fun _ => K x0 x2 x7 x8 v9

theorem R8_Types_r16_ok (F : Nat) (x0 x2 x7 x8 : Value) (K : Value → Value → Value → Value → Value → M Value) : R8_Types_r16 F x0 x2 x7 x8 K = R8_Types_D F 16 [0, 1, 2, 3, 4, 5, 6, 7, 8, 9, 10, 11, 12] [(8, x8), (7, x7), (2, x2), (0, x0)] [0, 2, 7, 8, 9] K := by kernel_rfl

theorem R8_Types_r16_good : goodOrder (opsOf Try.f41 16) [0, 1, 2, 3, 4, 5, 6, 7, 8, 9, 10, 11, 12] = true := by kernel_rfl

def R8_Types_r14 (F : Nat) (x0 x2 x7 x8 : Value) (K : Value → Value → Value → Value → Value → M Value) : M Value :=
  bnd (opLen x7) fun v80 => bnd (opBin .lss x8 v80) fun v81 => K x0 x2 x7 x8 v81

theorem R8_Types_r14_ok (F : Nat) (x0 x2 x7 x8 : Value) (K : Value → Value → Value → Value → Value → M Value) : R8_Types_r14 F x0 x2 x7 x8 K = R8_Types_R F 14 [(8, x8), (7, x7), (2, x2), (0, x0)] [0, 2, 7, 8, 81] K := by kernel_rfl

def R8_Types_b1 (F : Nat) (E1_4 : Value → Value → M Value) (A1 : Value → Value → Value → Value → M Value) (x0 x2 x7 x8 : Value) : M Value :=
  R8_Types_r14 F x0 x2 x7 x8 (fun x0 x2 x7 x8 x81 => onB x81 (R8_Types_r16 F x0 x2 x7 x8 (fun x0 x2 x7 x8 x9 => R8_Types_r17 F x0 x2 x7 x8 x9 (fun x0 x2 x7 x8 x9 x10 => R8_Types_r18 F x0 x2 x7 x8 x9 x10 (fun x0 x2 x7 x8 x9 x10 x11 x12 => R8_Types_r19 F x0 x2 x7 x8 x9 x10 x11 x12 (fun x0 x2 x7 x8 x9 x10 x12 x13 => R8_Types_r20 F x0 x2 x7 x8 x9 x10 x12 x13 (fun x0 x2 x7 x8 x9 x10 x12 x13 x127 => onB x127 (R8_Types_r21 F x0 x2 x7 x8 x9 x10 x12 (fun x0 x2 x7 x8 x9 x10 x12 x13 => R8_Types_k3 F A1 x0 x2 x7 x8 x9 x10 x12 x13)) (R8_Types_k3 F A1 x0 x2 x7 x8 x9 x10 x12 x13))))))) (E1_4 x0 x2))

def R8_Types_l1 (F : Nat) (E1_4 : Value → Value → M Value) : Nat → Value → Value → Value → Value → M Value
  | 0, _, _, _, _ => fail
  | k1 + 1, x0, x2, x7, x8 => R8_Types_b1 F E1_4 (R8_Types_l1 F E1_4 k1) x0 x2 x7 x8

theorem R8_Types_l1_s (F : Nat) (E1_4 : Value → Value → M Value) (k1 : Nat) (x0 x2 x7 x8 : Value) : R8_Types_l1 F E1_4 (k1 + 1) x0 x2 x7 x8 = R8_Types_b1 F E1_4 (R8_Types_l1 F E1_4 k1) x0 x2 x7 x8 := rfl

def R8_Types_r13 (F : Nat) (x0 x2 x7 : Value) (K : Value → Value → Value → Value → M Value) : M Value :=
  K x0 x2 x7 (.int .i64 (0))

theorem R8_Types_r13_ok (F : Nat) (x0 x2 x7 : Value) (K : Value → Value → Value → Value → M Value) : R8_Types_r13 F x0 x2 x7 K = R8_Types_R F 13 [(7, x7), (2, x2), (0, x0)] [0, 2, 7, 8] K := by kernel_rfl

def R8_Types_r12 (F : Nat) (x0 x2 : Value) (K : Value → Value → Value → M Value) : M Value :=
  bnd (R8_Points F x0) fun v77 => K x0 x2 v77

theorem R8_Types_r12_ok (F : Nat) (x0 x2 : Value) (K : Value → Value → Value → M Value) : R8_Types_r12 F x0 x2 K = R8_Types_R F 12 [(2, x2), (0, x0)] [0, 2, 7] K := by kernel_rfl

def R8_Types_k4 (F : Nat) (x0 x2 : Value) : M Value :=
  R8_Types_r12 F x0 x2 (fun x0 x2 x7 => R8_Types_r13 F x0 x2 x7 (fun x0 x2 x7 x8 => R8_Types_l1 F (fun x0 x2 => R8_Types_k0 F x0 x2) F x0 x2 x7 x8))

def R8_Types_r3 (F : Nat) (x0 x2 x4 : Value) (K : Value → Value → Value → M Value) : M Value :=
  bnd (opBin .add x4 (.int .i64 (1))) fun v23 => K x0 x2 v23

theorem R8_Types_r3_ok (F : Nat) (x0 x2 x4 : Value) (K : Value → Value → Value → M Value) : R8_Types_r3 F x0 x2 x4 K = R8_Types_R F 3 [(4, x4), (2, x2), (0, x0)] [0, 2, 4] K := by kernel_rfl

def R8_Types_k6 (F : Nat) (A5 : Value → Value → Value → M Value) (x0 x2 x4 : Value) : M Value :=
  R8_Types_r3 F x0 x2 x4 (fun x0 x2 x4 => A5 x0 x2 x4)

def R8_Types_r9 (F : Nat) (x0 x2 x4 x5 x6 : Value) (K : Value → Value → Value → Value → Value → M Value) : M Value :=
  bnd (opBin .add x6 (.int .i64 (1))) fun v57 => K x0 x2 x4 x5 v57

theorem R8_Types_r9_ok (F : Nat) (x0 x2 x4 x5 x6 : Value) (K : Value → Value → Value → Value → Value → M Value) : R8_Types_r9 F x0 x2 x4 x5 x6 K = R8_Types_R F 9 [(6, x6), (5, x5), (4, x4), (2, x2), (0, x0)] [0, 2, 4, 5, 6] K := by kernel_rfl

def R8_Types_r11 (F : Nat) (x2 : Value) (K : Value → Value → M Value) : M Value :=
  bnd (R8_Nowhere F) fun v75 => bnd (opStoreN 3 x2 v75) fun _ => K x2 (.bool false)

theorem R8_Types_r11_ok (F : Nat) (x2 : Value) (K : Value → Value → M Value) : R8_Types_r11 F x2 K = R8_Types_R F 11 [(2, x2)] [2, 3] K := by kernel_rfl

def R8_Types_r10 (F : Nat) (x0 x2 x4 x5 x6 : Value) (K : Value → Value → Value → Value → Value → Value → M Value) : M Value :=
  bnd (opNil x0) fun v59 => bnd (opFieldAddr 4 v59) fun v60 => bnd (opLoad v60) fun v61 => bnd (opIndexAddr 3 v61 x4) fun v63 => bnd (opFieldAddr 1 v63) fun v64 => bnd (opLoad v64) fun v65 => bnd (opIndexAddr 2 v65 x6) fun v67 => bnd (opLoadN 2 v67) fun v68 => bnd (opIndexAddr 2 x5 x6) fun v71 => bnd (opLoadN 2 v71) fun v72 => bnd (R8_eq F v68 v72) fun v73 => bnd (opNot v73) fun v74 => K x0 x2 x4 x5 x6 v74

theorem R8_Types_r10_ok (F : Nat) (x0 x2 x4 x5 x6 : Value) (K : Value → Value → Value → Value → Value → Value → M Value) : R8_Types_r10 F x0 x2 x4 x5 x6 K = R8_Types_D F 10 [0, 1, 2, 3, 4, 5, 6, 7, 8, 9, 10, 11, 12, 13, 14, 15, 16] [(6, x6), (5, x5), (4, x4), (2, x2), (0, x0)] [0, 2, 4, 5, 6, 74] K := by kernel_rfl

theorem R8_Types_r10_good : goodOrder (opsOf Try.f41 10) [0, 1, 2, 3, 4, 5, 6, 7, 8, 9, 10, 11, 12, 13, 14, 15, 16] = true := by kernel_rfl

def R8_Types_r8 (F : Nat) (x0 x2 x4 x5 x6 : Value) (K : Value → Value → Value → Value → Value → Value → M Value) : M Value :=
  bnd (opLen x5) fun v54 => bnd (opBin .lss x6 v54) fun v55 => K x0 x2 x4 x5 x6 v55

theorem R8_Types_r8_ok (F : Nat) (x0 x2 x4 x5 x6 : Value) (K : Value → Value → Value → Value → Value → Value → M Value) : R8_Types_r8 F x0 x2 x4 x5 x6 K = R8_Types_R F 8 [(6, x6), (5, x5), (4, x4), (2, x2), (0, x0)] [0, 2, 4, 5, 6, 55] K := by kernel_rfl

def R8_Types_b7 (F : Nat) (E7_2 : Value → Value → Value → M Value) (A7 : Value → Value → Value → Value → Value → M Value) (x0 x2 x4 x5 x6 : Value) : M Value :=
  R8_Types_r8 F x0 x2 x4 x5 x6 (fun x0 x2 x4 x5 x6 x55 => onB x55 (R8_Types_r10 F x0 x2 x4 x5 x6 (fun x0 x2 x4 x5 x6 x74 => onB x74 (R8_Types_r11 F x2 (fun x2 x3 => bnd (opLoadN 3 x2) fun r0 => tupK [r0, x3])) (R8_Types_r9 F x0 x2 x4 x5 x6 (fun x0 x2 x4 x5 x6 => A7 x0 x2 x4 x5 x6)))) (E7_2 x0 x2 x4))

def R8_Types_l7 (F : Nat) (E7_2 : Value → Value → Value → M Value) : Nat → Value → Value → Value → Value → Value → M Value
  | 0, _, _, _, _, _ => fail
  | k7 + 1, x0, x2, x4, x5, x6 => R8_Types_b7 F E7_2 (R8_Types_l7 F E7_2 k7) x0 x2 x4 x5 x6

theorem R8_Types_l7_s (F : Nat) (E7_2 : Value → Value → Value → M Value) (k7 : Nat) (x0 x2 x4 x5 x6 : Value) : R8_Types_l7 F E7_2 (k7 + 1) x0 x2 x4 x5 x6 = R8_Types_b7 F E7_2 (R8_Types_l7 F E7_2 k7) x0 x2 x4 x5 x6 := rfl

def R8_Types_r7 (F : Nat) (x0 x2 x4 x5 : Value) (K : Value → Value → Value → Value → Value → M Value) : M Value :=
  K x0 x2 x4 x5 (.int .i64 (0))

theorem R8_Types_r7_ok (F : Nat) (x0 x2 x4 x5 : Value) (K : Value → Value → Value → Value → Value → M Value) : R8_Types_r7 F x0 x2 x4 x5 K = R8_Types_R F 7 [(5, x5), (4, x4), (2, x2), (0, x0)] [0, 2, 4, 5, 6] K := by kernel_rfl

def R8_Types_r6 (F : Nat) (x2 : Value) (K : Value → Value → M Value) : M Value :=
  bnd (R8_Nowhere F) fun v51 => bnd (opStoreN 3 x2 v51) fun _ => K x2 (.bool false)

theorem R8_Types_r6_ok (F : Nat) (x2 : Value) (K : Value → Value → M Value) : R8_Types_r6 F x2 K = R8_Types_R F 6 [(2, x2)] [2, 3] K := by kernel_rfl

def R8_Types_r5 (F : Nat) (x0 x2 x4 x5 : Value) (K : Value → Value → Value → Value → Value → M Value) : M Value :=
  bnd (opNil x0) fun v40 => bnd (opFieldAddr 4 v40) fun v41 => bnd (opLoad v41) fun v42 => bnd (opIndexAddr 3 v42 x4) fun v44 => bnd (opFieldAddr 1 v44) fun v45 => bnd (opLoad v45) fun v46 => bnd (opLen v46) fun v47 => bnd (opLen x5) fun v49 => bnd (opBin .lss v47 v49) fun v50 => K x0 x2 x4 x5 v50

theorem R8_Types_r5_ok (F : Nat) (x0 x2 x4 x5 : Value) (K : Value → Value → Value → Value → Value → M Value) : R8_Types_r5 F x0 x2 x4 x5 K = R8_Types_R F 5 [(5, x5), (4, x4), (2, x2), (0, x0)] [0, 2, 4, 5, 50] K := by kernel_rfl

def R8_Types_r4 (F : Nat) (x0 x2 x4 : Value) (K : Value → Value → Value → Value → M Value) : M Value :=
  bnd (opNil x0) fun v25 => bnd (opFieldAddr 1 v25) fun v26 => bnd (opLoad v26) fun v27 => bnd (opNil x0) fun v29 => bnd (opFieldAddr 4 v29) fun v30 => bnd (opLoad v30) fun v31 => bnd (opIndexAddr 3 v31 x4) fun v33 => bnd (opFieldAddr 0 v33) fun v34 => bnd (opLoad v34) fun v35 => bnd (opIndexAddr 3 v27 v35) fun v36 => bnd (opFieldAddr 0 v36) fun v37 => bnd (opLoad v37) fun v38 => K x0 x2 x4 v38

theorem R8_Types_r4_ok (F : Nat) (x0 x2 x4 : Value) (K : Value → Value → Value → Value → M Value) : R8_Types_r4 F x0 x2 x4 K = R8_Types_D F 4 [0, 1, 2, 3, 4, 5, 6, 7, 8, 9, 10, 11, 12, 13, 14, 15] [(4, x4), (2, x2), (0, x0)] [0, 2, 4, 5] K := by kernel_rfl

theorem R8_Types_r4_good : goodOrder (opsOf Try.f41 4) [0, 1, 2, 3, 4, 5, 6, 7, 8, 9, 10, 11, 12, 13, 14, 15] = true := by kernel_rfl

def R8_Types_r2 (F : Nat) (x0 x2 x4 : Value) (K : Value → Value → Value → Value → M Value) : M Value :=
  bnd (opNil x0) fun v17 => bnd (opFieldAddr 4 v17) fun v18 => bnd (opLoad v18) fun v19 => bnd (opLen v19) fun v20 => bnd (opBin .lss x4 v20) fun v21 => K x0 x2 x4 v21

theorem R8_Types_r2_ok (F : Nat) (x0 x2 x4 : Value) (K : Value → Value → Value → Value → M Value) : R8_Types_r2 F x0 x2 x4 K = R8_Types_R F 2 [(4, x4), (2, x2), (0, x0)] [0, 2, 4, 21] K := by kernel_rfl

def R8_Types_b5 (F : Nat) (E5_0 : Value → Value → M Value) (A5 : Value → Value → Value → M Value) (x0 x2 x4 : Value) : M Value :=
  R8_Types_r2 F x0 x2 x4 (fun x0 x2 x4 x21 => onB x21 (R8_Types_r4 F x0 x2 x4 (fun x0 x2 x4 x5 => R8_Types_r5 F x0 x2 x4 x5 (fun x0 x2 x4 x5 x50 => onB x50 (R8_Types_r6 F x2 (fun x2 x3 => bnd (opLoadN 3 x2) fun r0 => tupK [r0, x3])) (R8_Types_r7 F x0 x2 x4 x5 (fun x0 x2 x4 x5 x6 => R8_Types_l7 F (fun x0 x2 x4 => R8_Types_k6 F A5 x0 x2 x4) F x0 x2 x4 x5 x6))))) (E5_0 x0 x2))

def R8_Types_l5 (F : Nat) (E5_0 : Value → Value → M Value) : Nat → Value → Value → Value → M Value
  | 0, _, _, _ => fail
  | k5 + 1, x0, x2, x4 => R8_Types_b5 F E5_0 (R8_Types_l5 F E5_0 k5) x0 x2 x4

theorem R8_Types_l5_s (F : Nat) (E5_0 : Value → Value → M Value) (k5 : Nat) (x0 x2 x4 : Value) : R8_Types_l5 F E5_0 (k5 + 1) x0 x2 x4 = R8_Types_b5 F E5_0 (R8_Types_l5 F E5_0 k5) x0 x2 x4 := rfl

def R8_Types_r1 (F : Nat) (x0 x2 : Value) (K : Value → Value → Value → M Value) : M Value :=
  K x0 x2 (.int .i64 (0))

theorem R8_Types_r1_ok (F : Nat) (x0 x2 : Value) (K : Value → Value → Value → M Value) : R8_Types_r1 F x0 x2 K = R8_Types_R F 1 [(2, x2), (0, x0)] [0, 2, 4] K := by kernel_rfl

def R8_Types_r0 (F : Nat) (x0 : Value) (K : Value → Value → M Value) : M Value :=
  bnd (opPtr [(.int .i64 (0)), (.int .i64 (0)), (.int .i64 (0))]) fun v2 => K x0 v2

theorem R8_Types_r0_ok (F : Nat) (x0 : Value) (K : Value → Value → M Value) : R8_Types_r0 F x0 K = R8_Types_R F 0 [(0, x0)] [0, 2] K := by kernel_rfl

def R8_Types (F : Nat) (x0 : Value) : M Value :=
  R8_Types_r0 F x0 (fun x0 x2 => R8_Types_r1 F x0 x2 (fun x0 x2 x4 => R8_Types_l5 F (fun x0 x2 => R8_Types_k4 F x0 x2) F x0 x2 x4))

def R8_Types_m (F : Nat) : List Value → M Value
  | [x0] => R8_Types F x0
  | _ => fail

theorem R8_Types_body : Try.f41.body = some (.seq (.region 0 (opsOf Try.f41 0) false) (.seq (.seq (.region 1 (opsOf Try.f41 1) false) (.block 0 (.loop (.seq (.seq (.region 2 (opsOf Try.f41 2) false) (.cond (.tmp 21) .skip (.exit 0))) (.seq (.block 1 (.seq (.region 4 (opsOf Try.f41 4) true) (.seq (.seq (.region 5 (opsOf Try.f41 5) false) (.cond (.tmp 50) (.seq (.region 6 (opsOf Try.f41 6) false) .ret) .skip)) (.seq (.region 7 (opsOf Try.f41 7) false) (.block 2 (.loop (.seq (.seq (.region 8 (opsOf Try.f41 8) false) (.cond (.tmp 55) .skip (.exit 2))) (.seq (.block 3 (.seq (.region 10 (opsOf Try.f41 10) true) (.cond (.tmp 74) (.seq (.region 11 (opsOf Try.f41 11) false) .ret) .skip))) (.region 9 (opsOf Try.f41 9) false))))))))) (.region 3 (opsOf Try.f41 3) false)))))) (.seq (.region 12 (opsOf Try.f41 12) false) (.seq (.seq (.region 13 (opsOf Try.f41 13) false) (.block 4 (.loop (.seq (.seq (.region 14 (opsOf Try.f41 14) false) (.cond (.tmp 81) .skip (.exit 4))) (.seq (.block 5 (.seq (.region 16 (opsOf Try.f41 16) true) (.seq (.region 17 (opsOf Try.f41 17) true) (.seq (.region 18 (opsOf Try.f41 18) false) (.seq (.region 19 (opsOf Try.f41 19) false) (.seq (.seq (.region 20 (opsOf Try.f41 20) false) (.cond (.tmp 127) (.region 21 (opsOf Try.f41 21) false) .skip)) (.seq (.seq (.region 22 (opsOf Try.f41 22) false) (.cond (.tmp 142) (.region 23 (opsOf Try.f41 23) true) .skip)) (.seq (.region 24 (opsOf Try.f41 24) false) (.cond (.tmp 160) (.seq (.region 25 (opsOf Try.f41 25) false) .ret) .skip))))))))) (.region 15 (opsOf Try.f41 15) false)))))) (.seq (.region 26 (opsOf Try.f41 26) true) (.seq (.region 27 (opsOf Try.f41 27) true) .ret)))))) := by kernel_rfl

theorem R8_Types_ok (F : Nat) : Sim Try.prog TryG 41 (R8_Types_m F) := by
 have hE : EnvOK Try.prog TryG (R8_Types_env F) := (EnvOK.cons (R8_Code_ok F) (EnvOK.cons (R8_Points_ok F) (EnvOK.cons (R8_Nowhere_ok F) (EnvOK.cons (R8_eq_ok F) (EnvOK.cons (R8_Fits_ok F) EnvOK.nil)))))
 refine Sim.of_body (E := R8_Types_env F) Try.func41 R8_Types_body Try.call41 ?_ ?_
 · intro args hl; unfold R8_Types_m; split
   · exact absurd hl (Nat.not_lt.2 (Nat.le_of_ble_eq_true rfl))
   · rfl
 · intro args ρ h w z; unfold R8_Types_m; split
   · rename_i x0; show OKc _ _ [(0, x0)] _ _
     refine rSeq ?_
     refine cLess [0] ?_
     refine xR hE [0, 2] rfl (R8_Types_r0_ok F _ _) ?_
     intro x0 x2
     show OKq _ _ _ [(2, x2), (0, x0)] _
     refine rThen ?_
     refine xSeq [0, 2] (R8_Types_k4 F ) ?_ fun hj4 => ?_
     · intro x0 x2
       show OKc _ _ [(2, x2), (0, x0)] _ _
       refine rSeq ?_
       refine cLess [2, 0] ?_
       refine xR hE [0, 2, 7] rfl (R8_Types_r12_ok F _ _ _) ?_
       intro x0 x2 x7
       show OKq _ _ _ [(7, x7), (2, x2), (0, x0)] _
       refine rThen ?_
       refine xSeq [0, 2] (R8_Types_k0 F ) ?_ fun hj0 => ?_
       · intro x0 x2
         show OKc _ _ [(2, x2), (0, x0)] _ _
         refine rSeq ?_
         refine cLess [2, 0] ?_
         refine xD Trymix hE [2, 14] rfl R8_Types_r26_good (R8_Types_r26_ok F _ _ _) ?_
         intro x2 x14
         show OKq _ _ _ [(14, x14), (2, x2)] _
         refine rThen ?_
         refine rSeq ?_
         refine cLess [14, 2] ?_
         refine xD Trymix hE [2, 3] rfl R8_Types_r27_good (R8_Types_r27_ok F _ _ _) ?_
         intro x2 x3
         show OKq _ _ _ [(3, x3), (2, x2)] _
         refine rThen ?_
         refine rRet ?_
         exact rDone (.inr rfl) rfl
       · refine rSeq ?_
         refine cLess [7, 2, 0] ?_
         refine xR hE [0, 2, 7, 8] rfl (R8_Types_r13_ok F _ _ _ _) ?_
         intro x0 x2 x7 x8
         show OKq _ _ _ [(8, x8), (7, x7), (2, x2), (0, x0)] _
         refine rThen ?_
         refine rBlock ?_
         refine cLess [8, 7, 2, 0] ?_
         refine xLoopAt [0, 2, 7, 8] [] (fun k1 => R8_Types_l1 F (fun x0 x2 => R8_Types_k0 F x0 x2) k1) F [x0, x2, x7, x8] rfl rfl (fun _ _ _ _ => rfl) fun I hI1 k1 => ?_
         intro x0 x2 x7 x8
         show OKc _ _ [(8, x8), (7, x7), (2, x2), (0, x0)] _ _
         refine cAs (R8_Types_l1_s F _ _ _ _ _ _) ?_
         refine rSeq ?_
         refine rSeq ?_
         refine cLess [8, 7, 2, 0] ?_
         refine xR hE [0, 2, 7, 8, 81] rfl (R8_Types_r14_ok F _ _ _ _ _) ?_
         intro x0 x2 x7 x8 x81
         show OKq _ _ _ [(81, x81), (8, x8), (7, x7), (2, x2), (0, x0)] _
         refine rThen ?_
         refine xCond rfl rfl ?_ ?_
         · refine rSkip ?_
           refine rThen ?_
           refine rSeq ?_
           refine rBlock ?_
           refine rSeq ?_
           refine cLess [8, 7, 2, 0] ?_
           refine xD Trymix hE [0, 2, 7, 8, 9] rfl R8_Types_r16_good (R8_Types_r16_ok F _ _ _ _ _) ?_
           intro x0 x2 x7 x8 x9
           show OKq _ _ _ [(9, x9), (8, x8), (7, x7), (2, x2), (0, x0)] _
           refine rThen ?_
           refine rSeq ?_
           refine cLess [9, 8, 7, 2, 0] ?_
           refine xD Trymix hE [0, 2, 7, 8, 9, 10] rfl R8_Types_r17_good (R8_Types_r17_ok F _ _ _ _ _ _) ?_
           intro x0 x2 x7 x8 x9 x10
           show OKq _ _ _ [(10, x10), (9, x9), (8, x8), (7, x7), (2, x2), (0, x0)] _
           refine rThen ?_
           refine rSeq ?_
           refine cLess [10, 9, 8, 7, 2, 0] ?_
           refine xR hE [0, 2, 7, 8, 9, 10, 11, 12] rfl (R8_Types_r18_ok F _ _ _ _ _ _ _) ?_
           intro x0 x2 x7 x8 x9 x10 x11 x12
           show OKq _ _ _ [(12, x12), (11, x11), (10, x10), (9, x9), (8, x8), (7, x7), (2, x2), (0, x0)] _
           refine rThen ?_
           refine rSeq ?_
           refine cLess [12, 11, 10, 9, 8, 7, 2, 0] ?_
           refine xR hE [0, 2, 7, 8, 9, 10, 12, 13] rfl (R8_Types_r19_ok F _ _ _ _ _ _ _ _ _) ?_
           intro x0 x2 x7 x8 x9 x10 x12 x13
           show OKq _ _ _ [(13, x13), (12, x12), (10, x10), (9, x9), (8, x8), (7, x7), (2, x2), (0, x0)] _
           refine rThen ?_
           refine xSeq [0, 2, 7, 8, 9, 10, 12, 13] (R8_Types_k3 F (R8_Types_l1 F (fun x0 x2 => R8_Types_k0 F x0 x2) k1) ) ?_ fun hj3 => ?_
           · intro x0 x2 x7 x8 x9 x10 x12 x13
             show OKc _ _ [(13, x13), (12, x12), (10, x10), (9, x9), (8, x8), (7, x7), (2, x2), (0, x0)] _ _
             refine xSeq [0, 2, 7, 8, 13] (R8_Types_k2 F (R8_Types_l1 F (fun x0 x2 => R8_Types_k0 F x0 x2) k1) ) ?_ fun hj2 => ?_
             · intro x0 x2 x7 x8 x13
               show OKc _ _ [(13, x13), (8, x8), (7, x7), (2, x2), (0, x0)] _ _
               refine rSeq ?_
               refine cLess [13, 8, 7, 2, 0] ?_
               refine xR hE [0, 2, 7, 8, 160] rfl (R8_Types_r24_ok F _ _ _ _ _ _) ?_
               intro x0 x2 x7 x8 x160
               show OKq _ _ _ [(160, x160), (8, x8), (7, x7), (2, x2), (0, x0)] _
               refine rThen ?_
               refine xCond rfl rfl ?_ ?_
               · refine rSeq ?_
                 refine cLess [8, 7, 2] ?_
                 refine xR hE [2, 3] rfl (R8_Types_r25_ok F _ _ _ _) ?_
                 intro x2 x3
                 show OKq _ _ _ [(3, x3), (2, x2)] _
                 refine rThen ?_
                 refine rRet ?_
                 refine xBlockR ?_
                 refine xThenR ?_
                 refine xThenR ?_
                 refine xBlockR ?_
                 refine xThenR ?_
                 exact rDone (.inr rfl) rfl
               · refine rSkip ?_
                 refine xBlockN ?_
                 refine rThen ?_
                 refine cLess [8, 7, 2, 0] ?_
                 refine xR hE [0, 2, 7, 8] rfl (R8_Types_r15_ok F _ _ _ _ _) ?_
                 intro x0 x2 x7 x8
                 show OKq _ _ _ [(8, x8), (7, x7), (2, x2), (0, x0)] _
                 exact qLess [8, 7, 2, 0] (hI1 k1 x0 x2 x7 x8)
             · refine rSeq ?_
               refine cLess [13, 12, 10, 9, 8, 7, 2, 0] ?_
               refine xR hE [0, 2, 7, 8, 9, 10, 13, 142] rfl (R8_Types_r22_ok F _ _ _ _ _ _ _ _ _) ?_
               intro x0 x2 x7 x8 x9 x10 x13 x142
               show OKq _ _ _ [(142, x142), (13, x13), (10, x10), (9, x9), (8, x8), (7, x7), (2, x2), (0, x0)] _
               refine rThen ?_
               refine xCond rfl rfl ?_ ?_
               · refine cLess [10, 9, 8, 7, 2, 0] ?_
                 refine xD Trymix hE [0, 2, 7, 8, 13] rfl R8_Types_r23_good (R8_Types_r23_ok F _ _ _ _ _ _ _) ?_
                 intro x0 x2 x7 x8 x13
                 show OKq _ _ _ [(13, x13), (8, x8), (7, x7), (2, x2), (0, x0)] _
                 exact qLess [13, 8, 7, 2, 0] (hj2 x0 x2 x7 x8 x13)
               · refine rSkip ?_
                 exact qLess [13, 8, 7, 2, 0] (hj2 x0 x2 x7 x8 x13)
           · refine rSeq ?_
             refine cLess [13, 12, 10, 9, 8, 7, 2, 0] ?_
             refine xR hE [0, 2, 7, 8, 9, 10, 12, 13, 127] rfl (R8_Types_r20_ok F _ _ _ _ _ _ _ _ _) ?_
             intro x0 x2 x7 x8 x9 x10 x12 x13 x127
             show OKq _ _ _ [(127, x127), (13, x13), (12, x12), (10, x10), (9, x9), (8, x8), (7, x7), (2, x2), (0, x0)] _
             refine rThen ?_
             refine xCond rfl rfl ?_ ?_
             · refine cLess [12, 10, 9, 8, 7, 2, 0] ?_
               refine xR hE [0, 2, 7, 8, 9, 10, 12, 13] rfl (R8_Types_r21_ok F _ _ _ _ _ _ _ _) ?_
               intro x0 x2 x7 x8 x9 x10 x12 x13
               show OKq _ _ _ [(13, x13), (12, x12), (10, x10), (9, x9), (8, x8), (7, x7), (2, x2), (0, x0)] _
               exact qLess [13, 12, 10, 9, 8, 7, 2, 0] (hj3 x0 x2 x7 x8 x9 x10 x12 x13)
             · refine rSkip ?_
               exact qLess [13, 12, 10, 9, 8, 7, 2, 0] (hj3 x0 x2 x7 x8 x9 x10 x12 x13)
         · refine rExit ?_
           refine xThenX ?_
           refine xThenX ?_
           refine rOut ?_
           exact qLess [2, 0] (hj0 x0 x2)
     · refine rSeq ?_
       refine cLess [2, 0] ?_
       refine xR hE [0, 2, 4] rfl (R8_Types_r1_ok F _ _ _) ?_
       intro x0 x2 x4
       show OKq _ _ _ [(4, x4), (2, x2), (0, x0)] _
       refine rThen ?_
       refine rBlock ?_
       refine cLess [4, 2, 0] ?_
       refine xLoopAt [0, 2, 4] [] (fun k5 => R8_Types_l5 F (fun x0 x2 => R8_Types_k4 F x0 x2) k5) F [x0, x2, x4] rfl rfl (fun _ _ _ => rfl) fun I hI5 k5 => ?_
       intro x0 x2 x4
       show OKc _ _ [(4, x4), (2, x2), (0, x0)] _ _
       refine cAs (R8_Types_l5_s F _ _ _ _ _) ?_
       refine rSeq ?_
       refine rSeq ?_
       refine cLess [4, 2, 0] ?_
       refine xR hE [0, 2, 4, 21] rfl (R8_Types_r2_ok F _ _ _ _) ?_
       intro x0 x2 x4 x21
       show OKq _ _ _ [(21, x21), (4, x4), (2, x2), (0, x0)] _
       refine rThen ?_
       refine xCond rfl rfl ?_ ?_
       · refine rSkip ?_
         refine rThen ?_
         refine xSeq [0, 2, 4] (R8_Types_k6 F (R8_Types_l5 F (fun x0 x2 => R8_Types_k4 F x0 x2) k5) ) ?_ fun hj6 => ?_
         · intro x0 x2 x4
           show OKc _ _ [(4, x4), (2, x2), (0, x0)] _ _
           refine cLess [4, 2, 0] ?_
           refine xR hE [0, 2, 4] rfl (R8_Types_r3_ok F _ _ _ _) ?_
           intro x0 x2 x4
           show OKq _ _ _ [(4, x4), (2, x2), (0, x0)] _
           exact qLess [4, 2, 0] (hI5 k5 x0 x2 x4)
         · refine rBlock ?_
           refine rSeq ?_
           refine cLess [4, 2, 0] ?_
           refine xD Trymix hE [0, 2, 4, 5] rfl R8_Types_r4_good (R8_Types_r4_ok F _ _ _ _) ?_
           intro x0 x2 x4 x5
           show OKq _ _ _ [(5, x5), (4, x4), (2, x2), (0, x0)] _
           refine rThen ?_
           refine rSeq ?_
           refine rSeq ?_
           refine cLess [5, 4, 2, 0] ?_
           refine xR hE [0, 2, 4, 5, 50] rfl (R8_Types_r5_ok F _ _ _ _ _) ?_
           intro x0 x2 x4 x5 x50
           show OKq _ _ _ [(50, x50), (5, x5), (4, x4), (2, x2), (0, x0)] _
           refine rThen ?_
           refine xCond rfl rfl ?_ ?_
           · refine rSeq ?_
             refine cLess [2] ?_
             refine xR hE [2, 3] rfl (R8_Types_r6_ok F _ _) ?_
             intro x2 x3
             show OKq _ _ _ [(3, x3), (2, x2)] _
             refine rThen ?_
             refine rRet ?_
             refine xThenR ?_
             refine xBlockR ?_
             refine xThenR ?_
             refine xThenR ?_
             refine xBlockR ?_
             refine xThenR ?_
             exact rDone (.inr rfl) rfl
           · refine rSkip ?_
             refine rThen ?_
             refine rSeq ?_
             refine cLess [5, 4, 2, 0] ?_
             refine xR hE [0, 2, 4, 5, 6] rfl (R8_Types_r7_ok F _ _ _ _ _) ?_
             intro x0 x2 x4 x5 x6
             show OKq _ _ _ [(6, x6), (5, x5), (4, x4), (2, x2), (0, x0)] _
             refine rThen ?_
             refine rBlock ?_
             refine cLess [6, 5, 4, 2, 0] ?_
             refine xLoopAt [0, 2, 4, 5, 6] [] (fun k7 => R8_Types_l7 F (fun x0 x2 x4 => R8_Types_k6 F (R8_Types_l5 F (fun x0 x2 => R8_Types_k4 F x0 x2) k5) x0 x2 x4) k7) F [x0, x2, x4, x5, x6] rfl rfl (fun _ _ _ _ _ => rfl) fun I hI7 k7 => ?_
             intro x0 x2 x4 x5 x6
             show OKc _ _ [(6, x6), (5, x5), (4, x4), (2, x2), (0, x0)] _ _
             refine cAs (R8_Types_l7_s F _ _ _ _ _ _ _) ?_
             refine rSeq ?_
             refine rSeq ?_
             refine cLess [6, 5, 4, 2, 0] ?_
             refine xR hE [0, 2, 4, 5, 6, 55] rfl (R8_Types_r8_ok F _ _ _ _ _ _) ?_
             intro x0 x2 x4 x5 x6 x55
             show OKq _ _ _ [(55, x55), (6, x6), (5, x5), (4, x4), (2, x2), (0, x0)] _
             refine rThen ?_
             refine xCond rfl rfl ?_ ?_
             · refine rSkip ?_
               refine rThen ?_
               refine rSeq ?_
               refine rBlock ?_
               refine rSeq ?_
               refine cLess [6, 5, 4, 2, 0] ?_
               refine xD Trymix hE [0, 2, 4, 5, 6, 74] rfl R8_Types_r10_good (R8_Types_r10_ok F _ _ _ _ _ _) ?_
               intro x0 x2 x4 x5 x6 x74
               show OKq _ _ _ [(74, x74), (6, x6), (5, x5), (4, x4), (2, x2), (0, x0)] _
               refine rThen ?_
               refine xCond rfl rfl ?_ ?_
               · refine rSeq ?_
                 refine cLess [2] ?_
                 refine xR hE [2, 3] rfl (R8_Types_r11_ok F _ _) ?_
                 intro x2 x3
                 show OKq _ _ _ [(3, x3), (2, x2)] _
                 refine rThen ?_
                 refine rRet ?_
                 refine xBlockR ?_
                 refine xThenR ?_
                 refine xThenR ?_
                 refine xBlockR ?_
                 refine xBlockR ?_
                 refine xThenR ?_
                 refine xThenR ?_
                 refine xBlockR ?_
                 refine xThenR ?_
                 exact rDone (.inr rfl) rfl
               · refine rSkip ?_
                 refine xBlockN ?_
                 refine rThen ?_
                 refine cLess [6, 5, 4, 2, 0] ?_
                 refine xR hE [0, 2, 4, 5, 6] rfl (R8_Types_r9_ok F _ _ _ _ _ _) ?_
                 intro x0 x2 x4 x5 x6
                 show OKq _ _ _ [(6, x6), (5, x5), (4, x4), (2, x2), (0, x0)] _
                 exact qLess [6, 5, 4, 2, 0] (hI7 k7 x0 x2 x4 x5 x6)
             · refine rExit ?_
               refine xThenX ?_
               refine xThenX ?_
               refine rOut ?_
               refine xBlockN ?_
               exact qLess [4, 2, 0] (hj6 x0 x2 x4)
       · refine rExit ?_
         refine xThenX ?_
         refine xThenX ?_
         refine rOut ?_
         exact qLess [2, 0] (hj4 x0 x2)
   · exact rFail


/-! ### slices.pdqsortOrdered[int] -/

def slices_pdqsortOrdered_a (rec : Value → Value → Value → Value → M Value) : List Value → M Value
  | [x0, x1, x2, x3] => rec x0 x1 x2 x3
  | _ => fail

def slices_pdqsortOrdered_env (F : Nat) (rec : Value → Value → Value → Value → M Value) : Env := envOf [(53, slices_pdqsortOrdered_a rec), (71, slices_insertionSortOrdered_m F), (72, slices_heapSortOrdered_m F), (73, slices_breakPatternsOrdered_m F), (74, slices_choosePivotOrdered_m F), (75, slices_reverseRangeOrdered_m F), (76, slices_partialInsertionSortOrdered_m F), (77, cmp_Less_m F), (78, slices_partitionEqualOrdered_m F), (79, slices_partitionOrdered_m F)]

noncomputable def slices_pdqsortOrdered_R (F : Nat) (rec : Value → Value → Value → Value → M Value) := rK Try.prog TryG (slices_pdqsortOrdered_env F rec) Try.f53
noncomputable def slices_pdqsortOrdered_D (F : Nat) (rec : Value → Value → Value → Value → M Value) := dK Try.prog TryG (slices_pdqsortOrdered_env F rec) Try.f53

def slices_pdqsortOrdered_r27 (F : Nat) (rec : Value → Value → Value → Value → M Value) (x0 x2 x3 x8 x9 x14 : Value) (K : Value → Value → Value → Value → Value → Value → M Value) : M Value :=
  bnd (opBin .add x14 (.int .i64 (1))) fun v123 => K x0 v123 x2 x3 x8 x9

theorem slices_pdqsortOrdered_r27_ok (F : Nat) (rec : Value → Value → Value → Value → M Value) (x0 x2 x3 x8 x9 x14 : Value) (K : Value → Value → Value → Value → Value → Value → M Value) : slices_pdqsortOrdered_r27 F rec x0 x2 x3 x8 x9 x14 K = slices_pdqsortOrdered_R F rec 27 [(14, x14), (9, x9), (8, x8), (3, x3), (2, x2), (0, x0)] [0, 1, 2, 3, 8, 9] K := by kernel_rfl

def slices_pdqsortOrdered_r26 (F : Nat) (rec : Value → Value → Value → Value → M Value) (x0 x1 x2 x3 x8 x9 x14 : Value) (K : Value → Value → Value → Value → Value → Value → M Value) : M Value :=
  bnd (rec x0 x1 x14 x3) fun v121 => K x0 x2 x3 x8 x9 x14

theorem slices_pdqsortOrdered_r26_ok (F : Nat) (rec : Value → Value → Value → Value → M Value) (x0 x1 x2 x3 x8 x9 x14 : Value) (K : Value → Value → Value → Value → Value → Value → M Value) : slices_pdqsortOrdered_r26 F rec x0 x1 x2 x3 x8 x9 x14 K = slices_pdqsortOrdered_R F rec 26 [(14, x14), (9, x9), (8, x8), (3, x3), (2, x2), (1, x1), (0, x0)] [0, 2, 3, 8, 9, 14] K := by kernel_rfl

def slices_pdqsortOrdered_r25 (F : Nat) (rec : Value → Value → Value → Value → M Value) (x0 x1 x2 x3 x9 x14 x16 x18 : Value) (K : Value → Value → Value → Value → Value → Value → Value → M Value) : M Value :=
  bnd (opBin .geq x16 x18) fun v116 => K x0 x1 x2 x3 v116 x9 x14

theorem slices_pdqsortOrdered_r25_ok (F : Nat) (rec : Value → Value → Value → Value → M Value) (x0 x1 x2 x3 x9 x14 x16 x18 : Value) (K : Value → Value → Value → Value → Value → Value → Value → M Value) : slices_pdqsortOrdered_r25 F rec x0 x1 x2 x3 x9 x14 x16 x18 K = slices_pdqsortOrdered_R F rec 25 [(18, x18), (16, x16), (14, x14), (9, x9), (3, x3), (2, x2), (1, x1), (0, x0)] [0, 1, 2, 3, 8, 9, 14] K := by kernel_rfl

def slices_pdqsortOrdered_r30 (F : Nat) (rec : Value → Value → Value → Value → M Value) (x0 x1 x3 x8 x9 x14 : Value) (K : Value → Value → Value → Value → Value → Value → M Value) : M Value :=
  K x0 x1 x14 x3 x8 x9

theorem slices_pdqsortOrdered_r30_ok (F : Nat) (rec : Value → Value → Value → Value → M Value) (x0 x1 x3 x8 x9 x14 : Value) (K : Value → Value → Value → Value → Value → Value → M Value) : slices_pdqsortOrdered_r30 F rec x0 x1 x3 x8 x9 x14 K = slices_pdqsortOrdered_R F rec 30 [(14, x14), (9, x9), (8, x8), (3, x3), (1, x1), (0, x0)] [0, 1, 2, 3, 8, 9] K := by kernel_rfl

def slices_pdqsortOrdered_r29 (F : Nat) (rec : Value → Value → Value → Value → M Value) (x0 x1 x2 x3 x8 x9 x14 : Value) (K : Value → Value → Value → Value → Value → Value → M Value) : M Value :=
  bnd (opBin .add x14 (.int .i64 (1))) fun v129 => bnd (rec x0 v129 x2 x3) fun v132 => K x0 x1 x3 x8 x9 x14

theorem slices_pdqsortOrdered_r29_ok (F : Nat) (rec : Value → Value → Value → Value → M Value) (x0 x1 x2 x3 x8 x9 x14 : Value) (K : Value → Value → Value → Value → Value → Value → M Value) : slices_pdqsortOrdered_r29 F rec x0 x1 x2 x3 x8 x9 x14 K = slices_pdqsortOrdered_R F rec 29 [(14, x14), (9, x9), (8, x8), (3, x3), (2, x2), (1, x1), (0, x0)] [0, 1, 3, 8, 9, 14] K := by kernel_rfl

def slices_pdqsortOrdered_r28 (F : Nat) (rec : Value → Value → Value → Value → M Value) (x0 x1 x2 x3 x9 x14 x17 x18 : Value) (K : Value → Value → Value → Value → Value → Value → Value → M Value) : M Value :=
  bnd (opBin .geq x17 x18) fun v126 => K x0 x1 x2 x3 v126 x9 x14

theorem slices_pdqsortOrdered_r28_ok (F : Nat) (rec : Value → Value → Value → Value → M Value) (x0 x1 x2 x3 x9 x14 x17 x18 : Value) (K : Value → Value → Value → Value → Value → Value → Value → M Value) : slices_pdqsortOrdered_r28 F rec x0 x1 x2 x3 x9 x14 x17 x18 K = slices_pdqsortOrdered_R F rec 28 [(18, x18), (17, x17), (14, x14), (9, x9), (3, x3), (2, x2), (1, x1), (0, x0)] [0, 1, 2, 3, 8, 9, 14] K := by kernel_rfl

def slices_pdqsortOrdered_r24 (F : Nat) (rec : Value → Value → Value → Value → M Value) (x0 x1 x2 x3 x9 x14 x16 x17 x18 : Value) (K : Value → Value → Value → Value → Value → Value → Value → Value → Value → Value → M Value) : M Value :=
  bnd (opBin .lss x16 x17) fun v113 => K x0 x1 x2 x3 x9 x14 x16 x17 x18 v113

theorem slices_pdqsortOrdered_r24_ok (F : Nat) (rec : Value → Value → Value → Value → M Value) (x0 x1 x2 x3 x9 x14 x16 x17 x18 : Value) (K : Value → Value → Value → Value → Value → Value → Value → Value → Value → Value → M Value) : slices_pdqsortOrdered_r24 F rec x0 x1 x2 x3 x9 x14 x16 x17 x18 K = slices_pdqsortOrdered_R F rec 24 [(18, x18), (17, x17), (16, x16), (14, x14), (9, x9), (3, x3), (2, x2), (1, x1), (0, x0)] [0, 1, 2, 3, 9, 14, 16, 17, 18, 113] K := by kernel_rfl

def slices_pdqsortOrdered_r23 (F : Nat) (rec : Value → Value → Value → Value → M Value) (x0 x1 x2 x3 x9 x10 x14 x16 x17 : Value) (K : Value → Value → Value → Value → Value → Value → Value → Value → Value → M Value) : M Value :=
  bnd (opBin .quo x10 (.int .i64 (8))) fun v110 => K x0 x1 x2 x3 x9 x14 x16 x17 v110

theorem slices_pdqsortOrdered_r23_ok (F : Nat) (rec : Value → Value → Value → Value → M Value) (x0 x1 x2 x3 x9 x10 x14 x16 x17 : Value) (K : Value → Value → Value → Value → Value → Value → Value → Value → Value → M Value) : slices_pdqsortOrdered_r23 F rec x0 x1 x2 x3 x9 x10 x14 x16 x17 K = slices_pdqsortOrdered_R F rec 23 [(17, x17), (16, x16), (14, x14), (10, x10), (9, x9), (3, x3), (2, x2), (1, x1), (0, x0)] [0, 1, 2, 3, 9, 14, 16, 17, 18] K := by kernel_rfl

def slices_pdqsortOrdered_r22 (F : Nat) (rec : Value → Value → Value → Value → M Value) (x0 x1 x2 x3 x9 x10 x14 : Value) (K : Value → Value → Value → Value → Value → Value → Value → Value → Value → M Value) : M Value :=
  bnd (opBin .sub x14 x1) fun v105 => bnd (opBin .sub x2 x14) fun v108 => K x0 x1 x2 x3 x9 x10 x14 v105 v108

theorem slices_pdqsortOrdered_r22_ok (F : Nat) (rec : Value → Value → Value → Value → M Value) (x0 x1 x2 x3 x9 x10 x14 : Value) (K : Value → Value → Value → Value → Value → Value → Value → Value → Value → M Value) : slices_pdqsortOrdered_r22 F rec x0 x1 x2 x3 x9 x10 x14 K = slices_pdqsortOrdered_R F rec 22 [(14, x14), (10, x10), (9, x9), (3, x3), (2, x2), (1, x1), (0, x0)] [0, 1, 2, 3, 9, 10, 14, 16, 17] K := by kernel_rfl

def slices_pdqsortOrdered_r21 (F : Nat) (rec : Value → Value → Value → Value → M Value) (x0 x1 x2 x3 x10 x14 x15 : Value) (K : Value → Value → Value → Value → Value → Value → Value → M Value) : M Value :=
  K x0 x1 x2 x3 x15 x10 x14

theorem slices_pdqsortOrdered_r21_ok (F : Nat) (rec : Value → Value → Value → Value → M Value) (x0 x1 x2 x3 x10 x14 x15 : Value) (K : Value → Value → Value → Value → Value → Value → Value → M Value) : slices_pdqsortOrdered_r21 F rec x0 x1 x2 x3 x10 x14 x15 K = slices_pdqsortOrdered_R F rec 21 [(15, x15), (14, x14), (10, x10), (3, x3), (2, x2), (1, x1), (0, x0)] [0, 1, 2, 3, 9, 10, 14] K := by kernel_rfl

def slices_pdqsortOrdered_r20 (F : Nat) (rec : Value → Value → Value → Value → M Value) (x0 x1 x2 x3 x10 x11 : Value) (K : Value → Value → Value → Value → Value → Value → Value → M Value) : M Value :=
  bnd (slices_partitionOrdered F x0 x1 x2 x11) fun v99 => bnd (opExtract v99 0) fun v100 => bnd (opExtract v99 1) fun v101 => K x0 x1 x2 x3 x10 v100 v101

theorem slices_pdqsortOrdered_r20_ok (F : Nat) (rec : Value → Value → Value → Value → M Value) (x0 x1 x2 x3 x10 x11 : Value) (K : Value → Value → Value → Value → Value → Value → Value → M Value) : slices_pdqsortOrdered_r20 F rec x0 x1 x2 x3 x10 x11 K = slices_pdqsortOrdered_R F rec 20 [(11, x11), (10, x10), (3, x3), (2, x2), (1, x1), (0, x0)] [0, 1, 2, 3, 10, 14, 15] K := by kernel_rfl

def slices_pdqsortOrdered_r19 (F : Nat) (rec : Value → Value → Value → Value → M Value) (x0 x2 x3 x8 x9 x13 : Value) (K : Value → Value → Value → Value → Value → Value → M Value) : M Value :=
  K x0 x13 x2 x3 x8 x9

theorem slices_pdqsortOrdered_r19_ok (F : Nat) (rec : Value → Value → Value → Value → M Value) (x0 x2 x3 x8 x9 x13 : Value) (K : Value → Value → Value → Value → Value → Value → M Value) : slices_pdqsortOrdered_r19 F rec x0 x2 x3 x8 x9 x13 K = slices_pdqsortOrdered_R F rec 19 [(13, x13), (9, x9), (8, x8), (3, x3), (2, x2), (0, x0)] [0, 1, 2, 3, 8, 9] K := by kernel_rfl

def slices_pdqsortOrdered_r18 (F : Nat) (rec : Value → Value → Value → Value → M Value) (x0 x1 x2 x3 x8 x9 x11 : Value) (K : Value → Value → Value → Value → Value → Value → M Value) : M Value :=
  bnd (slices_partitionEqualOrdered F x0 x1 x2 x11) fun v92 => K x0 x2 x3 x8 x9 v92

theorem slices_pdqsortOrdered_r18_ok (F : Nat) (rec : Value → Value → Value → Value → M Value) (x0 x1 x2 x3 x8 x9 x11 : Value) (K : Value → Value → Value → Value → Value → Value → M Value) : slices_pdqsortOrdered_r18 F rec x0 x1 x2 x3 x8 x9 x11 K = slices_pdqsortOrdered_R F rec 18 [(11, x11), (9, x9), (8, x8), (3, x3), (2, x2), (1, x1), (0, x0)] [0, 2, 3, 8, 9, 13] K := by kernel_rfl

def slices_pdqsortOrdered_r17 (F : Nat) (rec : Value → Value → Value → Value → M Value) (x0 x1 x2 x3 x8 x9 x10 x11 : Value) (K : Value → Value → Value → Value → Value → Value → Value → Value → Value → M Value) : M Value :=
  bnd (opBin .gtr x1 (.int .i64 (0))) fun v74 => onB v74 (bnd (opBin .sub x1 (.int .i64 (1))) fun v78 => bnd (opIndexAddr 1 x0 v78) fun v79 => bnd (opLoad v79) fun v80 => bnd (opIndexAddr 1 x0 x11) fun v83 => bnd (opLoad v83) fun v84 => bnd (cmp_Less F v80 v84) fun v85 => bnd (opNot v85) fun v86 => K x0 x1 x2 x3 x8 x9 x10 x11 v86) (K x0 x1 x2 x3 x8 x9 x10 x11 (.bool false))

theorem slices_pdqsortOrdered_r17_ok (F : Nat) (rec : Value → Value → Value → Value → M Value) (x0 x1 x2 x3 x8 x9 x10 x11 : Value) (K : Value → Value → Value → Value → Value → Value → Value → Value → Value → M Value) : slices_pdqsortOrdered_r17 F rec x0 x1 x2 x3 x8 x9 x10 x11 K = slices_pdqsortOrdered_D F rec 17 [0, 1, 2, 3, 4, 5, 6, 7, 8, 9, 10, 11, 12, 13, 14] [(11, x11), (10, x10), (9, x9), (8, x8), (3, x3), (2, x2), (1, x1), (0, x0)] [0, 1, 2, 3, 8, 9, 10, 11, 87] K := by kernel_rfl

theorem slices_pdqsortOrdered_r17_good : goodOrder (opsOf Try.f53 17) [0, 1, 2, 3, 4, 5, 6, 7, 8, 9, 10, 11, 12, 13, 14] = true := by kernel_rfl

def slices_pdqsortOrdered_k1 (F : Nat) (A0 : Value → Value → Value → Value → Value → Value → M Value) (rec : Value → Value → Value → Value → M Value) (x0 x1 x2 x3 x8 x9 x10 x11 : Value) : M Value :=
  slices_pdqsortOrdered_r17 F rec x0 x1 x2 x3 x8 x9 x10 x11 (fun x0 x1 x2 x3 x8 x9 x10 x11 x87 => onB x87 (slices_pdqsortOrdered_r18 F rec x0 x1 x2 x3 x8 x9 x11 (fun x0 x2 x3 x8 x9 x13 => slices_pdqsortOrdered_r19 F rec x0 x2 x3 x8 x9 x13 (fun x0 x1 x2 x3 x8 x9 => A0 x0 x1 x2 x3 x8 x9))) (slices_pdqsortOrdered_r20 F rec x0 x1 x2 x3 x10 x11 (fun x0 x1 x2 x3 x10 x14 x15 => slices_pdqsortOrdered_r21 F rec x0 x1 x2 x3 x10 x14 x15 (fun x0 x1 x2 x3 x9 x10 x14 => slices_pdqsortOrdered_r22 F rec x0 x1 x2 x3 x9 x10 x14 (fun x0 x1 x2 x3 x9 x10 x14 x16 x17 => slices_pdqsortOrdered_r23 F rec x0 x1 x2 x3 x9 x10 x14 x16 x17 (fun x0 x1 x2 x3 x9 x14 x16 x17 x18 => slices_pdqsortOrdered_r24 F rec x0 x1 x2 x3 x9 x14 x16 x17 x18 (fun x0 x1 x2 x3 x9 x14 x16 x17 x18 x113 => onB x113 (slices_pdqsortOrdered_r25 F rec x0 x1 x2 x3 x9 x14 x16 x18 (fun x0 x1 x2 x3 x8 x9 x14 => slices_pdqsortOrdered_r26 F rec x0 x1 x2 x3 x8 x9 x14 (fun x0 x2 x3 x8 x9 x14 => slices_pdqsortOrdered_r27 F rec x0 x2 x3 x8 x9 x14 (fun x0 x1 x2 x3 x8 x9 => A0 x0 x1 x2 x3 x8 x9)))) (slices_pdqsortOrdered_r28 F rec x0 x1 x2 x3 x9 x14 x17 x18 (fun x0 x1 x2 x3 x8 x9 x14 => slices_pdqsortOrdered_r29 F rec x0 x1 x2 x3 x8 x9 x14 (fun x0 x1 x3 x8 x9 x14 => slices_pdqsortOrdered_r30 F rec x0 x1 x3 x8 x9 x14 (fun x0 x1 x2 x3 x8 x9 => A0 x0 x1 x2 x3 x8 x9)))))))))))

def slices_pdqsortOrdered_r16 (F : Nat) (rec : Value → Value → Value → Value → M Value) (x0 x1 x2 x3 x8 x9 x10 x11 : Value) (K : Value → Value → Value → Value → Value → Value → Value → Value → Value → M Value) : M Value :=
  bnd (slices_partialInsertionSortOrdered F x0 x1 x2) fun v72 => K x0 x1 x2 x3 x8 x9 x10 x11 v72

theorem slices_pdqsortOrdered_r16_ok (F : Nat) (rec : Value → Value → Value → Value → M Value) (x0 x1 x2 x3 x8 x9 x10 x11 : Value) (K : Value → Value → Value → Value → Value → Value → Value → Value → Value → M Value) : slices_pdqsortOrdered_r16 F rec x0 x1 x2 x3 x8 x9 x10 x11 K = slices_pdqsortOrdered_R F rec 16 [(11, x11), (10, x10), (9, x9), (8, x8), (3, x3), (2, x2), (1, x1), (0, x0)] [0, 1, 2, 3, 8, 9, 10, 11, 72] K := by kernel_rfl

def slices_pdqsortOrdered_r15 (F : Nat) (rec : Value → Value → Value → Value → M Value) (x0 x1 x2 x3 x8 x9 x10 x11 x12 : Value) (K : Value → Value → Value → Value → Value → Value → Value → Value → Value → M Value) : M Value :=
  onB x8 (onB x9 (bnd (opBin .eql x12 (.int .i64 (1))) fun v67 => K x0 x1 x2 x3 x8 x9 x10 x11 v67) (K x0 x1 x2 x3 x8 x9 x10 x11 (.bool false))) (K x0 x1 x2 x3 x8 x9 x10 x11 (.bool false))

theorem slices_pdqsortOrdered_r15_ok (F : Nat) (rec : Value → Value → Value → Value → M Value) (x0 x1 x2 x3 x8 x9 x10 x11 x12 : Value) (K : Value → Value → Value → Value → Value → Value → Value → Value → Value → M Value) : slices_pdqsortOrdered_r15 F rec x0 x1 x2 x3 x8 x9 x10 x11 x12 K = slices_pdqsortOrdered_R F rec 15 [(12, x12), (11, x11), (10, x10), (9, x9), (8, x8), (3, x3), (2, x2), (1, x1), (0, x0)] [0, 1, 2, 3, 8, 9, 10, 11, 68] K := by kernel_rfl

def slices_pdqsortOrdered_k2 (F : Nat) (A0 : Value → Value → Value → Value → Value → Value → M Value) (rec : Value → Value → Value → Value → M Value) (x0 x1 x2 x3 x8 x9 x10 x11 x12 : Value) : M Value :=
  slices_pdqsortOrdered_r15 F rec x0 x1 x2 x3 x8 x9 x10 x11 x12 (fun x0 x1 x2 x3 x8 x9 x10 x11 x68 => onB x68 (slices_pdqsortOrdered_r16 F rec x0 x1 x2 x3 x8 x9 x10 x11 (fun x0 x1 x2 x3 x8 x9 x10 x11 x72 => onB x72 (tupK []) (slices_pdqsortOrdered_k1 F A0 rec x0 x1 x2 x3 x8 x9 x10 x11))) (slices_pdqsortOrdered_k1 F A0 rec x0 x1 x2 x3 x8 x9 x10 x11))

def slices_pdqsortOrdered_r14 (F : Nat) (rec : Value → Value → Value → Value → M Value) (x0 x1 x2 x3 x8 x9 x10 x11 : Value) (K : Value → Value → Value → Value → Value → Value → Value → Value → Value → M Value) : M Value :=
  K x0 x1 x2 x3 x8 x9 x10 x11 (.int .i64 (1))

theorem slices_pdqsortOrdered_r14_ok (F : Nat) (rec : Value → Value → Value → Value → M Value) (x0 x1 x2 x3 x8 x9 x10 x11 : Value) (K : Value → Value → Value → Value → Value → Value → Value → Value → Value → M Value) : slices_pdqsortOrdered_r14 F rec x0 x1 x2 x3 x8 x9 x10 x11 K = slices_pdqsortOrdered_R F rec 14 [(11, x11), (10, x10), (9, x9), (8, x8), (3, x3), (2, x2), (1, x1), (0, x0)] [0, 1, 2, 3, 8, 9, 10, 11, 12] K := by kernel_rfl

def slices_pdqsortOrdered_r13 (F : Nat) (rec : Value → Value → Value → Value → M Value) (x0 x1 x2 x3 x8 x9 x10 x11 : Value) (K : Value → Value → Value → Value → Value → Value → Value → Value → M Value) : M Value :=
  bnd (opBin .sub x2 (.int .i64 (1))) fun v56 => bnd (opBin .sub x11 x1) fun v59 => bnd (opBin .sub v56 v59) fun v60 => K x0 x1 x2 x3 x8 x9 x10 v60

theorem slices_pdqsortOrdered_r13_ok (F : Nat) (rec : Value → Value → Value → Value → M Value) (x0 x1 x2 x3 x8 x9 x10 x11 : Value) (K : Value → Value → Value → Value → Value → Value → Value → Value → M Value) : slices_pdqsortOrdered_r13 F rec x0 x1 x2 x3 x8 x9 x10 x11 K = slices_pdqsortOrdered_R F rec 13 [(11, x11), (10, x10), (9, x9), (8, x8), (3, x3), (2, x2), (1, x1), (0, x0)] [0, 1, 2, 3, 8, 9, 10, 11] K := by kernel_rfl

def slices_pdqsortOrdered_r12 (F : Nat) (rec : Value → Value → Value → Value → M Value) (x0 x1 x2 x3 x8 x9 x10 x11 : Value) (K : Value → Value → Value → Value → Value → Value → Value → Value → M Value) : M Value :=
  bnd (slices_reverseRangeOrdered F x0 x1 x2) fun v54 => K x0 x1 x2 x3 x8 x9 x10 x11

theorem slices_pdqsortOrdered_r12_ok (F : Nat) (rec : Value → Value → Value → Value → M Value) (x0 x1 x2 x3 x8 x9 x10 x11 : Value) (K : Value → Value → Value → Value → Value → Value → Value → Value → M Value) : slices_pdqsortOrdered_r12 F rec x0 x1 x2 x3 x8 x9 x10 x11 K = slices_pdqsortOrdered_R F rec 12 [(11, x11), (10, x10), (9, x9), (8, x8), (3, x3), (2, x2), (1, x1), (0, x0)] [0, 1, 2, 3, 8, 9, 10, 11] K := by kernel_rfl

def slices_pdqsortOrdered_r11 (F : Nat) (rec : Value → Value → Value → Value → M Value) (x0 x1 x2 x3 x8 x9 x10 x11 x12 : Value) (K : Value → Value → Value → Value → Value → Value → Value → Value → Value → Value → M Value) : M Value :=
  bnd (opBin .eql x12 (.int .i64 (2))) fun v50 => K x0 x1 x2 x3 x8 x9 x10 x11 x12 v50

theorem slices_pdqsortOrdered_r11_ok (F : Nat) (rec : Value → Value → Value → Value → M Value) (x0 x1 x2 x3 x8 x9 x10 x11 x12 : Value) (K : Value → Value → Value → Value → Value → Value → Value → Value → Value → Value → M Value) : slices_pdqsortOrdered_r11 F rec x0 x1 x2 x3 x8 x9 x10 x11 x12 K = slices_pdqsortOrdered_R F rec 11 [(12, x12), (11, x11), (10, x10), (9, x9), (8, x8), (3, x3), (2, x2), (1, x1), (0, x0)] [0, 1, 2, 3, 8, 9, 10, 11, 12, 50] K := by kernel_rfl

def slices_pdqsortOrdered_r10 (F : Nat) (rec : Value → Value → Value → Value → M Value) (x0 x1 x2 x3 x8 x9 x10 : Value) (K : Value → Value → Value → Value → Value → Value → Value → Value → Value → M Value) : M Value :=
  bnd (slices_choosePivotOrdered F x0 x1 x2) fun v46 => bnd (opExtract v46 0) fun v47 => bnd (opExtract v46 1) fun v48 => K x0 x1 x2 x3 x8 x9 x10 v47 v48

theorem slices_pdqsortOrdered_r10_ok (F : Nat) (rec : Value → Value → Value → Value → M Value) (x0 x1 x2 x3 x8 x9 x10 : Value) (K : Value → Value → Value → Value → Value → Value → Value → Value → Value → M Value) : slices_pdqsortOrdered_r10 F rec x0 x1 x2 x3 x8 x9 x10 K = slices_pdqsortOrdered_R F rec 10 [(10, x10), (9, x9), (8, x8), (3, x3), (2, x2), (1, x1), (0, x0)] [0, 1, 2, 3, 8, 9, 10, 11, 12] K := by kernel_rfl

def slices_pdqsortOrdered_k3 (F : Nat) (A0 : Value → Value → Value → Value → Value → Value → M Value) (rec : Value → Value → Value → Value → M Value) (x0 x1 x2 x3 x8 x9 x10 : Value) : M Value :=
  slices_pdqsortOrdered_r10 F rec x0 x1 x2 x3 x8 x9 x10 (fun x0 x1 x2 x3 x8 x9 x10 x11 x12 => slices_pdqsortOrdered_r11 F rec x0 x1 x2 x3 x8 x9 x10 x11 x12 (fun x0 x1 x2 x3 x8 x9 x10 x11 x12 x50 => onB x50 (slices_pdqsortOrdered_r12 F rec x0 x1 x2 x3 x8 x9 x10 x11 (fun x0 x1 x2 x3 x8 x9 x10 x11 => slices_pdqsortOrdered_r13 F rec x0 x1 x2 x3 x8 x9 x10 x11 (fun x0 x1 x2 x3 x8 x9 x10 x11 => slices_pdqsortOrdered_r14 F rec x0 x1 x2 x3 x8 x9 x10 x11 (fun x0 x1 x2 x3 x8 x9 x10 x11 x12 => slices_pdqsortOrdered_k2 F A0 rec x0 x1 x2 x3 x8 x9 x10 x11 x12)))) (slices_pdqsortOrdered_k2 F A0 rec x0 x1 x2 x3 x8 x9 x10 x11 x12)))

def slices_pdqsortOrdered_r9 (F : Nat) (rec : Value → Value → Value → Value → M Value) (x0 x1 x2 x3 x8 x9 x10 : Value) (K : Value → Value → Value → Value → Value → Value → Value → M Value) : M Value :=
  bnd (opBin .sub x3 (.int .i64 (1))) fun v41 => K x0 x1 x2 v41 x8 x9 x10

theorem slices_pdqsortOrdered_r9_ok (F : Nat) (rec : Value → Value → Value → Value → M Value) (x0 x1 x2 x3 x8 x9 x10 : Value) (K : Value → Value → Value → Value → Value → Value → Value → M Value) : slices_pdqsortOrdered_r9 F rec x0 x1 x2 x3 x8 x9 x10 K = slices_pdqsortOrdered_R F rec 9 [(10, x10), (9, x9), (8, x8), (3, x3), (2, x2), (1, x1), (0, x0)] [0, 1, 2, 3, 8, 9, 10] K := by kernel_rfl

def slices_pdqsortOrdered_r8 (F : Nat) (rec : Value → Value → Value → Value → M Value) (x0 x1 x2 x3 x8 x9 x10 : Value) (K : Value → Value → Value → Value → Value → Value → Value → M Value) : M Value :=
  bnd (slices_breakPatternsOrdered F x0 x1 x2) fun v39 => K x0 x1 x2 x3 x8 x9 x10

theorem slices_pdqsortOrdered_r8_ok (F : Nat) (rec : Value → Value → Value → Value → M Value) (x0 x1 x2 x3 x8 x9 x10 : Value) (K : Value → Value → Value → Value → Value → Value → Value → M Value) : slices_pdqsortOrdered_r8 F rec x0 x1 x2 x3 x8 x9 x10 K = slices_pdqsortOrdered_R F rec 8 [(10, x10), (9, x9), (8, x8), (3, x3), (2, x2), (1, x1), (0, x0)] [0, 1, 2, 3, 8, 9, 10] K := by kernel_rfl

def slices_pdqsortOrdered_r7 (F : Nat) (rec : Value → Value → Value → Value → M Value) (x0 x1 x2 x3 x8 x9 x10 : Value) (K : Value → Value → Value → Value → Value → Value → Value → Value → M Value) : M Value :=
  bnd (opNot x8) fun v35 => K x0 x1 x2 x3 x8 x9 x10 v35

theorem slices_pdqsortOrdered_r7_ok (F : Nat) (rec : Value → Value → Value → Value → M Value) (x0 x1 x2 x3 x8 x9 x10 : Value) (K : Value → Value → Value → Value → Value → Value → Value → Value → M Value) : slices_pdqsortOrdered_r7 F rec x0 x1 x2 x3 x8 x9 x10 K = slices_pdqsortOrdered_R F rec 7 [(10, x10), (9, x9), (8, x8), (3, x3), (2, x2), (1, x1), (0, x0)] [0, 1, 2, 3, 8, 9, 10, 35] K := by kernel_rfl

def slices_pdqsortOrdered_r6 (F : Nat) (rec : Value → Value → Value → Value → M Value) (x0 x1 x2 : Value) (K : M Value) : M Value :=
  bnd (slices_heapSortOrdered F x0 x1 x2) fun v33 => K

theorem slices_pdqsortOrdered_r6_ok (F : Nat) (rec : Value → Value → Value → Value → M Value) (x0 x1 x2 : Value) (K : M Value) : slices_pdqsortOrdered_r6 F rec x0 x1 x2 K = slices_pdqsortOrdered_R F rec 6 [(2, x2), (1, x1), (0, x0)] [] K := by kernel_rfl

def slices_pdqsortOrdered_r5 (F : Nat) (rec : Value → Value → Value → Value → M Value) (x0 x1 x2 x3 x8 x9 x10 : Value) (K : Value → Value → Value → Value → Value → Value → Value → Value → M Value) : M Value :=
  bnd (opBin .eql x3 (.int .i64 (0))) fun v29 => K x0 x1 x2 x3 x8 x9 x10 v29

theorem slices_pdqsortOrdered_r5_ok (F : Nat) (rec : Value → Value → Value → Value → M Value) (x0 x1 x2 x3 x8 x9 x10 : Value) (K : Value → Value → Value → Value → Value → Value → Value → Value → M Value) : slices_pdqsortOrdered_r5 F rec x0 x1 x2 x3 x8 x9 x10 K = slices_pdqsortOrdered_R F rec 5 [(10, x10), (9, x9), (8, x8), (3, x3), (2, x2), (1, x1), (0, x0)] [0, 1, 2, 3, 8, 9, 10, 29] K := by kernel_rfl

def slices_pdqsortOrdered_r4 (F : Nat) (rec : Value → Value → Value → Value → M Value) (x0 x1 x2 : Value) (K : M Value) : M Value :=
  bnd (slices_insertionSortOrdered F x0 x1 x2) fun v27 => K

theorem slices_pdqsortOrdered_r4_ok (F : Nat) (rec : Value → Value → Value → Value → M Value) (x0 x1 x2 : Value) (K : M Value) : slices_pdqsortOrdered_r4 F rec x0 x1 x2 K = slices_pdqsortOrdered_R F rec 4 [(2, x2), (1, x1), (0, x0)] [] K := by kernel_rfl

def slices_pdqsortOrdered_r3 (F : Nat) (rec : Value → Value → Value → Value → M Value) (x0 x1 x2 x3 x8 x9 x10 : Value) (K : Value → Value → Value → Value → Value → Value → Value → Value → M Value) : M Value :=
  bnd (opBin .leq x10 (.int .i64 (12))) fun v23 => K x0 x1 x2 x3 x8 x9 x10 v23

theorem slices_pdqsortOrdered_r3_ok (F : Nat) (rec : Value → Value → Value → Value → M Value) (x0 x1 x2 x3 x8 x9 x10 : Value) (K : Value → Value → Value → Value → Value → Value → Value → Value → M Value) : slices_pdqsortOrdered_r3 F rec x0 x1 x2 x3 x8 x9 x10 K = slices_pdqsortOrdered_R F rec 3 [(10, x10), (9, x9), (8, x8), (3, x3), (2, x2), (1, x1), (0, x0)] [0, 1, 2, 3, 8, 9, 10, 23] K := by kernel_rfl

def slices_pdqsortOrdered_r2 (F : Nat) (rec : Value → Value → Value → Value → M Value) (x0 x1 x2 x3 x8 x9 : Value) (K : Value → Value → Value → Value → Value → Value → Value → M Value) : M Value :=
  bnd (opBin .sub x2 x1) fun v21 => K x0 x1 x2 x3 x8 x9 v21

theorem slices_pdqsortOrdered_r2_ok (F : Nat) (rec : Value → Value → Value → Value → M Value) (x0 x1 x2 x3 x8 x9 : Value) (K : Value → Value → Value → Value → Value → Value → Value → M Value) : slices_pdqsortOrdered_r2 F rec x0 x1 x2 x3 x8 x9 K = slices_pdqsortOrdered_R F rec 2 [(9, x9), (8, x8), (3, x3), (2, x2), (1, x1), (0, x0)] [0, 1, 2, 3, 8, 9, 10] K := by kernel_rfl

def slices_pdqsortOrdered_b0 (F : Nat) (rec : Value → Value → Value → Value → M Value) (A0 : Value → Value → Value → Value → Value → Value → M Value) (x0 x1 x2 x3 x8 x9 : Value) : M Value :=
  slices_pdqsortOrdered_r2 F rec x0 x1 x2 x3 x8 x9 (fun x0 x1 x2 x3 x8 x9 x10 => slices_pdqsortOrdered_r3 F rec x0 x1 x2 x3 x8 x9 x10 (fun x0 x1 x2 x3 x8 x9 x10 x23 => onB x23 (slices_pdqsortOrdered_r4 F rec x0 x1 x2 (tupK [])) (slices_pdqsortOrdered_r5 F rec x0 x1 x2 x3 x8 x9 x10 (fun x0 x1 x2 x3 x8 x9 x10 x29 => onB x29 (slices_pdqsortOrdered_r6 F rec x0 x1 x2 (tupK [])) (slices_pdqsortOrdered_r7 F rec x0 x1 x2 x3 x8 x9 x10 (fun x0 x1 x2 x3 x8 x9 x10 x35 => onB x35 (slices_pdqsortOrdered_r8 F rec x0 x1 x2 x3 x8 x9 x10 (fun x0 x1 x2 x3 x8 x9 x10 => slices_pdqsortOrdered_r9 F rec x0 x1 x2 x3 x8 x9 x10 (fun x0 x1 x2 x3 x8 x9 x10 => slices_pdqsortOrdered_k3 F A0 rec x0 x1 x2 x3 x8 x9 x10))) (slices_pdqsortOrdered_k3 F A0 rec x0 x1 x2 x3 x8 x9 x10)))))))

def slices_pdqsortOrdered_l0 (F : Nat) (rec : Value → Value → Value → Value → M Value) : Nat → Value → Value → Value → Value → Value → Value → M Value
  | 0, _, _, _, _, _, _ => fail
  | k0 + 1, x0, x1, x2, x3, x8, x9 => slices_pdqsortOrdered_b0 F rec (slices_pdqsortOrdered_l0 F rec k0) x0 x1 x2 x3 x8 x9

theorem slices_pdqsortOrdered_l0_s (F : Nat) (rec : Value → Value → Value → Value → M Value) (k0 : Nat) (x0 x1 x2 x3 x8 x9 : Value) : slices_pdqsortOrdered_l0 F rec (k0 + 1) x0 x1 x2 x3 x8 x9 = slices_pdqsortOrdered_b0 F rec (slices_pdqsortOrdered_l0 F rec k0) x0 x1 x2 x3 x8 x9 := rfl

def slices_pdqsortOrdered_r1 (F : Nat) (rec : Value → Value → Value → Value → M Value) (x0 x1 x2 x3 x8 : Value) (K : Value → Value → Value → Value → Value → Value → M Value) : M Value :=
  K x0 x1 x2 x3 x8 (.bool true)

theorem slices_pdqsortOrdered_r1_ok (F : Nat) (rec : Value → Value → Value → Value → M Value) (x0 x1 x2 x3 x8 : Value) (K : Value → Value → Value → Value → Value → Value → M Value) : slices_pdqsortOrdered_r1 F rec x0 x1 x2 x3 x8 K = slices_pdqsortOrdered_R F rec 1 [(8, x8), (3, x3), (2, x2), (1, x1), (0, x0)] [0, 1, 2, 3, 8, 9] K := by kernel_rfl

def slices_pdqsortOrdered_r0 (F : Nat) (rec : Value → Value → Value → Value → M Value) (x0 x1 x2 x3 : Value) (K : Value → Value → Value → Value → Value → M Value) : M Value :=
  K x0 x1 x2 x3 (.bool true)

theorem slices_pdqsortOrdered_r0_ok (F : Nat) (rec : Value → Value → Value → Value → M Value) (x0 x1 x2 x3 : Value) (K : Value → Value → Value → Value → Value → M Value) : slices_pdqsortOrdered_r0 F rec x0 x1 x2 x3 K = slices_pdqsortOrdered_R F rec 0 [(3, x3), (2, x2), (1, x1), (0, x0)] [0, 1, 2, 3, 8] K := by kernel_rfl

def slices_pdqsortOrdered_s (F : Nat) (rec : Value → Value → Value → Value → M Value) (x0 x1 x2 x3 : Value) : M Value :=
  slices_pdqsortOrdered_r0 F rec x0 x1 x2 x3 (fun x0 x1 x2 x3 x8 => slices_pdqsortOrdered_r1 F rec x0 x1 x2 x3 x8 (fun x0 x1 x2 x3 x8 x9 => slices_pdqsortOrdered_l0 F rec F x0 x1 x2 x3 x8 x9))

def slices_pdqsortOrdered (F : Nat) : Nat → Value → Value → Value → Value → M Value
  | 0, _, _, _, _ => fail
  | k + 1, x0, x1, x2, x3 => slices_pdqsortOrdered_s F (slices_pdqsortOrdered F k) x0 x1 x2 x3

def slices_pdqsortOrdered_m (F k : Nat) : List Value → M Value := slices_pdqsortOrdered_a (slices_pdqsortOrdered F k)

theorem slices_pdqsortOrdered_body : Try.f53.body = some (.seq (.region 0 (opsOf Try.f53 0) false) (.seq (.region 1 (opsOf Try.f53 1) false) (.block 0 (.loop (.block 1 (.seq (.region 2 (opsOf Try.f53 2) false) (.seq (.seq (.region 3 (opsOf Try.f53 3) false) (.cond (.tmp 23) (.seq (.region 4 (opsOf Try.f53 4) false) .ret) .skip)) (.seq (.seq (.region 5 (opsOf Try.f53 5) false) (.cond (.tmp 29) (.seq (.region 6 (opsOf Try.f53 6) false) .ret) .skip)) (.seq (.seq (.region 7 (opsOf Try.f53 7) false) (.cond (.tmp 35) (.seq (.region 8 (opsOf Try.f53 8) false) (.region 9 (opsOf Try.f53 9) false)) .skip)) (.seq (.region 10 (opsOf Try.f53 10) false) (.seq (.seq (.region 11 (opsOf Try.f53 11) false) (.cond (.tmp 50) (.seq (.region 12 (opsOf Try.f53 12) false) (.seq (.region 13 (opsOf Try.f53 13) false) (.region 14 (opsOf Try.f53 14) false))) .skip)) (.seq (.seq (.region 15 (opsOf Try.f53 15) false) (.cond (.tmp 68) (.seq (.region 16 (opsOf Try.f53 16) false) (.cond (.tmp 72) .ret .skip)) .skip)) (.seq (.seq (.region 17 (opsOf Try.f53 17) true) (.cond (.tmp 87) (.seq (.region 18 (opsOf Try.f53 18) false) (.seq (.region 19 (opsOf Try.f53 19) false) (.exit 1))) .skip)) (.seq (.region 20 (opsOf Try.f53 20) false) (.seq (.region 21 (opsOf Try.f53 21) false) (.seq (.region 22 (opsOf Try.f53 22) false) (.seq (.region 23 (opsOf Try.f53 23) false) (.seq (.region 24 (opsOf Try.f53 24) false) (.cond (.tmp 113) (.seq (.region 25 (opsOf Try.f53 25) false) (.seq (.region 26 (opsOf Try.f53 26) false) (.region 27 (opsOf Try.f53 27) false))) (.seq (.region 28 (opsOf Try.f53 28) false) (.seq (.region 29 (opsOf Try.f53 29) false) (.region 30 (opsOf Try.f53 30) false)))))))))))))))))))))) := by kernel_rfl

theorem slices_pdqsortOrdered_ok (F : Nat) : ∀ k, Sim Try.prog TryG 53 (slices_pdqsortOrdered_m F k)
  | 0 => Sim.of_fail Try.call53 (by intro args; unfold slices_pdqsortOrdered_m slices_pdqsortOrdered_a; split <;> rfl)
  | k + 1 => by
    have ih := slices_pdqsortOrdered_ok F k
    have hE : EnvOK Try.prog TryG (slices_pdqsortOrdered_env F (slices_pdqsortOrdered F k) ) := (EnvOK.cons ih (EnvOK.cons (slices_insertionSortOrdered_ok F) (EnvOK.cons (slices_heapSortOrdered_ok F) (EnvOK.cons (slices_breakPatternsOrdered_ok F) (EnvOK.cons (slices_choosePivotOrdered_ok F) (EnvOK.cons (slices_reverseRangeOrdered_ok F) (EnvOK.cons (slices_partialInsertionSortOrdered_ok F) (EnvOK.cons (cmp_Less_ok F) (EnvOK.cons (slices_partitionEqualOrdered_ok F) (EnvOK.cons (slices_partitionOrdered_ok F) EnvOK.nil))))))))))
    refine Sim.of_body (E := slices_pdqsortOrdered_env F (slices_pdqsortOrdered F k) ) Try.func53 slices_pdqsortOrdered_body Try.call53 ?_ ?_
    · intro args hl; unfold slices_pdqsortOrdered_m slices_pdqsortOrdered_a; split
      · exact absurd hl (Nat.not_lt.2 (Nat.le_of_ble_eq_true rfl))
      · rfl
    · intro args ρ h w z; unfold slices_pdqsortOrdered_m slices_pdqsortOrdered_a; split
      · rename_i x0 x1 x2 x3; show OKc _ _ [(0, x0), (1, x1), (2, x2), (3, x3)] (slices_pdqsortOrdered_s F (slices_pdqsortOrdered F k) x0 x1 x2 x3) _
        refine rSeq ?_
        refine cLess [3, 2, 1, 0] ?_
        refine xR hE [0, 1, 2, 3, 8] rfl (slices_pdqsortOrdered_r0_ok F _ _ _ _ _ _) ?_
        intro x0 x1 x2 x3 x8
        show OKq _ _ _ [(8, x8), (3, x3), (2, x2), (1, x1), (0, x0)] _
        refine rThen ?_
        refine rSeq ?_
        refine cLess [8, 3, 2, 1, 0] ?_
        refine xR hE [0, 1, 2, 3, 8, 9] rfl (slices_pdqsortOrdered_r1_ok F _ _ _ _ _ _ _) ?_
        intro x0 x1 x2 x3 x8 x9
        show OKq _ _ _ [(9, x9), (8, x8), (3, x3), (2, x2), (1, x1), (0, x0)] _
        refine rThen ?_
        refine rBlock ?_
        refine cLess [9, 8, 3, 2, 1, 0] ?_
        refine xLoopAt [0, 1, 2, 3, 8, 9] [] (fun k0 => slices_pdqsortOrdered_l0 F (slices_pdqsortOrdered F k) k0) F [x0, x1, x2, x3, x8, x9] rfl rfl (fun _ _ _ _ _ _ => rfl) fun I hI0 k0 => ?_
        intro x0 x1 x2 x3 x8 x9
        show OKc _ _ [(9, x9), (8, x8), (3, x3), (2, x2), (1, x1), (0, x0)] _ _
        refine cAs (slices_pdqsortOrdered_l0_s F _ _ _ _ _ _ _ _) ?_
        refine rBlock ?_
        refine rSeq ?_
        refine cLess [9, 8, 3, 2, 1, 0] ?_
        refine xR hE [0, 1, 2, 3, 8, 9, 10] rfl (slices_pdqsortOrdered_r2_ok F _ _ _ _ _ _ _ _) ?_
        intro x0 x1 x2 x3 x8 x9 x10
        show OKq _ _ _ [(10, x10), (9, x9), (8, x8), (3, x3), (2, x2), (1, x1), (0, x0)] _
        refine rThen ?_
        refine rSeq ?_
        refine rSeq ?_
        refine cLess [10, 9, 8, 3, 2, 1, 0] ?_
        refine xR hE [0, 1, 2, 3, 8, 9, 10, 23] rfl (slices_pdqsortOrdered_r3_ok F _ _ _ _ _ _ _ _ _) ?_
        intro x0 x1 x2 x3 x8 x9 x10 x23
        show OKq _ _ _ [(23, x23), (10, x10), (9, x9), (8, x8), (3, x3), (2, x2), (1, x1), (0, x0)] _
        refine rThen ?_
        refine xCond rfl rfl ?_ ?_
        · refine rSeq ?_
          refine cLess [2, 1, 0] ?_
          refine xR hE [] rfl (slices_pdqsortOrdered_r4_ok F _ _ _ _ _) ?_
          show OKq _ _ _ [] _
          refine rThen ?_
          refine rRet ?_
          refine xThenR ?_
          refine xBlockR ?_
          refine xThenR ?_
          refine xBlockR ?_
          exact rDone (.inr rfl) rfl
        · refine rSkip ?_
          refine rThen ?_
          refine rSeq ?_
          refine rSeq ?_
          refine cLess [10, 9, 8, 3, 2, 1, 0] ?_
          refine xR hE [0, 1, 2, 3, 8, 9, 10, 29] rfl (slices_pdqsortOrdered_r5_ok F _ _ _ _ _ _ _ _ _) ?_
          intro x0 x1 x2 x3 x8 x9 x10 x29
          show OKq _ _ _ [(29, x29), (10, x10), (9, x9), (8, x8), (3, x3), (2, x2), (1, x1), (0, x0)] _
          refine rThen ?_
          refine xCond rfl rfl ?_ ?_
          · refine rSeq ?_
            refine cLess [2, 1, 0] ?_
            refine xR hE [] rfl (slices_pdqsortOrdered_r6_ok F _ _ _ _ _) ?_
            show OKq _ _ _ [] _
            refine rThen ?_
            refine rRet ?_
            refine xThenR ?_
            refine xBlockR ?_
            refine xThenR ?_
            refine xBlockR ?_
            exact rDone (.inr rfl) rfl
          · refine rSkip ?_
            refine rThen ?_
            refine xSeq [0, 1, 2, 3, 8, 9, 10] (slices_pdqsortOrdered_k3 F (slices_pdqsortOrdered_l0 F (slices_pdqsortOrdered F k) k0) (slices_pdqsortOrdered F k) ) ?_ fun hj3 => ?_
            · intro x0 x1 x2 x3 x8 x9 x10
              show OKc _ _ [(10, x10), (9, x9), (8, x8), (3, x3), (2, x2), (1, x1), (0, x0)] _ _
              refine rSeq ?_
              refine cLess [10, 9, 8, 3, 2, 1, 0] ?_
              refine xR hE [0, 1, 2, 3, 8, 9, 10, 11, 12] rfl (slices_pdqsortOrdered_r10_ok F _ _ _ _ _ _ _ _ _) ?_
              intro x0 x1 x2 x3 x8 x9 x10 x11 x12
              show OKq _ _ _ [(12, x12), (11, x11), (10, x10), (9, x9), (8, x8), (3, x3), (2, x2), (1, x1), (0, x0)] _
              refine rThen ?_
              refine xSeq [0, 1, 2, 3, 8, 9, 10, 11, 12] (slices_pdqsortOrdered_k2 F (slices_pdqsortOrdered_l0 F (slices_pdqsortOrdered F k) k0) (slices_pdqsortOrdered F k) ) ?_ fun hj2 => ?_
              · intro x0 x1 x2 x3 x8 x9 x10 x11 x12
                show OKc _ _ [(12, x12), (11, x11), (10, x10), (9, x9), (8, x8), (3, x3), (2, x2), (1, x1), (0, x0)] _ _
                refine xSeq [0, 1, 2, 3, 8, 9, 10, 11] (slices_pdqsortOrdered_k1 F (slices_pdqsortOrdered_l0 F (slices_pdqsortOrdered F k) k0) (slices_pdqsortOrdered F k) ) ?_ fun hj1 => ?_
                · intro x0 x1 x2 x3 x8 x9 x10 x11
                  show OKc _ _ [(11, x11), (10, x10), (9, x9), (8, x8), (3, x3), (2, x2), (1, x1), (0, x0)] _ _
                  refine rSeq ?_
                  refine rSeq ?_
                  refine cLess [11, 10, 9, 8, 3, 2, 1, 0] ?_
                  refine xD Trymix hE [0, 1, 2, 3, 8, 9, 10, 11, 87] rfl slices_pdqsortOrdered_r17_good (slices_pdqsortOrdered_r17_ok F _ _ _ _ _ _ _ _ _ _) ?_
                  intro x0 x1 x2 x3 x8 x9 x10 x11 x87
                  show OKq _ _ _ [(87, x87), (11, x11), (10, x10), (9, x9), (8, x8), (3, x3), (2, x2), (1, x1), (0, x0)] _
                  refine rThen ?_
                  refine xCond rfl rfl ?_ ?_
                  · refine rSeq ?_
                    refine cLess [11, 9, 8, 3, 2, 1, 0] ?_
                    refine xR hE [0, 2, 3, 8, 9, 13] rfl (slices_pdqsortOrdered_r18_ok F _ _ _ _ _ _ _ _ _) ?_
                    intro x0 x2 x3 x8 x9 x13
                    show OKq _ _ _ [(13, x13), (9, x9), (8, x8), (3, x3), (2, x2), (0, x0)] _
                    refine rThen ?_
                    refine rSeq ?_
                    refine cLess [13, 9, 8, 3, 2, 0] ?_
                    refine xR hE [0, 1, 2, 3, 8, 9] rfl (slices_pdqsortOrdered_r19_ok F _ _ _ _ _ _ _ _) ?_
                    intro x0 x1 x2 x3 x8 x9
                    show OKq _ _ _ [(9, x9), (8, x8), (3, x3), (2, x2), (1, x1), (0, x0)] _
                    refine rThen ?_
                    refine rExit ?_
                    refine xThenX ?_
                    refine rOut ?_
                    exact qLess [9, 8, 3, 2, 1, 0] (hI0 k0 x0 x1 x2 x3 x8 x9)
                  · refine rSkip ?_
                    refine rThen ?_
                    refine rSeq ?_
                    refine cLess [11, 10, 3, 2, 1, 0] ?_
                    refine xR hE [0, 1, 2, 3, 10, 14, 15] rfl (slices_pdqsortOrdered_r20_ok F _ _ _ _ _ _ _ _) ?_
                    intro x0 x1 x2 x3 x10 x14 x15
                    show OKq _ _ _ [(15, x15), (14, x14), (10, x10), (3, x3), (2, x2), (1, x1), (0, x0)] _
                    refine rThen ?_
                    refine rSeq ?_
                    refine cLess [15, 14, 10, 3, 2, 1, 0] ?_
                    refine xR hE [0, 1, 2, 3, 9, 10, 14] rfl (slices_pdqsortOrdered_r21_ok F _ _ _ _ _ _ _ _ _) ?_
                    intro x0 x1 x2 x3 x9 x10 x14
                    show OKq _ _ _ [(14, x14), (10, x10), (9, x9), (3, x3), (2, x2), (1, x1), (0, x0)] _
                    refine rThen ?_
                    refine rSeq ?_
                    refine cLess [14, 10, 9, 3, 2, 1, 0] ?_
                    refine xR hE [0, 1, 2, 3, 9, 10, 14, 16, 17] rfl (slices_pdqsortOrdered_r22_ok F _ _ _ _ _ _ _ _ _) ?_
                    intro x0 x1 x2 x3 x9 x10 x14 x16 x17
                    show OKq _ _ _ [(17, x17), (16, x16), (14, x14), (10, x10), (9, x9), (3, x3), (2, x2), (1, x1), (0, x0)] _
                    refine rThen ?_
                    refine rSeq ?_
                    refine cLess [17, 16, 14, 10, 9, 3, 2, 1, 0] ?_
                    refine xR hE [0, 1, 2, 3, 9, 14, 16, 17, 18] rfl (slices_pdqsortOrdered_r23_ok F _ _ _ _ _ _ _ _ _ _ _) ?_
                    intro x0 x1 x2 x3 x9 x14 x16 x17 x18
                    show OKq _ _ _ [(18, x18), (17, x17), (16, x16), (14, x14), (9, x9), (3, x3), (2, x2), (1, x1), (0, x0)] _
                    refine rThen ?_
                    refine rSeq ?_
                    refine cLess [18, 17, 16, 14, 9, 3, 2, 1, 0] ?_
                    refine xR hE [0, 1, 2, 3, 9, 14, 16, 17, 18, 113] rfl (slices_pdqsortOrdered_r24_ok F _ _ _ _ _ _ _ _ _ _ _) ?_
                    intro x0 x1 x2 x3 x9 x14 x16 x17 x18 x113
                    show OKq _ _ _ [(113, x113), (18, x18), (17, x17), (16, x16), (14, x14), (9, x9), (3, x3), (2, x2), (1, x1), (0, x0)] _
                    refine rThen ?_
                    refine xCond rfl rfl ?_ ?_
                    · refine rSeq ?_
                      refine cLess [18, 16, 14, 9, 3, 2, 1, 0] ?_
                      refine xR hE [0, 1, 2, 3, 8, 9, 14] rfl (slices_pdqsortOrdered_r25_ok F _ _ _ _ _ _ _ _ _ _) ?_
                      intro x0 x1 x2 x3 x8 x9 x14
                      show OKq _ _ _ [(14, x14), (9, x9), (8, x8), (3, x3), (2, x2), (1, x1), (0, x0)] _
                      refine rThen ?_
                      refine rSeq ?_
                      refine cLess [14, 9, 8, 3, 2, 1, 0] ?_
                      refine xR hE [0, 2, 3, 8, 9, 14] rfl (slices_pdqsortOrdered_r26_ok F _ _ _ _ _ _ _ _ _) ?_
                      intro x0 x2 x3 x8 x9 x14
                      show OKq _ _ _ [(14, x14), (9, x9), (8, x8), (3, x3), (2, x2), (0, x0)] _
                      refine rThen ?_
                      refine cLess [14, 9, 8, 3, 2, 0] ?_
                      refine xR hE [0, 1, 2, 3, 8, 9] rfl (slices_pdqsortOrdered_r27_ok F _ _ _ _ _ _ _ _) ?_
                      intro x0 x1 x2 x3 x8 x9
                      show OKq _ _ _ [(9, x9), (8, x8), (3, x3), (2, x2), (1, x1), (0, x0)] _
                      refine xBlockN ?_
                      exact qLess [9, 8, 3, 2, 1, 0] (hI0 k0 x0 x1 x2 x3 x8 x9)
                    · refine rSeq ?_
                      refine cLess [18, 17, 14, 9, 3, 2, 1, 0] ?_
                      refine xR hE [0, 1, 2, 3, 8, 9, 14] rfl (slices_pdqsortOrdered_r28_ok F _ _ _ _ _ _ _ _ _ _) ?_
                      intro x0 x1 x2 x3 x8 x9 x14
                      show OKq _ _ _ [(14, x14), (9, x9), (8, x8), (3, x3), (2, x2), (1, x1), (0, x0)] _
                      refine rThen ?_
                      refine rSeq ?_
                      refine cLess [14, 9, 8, 3, 2, 1, 0] ?_
                      refine xR hE [0, 1, 3, 8, 9, 14] rfl (slices_pdqsortOrdered_r29_ok F _ _ _ _ _ _ _ _ _) ?_
                      intro x0 x1 x3 x8 x9 x14
                      show OKq _ _ _ [(14, x14), (9, x9), (8, x8), (3, x3), (1, x1), (0, x0)] _
                      refine rThen ?_
                      refine cLess [14, 9, 8, 3, 1, 0] ?_
                      refine xR hE [0, 1, 2, 3, 8, 9] rfl (slices_pdqsortOrdered_r30_ok F _ _ _ _ _ _ _ _) ?_
                      intro x0 x1 x2 x3 x8 x9
                      show OKq _ _ _ [(9, x9), (8, x8), (3, x3), (2, x2), (1, x1), (0, x0)] _
                      refine xBlockN ?_
                      exact qLess [9, 8, 3, 2, 1, 0] (hI0 k0 x0 x1 x2 x3 x8 x9)
                · refine rSeq ?_
                  refine cLess [12, 11, 10, 9, 8, 3, 2, 1, 0] ?_
                  refine xR hE [0, 1, 2, 3, 8, 9, 10, 11, 68] rfl (slices_pdqsortOrdered_r15_ok F _ _ _ _ _ _ _ _ _ _ _) ?_
                  intro x0 x1 x2 x3 x8 x9 x10 x11 x68
                  show OKq _ _ _ [(68, x68), (11, x11), (10, x10), (9, x9), (8, x8), (3, x3), (2, x2), (1, x1), (0, x0)] _
                  refine rThen ?_
                  refine xCond rfl rfl ?_ ?_
                  · refine rSeq ?_
                    refine cLess [11, 10, 9, 8, 3, 2, 1, 0] ?_
                    refine xR hE [0, 1, 2, 3, 8, 9, 10, 11, 72] rfl (slices_pdqsortOrdered_r16_ok F _ _ _ _ _ _ _ _ _ _) ?_
                    intro x0 x1 x2 x3 x8 x9 x10 x11 x72
                    show OKq _ _ _ [(72, x72), (11, x11), (10, x10), (9, x9), (8, x8), (3, x3), (2, x2), (1, x1), (0, x0)] _
                    refine rThen ?_
                    refine xCond rfl rfl ?_ ?_
                    · refine rRet ?_
                      refine xThenR ?_
                      refine xBlockR ?_
                      refine xThenR ?_
                      refine xBlockR ?_
                      exact rDone (.inr rfl) rfl
                    · refine rSkip ?_
                      exact qLess [11, 10, 9, 8, 3, 2, 1, 0] (hj1 x0 x1 x2 x3 x8 x9 x10 x11)
                  · refine rSkip ?_
                    exact qLess [11, 10, 9, 8, 3, 2, 1, 0] (hj1 x0 x1 x2 x3 x8 x9 x10 x11)
              · refine rSeq ?_
                refine cLess [12, 11, 10, 9, 8, 3, 2, 1, 0] ?_
                refine xR hE [0, 1, 2, 3, 8, 9, 10, 11, 12, 50] rfl (slices_pdqsortOrdered_r11_ok F _ _ _ _ _ _ _ _ _ _ _) ?_
                intro x0 x1 x2 x3 x8 x9 x10 x11 x12 x50
                show OKq _ _ _ [(50, x50), (12, x12), (11, x11), (10, x10), (9, x9), (8, x8), (3, x3), (2, x2), (1, x1), (0, x0)] _
                refine rThen ?_
                refine xCond rfl rfl ?_ ?_
                · refine rSeq ?_
                  refine cLess [11, 10, 9, 8, 3, 2, 1, 0] ?_
                  refine xR hE [0, 1, 2, 3, 8, 9, 10, 11] rfl (slices_pdqsortOrdered_r12_ok F _ _ _ _ _ _ _ _ _ _) ?_
                  intro x0 x1 x2 x3 x8 x9 x10 x11
                  show OKq _ _ _ [(11, x11), (10, x10), (9, x9), (8, x8), (3, x3), (2, x2), (1, x1), (0, x0)] _
                  refine rThen ?_
                  refine rSeq ?_
                  refine cLess [11, 10, 9, 8, 3, 2, 1, 0] ?_
                  refine xR hE [0, 1, 2, 3, 8, 9, 10, 11] rfl (slices_pdqsortOrdered_r13_ok F _ _ _ _ _ _ _ _ _ _) ?_
                  intro x0 x1 x2 x3 x8 x9 x10 x11
                  show OKq _ _ _ [(11, x11), (10, x10), (9, x9), (8, x8), (3, x3), (2, x2), (1, x1), (0, x0)] _
                  refine rThen ?_
                  refine cLess [11, 10, 9, 8, 3, 2, 1, 0] ?_
                  refine xR hE [0, 1, 2, 3, 8, 9, 10, 11, 12] rfl (slices_pdqsortOrdered_r14_ok F _ _ _ _ _ _ _ _ _ _) ?_
                  intro x0 x1 x2 x3 x8 x9 x10 x11 x12
                  show OKq _ _ _ [(12, x12), (11, x11), (10, x10), (9, x9), (8, x8), (3, x3), (2, x2), (1, x1), (0, x0)] _
                  exact qLess [12, 11, 10, 9, 8, 3, 2, 1, 0] (hj2 x0 x1 x2 x3 x8 x9 x10 x11 x12)
                · refine rSkip ?_
                  exact qLess [12, 11, 10, 9, 8, 3, 2, 1, 0] (hj2 x0 x1 x2 x3 x8 x9 x10 x11 x12)
            · refine rSeq ?_
              refine cLess [10, 9, 8, 3, 2, 1, 0] ?_
              refine xR hE [0, 1, 2, 3, 8, 9, 10, 35] rfl (slices_pdqsortOrdered_r7_ok F _ _ _ _ _ _ _ _ _) ?_
              intro x0 x1 x2 x3 x8 x9 x10 x35
              show OKq _ _ _ [(35, x35), (10, x10), (9, x9), (8, x8), (3, x3), (2, x2), (1, x1), (0, x0)] _
              refine rThen ?_
              refine xCond rfl rfl ?_ ?_
              · refine rSeq ?_
                refine cLess [10, 9, 8, 3, 2, 1, 0] ?_
                refine xR hE [0, 1, 2, 3, 8, 9, 10] rfl (slices_pdqsortOrdered_r8_ok F _ _ _ _ _ _ _ _ _) ?_
                intro x0 x1 x2 x3 x8 x9 x10
                show OKq _ _ _ [(10, x10), (9, x9), (8, x8), (3, x3), (2, x2), (1, x1), (0, x0)] _
                refine rThen ?_
                refine cLess [10, 9, 8, 3, 2, 1, 0] ?_
                refine xR hE [0, 1, 2, 3, 8, 9, 10] rfl (slices_pdqsortOrdered_r9_ok F _ _ _ _ _ _ _ _ _) ?_
                intro x0 x1 x2 x3 x8 x9 x10
                show OKq _ _ _ [(10, x10), (9, x9), (8, x8), (3, x3), (2, x2), (1, x1), (0, x0)] _
                exact qLess [10, 9, 8, 3, 2, 1, 0] (hj3 x0 x1 x2 x3 x8 x9 x10)
              · refine rSkip ?_
                exact qLess [10, 9, 8, 3, 2, 1, 0] (hj3 x0 x1 x2 x3 x8 x9 x10)
      · exact rFail


/-! ### haruspex/haruspexref8.Check -/

def R8_Check_env (F : Nat) : Env := envOf [(20, R8_Bounds_m F), (38, R8_Nowhere_m F), (39, R8_Names_m F), (40, R8_Methods_m F), (41, R8_Types_m F), (42, R8_Shape_m F), (43, R8_Assign_m F)]

noncomputable def R8_Check_R (F : Nat) := rK Try.prog TryG (R8_Check_env F) Try.f22
noncomputable def R8_Check_D (F : Nat) := dK Try.prog TryG (R8_Check_env F) Try.f22

def R8_Check_r17 (F : Nat) (x3 : Value) (K : Value → Value → M Value) : M Value :=
  bnd (R8_Nowhere F) fun v46 => bnd (opStoreN 3 x3 v46) fun _ => K (.int .i64 (0)) x3

theorem R8_Check_r17_ok (F : Nat) (x3 : Value) (K : Value → Value → M Value) : R8_Check_r17 F x3 K = R8_Check_R F 17 [(3, x3)] [2, 3] K := by kernel_rfl

def R8_Check_r16 (F : Nat) (x3 x4 : Value) (K : Value → Value → M Value) : M Value :=
  bnd (opLoadN 3 x4) fun v45 => bnd (opStoreN 3 x3 v45) fun _ => K (.int .i64 (5)) x3

theorem R8_Check_r16_ok (F : Nat) (x3 x4 : Value) (K : Value → Value → M Value) : R8_Check_r16 F x3 x4 K = R8_Check_D F 16 [0, 1, 2] [(4, x4), (3, x3)] [2, 3] K := by kernel_rfl

theorem R8_Check_r16_good : goodOrder (opsOf Try.f22 16) [0, 1, 2] = true := by kernel_rfl

def R8_Check_r15 (F : Nat) (x3 x4 x5 : Value) (K : Value → Value → Value → M Value) : M Value :=
  bnd (opNot x5) fun v44 => K x3 x4 v44

theorem R8_Check_r15_ok (F : Nat) (x3 x4 x5 : Value) (K : Value → Value → Value → M Value) : R8_Check_r15 F x3 x4 x5 K = R8_Check_R F 15 [(5, x5), (4, x4), (3, x3)] [3, 4, 44] K := by kernel_rfl

def R8_Check_r14 (F : Nat) (x0 x3 x4 : Value) (K : Value → Value → Value → M Value) : M Value :=
  bnd (R8_Assign F x0) fun v40 => bnd (opExtract v40 0) fun v41 => bnd (opExtract v40 1) fun v42 => bnd (opStoreN 3 x4 v41) fun _ => K x3 x4 v42

theorem R8_Check_r14_ok (F : Nat) (x0 x3 x4 : Value) (K : Value → Value → Value → M Value) : R8_Check_r14 F x0 x3 x4 K = R8_Check_R F 14 [(4, x4), (3, x3), (0, x0)] [3, 4, 5] K := by kernel_rfl

def R8_Check_r13 (F : Nat) (x3 x4 : Value) (K : Value → Value → M Value) : M Value :=
  bnd (opLoadN 3 x4) fun v37 => bnd (opStoreN 3 x3 v37) fun _ => K (.int .i64 (6)) x3

theorem R8_Check_r13_ok (F : Nat) (x3 x4 : Value) (K : Value → Value → M Value) : R8_Check_r13 F x3 x4 K = R8_Check_D F 13 [0, 1, 2] [(4, x4), (3, x3)] [2, 3] K := by kernel_rfl

theorem R8_Check_r13_good : goodOrder (opsOf Try.f22 13) [0, 1, 2] = true := by kernel_rfl

def R8_Check_r12 (F : Nat) (x0 x3 x4 x5 : Value) (K : Value → Value → Value → Value → M Value) : M Value :=
  bnd (opNot x5) fun v36 => K x0 x3 x4 v36

theorem R8_Check_r12_ok (F : Nat) (x0 x3 x4 x5 : Value) (K : Value → Value → Value → Value → M Value) : R8_Check_r12 F x0 x3 x4 x5 K = R8_Check_R F 12 [(5, x5), (4, x4), (3, x3), (0, x0)] [0, 3, 4, 36] K := by kernel_rfl

def R8_Check_r11 (F : Nat) (x0 x3 x4 : Value) (K : Value → Value → Value → Value → M Value) : M Value :=
  bnd (R8_Shape F x0) fun v32 => bnd (opExtract v32 0) fun v33 => bnd (opExtract v32 1) fun v34 => bnd (opStoreN 3 x4 v33) fun _ => K x0 x3 x4 v34

theorem R8_Check_r11_ok (F : Nat) (x0 x3 x4 : Value) (K : Value → Value → Value → Value → M Value) : R8_Check_r11 F x0 x3 x4 K = R8_Check_R F 11 [(4, x4), (3, x3), (0, x0)] [0, 3, 4, 5] K := by kernel_rfl

def R8_Check_r10 (F : Nat) (x3 x4 : Value) (K : Value → Value → M Value) : M Value :=
  bnd (opLoadN 3 x4) fun v29 => bnd (opStoreN 3 x3 v29) fun _ => K (.int .i64 (4)) x3

theorem R8_Check_r10_ok (F : Nat) (x3 x4 : Value) (K : Value → Value → M Value) : R8_Check_r10 F x3 x4 K = R8_Check_D F 10 [0, 1, 2] [(4, x4), (3, x3)] [2, 3] K := by kernel_rfl

theorem R8_Check_r10_good : goodOrder (opsOf Try.f22 10) [0, 1, 2] = true := by kernel_rfl

def R8_Check_r9 (F : Nat) (x0 x3 x4 x5 : Value) (K : Value → Value → Value → Value → M Value) : M Value :=
  bnd (opNot x5) fun v28 => K x0 x3 x4 v28

theorem R8_Check_r9_ok (F : Nat) (x0 x3 x4 x5 : Value) (K : Value → Value → Value → Value → M Value) : R8_Check_r9 F x0 x3 x4 x5 K = R8_Check_R F 9 [(5, x5), (4, x4), (3, x3), (0, x0)] [0, 3, 4, 28] K := by kernel_rfl

def R8_Check_r8 (F : Nat) (x0 x3 x4 : Value) (K : Value → Value → Value → Value → M Value) : M Value :=
  bnd (R8_Types F x0) fun v24 => bnd (opExtract v24 0) fun v25 => bnd (opExtract v24 1) fun v26 => bnd (opStoreN 3 x4 v25) fun _ => K x0 x3 x4 v26

theorem R8_Check_r8_ok (F : Nat) (x0 x3 x4 : Value) (K : Value → Value → Value → Value → M Value) : R8_Check_r8 F x0 x3 x4 K = R8_Check_R F 8 [(4, x4), (3, x3), (0, x0)] [0, 3, 4, 5] K := by kernel_rfl

def R8_Check_r7 (F : Nat) (x3 : Value) (K : Value → Value → M Value) : M Value :=
  bnd (R8_Nowhere F) fun v21 => bnd (opStoreN 3 x3 v21) fun _ => K (.int .i64 (7)) x3

theorem R8_Check_r7_ok (F : Nat) (x3 : Value) (K : Value → Value → M Value) : R8_Check_r7 F x3 K = R8_Check_R F 7 [(3, x3)] [2, 3] K := by kernel_rfl

def R8_Check_r6 (F : Nat) (x0 x3 x4 : Value) (K : Value → Value → Value → Value → M Value) : M Value :=
  bnd (R8_Methods F x0) fun v19 => bnd (opNot v19) fun v20 => K x0 x3 x4 v20

theorem R8_Check_r6_ok (F : Nat) (x0 x3 x4 : Value) (K : Value → Value → Value → Value → M Value) : R8_Check_r6 F x0 x3 x4 K = R8_Check_R F 6 [(4, x4), (3, x3), (0, x0)] [0, 3, 4, 20] K := by kernel_rfl

def R8_Check_r5 (F : Nat) (x3 x4 : Value) (K : Value → Value → M Value) : M Value :=
  bnd (opLoadN 3 x4) fun v17 => bnd (opStoreN 3 x3 v17) fun _ => K (.int .i64 (3)) x3

theorem R8_Check_r5_ok (F : Nat) (x3 x4 : Value) (K : Value → Value → M Value) : R8_Check_r5 F x3 x4 K = R8_Check_D F 5 [0, 1, 2] [(4, x4), (3, x3)] [2, 3] K := by kernel_rfl

theorem R8_Check_r5_good : goodOrder (opsOf Try.f22 5) [0, 1, 2] = true := by kernel_rfl

def R8_Check_r4 (F : Nat) (x0 x3 x4 x5 : Value) (K : Value → Value → Value → Value → M Value) : M Value :=
  bnd (opNot x5) fun v16 => K x0 x3 x4 v16

theorem R8_Check_r4_ok (F : Nat) (x0 x3 x4 x5 : Value) (K : Value → Value → Value → Value → M Value) : R8_Check_r4 F x0 x3 x4 x5 K = R8_Check_R F 4 [(5, x5), (4, x4), (3, x3), (0, x0)] [0, 3, 4, 16] K := by kernel_rfl

def R8_Check_r3 (F : Nat) (x0 x3 : Value) (K : Value → Value → Value → Value → M Value) : M Value :=
  bnd (R8_Names F x0) fun v12 => bnd (opExtract v12 0) fun v13 => bnd (opExtract v12 1) fun v14 => bnd (opPtr [(.int .i64 (0)), (.int .i64 (0)), (.int .i64 (0))]) fun v4 => bnd (opStoreN 3 v4 v13) fun _ => K x0 x3 v4 v14

theorem R8_Check_r3_ok (F : Nat) (x0 x3 : Value) (K : Value → Value → Value → Value → M Value) : R8_Check_r3 F x0 x3 K = R8_Check_R F 3 [(3, x3), (0, x0)] [0, 3, 4, 5] K := by kernel_rfl

def R8_Check_r2 (F : Nat) (x3 : Value) (K : Value → Value → M Value) : M Value :=
  bnd (R8_Nowhere F) fun v9 => bnd (opStoreN 3 x3 v9) fun _ => K (.int .i64 (2)) x3

theorem R8_Check_r2_ok (F : Nat) (x3 : Value) (K : Value → Value → M Value) : R8_Check_r2 F x3 K = R8_Check_R F 2 [(3, x3)] [2, 3] K := by kernel_rfl

def R8_Check_r1 (F : Nat) (x0 x3 : Value) (K : Value → Value → Value → M Value) : M Value :=
  bnd (R8_Bounds F x0) fun v7 => bnd (opNot v7) fun v8 => K x0 x3 v8

theorem R8_Check_r1_ok (F : Nat) (x0 x3 : Value) (K : Value → Value → Value → M Value) : R8_Check_r1 F x0 x3 K = R8_Check_R F 1 [(3, x3), (0, x0)] [0, 3, 8] K := by kernel_rfl

def R8_Check_r0 (F : Nat) (x0 : Value) (K : Value → Value → M Value) : M Value :=
  bnd (opPtr [(.int .i64 (0)), (.int .i64 (0)), (.int .i64 (0))]) fun v3 => K x0 v3

theorem R8_Check_r0_ok (F : Nat) (x0 : Value) (K : Value → Value → M Value) : R8_Check_r0 F x0 K = R8_Check_R F 0 [(0, x0)] [0, 3] K := by kernel_rfl

def R8_Check (F : Nat) (x0 : Value) : M Value :=
  R8_Check_r0 F x0 (fun x0 x3 => R8_Check_r1 F x0 x3 (fun x0 x3 x8 => onB x8 (R8_Check_r2 F x3 (fun x2 x3 => bnd (opLoadN 3 x3) fun r1 => tupK [x2, r1])) (R8_Check_r3 F x0 x3 (fun x0 x3 x4 x5 => R8_Check_r4 F x0 x3 x4 x5 (fun x0 x3 x4 x16 => onB x16 (R8_Check_r5 F x3 x4 (fun x2 x3 => bnd (opLoadN 3 x3) fun r1 => tupK [x2, r1])) (R8_Check_r6 F x0 x3 x4 (fun x0 x3 x4 x20 => onB x20 (R8_Check_r7 F x3 (fun x2 x3 => bnd (opLoadN 3 x3) fun r1 => tupK [x2, r1])) (R8_Check_r8 F x0 x3 x4 (fun x0 x3 x4 x5 => R8_Check_r9 F x0 x3 x4 x5 (fun x0 x3 x4 x28 => onB x28 (R8_Check_r10 F x3 x4 (fun x2 x3 => bnd (opLoadN 3 x3) fun r1 => tupK [x2, r1])) (R8_Check_r11 F x0 x3 x4 (fun x0 x3 x4 x5 => R8_Check_r12 F x0 x3 x4 x5 (fun x0 x3 x4 x36 => onB x36 (R8_Check_r13 F x3 x4 (fun x2 x3 => bnd (opLoadN 3 x3) fun r1 => tupK [x2, r1])) (R8_Check_r14 F x0 x3 x4 (fun x3 x4 x5 => R8_Check_r15 F x3 x4 x5 (fun x3 x4 x44 => onB x44 (R8_Check_r16 F x3 x4 (fun x2 x3 => bnd (opLoadN 3 x3) fun r1 => tupK [x2, r1])) (R8_Check_r17 F x3 (fun x2 x3 => bnd (opLoadN 3 x3) fun r1 => tupK [x2, r1]))))))))))))))))))

def R8_Check_m (F : Nat) : List Value → M Value
  | [x0] => R8_Check F x0
  | _ => fail

theorem R8_Check_body : Try.f22.body = some (.seq (.region 0 (opsOf Try.f22 0) false) (.seq (.seq (.region 1 (opsOf Try.f22 1) false) (.cond (.tmp 8) (.seq (.region 2 (opsOf Try.f22 2) false) .ret) .skip)) (.seq (.region 3 (opsOf Try.f22 3) false) (.seq (.seq (.region 4 (opsOf Try.f22 4) false) (.cond (.tmp 16) (.seq (.region 5 (opsOf Try.f22 5) true) .ret) .skip)) (.seq (.seq (.region 6 (opsOf Try.f22 6) false) (.cond (.tmp 20) (.seq (.region 7 (opsOf Try.f22 7) false) .ret) .skip)) (.seq (.region 8 (opsOf Try.f22 8) false) (.seq (.seq (.region 9 (opsOf Try.f22 9) false) (.cond (.tmp 28) (.seq (.region 10 (opsOf Try.f22 10) true) .ret) .skip)) (.seq (.region 11 (opsOf Try.f22 11) false) (.seq (.seq (.region 12 (opsOf Try.f22 12) false) (.cond (.tmp 36) (.seq (.region 13 (opsOf Try.f22 13) true) .ret) .skip)) (.seq (.region 14 (opsOf Try.f22 14) false) (.seq (.seq (.region 15 (opsOf Try.f22 15) false) (.cond (.tmp 44) (.seq (.region 16 (opsOf Try.f22 16) true) .ret) .skip)) (.seq (.region 17 (opsOf Try.f22 17) false) .ret)))))))))))) := by kernel_rfl

theorem R8_Check_ok (F : Nat) : Sim Try.prog TryG 22 (R8_Check_m F) := by
 have hE : EnvOK Try.prog TryG (R8_Check_env F) := (EnvOK.cons (R8_Bounds_ok F) (EnvOK.cons (R8_Nowhere_ok F) (EnvOK.cons (R8_Names_ok F) (EnvOK.cons (R8_Methods_ok F) (EnvOK.cons (R8_Types_ok F) (EnvOK.cons (R8_Shape_ok F) (EnvOK.cons (R8_Assign_ok F) EnvOK.nil)))))))
 refine Sim.of_body (E := R8_Check_env F) Try.func22 R8_Check_body Try.call22 ?_ ?_
 · intro args hl; unfold R8_Check_m; split
   · exact absurd hl (Nat.not_lt.2 (Nat.le_of_ble_eq_true rfl))
   · rfl
 · intro args ρ h w z; unfold R8_Check_m; split
   · rename_i x0; show OKc _ _ [(0, x0)] _ _
     refine rSeq ?_
     refine cLess [0] ?_
     refine xR hE [0, 3] rfl (R8_Check_r0_ok F _ _) ?_
     intro x0 x3
     show OKq _ _ _ [(3, x3), (0, x0)] _
     refine rThen ?_
     refine rSeq ?_
     refine rSeq ?_
     refine cLess [3, 0] ?_
     refine xR hE [0, 3, 8] rfl (R8_Check_r1_ok F _ _ _) ?_
     intro x0 x3 x8
     show OKq _ _ _ [(8, x8), (3, x3), (0, x0)] _
     refine rThen ?_
     refine xCond rfl rfl ?_ ?_
     · refine rSeq ?_
       refine cLess [3] ?_
       refine xR hE [2, 3] rfl (R8_Check_r2_ok F _ _) ?_
       intro x2 x3
       show OKq _ _ _ [(3, x3), (2, x2)] _
       refine rThen ?_
       refine rRet ?_
       refine xThenR ?_
       exact rDone (.inr rfl) rfl
     · refine rSkip ?_
       refine rThen ?_
       refine rSeq ?_
       refine cLess [3, 0] ?_
       refine xR hE [0, 3, 4, 5] rfl (R8_Check_r3_ok F _ _ _) ?_
       intro x0 x3 x4 x5
       show OKq _ _ _ [(5, x5), (4, x4), (3, x3), (0, x0)] _
       refine rThen ?_
       refine rSeq ?_
       refine rSeq ?_
       refine cLess [5, 4, 3, 0] ?_
       refine xR hE [0, 3, 4, 16] rfl (R8_Check_r4_ok F _ _ _ _ _) ?_
       intro x0 x3 x4 x16
       show OKq _ _ _ [(16, x16), (4, x4), (3, x3), (0, x0)] _
       refine rThen ?_
       refine xCond rfl rfl ?_ ?_
       · refine rSeq ?_
         refine cLess [4, 3] ?_
         refine xD Trymix hE [2, 3] rfl R8_Check_r5_good (R8_Check_r5_ok F _ _ _) ?_
         intro x2 x3
         show OKq _ _ _ [(3, x3), (2, x2)] _
         refine rThen ?_
         refine rRet ?_
         refine xThenR ?_
         exact rDone (.inr rfl) rfl
       · refine rSkip ?_
         refine rThen ?_
         refine rSeq ?_
         refine rSeq ?_
         refine cLess [4, 3, 0] ?_
         refine xR hE [0, 3, 4, 20] rfl (R8_Check_r6_ok F _ _ _ _) ?_
         intro x0 x3 x4 x20
         show OKq _ _ _ [(20, x20), (4, x4), (3, x3), (0, x0)] _
         refine rThen ?_
         refine xCond rfl rfl ?_ ?_
         · refine rSeq ?_
           refine cLess [3] ?_
           refine xR hE [2, 3] rfl (R8_Check_r7_ok F _ _) ?_
           intro x2 x3
           show OKq _ _ _ [(3, x3), (2, x2)] _
           refine rThen ?_
           refine rRet ?_
           refine xThenR ?_
           exact rDone (.inr rfl) rfl
         · refine rSkip ?_
           refine rThen ?_
           refine rSeq ?_
           refine cLess [4, 3, 0] ?_
           refine xR hE [0, 3, 4, 5] rfl (R8_Check_r8_ok F _ _ _ _) ?_
           intro x0 x3 x4 x5
           show OKq _ _ _ [(5, x5), (4, x4), (3, x3), (0, x0)] _
           refine rThen ?_
           refine rSeq ?_
           refine rSeq ?_
           refine cLess [5, 4, 3, 0] ?_
           refine xR hE [0, 3, 4, 28] rfl (R8_Check_r9_ok F _ _ _ _ _) ?_
           intro x0 x3 x4 x28
           show OKq _ _ _ [(28, x28), (4, x4), (3, x3), (0, x0)] _
           refine rThen ?_
           refine xCond rfl rfl ?_ ?_
           · refine rSeq ?_
             refine cLess [4, 3] ?_
             refine xD Trymix hE [2, 3] rfl R8_Check_r10_good (R8_Check_r10_ok F _ _ _) ?_
             intro x2 x3
             show OKq _ _ _ [(3, x3), (2, x2)] _
             refine rThen ?_
             refine rRet ?_
             refine xThenR ?_
             exact rDone (.inr rfl) rfl
           · refine rSkip ?_
             refine rThen ?_
             refine rSeq ?_
             refine cLess [4, 3, 0] ?_
             refine xR hE [0, 3, 4, 5] rfl (R8_Check_r11_ok F _ _ _ _) ?_
             intro x0 x3 x4 x5
             show OKq _ _ _ [(5, x5), (4, x4), (3, x3), (0, x0)] _
             refine rThen ?_
             refine rSeq ?_
             refine rSeq ?_
             refine cLess [5, 4, 3, 0] ?_
             refine xR hE [0, 3, 4, 36] rfl (R8_Check_r12_ok F _ _ _ _ _) ?_
             intro x0 x3 x4 x36
             show OKq _ _ _ [(36, x36), (4, x4), (3, x3), (0, x0)] _
             refine rThen ?_
             refine xCond rfl rfl ?_ ?_
             · refine rSeq ?_
               refine cLess [4, 3] ?_
               refine xD Trymix hE [2, 3] rfl R8_Check_r13_good (R8_Check_r13_ok F _ _ _) ?_
               intro x2 x3
               show OKq _ _ _ [(3, x3), (2, x2)] _
               refine rThen ?_
               refine rRet ?_
               refine xThenR ?_
               exact rDone (.inr rfl) rfl
             · refine rSkip ?_
               refine rThen ?_
               refine rSeq ?_
               refine cLess [4, 3, 0] ?_
               refine xR hE [3, 4, 5] rfl (R8_Check_r14_ok F _ _ _ _) ?_
               intro x3 x4 x5
               show OKq _ _ _ [(5, x5), (4, x4), (3, x3)] _
               refine rThen ?_
               refine rSeq ?_
               refine rSeq ?_
               refine cLess [5, 4, 3] ?_
               refine xR hE [3, 4, 44] rfl (R8_Check_r15_ok F _ _ _ _) ?_
               intro x3 x4 x44
               show OKq _ _ _ [(44, x44), (4, x4), (3, x3)] _
               refine rThen ?_
               refine xCond rfl rfl ?_ ?_
               · refine rSeq ?_
                 refine cLess [4, 3] ?_
                 refine xD Trymix hE [2, 3] rfl R8_Check_r16_good (R8_Check_r16_ok F _ _ _) ?_
                 intro x2 x3
                 show OKq _ _ _ [(3, x3), (2, x2)] _
                 refine rThen ?_
                 refine rRet ?_
                 refine xThenR ?_
                 exact rDone (.inr rfl) rfl
               · refine rSkip ?_
                 refine rThen ?_
                 refine rSeq ?_
                 refine cLess [3] ?_
                 refine xR hE [2, 3] rfl (R8_Check_r17_ok F _ _) ?_
                 intro x2 x3
                 show OKq _ _ _ [(3, x3), (2, x2)] _
                 refine rThen ?_
                 refine rRet ?_
                 exact rDone (.inr rfl) rfl
   · exact rFail


/-! ### slices.Sort[[]int,int] -/

def slices_Sort_env (F : Nat) : Env := envOf [(53, slices_pdqsortOrdered_m F F), (54, bits_Len_m F)]

noncomputable def slices_Sort_R (F : Nat) := rK Try.prog TryG (slices_Sort_env F) Try.f36
noncomputable def slices_Sort_D (F : Nat) := dK Try.prog TryG (slices_Sort_env F) Try.f36

def slices_Sort_r1 (F : Nat) (x0 x2 : Value) (K : M Value) : M Value :=
  bnd (opConv .u64 x2) fun v8 => bnd (bits_Len F v8) fun v9 => bnd (slices_pdqsortOrdered F F x0 (.int .i64 (0)) x2 v9) fun v10 => K

theorem slices_Sort_r1_ok (F : Nat) (x0 x2 : Value) (K : M Value) : slices_Sort_r1 F x0 x2 K = slices_Sort_R F 1 [(2, x2), (0, x0)] [] K := by kernel_rfl

def slices_Sort_r0 (F : Nat) (x0 : Value) (K : Value → Value → M Value) : M Value :=
  bnd (opLen x0) fun v4 => K x0 v4

theorem slices_Sort_r0_ok (F : Nat) (x0 : Value) (K : Value → Value → M Value) : slices_Sort_r0 F x0 K = slices_Sort_R F 0 [(0, x0)] [0, 2] K := by kernel_rfl

def slices_Sort (F : Nat) (x0 : Value) : M Value :=
  slices_Sort_r0 F x0 (fun x0 x2 => slices_Sort_r1 F x0 x2 (tupK []))

def slices_Sort_m (F : Nat) : List Value → M Value
  | [x0] => slices_Sort F x0
  | _ => fail

theorem slices_Sort_body : Try.f36.body = some (.seq (.region 0 (opsOf Try.f36 0) false) (.region 1 (opsOf Try.f36 1) false)) := by kernel_rfl

theorem slices_Sort_ok (F : Nat) : Sim Try.prog TryG 36 (slices_Sort_m F) := by
 have hE : EnvOK Try.prog TryG (slices_Sort_env F) := (EnvOK.cons (slices_pdqsortOrdered_ok F F) (EnvOK.cons (bits_Len_ok F) EnvOK.nil))
 refine Sim.of_body (E := slices_Sort_env F) Try.func36 slices_Sort_body Try.call36 ?_ ?_
 · intro args hl; unfold slices_Sort_m; split
   · exact absurd hl (Nat.not_lt.2 (Nat.le_of_ble_eq_true rfl))
   · rfl
 · intro args ρ h w z; unfold slices_Sort_m; split
   · rename_i x0; show OKc _ _ [(0, x0)] _ _
     refine rSeq ?_
     refine cLess [0] ?_
     refine xR hE [0, 2] rfl (slices_Sort_r0_ok F _ _) ?_
     intro x0 x2
     show OKq _ _ _ [(2, x2), (0, x0)] _
     refine rThen ?_
     refine cLess [2, 0] ?_
     refine xR hE [] rfl (slices_Sort_r1_ok F _ _ _) ?_
     show OKq _ _ _ [] _
     exact rDone (.inl rfl) rfl
   · exact rFail


/-! ### haruspex/haruspexlaw14.Right -/

def L14_Right_env (F : Nat) : Env := envOf [(20, R8_Bounds_m F), (21, L8_Small_m F), (22, R8_Check_m F)]

noncomputable def L14_Right_R (F : Nat) := rK Try.prog TryG (L14_Right_env F) Try.f7
noncomputable def L14_Right_D (F : Nat) := dK Try.prog TryG (L14_Right_env F) Try.f7

def L14_Right_r4 (F : Nat) (x3 : Value) (K : Value → M Value) : M Value :=
  bnd (opBin .eql x3 (.int .i64 (0))) fun v23 => K v23

theorem L14_Right_r4_ok (F : Nat) (x3 : Value) (K : Value → M Value) : L14_Right_r4 F x3 K = L14_Right_R F 4 [(3, x3)] [2] K := by kernel_rfl

def L14_Right_r3 (F : Nat) (x0 : Value) (K : Value → M Value) : M Value :=
  bnd (R8_Check F x0) fun v19 => bnd (opExtract v19 0) fun v20 => bnd (opExtract v19 1) fun v21 => bnd (opPtr [(.int .i64 (0)), (.int .i64 (0)), (.int .i64 (0))]) fun v4 => bnd (opStoreN 3 v4 v21) fun _ => K v20

theorem L14_Right_r3_ok (F : Nat) (x0 : Value) (K : Value → M Value) : L14_Right_r3 F x0 K = L14_Right_R F 3 [(0, x0)] [3] K := by kernel_rfl

def L14_Right_r2 (F : Nat) (K : Value → M Value) : M Value :=
  K (.bool false)

theorem L14_Right_r2_ok (F : Nat) (K : Value → M Value) : L14_Right_r2 F K = L14_Right_R F 2 [] [2] K := by kernel_rfl

def L14_Right_r1 (F : Nat) (x0 : Value) (K : Value → Value → M Value) : M Value :=
  bnd (opEq eqP false x0 (.pointer none)) fun v6 => onB v6 (K x0 (.bool true)) (bnd (R8_Bounds F x0) fun v9 => bnd (opNot v9) fun v10 => onB v10 (K x0 (.bool true)) (bnd (L8_Small F x0) fun v14 => bnd (opNot v14) fun v15 => K x0 v15))

theorem L14_Right_r1_ok (F : Nat) (x0 : Value) (K : Value → Value → M Value) : L14_Right_r1 F x0 K = L14_Right_R F 1 [(0, x0)] [0, 16] K := by kernel_rfl

def L14_Right_r0 (F : Nat) (x0 : Value) (K : Value → M Value) : M Value :=
  K x0

theorem L14_Right_r0_ok (F : Nat) (x0 : Value) (K : Value → M Value) : L14_Right_r0 F x0 K = L14_Right_R F 0 [(0, x0)] [0] K := by kernel_rfl

def L14_Right (F : Nat) (x0 : Value) : M Value :=
  L14_Right_r0 F x0 (fun x0 => L14_Right_r1 F x0 (fun x0 x16 => onB x16 (L14_Right_r2 F (fun x2 => ret x2)) (L14_Right_r3 F x0 (fun x3 => L14_Right_r4 F x3 (fun x2 => ret x2)))))

def L14_Right_m (F : Nat) : List Value → M Value
  | [x0] => L14_Right F x0
  | _ => fail

theorem L14_Right_body : Try.f7.body = some (.seq (.region 0 (opsOf Try.f7 0) false) (.seq (.seq (.region 1 (opsOf Try.f7 1) false) (.cond (.tmp 16) (.seq (.region 2 (opsOf Try.f7 2) false) .ret) .skip)) (.seq (.region 3 (opsOf Try.f7 3) false) (.seq (.region 4 (opsOf Try.f7 4) false) .ret)))) := by kernel_rfl

theorem L14_Right_ok (F : Nat) : Sim Try.prog TryG 7 (L14_Right_m F) := by
 have hE : EnvOK Try.prog TryG (L14_Right_env F) := (EnvOK.cons (R8_Bounds_ok F) (EnvOK.cons (L8_Small_ok F) (EnvOK.cons (R8_Check_ok F) EnvOK.nil)))
 refine Sim.of_body (E := L14_Right_env F) Try.func7 L14_Right_body Try.call7 ?_ ?_
 · intro args hl; unfold L14_Right_m; split
   · exact absurd hl (Nat.not_lt.2 (Nat.le_of_ble_eq_true rfl))
   · rfl
 · intro args ρ h w z; unfold L14_Right_m; split
   · rename_i x0; show OKc _ _ [(0, x0)] _ _
     refine rSeq ?_
     refine cLess [0] ?_
     refine xR hE [0] rfl (L14_Right_r0_ok F _ _) ?_
     intro x0
     show OKq _ _ _ [(0, x0)] _
     refine rThen ?_
     refine rSeq ?_
     refine rSeq ?_
     refine cLess [0] ?_
     refine xR hE [0, 16] rfl (L14_Right_r1_ok F _ _) ?_
     intro x0 x16
     show OKq _ _ _ [(16, x16), (0, x0)] _
     refine rThen ?_
     refine xCond rfl rfl ?_ ?_
     · refine rSeq ?_
       refine cLess [] ?_
       refine xR hE [2] rfl (L14_Right_r2_ok F _) ?_
       intro x2
       show OKq _ _ _ [(2, x2)] _
       refine rThen ?_
       refine rRet ?_
       refine xThenR ?_
       exact rDone (.inr rfl) rfl
     · refine rSkip ?_
       refine rThen ?_
       refine rSeq ?_
       refine cLess [0] ?_
       refine xR hE [3] rfl (L14_Right_r3_ok F _ _) ?_
       intro x3
       show OKq _ _ _ [(3, x3)] _
       refine rThen ?_
       refine rSeq ?_
       refine cLess [3] ?_
       refine xR hE [2] rfl (L14_Right_r4_ok F _ _) ?_
       intro x2
       show OKq _ _ _ [(2, x2)] _
       refine rThen ?_
       refine rRet ?_
       exact rDone (.inr rfl) rfl
   · exact rFail


/-! ### haruspex/reach.Used -/

def reach_Used_env (F : Nat) : Env := envOf [(33, ir_At_m F), (34, ir_Uses_m F), (35, ir_End_m F), (36, slices_Sort_m F), (37, slices_Compact_m F)]

noncomputable def reach_Used_R (F : Nat) := rK Try.prog TryG (reach_Used_env F) Try.f19
noncomputable def reach_Used_D (F : Nat) := dK Try.prog TryG (reach_Used_env F) Try.f19

def reach_Used_r9 (F : Nat) (x5 : Value) (K : Value → M Value) : M Value :=
  bnd (slices_Compact F x5) fun v45 => K v45

theorem reach_Used_r9_ok (F : Nat) (x5 : Value) (K : Value → M Value) : reach_Used_r9 F x5 K = reach_Used_R F 9 [(5, x5)] [4] K := by kernel_rfl

def reach_Used_r8 (F : Nat) (x5 : Value) (K : Value → M Value) : M Value :=
  bnd (slices_Sort F x5) fun v43 => K x5

theorem reach_Used_r8_ok (F : Nat) (x5 : Value) (K : Value → M Value) : reach_Used_r8 F x5 K = reach_Used_R F 8 [(5, x5)] [5] K := by kernel_rfl

def reach_Used_k0 (F : Nat) (x5 : Value) : M Value :=
  reach_Used_r8 F x5 (fun x5 => reach_Used_r9 F x5 (fun x4 => ret x4))

def reach_Used_r4 (F : Nat) (x6 : Value) (K : Value → M Value) : M Value :=
  bnd (opLoadN 6 x6) fun v16 => bnd (ir_Uses F v16) fun v17 => K v17

theorem reach_Used_r4_ok (F : Nat) (x6 : Value) (K : Value → M Value) : reach_Used_r4 F x6 K = reach_Used_R F 4 [(6, x6)] [5] K := by kernel_rfl

def reach_Used_r7 (F : Nat) (x8 : Value) (K : Value → M Value) : M Value :=
  bnd (opNil x8) fun v38 => bnd (opFieldAddr 2 v38) fun v39 => bnd (opLoad v39) fun v40 => bnd (opBuildSlice 1 (rep 1 [(.int .i64 (0))]) [(0, 1, false, v40)]) fun v41 => K v41

theorem reach_Used_r7_ok (F : Nat) (x8 : Value) (K : Value → M Value) : reach_Used_r7 F x8 K = reach_Used_R F 7 [(8, x8)] [5] K := by kernel_rfl

def reach_Used_r6 (F : Nat) (x5 x8 : Value) (K : Value → Value → Value → M Value) : M Value :=
  bnd (opEq eqP true x8 (.pointer none)) fun v22 => onB v22 (bnd (opNil x8) fun v25 => bnd (opFieldAddr 1 v25) fun v26 => bnd (opLoad v26) fun v27 => bnd (opBin .eql v27 (.int .i64 (2))) fun v28 => onB v28 (K x5 x8 (.bool true)) (bnd (opNil x8) fun v31 => bnd (opFieldAddr 1 v31) fun v32 => bnd (opLoad v32) fun v33 => bnd (opBin .eql v33 (.int .i64 (3))) fun v34 => K x5 x8 v34)) (K x5 x8 (.bool false))

theorem reach_Used_r6_ok (F : Nat) (x5 x8 : Value) (K : Value → Value → Value → M Value) : reach_Used_r6 F x5 x8 K = reach_Used_R F 6 [(8, x8), (5, x5)] [5, 8, 36] K := by kernel_rfl

def reach_Used_r5 (F : Nat) (x0 x1 x5 : Value) (K : Value → Value → M Value) : M Value :=
  bnd (ir_End F x0 x1) fun v20 => K x5 v20

theorem reach_Used_r5_ok (F : Nat) (x0 x1 x5 : Value) (K : Value → Value → M Value) : reach_Used_r5 F x0 x1 x5 K = reach_Used_R F 5 [(5, x5), (1, x1), (0, x0)] [5, 8] K := by kernel_rfl

def reach_Used_r3 (F : Nat) (x0 x1 x5 x6 x7 : Value) (K : Value → Value → Value → Value → Value → M Value) : M Value :=
  K x0 x1 x5 x6 x7

theorem reach_Used_r3_ok (F : Nat) (x0 x1 x5 x6 x7 : Value) (K : Value → Value → Value → Value → Value → M Value) : reach_Used_r3 F x0 x1 x5 x6 x7 K = reach_Used_R F 3 [(7, x7), (6, x6), (5, x5), (1, x1), (0, x0)] [0, 1, 5, 6, 15] K := by kernel_rfl

def reach_Used_r2 (F : Nat) (x0 x1 x5 : Value) (K : Value → Value → Value → Value → Value → M Value) : M Value :=
  bnd (ir_At F x0 x1) fun v12 => bnd (opExtract v12 0) fun v13 => bnd (opExtract v12 1) fun v14 => bnd (opPtr [(.int .i64 (0)), (.int .i64 (0)), (.int .i64 (0)), (.int .i64 (0)), (.int .i64 (0)), (.slice none 0 0)]) fun v6 => bnd (opStoreN 6 v6 v13) fun _ => K x0 x1 x5 v6 v14

theorem reach_Used_r2_ok (F : Nat) (x0 x1 x5 : Value) (K : Value → Value → Value → Value → Value → M Value) : reach_Used_r2 F x0 x1 x5 K = reach_Used_R F 2 [(5, x5), (1, x1), (0, x0)] [0, 1, 5, 6, 7] K := by kernel_rfl

def reach_Used_r1 (F : Nat) (x0 x1 : Value) (K : Value → Value → Value → M Value) : M Value :=
  K x0 x1 (.slice none 0 0)

theorem reach_Used_r1_ok (F : Nat) (x0 x1 : Value) (K : Value → Value → Value → M Value) : reach_Used_r1 F x0 x1 K = reach_Used_R F 1 [(1, x1), (0, x0)] [0, 1, 5] K := by kernel_rfl

def reach_Used_r0 (F : Nat) (x0 x1 : Value) (K : Value → Value → M Value) : M Value :=
  K x0 x1

theorem reach_Used_r0_ok (F : Nat) (x0 x1 : Value) (K : Value → Value → M Value) : reach_Used_r0 F x0 x1 K = reach_Used_R F 0 [(1, x1), (0, x0)] [0, 1] K := by kernel_rfl

def reach_Used (F : Nat) (x0 x1 : Value) : M Value :=
  reach_Used_r0 F x0 x1 (fun x0 x1 => reach_Used_r1 F x0 x1 (fun x0 x1 x5 => reach_Used_r2 F x0 x1 x5 (fun x0 x1 x5 x6 x7 => reach_Used_r3 F x0 x1 x5 x6 x7 (fun x0 x1 x5 x6 x15 => onB x15 (reach_Used_r4 F x6 (fun x5 => reach_Used_k0 F x5)) (reach_Used_r5 F x0 x1 x5 (fun x5 x8 => reach_Used_r6 F x5 x8 (fun x5 x8 x36 => onB x36 (reach_Used_r7 F x8 (fun x5 => reach_Used_k0 F x5)) (reach_Used_k0 F x5))))))))

def reach_Used_m (F : Nat) : List Value → M Value
  | [x0, x1] => reach_Used F x0 x1
  | _ => fail

theorem reach_Used_body : Try.f19.body = some (.seq (.region 0 (opsOf Try.f19 0) false) (.seq (.region 1 (opsOf Try.f19 1) false) (.seq (.seq (.region 2 (opsOf Try.f19 2) false) (.seq (.region 3 (opsOf Try.f19 3) false) (.cond (.tmp 15) (.region 4 (opsOf Try.f19 4) false) (.seq (.region 5 (opsOf Try.f19 5) false) (.seq (.region 6 (opsOf Try.f19 6) false) (.cond (.tmp 36) (.region 7 (opsOf Try.f19 7) false) .skip)))))) (.seq (.region 8 (opsOf Try.f19 8) false) (.seq (.region 9 (opsOf Try.f19 9) false) .ret))))) := by kernel_rfl

theorem reach_Used_ok (F : Nat) : Sim Try.prog TryG 19 (reach_Used_m F) := by
 have hE : EnvOK Try.prog TryG (reach_Used_env F) := (EnvOK.cons (ir_At_ok F) (EnvOK.cons (ir_Uses_ok F) (EnvOK.cons (ir_End_ok F) (EnvOK.cons (slices_Sort_ok F) (EnvOK.cons (slices_Compact_ok F) EnvOK.nil)))))
 refine Sim.of_body (E := reach_Used_env F) Try.func19 reach_Used_body Try.call19 ?_ ?_
 · intro args hl; unfold reach_Used_m; split
   · exact absurd hl (Nat.not_lt.2 (Nat.le_of_ble_eq_true rfl))
   · rfl
 · intro args ρ h w z; unfold reach_Used_m; split
   · rename_i x0 x1; show OKc _ _ [(0, x0), (1, x1)] _ _
     refine rSeq ?_
     refine cLess [1, 0] ?_
     refine xR hE [0, 1] rfl (reach_Used_r0_ok F _ _ _) ?_
     intro x0 x1
     show OKq _ _ _ [(1, x1), (0, x0)] _
     refine rThen ?_
     refine rSeq ?_
     refine cLess [1, 0] ?_
     refine xR hE [0, 1, 5] rfl (reach_Used_r1_ok F _ _ _) ?_
     intro x0 x1 x5
     show OKq _ _ _ [(5, x5), (1, x1), (0, x0)] _
     refine rThen ?_
     refine xSeq [5] (reach_Used_k0 F ) ?_ fun hj0 => ?_
     · intro x5
       show OKc _ _ [(5, x5)] _ _
       refine rSeq ?_
       refine cLess [5] ?_
       refine xR hE [5] rfl (reach_Used_r8_ok F _ _) ?_
       intro x5
       show OKq _ _ _ [(5, x5)] _
       refine rThen ?_
       refine rSeq ?_
       refine cLess [5] ?_
       refine xR hE [4] rfl (reach_Used_r9_ok F _ _) ?_
       intro x4
       show OKq _ _ _ [(4, x4)] _
       refine rThen ?_
       refine rRet ?_
       exact rDone (.inr rfl) rfl
     · refine rSeq ?_
       refine cLess [5, 1, 0] ?_
       refine xR hE [0, 1, 5, 6, 7] rfl (reach_Used_r2_ok F _ _ _ _) ?_
       intro x0 x1 x5 x6 x7
       show OKq _ _ _ [(7, x7), (6, x6), (5, x5), (1, x1), (0, x0)] _
       refine rThen ?_
       refine rSeq ?_
       refine cLess [7, 6, 5, 1, 0] ?_
       refine xR hE [0, 1, 5, 6, 15] rfl (reach_Used_r3_ok F _ _ _ _ _ _) ?_
       intro x0 x1 x5 x6 x15
       show OKq _ _ _ [(15, x15), (6, x6), (5, x5), (1, x1), (0, x0)] _
       refine rThen ?_
       refine xCond rfl rfl ?_ ?_
       · refine cLess [6] ?_
         refine xR hE [5] rfl (reach_Used_r4_ok F _ _) ?_
         intro x5
         show OKq _ _ _ [(5, x5)] _
         exact qLess [5] (hj0 x5)
       · refine rSeq ?_
         refine cLess [5, 1, 0] ?_
         refine xR hE [5, 8] rfl (reach_Used_r5_ok F _ _ _ _) ?_
         intro x5 x8
         show OKq _ _ _ [(8, x8), (5, x5)] _
         refine rThen ?_
         refine rSeq ?_
         refine cLess [8, 5] ?_
         refine xR hE [5, 8, 36] rfl (reach_Used_r6_ok F _ _ _) ?_
         intro x5 x8 x36
         show OKq _ _ _ [(36, x36), (8, x8), (5, x5)] _
         refine rThen ?_
         refine xCond rfl rfl ?_ ?_
         · refine cLess [8] ?_
           refine xR hE [5] rfl (reach_Used_r7_ok F _ _) ?_
           intro x5
           show OKq _ _ _ [(5, x5)] _
           exact qLess [5] (hj0 x5)
         · refine rSkip ?_
           exact qLess [5] (hj0 x5)
   · exact rFail


/-! ### (*haruspex/reach.Back).Find -/

def reach_Back_Find_env (F : Nat) : Env := envOf [(36, slices_Sort_m F), (45, reach_Some_1_m F)]

noncomputable def reach_Back_Find_R (F : Nat) := rK Try.prog TryG (reach_Back_Find_env F) Try.f44
noncomputable def reach_Back_Find_D (F : Nat) := dK Try.prog TryG (reach_Back_Find_env F) Try.f44

def reach_Back_Find_r19 (F : Nat) (x8 x10 : Value) (K : Value → Value → M Value) : M Value :=
  K x8 x10

theorem reach_Back_Find_r19_ok (F : Nat) (x8 x10 : Value) (K : Value → Value → M Value) : reach_Back_Find_r19 F x8 x10 K = reach_Back_Find_R F 19 [(10, x10), (8, x8)] [6, 7] K := by kernel_rfl

def reach_Back_Find_r18 (F : Nat) (x8 x10 : Value) (K : Value → Value → M Value) : M Value :=
  bnd (slices_Sort F x8) fun v93 => K x8 x10

theorem reach_Back_Find_r18_ok (F : Nat) (x8 x10 : Value) (K : Value → Value → M Value) : reach_Back_Find_r18 F x8 x10 K = reach_Back_Find_R F 18 [(10, x10), (8, x8)] [8, 10] K := by kernel_rfl

def reach_Back_Find_k0 (F : Nat) (x8 x10 : Value) : M Value :=
  reach_Back_Find_r18 F x8 x10 (fun x8 x10 => reach_Back_Find_r19 F x8 x10 (fun x6 x7 => tupK [x6, x7]))

def reach_Back_Find_r17 (F : Nat) (x0 x2 x8 x9 x10 x11 x48 x49 x50 : Value) (K : Value → Value → Value → Value → Value → Value → Value → Value → Value → M Value) : M Value :=
  bnd (opBin .add x50 (.int .i64 (1))) fun v91 => K x0 x2 x8 x9 x10 x11 x48 x49 v91

theorem reach_Back_Find_r17_ok (F : Nat) (x0 x2 x8 x9 x10 x11 x48 x49 x50 : Value) (K : Value → Value → Value → Value → Value → Value → Value → Value → Value → M Value) : reach_Back_Find_r17 F x0 x2 x8 x9 x10 x11 x48 x49 x50 K = reach_Back_Find_R F 17 [(50, x50), (49, x49), (48, x48), (11, x11), (10, x10), (9, x9), (8, x8), (2, x2), (0, x0)] [0, 2, 8, 9, 10, 11, 48, 49, 50] K := by kernel_rfl

def reach_Back_Find_k3 (F : Nat) (A2 : Value → Value → Value → Value → Value → Value → Value → Value → Value → M Value) (x0 x2 x8 x9 x10 x11 x48 x49 x50 : Value) : M Value :=
  reach_Back_Find_r17 F x0 x2 x8 x9 x10 x11 x48 x49 x50 (fun x0 x2 x8 x9 x10 x11 x48 x49 x50 => A2 x0 x2 x8 x9 x10 x11 x48 x49 x50)

def reach_Back_Find_r16 (F : Nat) (x0 x2 x8 x9 x10 x11 x14 x48 x49 x50 : Value) (K : Value → Value → Value → Value → Value → Value → Value → Value → Value → M Value) : M Value :=
  bnd (opBuildSlice 1 (rep 1 [(.int .i64 (0))]) [(0, 1, false, x14)]) fun v89 => bnd (opAppend 1 8 x11 v89) fun v90 => K x0 x2 x8 x9 x10 v90 x48 x49 x50

theorem reach_Back_Find_r16_ok (F : Nat) (x0 x2 x8 x9 x10 x11 x14 x48 x49 x50 : Value) (K : Value → Value → Value → Value → Value → Value → Value → Value → Value → M Value) : reach_Back_Find_r16 F x0 x2 x8 x9 x10 x11 x14 x48 x49 x50 K = reach_Back_Find_R F 16 [(50, x50), (49, x49), (48, x48), (14, x14), (11, x11), (10, x10), (9, x9), (8, x8), (2, x2), (0, x0)] [0, 2, 8, 9, 10, 11, 48, 49, 50] K := by kernel_rfl

def reach_Back_Find_r15 (F : Nat) (x0 x2 x8 x9 x10 x11 x14 x48 x49 x50 : Value) (K : Value → Value → Value → Value → Value → Value → Value → Value → Value → Value → M Value) : M Value :=
  onB x10 (K x0 x2 x8 x9 (.bool true) x11 x14 x48 x49 x50) (bnd (opNil x0) fun v82 => bnd (opFieldAddr 0 v82) fun v83 => bnd (opLoad v83) fun v84 => bnd (opBin .eql x14 v84) fun v85 => K x0 x2 x8 x9 v85 x11 x14 x48 x49 x50)

theorem reach_Back_Find_r15_ok (F : Nat) (x0 x2 x8 x9 x10 x11 x14 x48 x49 x50 : Value) (K : Value → Value → Value → Value → Value → Value → Value → Value → Value → Value → M Value) : reach_Back_Find_r15 F x0 x2 x8 x9 x10 x11 x14 x48 x49 x50 K = reach_Back_Find_R F 15 [(50, x50), (49, x49), (48, x48), (14, x14), (11, x11), (10, x10), (9, x9), (8, x8), (2, x2), (0, x0)] [0, 2, 8, 9, 10, 11, 14, 48, 49, 50] K := by kernel_rfl

def reach_Back_Find_r14 (F : Nat) (x0 x2 x8 x9 x10 x11 x14 x48 x49 x50 : Value) (K : Value → Value → Value → Value → Value → Value → Value → Value → Value → M Value) : M Value :=
  bnd (opBuildSlice 1 (rep 1 [(.int .i64 (0))]) [(0, 1, false, x14)]) fun v76 => bnd (opAppend 1 8 x8 v76) fun v77 => K x0 x2 v77 x9 x10 x11 x48 x49 x50

theorem reach_Back_Find_r14_ok (F : Nat) (x0 x2 x8 x9 x10 x11 x14 x48 x49 x50 : Value) (K : Value → Value → Value → Value → Value → Value → Value → Value → Value → M Value) : reach_Back_Find_r14 F x0 x2 x8 x9 x10 x11 x14 x48 x49 x50 K = reach_Back_Find_R F 14 [(50, x50), (49, x49), (48, x48), (14, x14), (11, x11), (10, x10), (9, x9), (8, x8), (2, x2), (0, x0)] [0, 2, 8, 9, 10, 11, 48, 49, 50] K := by kernel_rfl

def reach_Back_Find_r13 (F : Nat) (x0 x2 x8 x9 x10 x11 x14 x48 x49 x50 : Value) (K : Value → Value → Value → Value → Value → Value → Value → Value → Value → Value → Value → M Value) : M Value :=
  bnd (opCall (reach_Back_Find_env F) x2 [x14]) fun v73 => K x0 x2 x8 x9 x10 x11 x14 x48 x49 x50 v73

theorem reach_Back_Find_r13_ok (F : Nat) (x0 x2 x8 x9 x10 x11 x14 x48 x49 x50 : Value) (K : Value → Value → Value → Value → Value → Value → Value → Value → Value → Value → Value → M Value) : reach_Back_Find_r13 F x0 x2 x8 x9 x10 x11 x14 x48 x49 x50 K = reach_Back_Find_R F 13 [(50, x50), (49, x49), (48, x48), (14, x14), (11, x11), (10, x10), (9, x9), (8, x8), (2, x2), (0, x0)] [0, 2, 8, 9, 10, 11, 14, 48, 49, 50, 73] K := by kernel_rfl

def reach_Back_Find_r12 (F : Nat) (x0 x2 x8 x9 x10 x11 x14 x48 x49 x50 : Value) (K : Value → Value → Value → Value → Value → Value → Value → Value → Value → Value → M Value) : M Value :=
  bnd (opNil x0) fun v66 => bnd (opFieldAddr 0 v66) fun v67 => bnd (opLoad v67) fun v68 => bnd (opBin .sub x14 v68) fun v69 => bnd (opIndexAddr 1 x9 v69) fun v70 => bnd (opStore v70 (.bool true)) fun _ => K x0 x2 x8 x9 x10 x11 x14 x48 x49 x50

theorem reach_Back_Find_r12_ok (F : Nat) (x0 x2 x8 x9 x10 x11 x14 x48 x49 x50 : Value) (K : Value → Value → Value → Value → Value → Value → Value → Value → Value → Value → M Value) : reach_Back_Find_r12 F x0 x2 x8 x9 x10 x11 x14 x48 x49 x50 K = reach_Back_Find_R F 12 [(50, x50), (49, x49), (48, x48), (14, x14), (11, x11), (10, x10), (9, x9), (8, x8), (2, x2), (0, x0)] [0, 2, 8, 9, 10, 11, 14, 48, 49, 50] K := by kernel_rfl

def reach_Back_Find_r11 (F : Nat) (x0 x2 x8 x9 x10 x11 x14 x48 x49 x50 : Value) (K : Value → Value → Value → Value → Value → Value → Value → Value → Value → Value → Value → M Value) : M Value :=
  bnd (opNil x0) fun v57 => bnd (opFieldAddr 0 v57) fun v58 => bnd (opLoad v58) fun v59 => bnd (opBin .sub x14 v59) fun v60 => bnd (opIndexAddr 1 x9 v60) fun v61 => bnd (opLoad v61) fun v62 => K x0 x2 x8 x9 x10 x11 x14 x48 x49 x50 v62

theorem reach_Back_Find_r11_ok (F : Nat) (x0 x2 x8 x9 x10 x11 x14 x48 x49 x50 : Value) (K : Value → Value → Value → Value → Value → Value → Value → Value → Value → Value → Value → M Value) : reach_Back_Find_r11 F x0 x2 x8 x9 x10 x11 x14 x48 x49 x50 K = reach_Back_Find_R F 11 [(50, x50), (49, x49), (48, x48), (14, x14), (11, x11), (10, x10), (9, x9), (8, x8), (2, x2), (0, x0)] [0, 2, 8, 9, 10, 11, 14, 48, 49, 50, 62] K := by kernel_rfl

def reach_Back_Find_r10 (F : Nat) (x0 x2 x8 x9 x10 x11 x48 x49 x50 : Value) (K : Value → Value → Value → Value → Value → Value → Value → Value → Value → Value → M Value) : M Value :=
  bnd (opIndexAddr 1 x48 x50) fun v52 => bnd (opLoad v52) fun v53 => K x0 x2 x8 x9 x10 x11 v53 x48 x49 x50

theorem reach_Back_Find_r10_ok (F : Nat) (x0 x2 x8 x9 x10 x11 x48 x49 x50 : Value) (K : Value → Value → Value → Value → Value → Value → Value → Value → Value → Value → M Value) : reach_Back_Find_r10 F x0 x2 x8 x9 x10 x11 x48 x49 x50 K = reach_Back_Find_R F 10 [(50, x50), (49, x49), (48, x48), (11, x11), (10, x10), (9, x9), (8, x8), (2, x2), (0, x0)] [0, 2, 8, 9, 10, 11, 14, 48, 49, 50] K := by kernel_rfl

def reach_Back_Find_r9 (F : Nat) (x0 x2 x8 x9 x10 x11 x48 x49 x50 : Value) (K : Value → Value → Value → Value → Value → Value → Value → Value → Value → Value → M Value) : M Value :=
  bnd (opBin .lss x50 x49) fun v51 => K x0 x2 x8 x9 x10 x11 x48 x49 x50 v51

theorem reach_Back_Find_r9_ok (F : Nat) (x0 x2 x8 x9 x10 x11 x48 x49 x50 : Value) (K : Value → Value → Value → Value → Value → Value → Value → Value → Value → Value → M Value) : reach_Back_Find_r9 F x0 x2 x8 x9 x10 x11 x48 x49 x50 K = reach_Back_Find_R F 9 [(50, x50), (49, x49), (48, x48), (11, x11), (10, x10), (9, x9), (8, x8), (2, x2), (0, x0)] [0, 2, 8, 9, 10, 11, 48, 49, 50, 51] K := by kernel_rfl

def reach_Back_Find_b2 (F : Nat) (E2_2 : Value → Value → Value → Value → Value → Value → M Value) (A2 : Value → Value → Value → Value → Value → Value → Value → Value → Value → M Value) (x0 x2 x8 x9 x10 x11 x48 x49 x50 : Value) : M Value :=
  reach_Back_Find_r9 F x0 x2 x8 x9 x10 x11 x48 x49 x50 (fun x0 x2 x8 x9 x10 x11 x48 x49 x50 x51 => onB x51 (reach_Back_Find_r10 F x0 x2 x8 x9 x10 x11 x48 x49 x50 (fun x0 x2 x8 x9 x10 x11 x14 x48 x49 x50 => reach_Back_Find_r11 F x0 x2 x8 x9 x10 x11 x14 x48 x49 x50 (fun x0 x2 x8 x9 x10 x11 x14 x48 x49 x50 x62 => onB x62 (reach_Back_Find_k3 F A2 x0 x2 x8 x9 x10 x11 x48 x49 x50) (reach_Back_Find_r12 F x0 x2 x8 x9 x10 x11 x14 x48 x49 x50 (fun x0 x2 x8 x9 x10 x11 x14 x48 x49 x50 => reach_Back_Find_r13 F x0 x2 x8 x9 x10 x11 x14 x48 x49 x50 (fun x0 x2 x8 x9 x10 x11 x14 x48 x49 x50 x73 => onB x73 (reach_Back_Find_r14 F x0 x2 x8 x9 x10 x11 x14 x48 x49 x50 (fun x0 x2 x8 x9 x10 x11 x48 x49 x50 => reach_Back_Find_k3 F A2 x0 x2 x8 x9 x10 x11 x48 x49 x50)) (reach_Back_Find_r15 F x0 x2 x8 x9 x10 x11 x14 x48 x49 x50 (fun x0 x2 x8 x9 x10 x11 x14 x48 x49 x50 => reach_Back_Find_r16 F x0 x2 x8 x9 x10 x11 x14 x48 x49 x50 (fun x0 x2 x8 x9 x10 x11 x48 x49 x50 => reach_Back_Find_k3 F A2 x0 x2 x8 x9 x10 x11 x48 x49 x50))))))))) (E2_2 x0 x2 x8 x9 x10 x11))

def reach_Back_Find_l2 (F : Nat) (E2_2 : Value → Value → Value → Value → Value → Value → M Value) : Nat → Value → Value → Value → Value → Value → Value → Value → Value → Value → M Value
  | 0, _, _, _, _, _, _, _, _, _ => fail
  | k2 + 1, x0, x2, x8, x9, x10, x11, x48, x49, x50 => reach_Back_Find_b2 F E2_2 (reach_Back_Find_l2 F E2_2 k2) x0 x2 x8 x9 x10 x11 x48 x49 x50

theorem reach_Back_Find_l2_s (F : Nat) (E2_2 : Value → Value → Value → Value → Value → Value → M Value) (k2 : Nat) (x0 x2 x8 x9 x10 x11 x48 x49 x50 : Value) : reach_Back_Find_l2 F E2_2 (k2 + 1) x0 x2 x8 x9 x10 x11 x48 x49 x50 = reach_Back_Find_b2 F E2_2 (reach_Back_Find_l2 F E2_2 k2) x0 x2 x8 x9 x10 x11 x48 x49 x50 := rfl

def reach_Back_Find_r8 (F : Nat) (x0 x2 x8 x9 x10 x11 x12 : Value) (K : Value → Value → Value → Value → Value → Value → Value → Value → Value → M Value) : M Value :=
  bnd (opNil x0) fun v38 => bnd (opFieldAddr 1 v38) fun v39 => bnd (opLoad v39) fun v40 => bnd (opNil x0) fun v43 => bnd (opFieldAddr 0 v43) fun v44 => bnd (opLoad v44) fun v45 => bnd (opBin .sub x12 v45) fun v46 => bnd (opIndexAddr 1 v40 v46) fun v47 => bnd (opLoad v47) fun v48 => bnd (opLen v48) fun v49 => K x0 x2 x8 x9 x10 x11 v48 v49 (.int .i64 (0))

theorem reach_Back_Find_r8_ok (F : Nat) (x0 x2 x8 x9 x10 x11 x12 : Value) (K : Value → Value → Value → Value → Value → Value → Value → Value → Value → M Value) : reach_Back_Find_r8 F x0 x2 x8 x9 x10 x11 x12 K = reach_Back_Find_D F 8 [0, 1, 2, 3, 4, 5, 6, 7, 8, 9, 10, 11, 12, 13] [(12, x12), (11, x11), (10, x10), (9, x9), (8, x8), (2, x2), (0, x0)] [0, 2, 8, 9, 10, 11, 48, 49, 50] K := by kernel_rfl

theorem reach_Back_Find_r8_good : goodOrder (opsOf Try.f44 8) [0, 1, 2, 3, 4, 5, 6, 7, 8, 9, 10, 11, 12, 13] = true := by kernel_rfl

def reach_Back_Find_r7 (F : Nat) (x0 x2 x8 x9 x10 x11 x12 : Value) (K : Value → Value → Value → Value → Value → Value → Value → M Value) : M Value :=
  bnd (opSlice 1 x11 (some (.int .i64 (1))) none none) fun v36 => K x0 x2 x8 x9 x10 v36 x12

theorem reach_Back_Find_r7_ok (F : Nat) (x0 x2 x8 x9 x10 x11 x12 : Value) (K : Value → Value → Value → Value → Value → Value → Value → M Value) : reach_Back_Find_r7 F x0 x2 x8 x9 x10 x11 x12 K = reach_Back_Find_R F 7 [(12, x12), (11, x11), (10, x10), (9, x9), (8, x8), (2, x2), (0, x0)] [0, 2, 8, 9, 10, 11, 12] K := by kernel_rfl

def reach_Back_Find_r6 (F : Nat) (x0 x2 x8 x9 x10 x11 : Value) (K : Value → Value → Value → Value → Value → Value → Value → M Value) : M Value :=
  bnd (opIndexAddr 1 x11 (.int .i64 (0))) fun v33 => bnd (opLoad v33) fun v34 => K x0 x2 x8 x9 x10 x11 v34

theorem reach_Back_Find_r6_ok (F : Nat) (x0 x2 x8 x9 x10 x11 : Value) (K : Value → Value → Value → Value → Value → Value → Value → M Value) : reach_Back_Find_r6 F x0 x2 x8 x9 x10 x11 K = reach_Back_Find_R F 6 [(11, x11), (10, x10), (9, x9), (8, x8), (2, x2), (0, x0)] [0, 2, 8, 9, 10, 11, 12] K := by kernel_rfl

def reach_Back_Find_r5 (F : Nat) (x0 x2 x8 x9 x10 x11 : Value) (K : Value → Value → Value → Value → Value → Value → Value → M Value) : M Value :=
  bnd (opLen x11) fun v30 => bnd (opBin .gtr v30 (.int .i64 (0))) fun v31 => K x0 x2 x8 x9 x10 x11 v31

theorem reach_Back_Find_r5_ok (F : Nat) (x0 x2 x8 x9 x10 x11 : Value) (K : Value → Value → Value → Value → Value → Value → Value → M Value) : reach_Back_Find_r5 F x0 x2 x8 x9 x10 x11 K = reach_Back_Find_R F 5 [(11, x11), (10, x10), (9, x9), (8, x8), (2, x2), (0, x0)] [0, 2, 8, 9, 10, 11, 31] K := by kernel_rfl

def reach_Back_Find_b1 (F : Nat) (E1_0 : Value → Value → M Value) (A1 : Value → Value → Value → Value → Value → Value → M Value) (x0 x2 x8 x9 x10 x11 : Value) : M Value :=
  reach_Back_Find_r5 F x0 x2 x8 x9 x10 x11 (fun x0 x2 x8 x9 x10 x11 x31 => onB x31 (reach_Back_Find_r6 F x0 x2 x8 x9 x10 x11 (fun x0 x2 x8 x9 x10 x11 x12 => reach_Back_Find_r7 F x0 x2 x8 x9 x10 x11 x12 (fun x0 x2 x8 x9 x10 x11 x12 => reach_Back_Find_r8 F x0 x2 x8 x9 x10 x11 x12 (fun x0 x2 x8 x9 x10 x11 x48 x49 x50 => reach_Back_Find_l2 F (fun x0 x2 x8 x9 x10 x11 => A1 x0 x2 x8 x9 x10 x11) F x0 x2 x8 x9 x10 x11 x48 x49 x50)))) (E1_0 x8 x10))

def reach_Back_Find_l1 (F : Nat) (E1_0 : Value → Value → M Value) : Nat → Value → Value → Value → Value → Value → Value → M Value
  | 0, _, _, _, _, _, _ => fail
  | k1 + 1, x0, x2, x8, x9, x10, x11 => reach_Back_Find_b1 F E1_0 (reach_Back_Find_l1 F E1_0 k1) x0 x2 x8 x9 x10 x11

theorem reach_Back_Find_l1_s (F : Nat) (E1_0 : Value → Value → M Value) (k1 : Nat) (x0 x2 x8 x9 x10 x11 : Value) : reach_Back_Find_l1 F E1_0 (k1 + 1) x0 x2 x8 x9 x10 x11 = reach_Back_Find_b1 F E1_0 (reach_Back_Find_l1 F E1_0 k1) x0 x2 x8 x9 x10 x11 := rfl

def reach_Back_Find_r4 (F : Nat) (x0 x1 x2 x8 x9 x10 : Value) (K : Value → Value → Value → Value → Value → Value → M Value) : M Value :=
  bnd (opBuildSlice 1 (rep 1 [(.int .i64 (0))]) [(0, 1, false, x1)]) fun v28 => K x0 x2 x8 x9 x10 v28

theorem reach_Back_Find_r4_ok (F : Nat) (x0 x1 x2 x8 x9 x10 : Value) (K : Value → Value → Value → Value → Value → Value → M Value) : reach_Back_Find_r4 F x0 x1 x2 x8 x9 x10 K = reach_Back_Find_R F 4 [(10, x10), (9, x9), (8, x8), (2, x2), (1, x1), (0, x0)] [0, 2, 8, 9, 10, 11] K := by kernel_rfl

def reach_Back_Find_r3 (F : Nat) (x0 x1 x2 x8 x9 : Value) (K : Value → Value → Value → Value → Value → Value → M Value) : M Value :=
  bnd (opNil x0) fun v23 => bnd (opFieldAddr 0 v23) fun v24 => bnd (opLoad v24) fun v25 => bnd (opBin .eql x1 v25) fun v26 => K x0 x1 x2 x8 x9 v26

theorem reach_Back_Find_r3_ok (F : Nat) (x0 x1 x2 x8 x9 : Value) (K : Value → Value → Value → Value → Value → Value → M Value) : reach_Back_Find_r3 F x0 x1 x2 x8 x9 K = reach_Back_Find_R F 3 [(9, x9), (8, x8), (2, x2), (1, x1), (0, x0)] [0, 1, 2, 8, 9, 10] K := by kernel_rfl

def reach_Back_Find_r2 (F : Nat) (x0 x1 x2 x8 : Value) (K : Value → Value → Value → Value → Value → M Value) : M Value :=
  bnd (opNil x0) fun v16 => bnd (opFieldAddr 1 v16) fun v17 => bnd (opLoad v17) fun v18 => bnd (opLen v18) fun v19 => bnd (opMake 1 [(.bool false)] v19 v19) fun v20 => K x0 x1 x2 x8 v20

theorem reach_Back_Find_r2_ok (F : Nat) (x0 x1 x2 x8 : Value) (K : Value → Value → Value → Value → Value → M Value) : reach_Back_Find_r2 F x0 x1 x2 x8 K = reach_Back_Find_R F 2 [(8, x8), (2, x2), (1, x1), (0, x0)] [0, 1, 2, 8, 9] K := by kernel_rfl

def reach_Back_Find_r1 (F : Nat) (x0 x1 x2 : Value) (K : Value → Value → Value → Value → M Value) : M Value :=
  K x0 x1 x2 (.slice none 0 0)

theorem reach_Back_Find_r1_ok (F : Nat) (x0 x1 x2 : Value) (K : Value → Value → Value → Value → M Value) : reach_Back_Find_r1 F x0 x1 x2 K = reach_Back_Find_R F 1 [(2, x2), (1, x1), (0, x0)] [0, 1, 2, 8] K := by kernel_rfl

def reach_Back_Find_r0 (F : Nat) (x0 x1 x2 : Value) (K : Value → Value → Value → M Value) : M Value :=
  K x0 x1 x2

theorem reach_Back_Find_r0_ok (F : Nat) (x0 x1 x2 : Value) (K : Value → Value → Value → M Value) : reach_Back_Find_r0 F x0 x1 x2 K = reach_Back_Find_R F 0 [(2, x2), (1, x1), (0, x0)] [0, 1, 2] K := by kernel_rfl

def reach_Back_Find (F : Nat) (x0 x1 x2 : Value) : M Value :=
  reach_Back_Find_r0 F x0 x1 x2 (fun x0 x1 x2 => reach_Back_Find_r1 F x0 x1 x2 (fun x0 x1 x2 x8 => reach_Back_Find_r2 F x0 x1 x2 x8 (fun x0 x1 x2 x8 x9 => reach_Back_Find_r3 F x0 x1 x2 x8 x9 (fun x0 x1 x2 x8 x9 x10 => reach_Back_Find_r4 F x0 x1 x2 x8 x9 x10 (fun x0 x2 x8 x9 x10 x11 => reach_Back_Find_l1 F (fun x8 x10 => reach_Back_Find_k0 F x8 x10) F x0 x2 x8 x9 x10 x11)))))

def reach_Back_Find_m (F : Nat) : List Value → M Value
  | [x0, x1, x2] => reach_Back_Find F x0 x1 x2
  | _ => fail

theorem reach_Back_Find_body : Try.f44.body = some (.seq (.region 0 (opsOf Try.f44 0) false) (.seq (.region 1 (opsOf Try.f44 1) false) (.seq (.region 2 (opsOf Try.f44 2) false) (.seq (.region 3 (opsOf Try.f44 3) false) (.seq (.region 4 (opsOf Try.f44 4) false) (.seq (.block 0 (.loop (.seq (.seq (.region 5 (opsOf Try.f44 5) false) (.cond (.tmp 31) .skip (.exit 0))) (.block 1 (.scope (.seq (.region 6 (opsOf Try.f44 6) false) (.seq (.region 7 (opsOf Try.f44 7) false) (.seq (.label 0) (.seq (.region 8 (opsOf Try.f44 8) true) (.block 2 (.loop (.seq (.region 9 (opsOf Try.f44 9) false) (.seq (.cond (.tmp 51) .skip (.exit 2)) (.seq (.block 3 (.seq (.region 10 (opsOf Try.f44 10) false) (.seq (.seq (.region 11 (opsOf Try.f44 11) false) (.cond (.tmp 62) (.exit 3) .skip)) (.seq (.region 12 (opsOf Try.f44 12) false) (.seq (.seq (.region 13 (opsOf Try.f44 13) false) (.cond (.tmp 73) (.seq (.region 14 (opsOf Try.f44 14) false) (.exit 3)) .skip)) (.seq (.region 15 (opsOf Try.f44 15) false) (.region 16 (opsOf Try.f44 16) false))))))) (.region 17 (opsOf Try.f44 17) false))))))))))))))) (.seq (.region 18 (opsOf Try.f44 18) false) (.seq (.region 19 (opsOf Try.f44 19) false) .ret)))))))) := by kernel_rfl

theorem reach_Back_Find_ok (F : Nat) : Sim Try.prog TryG 44 (reach_Back_Find_m F) := by
 have hE : EnvOK Try.prog TryG (reach_Back_Find_env F) := (EnvOK.cons (slices_Sort_ok F) (EnvOK.cons (reach_Some_1_ok F) EnvOK.nil))
 refine Sim.of_body (E := reach_Back_Find_env F) Try.func44 reach_Back_Find_body Try.call44 ?_ ?_
 · intro args hl; unfold reach_Back_Find_m; split
   · exact absurd hl (Nat.not_lt.2 (Nat.le_of_ble_eq_true rfl))
   · rfl
 · intro args ρ h w z; unfold reach_Back_Find_m; split
   · rename_i x0 x1 x2; show OKc _ _ [(0, x0), (1, x1), (2, x2)] _ _
     refine rSeq ?_
     refine cLess [2, 1, 0] ?_
     refine xR hE [0, 1, 2] rfl (reach_Back_Find_r0_ok F _ _ _ _) ?_
     intro x0 x1 x2
     show OKq _ _ _ [(2, x2), (1, x1), (0, x0)] _
     refine rThen ?_
     refine rSeq ?_
     refine cLess [2, 1, 0] ?_
     refine xR hE [0, 1, 2, 8] rfl (reach_Back_Find_r1_ok F _ _ _ _) ?_
     intro x0 x1 x2 x8
     show OKq _ _ _ [(8, x8), (2, x2), (1, x1), (0, x0)] _
     refine rThen ?_
     refine rSeq ?_
     refine cLess [8, 2, 1, 0] ?_
     refine xR hE [0, 1, 2, 8, 9] rfl (reach_Back_Find_r2_ok F _ _ _ _ _) ?_
     intro x0 x1 x2 x8 x9
     show OKq _ _ _ [(9, x9), (8, x8), (2, x2), (1, x1), (0, x0)] _
     refine rThen ?_
     refine rSeq ?_
     refine cLess [9, 8, 2, 1, 0] ?_
     refine xR hE [0, 1, 2, 8, 9, 10] rfl (reach_Back_Find_r3_ok F _ _ _ _ _ _) ?_
     intro x0 x1 x2 x8 x9 x10
     show OKq _ _ _ [(10, x10), (9, x9), (8, x8), (2, x2), (1, x1), (0, x0)] _
     refine rThen ?_
     refine rSeq ?_
     refine cLess [10, 9, 8, 2, 1, 0] ?_
     refine xR hE [0, 2, 8, 9, 10, 11] rfl (reach_Back_Find_r4_ok F _ _ _ _ _ _ _) ?_
     intro x0 x2 x8 x9 x10 x11
     show OKq _ _ _ [(11, x11), (10, x10), (9, x9), (8, x8), (2, x2), (0, x0)] _
     refine rThen ?_
     refine xSeq [8, 10] (reach_Back_Find_k0 F ) ?_ fun hj0 => ?_
     · intro x8 x10
       show OKc _ _ [(10, x10), (8, x8)] _ _
       refine rSeq ?_
       refine cLess [10, 8] ?_
       refine xR hE [8, 10] rfl (reach_Back_Find_r18_ok F _ _ _) ?_
       intro x8 x10
       show OKq _ _ _ [(10, x10), (8, x8)] _
       refine rThen ?_
       refine rSeq ?_
       refine cLess [10, 8] ?_
       refine xR hE [6, 7] rfl (reach_Back_Find_r19_ok F _ _ _) ?_
       intro x6 x7
       show OKq _ _ _ [(7, x7), (6, x6)] _
       refine rThen ?_
       refine rRet ?_
       exact rDone (.inr rfl) rfl
     · refine rBlock ?_
       refine cLess [11, 10, 9, 8, 2, 0] ?_
       refine xLoopAt [0, 2, 8, 9, 10, 11] [] (fun k1 => reach_Back_Find_l1 F (fun x8 x10 => reach_Back_Find_k0 F x8 x10) k1) F [x0, x2, x8, x9, x10, x11] rfl rfl (fun _ _ _ _ _ _ => rfl) fun I hI1 k1 => ?_
       intro x0 x2 x8 x9 x10 x11
       show OKc _ _ [(11, x11), (10, x10), (9, x9), (8, x8), (2, x2), (0, x0)] _ _
       refine cAs (reach_Back_Find_l1_s F _ _ _ _ _ _ _ _) ?_
       refine rSeq ?_
       refine rSeq ?_
       refine cLess [11, 10, 9, 8, 2, 0] ?_
       refine xR hE [0, 2, 8, 9, 10, 11, 31] rfl (reach_Back_Find_r5_ok F _ _ _ _ _ _ _) ?_
       intro x0 x2 x8 x9 x10 x11 x31
       show OKq _ _ _ [(31, x31), (11, x11), (10, x10), (9, x9), (8, x8), (2, x2), (0, x0)] _
       refine rThen ?_
       refine xCond rfl rfl ?_ ?_
       · refine rSkip ?_
         refine rThen ?_
         refine rBlock ?_
         refine rScope ?_
         refine rSeq ?_
         refine cLess [11, 10, 9, 8, 2, 0] ?_
         refine xR hE [0, 2, 8, 9, 10, 11, 12] rfl (reach_Back_Find_r6_ok F _ _ _ _ _ _ _) ?_
         intro x0 x2 x8 x9 x10 x11 x12
         show OKq _ _ _ [(12, x12), (11, x11), (10, x10), (9, x9), (8, x8), (2, x2), (0, x0)] _
         refine rThen ?_
         refine rSeq ?_
         refine cLess [12, 11, 10, 9, 8, 2, 0] ?_
         refine xR hE [0, 2, 8, 9, 10, 11, 12] rfl (reach_Back_Find_r7_ok F _ _ _ _ _ _ _ _) ?_
         intro x0 x2 x8 x9 x10 x11 x12
         show OKq _ _ _ [(12, x12), (11, x11), (10, x10), (9, x9), (8, x8), (2, x2), (0, x0)] _
         refine rThen ?_
         refine rSeq ?_
         refine rLabel ?_
         refine rThen ?_
         refine rSeq ?_
         refine cLess [12, 11, 10, 9, 8, 2, 0] ?_
         refine xD Trymix hE [0, 2, 8, 9, 10, 11, 48, 49, 50] rfl reach_Back_Find_r8_good (reach_Back_Find_r8_ok F _ _ _ _ _ _ _ _) ?_
         intro x0 x2 x8 x9 x10 x11 x48 x49 x50
         show OKq _ _ _ [(50, x50), (49, x49), (48, x48), (11, x11), (10, x10), (9, x9), (8, x8), (2, x2), (0, x0)] _
         refine rThen ?_
         refine rBlock ?_
         refine cLess [50, 49, 48, 11, 10, 9, 8, 2, 0] ?_
         refine xLoopAt [0, 2, 8, 9, 10, 11, 48, 49, 50] [] (fun k2 => reach_Back_Find_l2 F (fun x0 x2 x8 x9 x10 x11 => (reach_Back_Find_l1 F (fun x8 x10 => reach_Back_Find_k0 F x8 x10) k1) x0 x2 x8 x9 x10 x11) k2) F [x0, x2, x8, x9, x10, x11, x48, x49, x50] rfl rfl (fun _ _ _ _ _ _ _ _ _ => rfl) fun I hI2 k2 => ?_
         intro x0 x2 x8 x9 x10 x11 x48 x49 x50
         show OKc _ _ [(50, x50), (49, x49), (48, x48), (11, x11), (10, x10), (9, x9), (8, x8), (2, x2), (0, x0)] _ _
         refine cAs (reach_Back_Find_l2_s F _ _ _ _ _ _ _ _ _ _ _) ?_
         refine rSeq ?_
         refine cLess [50, 49, 48, 11, 10, 9, 8, 2, 0] ?_
         refine xR hE [0, 2, 8, 9, 10, 11, 48, 49, 50, 51] rfl (reach_Back_Find_r9_ok F _ _ _ _ _ _ _ _ _ _) ?_
         intro x0 x2 x8 x9 x10 x11 x48 x49 x50 x51
         show OKq _ _ _ [(51, x51), (50, x50), (49, x49), (48, x48), (11, x11), (10, x10), (9, x9), (8, x8), (2, x2), (0, x0)] _
         refine rThen ?_
         refine rSeq ?_
         refine xCond rfl rfl ?_ ?_
         · refine rSkip ?_
           refine rThen ?_
           refine xSeq [0, 2, 8, 9, 10, 11, 48, 49, 50] (reach_Back_Find_k3 F (reach_Back_Find_l2 F (fun x0 x2 x8 x9 x10 x11 => (reach_Back_Find_l1 F (fun x8 x10 => reach_Back_Find_k0 F x8 x10) k1) x0 x2 x8 x9 x10 x11) k2) ) ?_ fun hj3 => ?_
           · intro x0 x2 x8 x9 x10 x11 x48 x49 x50
             show OKc _ _ [(50, x50), (49, x49), (48, x48), (11, x11), (10, x10), (9, x9), (8, x8), (2, x2), (0, x0)] _ _
             refine cLess [50, 49, 48, 11, 10, 9, 8, 2, 0] ?_
             refine xR hE [0, 2, 8, 9, 10, 11, 48, 49, 50] rfl (reach_Back_Find_r17_ok F _ _ _ _ _ _ _ _ _ _) ?_
             intro x0 x2 x8 x9 x10 x11 x48 x49 x50
             show OKq _ _ _ [(50, x50), (49, x49), (48, x48), (11, x11), (10, x10), (9, x9), (8, x8), (2, x2), (0, x0)] _
             exact qLess [50, 49, 48, 11, 10, 9, 8, 2, 0] (hI2 k2 x0 x2 x8 x9 x10 x11 x48 x49 x50)
           · refine rBlock ?_
             refine rSeq ?_
             refine cLess [50, 49, 48, 11, 10, 9, 8, 2, 0] ?_
             refine xR hE [0, 2, 8, 9, 10, 11, 14, 48, 49, 50] rfl (reach_Back_Find_r10_ok F _ _ _ _ _ _ _ _ _ _) ?_
             intro x0 x2 x8 x9 x10 x11 x14 x48 x49 x50
             show OKq _ _ _ [(50, x50), (49, x49), (48, x48), (14, x14), (11, x11), (10, x10), (9, x9), (8, x8), (2, x2), (0, x0)] _
             refine rThen ?_
             refine rSeq ?_
             refine rSeq ?_
             refine cLess [50, 49, 48, 14, 11, 10, 9, 8, 2, 0] ?_
             refine xR hE [0, 2, 8, 9, 10, 11, 14, 48, 49, 50, 62] rfl (reach_Back_Find_r11_ok F _ _ _ _ _ _ _ _ _ _ _) ?_
             intro x0 x2 x8 x9 x10 x11 x14 x48 x49 x50 x62
             show OKq _ _ _ [(62, x62), (50, x50), (49, x49), (48, x48), (14, x14), (11, x11), (10, x10), (9, x9), (8, x8), (2, x2), (0, x0)] _
             refine rThen ?_
             refine xCond rfl rfl ?_ ?_
             · refine rExit ?_
               refine xThenX ?_
               refine rOut ?_
               exact qLess [50, 49, 48, 11, 10, 9, 8, 2, 0] (hj3 x0 x2 x8 x9 x10 x11 x48 x49 x50)
             · refine rSkip ?_
               refine rThen ?_
               refine rSeq ?_
               refine cLess [50, 49, 48, 14, 11, 10, 9, 8, 2, 0] ?_
               refine xR hE [0, 2, 8, 9, 10, 11, 14, 48, 49, 50] rfl (reach_Back_Find_r12_ok F _ _ _ _ _ _ _ _ _ _ _) ?_
               intro x0 x2 x8 x9 x10 x11 x14 x48 x49 x50
               show OKq _ _ _ [(50, x50), (49, x49), (48, x48), (14, x14), (11, x11), (10, x10), (9, x9), (8, x8), (2, x2), (0, x0)] _
               refine rThen ?_
               refine rSeq ?_
               refine rSeq ?_
               refine cLess [50, 49, 48, 14, 11, 10, 9, 8, 2, 0] ?_
               refine xR hE [0, 2, 8, 9, 10, 11, 14, 48, 49, 50, 73] rfl (reach_Back_Find_r13_ok F _ _ _ _ _ _ _ _ _ _ _) ?_
               intro x0 x2 x8 x9 x10 x11 x14 x48 x49 x50 x73
               show OKq _ _ _ [(73, x73), (50, x50), (49, x49), (48, x48), (14, x14), (11, x11), (10, x10), (9, x9), (8, x8), (2, x2), (0, x0)] _
               refine rThen ?_
               refine xCond rfl rfl ?_ ?_
               · refine rSeq ?_
                 refine cLess [50, 49, 48, 14, 11, 10, 9, 8, 2, 0] ?_
                 refine xR hE [0, 2, 8, 9, 10, 11, 48, 49, 50] rfl (reach_Back_Find_r14_ok F _ _ _ _ _ _ _ _ _ _ _) ?_
                 intro x0 x2 x8 x9 x10 x11 x48 x49 x50
                 show OKq _ _ _ [(50, x50), (49, x49), (48, x48), (11, x11), (10, x10), (9, x9), (8, x8), (2, x2), (0, x0)] _
                 refine rThen ?_
                 refine rExit ?_
                 refine xThenX ?_
                 refine rOut ?_
                 exact qLess [50, 49, 48, 11, 10, 9, 8, 2, 0] (hj3 x0 x2 x8 x9 x10 x11 x48 x49 x50)
               · refine rSkip ?_
                 refine rThen ?_
                 refine rSeq ?_
                 refine cLess [50, 49, 48, 14, 11, 10, 9, 8, 2, 0] ?_
                 refine xR hE [0, 2, 8, 9, 10, 11, 14, 48, 49, 50] rfl (reach_Back_Find_r15_ok F _ _ _ _ _ _ _ _ _ _ _) ?_
                 intro x0 x2 x8 x9 x10 x11 x14 x48 x49 x50
                 show OKq _ _ _ [(50, x50), (49, x49), (48, x48), (14, x14), (11, x11), (10, x10), (9, x9), (8, x8), (2, x2), (0, x0)] _
                 refine rThen ?_
                 refine cLess [50, 49, 48, 14, 11, 10, 9, 8, 2, 0] ?_
                 refine xR hE [0, 2, 8, 9, 10, 11, 48, 49, 50] rfl (reach_Back_Find_r16_ok F _ _ _ _ _ _ _ _ _ _ _) ?_
                 intro x0 x2 x8 x9 x10 x11 x48 x49 x50
                 show OKq _ _ _ [(50, x50), (49, x49), (48, x48), (11, x11), (10, x10), (9, x9), (8, x8), (2, x2), (0, x0)] _
                 refine xBlockN ?_
                 exact qLess [50, 49, 48, 11, 10, 9, 8, 2, 0] (hj3 x0 x2 x8 x9 x10 x11 x48 x49 x50)
         · refine rExit ?_
           refine xThenX ?_
           refine xThenX ?_
           refine rOut ?_
           refine xScN ?_
           refine xBlockN ?_
           exact qLess [11, 10, 9, 8, 2, 0] (hI1 k1 x0 x2 x8 x9 x10 x11)
       · refine rExit ?_
         refine xThenX ?_
         refine xThenX ?_
         refine rOut ?_
         exact qLess [10, 8] (hj0 x8 x10)
   · exact rFail


/-! ### haruspex/reach.Some -/

def reach_Some_env (F : Nat) : Env := envOf [(44, reach_Back_Find_m F), (45, reach_Some_1_m F)]

noncomputable def reach_Some_R (F : Nat) := rK Try.prog TryG (reach_Some_env F) Try.f28
noncomputable def reach_Some_D (F : Nat) := dK Try.prog TryG (reach_Some_env F) Try.f28

def reach_Some_r11 (F : Nat) (x13 : Value) (K : Value → M Value) : M Value :=
  K x13

theorem reach_Some_r11_ok (F : Nat) (x13 : Value) (K : Value → M Value) : reach_Some_r11 F x13 K = reach_Some_R F 11 [(13, x13)] [10] K := by kernel_rfl

def reach_Some_k0 (F : Nat) (x13 : Value) : M Value :=
  reach_Some_r11 F x13 (fun x10 => ret x10)

def reach_Some_r10 (F : Nat) (x13 x65 x66 x67 : Value) (K : Value → Value → Value → Value → M Value) : M Value :=
  bnd (opBin .add x67 (.int .i64 (1))) fun v76 => K x13 x65 x66 v76

theorem reach_Some_r10_ok (F : Nat) (x13 x65 x66 x67 : Value) (K : Value → Value → Value → Value → M Value) : reach_Some_r10 F x13 x65 x66 x67 K = reach_Some_R F 10 [(67, x67), (66, x66), (65, x65), (13, x13)] [13, 65, 66, 67] K := by kernel_rfl

def reach_Some_r9 (F : Nat) (x13 x16 x65 x66 x67 : Value) (K : Value → Value → Value → Value → M Value) : M Value :=
  bnd (opBuild [(.int .i64 (0)), (.int .i64 (0)), (.int .i64 (0)), (.int .i64 (0)), (.int .i64 (0))] [(0, 1, false, (.int .i64 (1))), (1, 1, false, x16)]) fun v73 => bnd (opBuildSlice 1 (rep 1 [(.int .i64 (0)), (.int .i64 (0)), (.int .i64 (0)), (.int .i64 (0)), (.int .i64 (0))]) [(0, 5, true, v73)]) fun v74 => bnd (opAppend 5 40 x13 v74) fun v75 => K v75 x65 x66 x67

theorem reach_Some_r9_ok (F : Nat) (x13 x16 x65 x66 x67 : Value) (K : Value → Value → Value → Value → M Value) : reach_Some_r9 F x13 x16 x65 x66 x67 K = reach_Some_R F 9 [(67, x67), (66, x66), (65, x65), (16, x16), (13, x13)] [13, 65, 66, 67] K := by kernel_rfl

def reach_Some_r8 (F : Nat) (x13 x65 x66 x67 : Value) (K : Value → Value → Value → Value → Value → M Value) : M Value :=
  bnd (opIndexAddr 1 x65 x67) fun v69 => bnd (opLoad v69) fun v70 => K x13 v70 x65 x66 x67

theorem reach_Some_r8_ok (F : Nat) (x13 x65 x66 x67 : Value) (K : Value → Value → Value → Value → Value → M Value) : reach_Some_r8 F x13 x65 x66 x67 K = reach_Some_R F 8 [(67, x67), (66, x66), (65, x65), (13, x13)] [13, 16, 65, 66, 67] K := by kernel_rfl

def reach_Some_r7 (F : Nat) (x13 x65 x66 x67 : Value) (K : Value → Value → Value → Value → Value → M Value) : M Value :=
  bnd (opBin .lss x67 x66) fun v68 => K x13 x65 x66 x67 v68

theorem reach_Some_r7_ok (F : Nat) (x13 x65 x66 x67 : Value) (K : Value → Value → Value → Value → Value → M Value) : reach_Some_r7 F x13 x65 x66 x67 K = reach_Some_R F 7 [(67, x67), (66, x66), (65, x65), (13, x13)] [13, 65, 66, 67, 68] K := by kernel_rfl

def reach_Some_b1 (F : Nat) (E1_0 : Value → M Value) (A1 : Value → Value → Value → Value → M Value) (x13 x65 x66 x67 : Value) : M Value :=
  reach_Some_r7 F x13 x65 x66 x67 (fun x13 x65 x66 x67 x68 => onB x68 (reach_Some_r8 F x13 x65 x66 x67 (fun x13 x16 x65 x66 x67 => reach_Some_r9 F x13 x16 x65 x66 x67 (fun x13 x65 x66 x67 => reach_Some_r10 F x13 x65 x66 x67 (fun x13 x65 x66 x67 => A1 x13 x65 x66 x67)))) (E1_0 x13))

def reach_Some_l1 (F : Nat) (E1_0 : Value → M Value) : Nat → Value → Value → Value → Value → M Value
  | 0, _, _, _, _ => fail
  | k1 + 1, x13, x65, x66, x67 => reach_Some_b1 F E1_0 (reach_Some_l1 F E1_0 k1) x13 x65 x66 x67

theorem reach_Some_l1_s (F : Nat) (E1_0 : Value → M Value) (k1 : Nat) (x13 x65 x66 x67 : Value) : reach_Some_l1 F E1_0 (k1 + 1) x13 x65 x66 x67 = reach_Some_b1 F E1_0 (reach_Some_l1 F E1_0 k1) x13 x65 x66 x67 := rfl

def reach_Some_r6 (F : Nat) (x11 x13 : Value) (K : Value → Value → Value → Value → M Value) : M Value :=
  bnd (opLen x11) fun v66 => K x13 x11 v66 (.int .i64 (0))

theorem reach_Some_r6_ok (F : Nat) (x11 x13 : Value) (K : Value → Value → Value → Value → M Value) : reach_Some_r6 F x11 x13 K = reach_Some_R F 6 [(13, x13), (11, x11)] [13, 65, 66, 67] K := by kernel_rfl

def reach_Some_k2 (F : Nat) (x11 x13 : Value) : M Value :=
  reach_Some_r6 F x11 x13 (fun x13 x65 x66 x67 => reach_Some_l1 F (fun x13 => reach_Some_k0 F x13) F x13 x65 x66 x67)

def reach_Some_r5 (F : Nat) (x2 x9 x11 x13 : Value) (K : Value → Value → M Value) : M Value :=
  bnd (opLoad x9) fun v61 => bnd (opBuild [(.int .i64 (0)), (.int .i64 (0)), (.int .i64 (0)), (.int .i64 (0)), (.int .i64 (0))] [(0, 1, false, (.int .i64 (2))), (1, 1, false, x2), (2, 1, false, v61)]) fun v62 => bnd (opBuildSlice 1 (rep 1 [(.int .i64 (0)), (.int .i64 (0)), (.int .i64 (0)), (.int .i64 (0)), (.int .i64 (0))]) [(0, 5, true, v62)]) fun v63 => bnd (opAppend 5 40 x13 v63) fun v64 => K x11 v64

theorem reach_Some_r5_ok (F : Nat) (x2 x9 x11 x13 : Value) (K : Value → Value → M Value) : reach_Some_r5 F x2 x9 x11 x13 K = reach_Some_R F 5 [(13, x13), (11, x11), (9, x9), (2, x2)] [11, 13] K := by kernel_rfl

def reach_Some_r4 (F : Nat) (x2 x5 x9 x11 x12 x13 x14 : Value) (K : Value → Value → Value → Value → Value → M Value) : M Value :=
  onB x12 (bnd (opBin .geq x14 (.int .i64 (0))) fun v35 => onB v35 (bnd (opLoad x5) fun v39 => bnd (opNil v39) fun v40 => bnd (opFieldAddr 1 v40) fun v41 => bnd (opLoad v41) fun v42 => bnd (opLen v42) fun v43 => bnd (opBin .lss x14 v43) fun v44 => onB v44 (bnd (opLoad x9) fun v47 => bnd (opLoad x5) fun v48 => bnd (opNil v48) fun v49 => bnd (opFieldAddr 1 v49) fun v50 => bnd (opLoad v50) fun v51 => bnd (opIndexAddr 3 v51 x14) fun v53 => bnd (opFieldAddr 0 v53) fun v54 => bnd (opLoad v54) fun v55 => bnd (opLen v55) fun v56 => bnd (opBin .lss v47 v56) fun v57 => K x2 x9 x11 x13 v57) (K x2 x9 x11 x13 (.bool false))) (K x2 x9 x11 x13 (.bool false))) (K x2 x9 x11 x13 (.bool false))

theorem reach_Some_r4_ok (F : Nat) (x2 x5 x9 x11 x12 x13 x14 : Value) (K : Value → Value → Value → Value → Value → M Value) : reach_Some_r4 F x2 x5 x9 x11 x12 x13 x14 K = reach_Some_D F 4 [0, 1, 2, 3, 4, 5, 6, 7, 8, 9, 10, 11, 12, 13, 14, 15, 16, 17, 18, 19, 20, 21, 22, 23, 24, 25, 26] [(14, x14), (13, x13), (12, x12), (11, x11), (9, x9), (5, x5), (2, x2)] [2, 9, 11, 13, 58] K := by kernel_rfl

theorem reach_Some_r4_good : goodOrder (opsOf Try.f28 4) [0, 1, 2, 3, 4, 5, 6, 7, 8, 9, 10, 11, 12, 13, 14, 15, 16, 17, 18, 19, 20, 21, 22, 23, 24, 25, 26] = true := by kernel_rfl

def reach_Some_r3 (F : Nat) (x2 x5 x9 x11 x12 x13 : Value) (K : Value → Value → Value → Value → Value → Value → Value → M Value) : M Value :=
  bnd (opLoad x5) fun v24 => bnd (opNil v24) fun v25 => bnd (opFieldAddr 4 v25) fun v26 => bnd (opLoad v26) fun v27 => bnd (opIndexAddr 3 v27 x2) fun v29 => bnd (opFieldAddr 0 v29) fun v30 => bnd (opLoad v30) fun v31 => K x2 x5 x9 x11 x12 x13 v31

theorem reach_Some_r3_ok (F : Nat) (x2 x5 x9 x11 x12 x13 : Value) (K : Value → Value → Value → Value → Value → Value → Value → M Value) : reach_Some_r3 F x2 x5 x9 x11 x12 x13 K = reach_Some_R F 3 [(13, x13), (12, x12), (11, x11), (9, x9), (5, x5), (2, x2)] [2, 5, 9, 11, 12, 13, 14] K := by kernel_rfl

def reach_Some_r2 (F : Nat) (x2 x5 x9 x11 x12 : Value) (K : Value → Value → Value → Value → Value → Value → M Value) : M Value :=
  K x2 x5 x9 x11 x12 (.slice none 0 0)

theorem reach_Some_r2_ok (F : Nat) (x2 x5 x9 x11 x12 : Value) (K : Value → Value → Value → Value → Value → Value → M Value) : reach_Some_r2 F x2 x5 x9 x11 x12 K = reach_Some_R F 2 [(12, x12), (11, x11), (9, x9), (5, x5), (2, x2)] [2, 5, 9, 11, 12, 13] K := by kernel_rfl

def reach_Some_r1 (F : Nat) (x1 x2 x3 x5 x9 : Value) (K : Value → Value → Value → Value → Value → M Value) : M Value :=
  bnd (opFunc (.func 45) [x5, x9]) fun v20 => bnd (reach_Back_Find F x1 x3 v20) fun v21 => bnd (opExtract v21 0) fun v22 => bnd (opExtract v21 1) fun v23 => K x2 x5 x9 v22 v23

theorem reach_Some_r1_ok (F : Nat) (x1 x2 x3 x5 x9 : Value) (K : Value → Value → Value → Value → Value → M Value) : reach_Some_r1 F x1 x2 x3 x5 x9 K = reach_Some_R F 1 [(9, x9), (5, x5), (3, x3), (2, x2), (1, x1)] [2, 5, 9, 11, 12] K := by kernel_rfl

def reach_Some_r0 (F : Nat) (x0 x1 x2 x3 x4 : Value) (K : Value → Value → Value → Value → Value → M Value) : M Value :=
  bnd (opPtr [x0]) fun v5 => bnd (opPtr [x4]) fun v9 => K x1 x2 x3 v5 v9

theorem reach_Some_r0_ok (F : Nat) (x0 x1 x2 x3 x4 : Value) (K : Value → Value → Value → Value → Value → M Value) : reach_Some_r0 F x0 x1 x2 x3 x4 K = reach_Some_R F 0 [(4, x4), (3, x3), (2, x2), (1, x1), (0, x0)] [1, 2, 3, 5, 9] K := by kernel_rfl

def reach_Some (F : Nat) (x0 x1 x2 x3 x4 : Value) : M Value :=
  reach_Some_r0 F x0 x1 x2 x3 x4 (fun x1 x2 x3 x5 x9 => reach_Some_r1 F x1 x2 x3 x5 x9 (fun x2 x5 x9 x11 x12 => reach_Some_r2 F x2 x5 x9 x11 x12 (fun x2 x5 x9 x11 x12 x13 => reach_Some_r3 F x2 x5 x9 x11 x12 x13 (fun x2 x5 x9 x11 x12 x13 x14 => reach_Some_r4 F x2 x5 x9 x11 x12 x13 x14 (fun x2 x9 x11 x13 x58 => onB x58 (reach_Some_r5 F x2 x9 x11 x13 (fun x11 x13 => reach_Some_k2 F x11 x13)) (reach_Some_k2 F x11 x13))))))

def reach_Some_m (F : Nat) : List Value → M Value
  | [x0, x1, x2, x3, x4] => reach_Some F x0 x1 x2 x3 x4
  | _ => fail

theorem reach_Some_body : Try.f28.body = some (.seq (.region 0 (opsOf Try.f28 0) false) (.seq (.region 1 (opsOf Try.f28 1) false) (.seq (.region 2 (opsOf Try.f28 2) false) (.seq (.seq (.region 3 (opsOf Try.f28 3) false) (.seq (.region 4 (opsOf Try.f28 4) true) (.cond (.tmp 58) (.region 5 (opsOf Try.f28 5) false) .skip))) (.seq (.seq (.region 6 (opsOf Try.f28 6) false) (.block 0 (.loop (.seq (.region 7 (opsOf Try.f28 7) false) (.seq (.cond (.tmp 68) .skip (.exit 0)) (.seq (.block 1 (.seq (.region 8 (opsOf Try.f28 8) false) (.region 9 (opsOf Try.f28 9) false))) (.region 10 (opsOf Try.f28 10) false))))))) (.seq (.region 11 (opsOf Try.f28 11) false) .ret)))))) := by kernel_rfl

theorem reach_Some_ok (F : Nat) : Sim Try.prog TryG 28 (reach_Some_m F) := by
 have hE : EnvOK Try.prog TryG (reach_Some_env F) := (EnvOK.cons (reach_Back_Find_ok F) (EnvOK.cons (reach_Some_1_ok F) EnvOK.nil))
 refine Sim.of_body (E := reach_Some_env F) Try.func28 reach_Some_body Try.call28 ?_ ?_
 · intro args hl; unfold reach_Some_m; split
   · exact absurd hl (Nat.not_lt.2 (Nat.le_of_ble_eq_true rfl))
   · rfl
 · intro args ρ h w z; unfold reach_Some_m; split
   · rename_i x0 x1 x2 x3 x4; show OKc _ _ [(0, x0), (1, x1), (2, x2), (3, x3), (4, x4)] _ _
     refine rSeq ?_
     refine cLess [4, 3, 2, 1, 0] ?_
     refine xR hE [1, 2, 3, 5, 9] rfl (reach_Some_r0_ok F _ _ _ _ _ _) ?_
     intro x1 x2 x3 x5 x9
     show OKq _ _ _ [(9, x9), (5, x5), (3, x3), (2, x2), (1, x1)] _
     refine rThen ?_
     refine rSeq ?_
     refine cLess [9, 5, 3, 2, 1] ?_
     refine xR hE [2, 5, 9, 11, 12] rfl (reach_Some_r1_ok F _ _ _ _ _ _) ?_
     intro x2 x5 x9 x11 x12
     show OKq _ _ _ [(12, x12), (11, x11), (9, x9), (5, x5), (2, x2)] _
     refine rThen ?_
     refine rSeq ?_
     refine cLess [12, 11, 9, 5, 2] ?_
     refine xR hE [2, 5, 9, 11, 12, 13] rfl (reach_Some_r2_ok F _ _ _ _ _ _) ?_
     intro x2 x5 x9 x11 x12 x13
     show OKq _ _ _ [(13, x13), (12, x12), (11, x11), (9, x9), (5, x5), (2, x2)] _
     refine rThen ?_
     refine xSeq [11, 13] (reach_Some_k2 F ) ?_ fun hj2 => ?_
     · intro x11 x13
       show OKc _ _ [(13, x13), (11, x11)] _ _
       refine xSeq [13] (reach_Some_k0 F ) ?_ fun hj0 => ?_
       · intro x13
         show OKc _ _ [(13, x13)] _ _
         refine rSeq ?_
         refine cLess [13] ?_
         refine xR hE [10] rfl (reach_Some_r11_ok F _ _) ?_
         intro x10
         show OKq _ _ _ [(10, x10)] _
         refine rThen ?_
         refine rRet ?_
         exact rDone (.inr rfl) rfl
       · refine rSeq ?_
         refine cLess [13, 11] ?_
         refine xR hE [13, 65, 66, 67] rfl (reach_Some_r6_ok F _ _ _) ?_
         intro x13 x65 x66 x67
         show OKq _ _ _ [(67, x67), (66, x66), (65, x65), (13, x13)] _
         refine rThen ?_
         refine rBlock ?_
         refine cLess [67, 66, 65, 13] ?_
         refine xLoopAt [13, 65, 66, 67] [] (fun k1 => reach_Some_l1 F (fun x13 => reach_Some_k0 F x13) k1) F [x13, x65, x66, x67] rfl rfl (fun _ _ _ _ => rfl) fun I hI1 k1 => ?_
         intro x13 x65 x66 x67
         show OKc _ _ [(67, x67), (66, x66), (65, x65), (13, x13)] _ _
         refine cAs (reach_Some_l1_s F _ _ _ _ _ _) ?_
         refine rSeq ?_
         refine cLess [67, 66, 65, 13] ?_
         refine xR hE [13, 65, 66, 67, 68] rfl (reach_Some_r7_ok F _ _ _ _ _) ?_
         intro x13 x65 x66 x67 x68
         show OKq _ _ _ [(68, x68), (67, x67), (66, x66), (65, x65), (13, x13)] _
         refine rThen ?_
         refine rSeq ?_
         refine xCond rfl rfl ?_ ?_
         · refine rSkip ?_
           refine rThen ?_
           refine rSeq ?_
           refine rBlock ?_
           refine rSeq ?_
           refine cLess [67, 66, 65, 13] ?_
           refine xR hE [13, 16, 65, 66, 67] rfl (reach_Some_r8_ok F _ _ _ _ _) ?_
           intro x13 x16 x65 x66 x67
           show OKq _ _ _ [(67, x67), (66, x66), (65, x65), (16, x16), (13, x13)] _
           refine rThen ?_
           refine cLess [67, 66, 65, 16, 13] ?_
           refine xR hE [13, 65, 66, 67] rfl (reach_Some_r9_ok F _ _ _ _ _ _) ?_
           intro x13 x65 x66 x67
           show OKq _ _ _ [(67, x67), (66, x66), (65, x65), (13, x13)] _
           refine xBlockN ?_
           refine rThen ?_
           refine cLess [67, 66, 65, 13] ?_
           refine xR hE [13, 65, 66, 67] rfl (reach_Some_r10_ok F _ _ _ _ _) ?_
           intro x13 x65 x66 x67
           show OKq _ _ _ [(67, x67), (66, x66), (65, x65), (13, x13)] _
           exact qLess [67, 66, 65, 13] (hI1 k1 x13 x65 x66 x67)
         · refine rExit ?_
           refine xThenX ?_
           refine xThenX ?_
           refine rOut ?_
           exact qLess [13] (hj0 x13)
     · refine rSeq ?_
       refine cLess [13, 12, 11, 9, 5, 2] ?_
       refine xR hE [2, 5, 9, 11, 12, 13, 14] rfl (reach_Some_r3_ok F _ _ _ _ _ _ _) ?_
       intro x2 x5 x9 x11 x12 x13 x14
       show OKq _ _ _ [(14, x14), (13, x13), (12, x12), (11, x11), (9, x9), (5, x5), (2, x2)] _
       refine rThen ?_
       refine rSeq ?_
       refine cLess [14, 13, 12, 11, 9, 5, 2] ?_
       refine xD Trymix hE [2, 9, 11, 13, 58] rfl reach_Some_r4_good (reach_Some_r4_ok F _ _ _ _ _ _ _ _) ?_
       intro x2 x9 x11 x13 x58
       show OKq _ _ _ [(58, x58), (13, x13), (11, x11), (9, x9), (2, x2)] _
       refine rThen ?_
       refine xCond rfl rfl ?_ ?_
       · refine cLess [13, 11, 9, 2] ?_
         refine xR hE [11, 13] rfl (reach_Some_r5_ok F _ _ _ _ _) ?_
         intro x11 x13
         show OKq _ _ _ [(13, x13), (11, x11)] _
         exact qLess [13, 11] (hj2 x11 x13)
       · refine rSkip ?_
         exact qLess [13, 11] (hj2 x11 x13)
   · exact rFail


/-! ### haruspex/reach.Defs -/

def reach_Defs_env (F : Nat) : Env := envOf [(27, ir_Point_m F), (28, reach_Some_m F), (29, reach_Of_m F)]

noncomputable def reach_Defs_R (F : Nat) := rK Try.prog TryG (reach_Defs_env F) Try.f12
noncomputable def reach_Defs_D (F : Nat) := dK Try.prog TryG (reach_Defs_env F) Try.f12

def reach_Defs_r4 (F : Nat) (x0 x1 x2 x7 : Value) (K : Value → M Value) : M Value :=
  bnd (opFieldAddr 0 x7) fun v37 => bnd (opLoad v37) fun v38 => bnd (opFieldAddr 0 x7) fun v40 => bnd (opLoad v40) fun v41 => bnd (reach_Of F x0 v38) fun v39 => bnd (opChk false v40 v41) fun _ => bnd (reach_Some F x0 v39 v41 x1 x2) fun v44 => K v44

theorem reach_Defs_r4_ok (F : Nat) (x0 x1 x2 x7 : Value) (K : Value → M Value) : reach_Defs_r4 F x0 x1 x2 x7 K = reach_Defs_D F 4 [0, 1, 2, 3, 5, 6, 7, 8, 4, 9, 10] [(7, x7), (2, x2), (1, x1), (0, x0)] [6] K := by kernel_rfl

theorem reach_Defs_r4_good : goodOrder (opsOf Try.f12 4) [0, 1, 2, 3, 5, 6, 7, 8, 4, 9, 10] = true := by kernel_rfl

def reach_Defs_r3 (F : Nat) (K : Value → M Value) : M Value :=
  K (.slice none 0 0)

theorem reach_Defs_r3_ok (F : Nat) (K : Value → M Value) : reach_Defs_r3 F K = reach_Defs_R F 3 [] [6] K := by kernel_rfl

def reach_Defs_r2 (F : Nat) (x0 x1 x2 x7 x8 : Value) (K : Value → Value → Value → Value → Value → M Value) : M Value :=
  bnd (opNot x8) fun v16 => onB v16 (K x0 x1 x2 x7 (.bool true)) (bnd (opBin .lss x2 (.int .i64 (0))) fun v19 => onB v19 (K x0 x1 x2 x7 (.bool true)) (bnd (opNil x0) fun v24 => bnd (opFieldAddr 4 v24) fun v25 => bnd (opLoad v25) fun v26 => bnd (opFieldAddr 0 x7) fun v27 => bnd (opLoad v27) fun v28 => bnd (opIndexAddr 3 v26 v28) fun v29 => bnd (opFieldAddr 1 v29) fun v30 => bnd (opLoad v30) fun v31 => bnd (opLen v31) fun v32 => bnd (opBin .geq x2 v32) fun v33 => K x0 x1 x2 x7 v33))

theorem reach_Defs_r2_ok (F : Nat) (x0 x1 x2 x7 x8 : Value) (K : Value → Value → Value → Value → Value → M Value) : reach_Defs_r2 F x0 x1 x2 x7 x8 K = reach_Defs_D F 2 [0, 1, 2, 3, 4, 5, 6, 7, 8, 9, 10, 11, 12, 13, 14, 15, 16, 17, 18, 19] [(8, x8), (7, x7), (2, x2), (1, x1), (0, x0)] [0, 1, 2, 7, 34] K := by kernel_rfl

theorem reach_Defs_r2_good : goodOrder (opsOf Try.f12 2) [0, 1, 2, 3, 4, 5, 6, 7, 8, 9, 10, 11, 12, 13, 14, 15, 16, 17, 18, 19] = true := by kernel_rfl

def reach_Defs_r1 (F : Nat) (x0 x1 x2 : Value) (K : Value → Value → Value → Value → Value → M Value) : M Value :=
  bnd (ir_Point F x0 x1) fun v12 => bnd (opExtract v12 0) fun v13 => bnd (opExtract v12 1) fun v14 => bnd (opPtr [(.int .i64 (0)), (.int .i64 (0)), (.int .i64 (0))]) fun v7 => bnd (opStoreN 3 v7 v13) fun _ => K x0 x1 x2 v7 v14

theorem reach_Defs_r1_ok (F : Nat) (x0 x1 x2 : Value) (K : Value → Value → Value → Value → Value → M Value) : reach_Defs_r1 F x0 x1 x2 K = reach_Defs_R F 1 [(2, x2), (1, x1), (0, x0)] [0, 1, 2, 7, 8] K := by kernel_rfl

def reach_Defs_r0 (F : Nat) (x0 x1 x2 : Value) (K : Value → Value → Value → M Value) : M Value :=
  K x0 x1 x2

theorem reach_Defs_r0_ok (F : Nat) (x0 x1 x2 : Value) (K : Value → Value → Value → M Value) : reach_Defs_r0 F x0 x1 x2 K = reach_Defs_R F 0 [(2, x2), (1, x1), (0, x0)] [0, 1, 2] K := by kernel_rfl

def reach_Defs (F : Nat) (x0 x1 x2 : Value) : M Value :=
  reach_Defs_r0 F x0 x1 x2 (fun x0 x1 x2 => reach_Defs_r1 F x0 x1 x2 (fun x0 x1 x2 x7 x8 => reach_Defs_r2 F x0 x1 x2 x7 x8 (fun x0 x1 x2 x7 x34 => onB x34 (reach_Defs_r3 F (fun x6 => ret x6)) (reach_Defs_r4 F x0 x1 x2 x7 (fun x6 => ret x6)))))

def reach_Defs_m (F : Nat) : List Value → M Value
  | [x0, x1, x2] => reach_Defs F x0 x1 x2
  | _ => fail

theorem reach_Defs_body : Try.f12.body = some (.seq (.region 0 (opsOf Try.f12 0) false) (.seq (.region 1 (opsOf Try.f12 1) false) (.seq (.seq (.region 2 (opsOf Try.f12 2) true) (.cond (.tmp 34) (.seq (.region 3 (opsOf Try.f12 3) false) .ret) .skip)) (.seq (.region 4 (opsOf Try.f12 4) true) .ret)))) := by kernel_rfl

theorem reach_Defs_ok (F : Nat) : Sim Try.prog TryG 12 (reach_Defs_m F) := by
 have hE : EnvOK Try.prog TryG (reach_Defs_env F) := (EnvOK.cons (ir_Point_ok F) (EnvOK.cons (reach_Some_ok F) (EnvOK.cons (reach_Of_ok F) EnvOK.nil)))
 refine Sim.of_body (E := reach_Defs_env F) Try.func12 reach_Defs_body Try.call12 ?_ ?_
 · intro args hl; unfold reach_Defs_m; split
   · exact absurd hl (Nat.not_lt.2 (Nat.le_of_ble_eq_true rfl))
   · rfl
 · intro args ρ h w z; unfold reach_Defs_m; split
   · rename_i x0 x1 x2; show OKc _ _ [(0, x0), (1, x1), (2, x2)] _ _
     refine rSeq ?_
     refine cLess [2, 1, 0] ?_
     refine xR hE [0, 1, 2] rfl (reach_Defs_r0_ok F _ _ _ _) ?_
     intro x0 x1 x2
     show OKq _ _ _ [(2, x2), (1, x1), (0, x0)] _
     refine rThen ?_
     refine rSeq ?_
     refine cLess [2, 1, 0] ?_
     refine xR hE [0, 1, 2, 7, 8] rfl (reach_Defs_r1_ok F _ _ _ _) ?_
     intro x0 x1 x2 x7 x8
     show OKq _ _ _ [(8, x8), (7, x7), (2, x2), (1, x1), (0, x0)] _
     refine rThen ?_
     refine rSeq ?_
     refine rSeq ?_
     refine cLess [8, 7, 2, 1, 0] ?_
     refine xD Trymix hE [0, 1, 2, 7, 34] rfl reach_Defs_r2_good (reach_Defs_r2_ok F _ _ _ _ _ _) ?_
     intro x0 x1 x2 x7 x34
     show OKq _ _ _ [(34, x34), (7, x7), (2, x2), (1, x1), (0, x0)] _
     refine rThen ?_
     refine xCond rfl rfl ?_ ?_
     · refine rSeq ?_
       refine cLess [] ?_
       refine xR hE [6] rfl (reach_Defs_r3_ok F _) ?_
       intro x6
       show OKq _ _ _ [(6, x6)] _
       refine rThen ?_
       refine rRet ?_
       refine xThenR ?_
       exact rDone (.inr rfl) rfl
     · refine rSkip ?_
       refine rThen ?_
       refine rSeq ?_
       refine cLess [7, 2, 1, 0] ?_
       refine xD Trymix hE [6] rfl reach_Defs_r4_good (reach_Defs_r4_ok F _ _ _ _ _) ?_
       intro x6
       show OKq _ _ _ [(6, x6)] _
       refine rThen ?_
       refine rRet ?_
       exact rDone (.inr rfl) rfl
   · exact rFail


/-! ### haruspex/haruspexlaw21.begun -/

def L21_begun_env (F : Nat) : Env := envOf [(12, reach_Defs_m F), (16, L10_One_m F), (18, R1_Eq_m F), (19, reach_Used_m F)]

noncomputable def L21_begun_R (F : Nat) := rK Try.prog TryG (L21_begun_env F) Try.f6
noncomputable def L21_begun_D (F : Nat) := dK Try.prog TryG (L21_begun_env F) Try.f6

def L21_begun_r3 (F : Nat) (x1 x2 : Value) (K : Value → M Value) : M Value :=
  bnd (opLen x2) fun v7 => bnd (opBin .eql v7 (.int .i64 (1))) fun v8 => onB v8 (bnd (opIndexAddr 5 x2 (.int .i64 (0))) fun v11 => bnd (opFieldAddr 0 v11) fun v12 => bnd (opLoad v12) fun v13 => bnd (opBin .eql v13 (.int .i64 (1))) fun v14 => onB v14 (bnd (opIndexAddr 5 x2 (.int .i64 (0))) fun v18 => bnd (opFieldAddr 1 v18) fun v19 => bnd (opLoad v19) fun v20 => bnd (opBin .eql v20 (.int .i64 (0))) fun v21 => onB v21 (bnd (reach_Defs F x1 (.int .i64 (0)) (.int .i64 (0))) fun v25 => bnd (opLen v25) fun v26 => bnd (opBin .eql v26 (.int .i64 (0))) fun v27 => onB v27 (bnd (reach_Used F x1 (.int .i64 (1))) fun v31 => bnd (opBuildSlice 1 (rep 1 [(.int .i64 (0))]) [(0, 1, false, (.int .i64 (0)))]) fun v32 => bnd (R1_Eq F v31 v32) fun v33 => K v33) (K (.bool false))) (K (.bool false))) (K (.bool false))) (K (.bool false))

theorem L21_begun_r3_ok (F : Nat) (x1 x2 : Value) (K : Value → M Value) : L21_begun_r3 F x1 x2 K = L21_begun_R F 3 [(2, x2), (1, x1)] [0] K := by kernel_rfl

def L21_begun_r2 (F : Nat) (x1 : Value) (K : Value → Value → M Value) : M Value :=
  bnd (reach_Defs F x1 (.int .i64 (1)) (.int .i64 (0))) fun v5 => K x1 v5

theorem L21_begun_r2_ok (F : Nat) (x1 : Value) (K : Value → Value → M Value) : L21_begun_r2 F x1 K = L21_begun_R F 2 [(1, x1)] [1, 2] K := by kernel_rfl

def L21_begun_r1 (F : Nat) (K : Value → M Value) : M Value :=
  bnd (L10_One F) fun v3 => K v3

theorem L21_begun_r1_ok (F : Nat) (K : Value → M Value) : L21_begun_r1 F K = L21_begun_R F 1 [] [1] K := by kernel_rfl

def L21_begun_r0 (F : Nat) (K : M Value) : M Value :=
  K

theorem L21_begun_r0_ok (F : Nat) (K : M Value) : L21_begun_r0 F K = L21_begun_R F 0 [] [] K := by kernel_rfl

def L21_begun (F : Nat) : M Value :=
  L21_begun_r0 F (L21_begun_r1 F (fun x1 => L21_begun_r2 F x1 (fun x1 x2 => L21_begun_r3 F x1 x2 (fun x0 => ret x0))))

def L21_begun_m (F : Nat) : List Value → M Value
  | [] => L21_begun F
  | _ => fail

theorem L21_begun_body : Try.f6.body = some (.seq (.region 0 (opsOf Try.f6 0) false) (.seq (.region 1 (opsOf Try.f6 1) false) (.seq (.region 2 (opsOf Try.f6 2) false) (.seq (.region 3 (opsOf Try.f6 3) false) .ret)))) := by kernel_rfl

theorem L21_begun_ok (F : Nat) : Sim Try.prog TryG 6 (L21_begun_m F) := by
 have hE : EnvOK Try.prog TryG (L21_begun_env F) := (EnvOK.cons (reach_Defs_ok F) (EnvOK.cons (L10_One_ok F) (EnvOK.cons (R1_Eq_ok F) (EnvOK.cons (reach_Used_ok F) EnvOK.nil))))
 refine Sim.of_body (E := L21_begun_env F) Try.func6 L21_begun_body Try.call6 ?_ ?_
 · intro args hl; unfold L21_begun_m; split
   · exact absurd hl (Nat.not_lt.2 (Nat.le_of_ble_eq_true rfl))
   · rfl
 · intro args ρ h w z; unfold L21_begun_m; split
   · show OKc _ _ [] _ _
     refine rSeq ?_
     refine cLess [] ?_
     refine xR hE [] rfl (L21_begun_r0_ok F _) ?_
     show OKq _ _ _ [] _
     refine rThen ?_
     refine rSeq ?_
     refine cLess [] ?_
     refine xR hE [1] rfl (L21_begun_r1_ok F _) ?_
     intro x1
     show OKq _ _ _ [(1, x1)] _
     refine rThen ?_
     refine rSeq ?_
     refine cLess [1] ?_
     refine xR hE [1, 2] rfl (L21_begun_r2_ok F _ _) ?_
     intro x1 x2
     show OKq _ _ _ [(2, x2), (1, x1)] _
     refine rThen ?_
     refine rSeq ?_
     refine cLess [2, 1] ?_
     refine xR hE [0] rfl (L21_begun_r3_ok F _ _ _) ?_
     intro x0
     show OKq _ _ _ [(0, x0)] _
     refine rThen ?_
     refine rRet ?_
     exact rDone (.inr rfl) rfl
   · exact rFail


/-! ### haruspex/haruspexlaw21.ReachBranches -/

def L21_ReachBranches_env (F : Nat) : Env := envOf [(6, L21_begun_m F), (7, L14_Right_m F), (12, reach_Defs_m F), (16, L10_One_m F), (17, R8_Number_m F)]

noncomputable def L21_ReachBranches_R (F : Nat) := rK Try.prog TryG (L21_ReachBranches_env F) Try.f4
noncomputable def L21_ReachBranches_D (F : Nat) := dK Try.prog TryG (L21_ReachBranches_env F) Try.f4

def L21_ReachBranches_r41 (F : Nat) (x13 x15 : Value) (K : Value → M Value) : M Value :=
  bnd (opLen x13) fun v190 => bnd (opBin .eql x15 v190) fun v191 => K v191

theorem L21_ReachBranches_r41_ok (F : Nat) (x13 x15 : Value) (K : Value → M Value) : L21_ReachBranches_r41 F x13 x15 K = L21_ReachBranches_R F 41 [(15, x15), (13, x13)] [4] K := by kernel_rfl

def L21_ReachBranches_k0 (F : Nat) (x13 x15 : Value) : M Value :=
  L21_ReachBranches_r41 F x13 x15 (fun x4 => ret x4)

def L21_ReachBranches_r36 (F : Nat) (x0 x1 x6 x13 x15 x16 : Value) (K : Value → Value → Value → Value → Value → Value → M Value) : M Value :=
  bnd (opBin .add x16 (.int .i64 (1))) fun v164 => K x0 x1 x6 x13 x15 v164

theorem L21_ReachBranches_r36_ok (F : Nat) (x0 x1 x6 x13 x15 x16 : Value) (K : Value → Value → Value → Value → Value → Value → M Value) : L21_ReachBranches_r36 F x0 x1 x6 x13 x15 x16 K = L21_ReachBranches_R F 36 [(16, x16), (15, x15), (13, x13), (6, x6), (1, x1), (0, x0)] [0, 1, 6, 13, 15, 16] K := by kernel_rfl

def L21_ReachBranches_k2 (F : Nat) (A1 : Value → Value → Value → Value → Value → Value → M Value) (x0 x1 x6 x13 x15 x16 : Value) : M Value :=
  L21_ReachBranches_r36 F x0 x1 x6 x13 x15 x16 (fun x0 x1 x6 x13 x15 x16 => A1 x0 x1 x6 x13 x15 x16)

def L21_ReachBranches_r40 (F : Nat) (x0 x1 x6 x13 x15 x16 : Value) (K : Value → Value → Value → Value → Value → Value → M Value) : M Value :=
  bnd (opBin .add x15 (.int .i64 (1))) fun v187 => K x0 x1 x6 x13 v187 x16

theorem L21_ReachBranches_r40_ok (F : Nat) (x0 x1 x6 x13 x15 x16 : Value) (K : Value → Value → Value → Value → Value → Value → M Value) : L21_ReachBranches_r40 F x0 x1 x6 x13 x15 x16 K = L21_ReachBranches_R F 40 [(16, x16), (15, x15), (13, x13), (6, x6), (1, x1), (0, x0)] [0, 1, 6, 13, 15, 16] K := by kernel_rfl

def L21_ReachBranches_r39 (F : Nat) (K : Value → M Value) : M Value :=
  K (.bool false)

theorem L21_ReachBranches_r39_ok (F : Nat) (K : Value → M Value) : L21_ReachBranches_r39 F K = L21_ReachBranches_R F 39 [] [4] K := by kernel_rfl

def L21_ReachBranches_r38 (F : Nat) (x0 x1 x6 x13 x15 x16 : Value) (K : Value → Value → Value → Value → Value → Value → Value → M Value) : M Value :=
  bnd (opLen x13) fun v170 => bnd (opBin .geq x15 v170) fun v171 => onB v171 (K x0 x1 x6 x13 x15 x16 (.bool true)) (bnd (opIndexAddr 5 x13 x15) fun v175 => bnd (opFieldAddr 1 v175) fun v176 => bnd (opLoad v176) fun v177 => bnd (opBin .mul (.int .i64 (2)) x16) fun v180 => bnd (opBin .add v180 (.int .i64 (2))) fun v181 => bnd (opBuild [(.int .i64 (0)), (.int .i64 (0)), (.int .i64 (0))] [(1, 1, false, v181)]) fun v182 => bnd (R8_Number F x6 v182) fun v183 => bnd (opChk false v176 v177) fun _ => bnd (opBin .neq v177 v183) fun v184 => K x0 x1 x6 x13 x15 x16 v184)

theorem L21_ReachBranches_r38_ok (F : Nat) (x0 x1 x6 x13 x15 x16 : Value) (K : Value → Value → Value → Value → Value → Value → Value → M Value) : L21_ReachBranches_r38 F x0 x1 x6 x13 x15 x16 K = L21_ReachBranches_D F 38 [0, 1, 2, 3, 4, 5, 6, 7, 8, 9, 10, 11, 12, 13, 14, 15, 16, 17] [(16, x16), (15, x15), (13, x13), (6, x6), (1, x1), (0, x0)] [0, 1, 6, 13, 15, 16, 185] K := by kernel_rfl

theorem L21_ReachBranches_r38_good : goodOrder (opsOf Try.f4 38) [0, 1, 2, 3, 4, 5, 6, 7, 8, 9, 10, 11, 12, 13, 14, 15, 16, 17] = true := by kernel_rfl

def L21_ReachBranches_r37 (F : Nat) (x0 x1 x6 x13 x15 x16 : Value) (K : Value → Value → Value → Value → Value → Value → Value → M Value) : M Value :=
  bnd (opBin .eql x16 x1) fun v167 => K x0 x1 x6 x13 x15 x16 v167

theorem L21_ReachBranches_r37_ok (F : Nat) (x0 x1 x6 x13 x15 x16 : Value) (K : Value → Value → Value → Value → Value → Value → Value → M Value) : L21_ReachBranches_r37 F x0 x1 x6 x13 x15 x16 K = L21_ReachBranches_R F 37 [(16, x16), (15, x15), (13, x13), (6, x6), (1, x1), (0, x0)] [0, 1, 6, 13, 15, 16, 167] K := by kernel_rfl

def L21_ReachBranches_r35 (F : Nat) (x0 x1 x6 x13 x15 x16 : Value) (K : Value → Value → Value → Value → Value → Value → Value → M Value) : M Value :=
  bnd (opBin .lss x16 x0) fun v162 => K x0 x1 x6 x13 x15 x16 v162

theorem L21_ReachBranches_r35_ok (F : Nat) (x0 x1 x6 x13 x15 x16 : Value) (K : Value → Value → Value → Value → Value → Value → Value → M Value) : L21_ReachBranches_r35 F x0 x1 x6 x13 x15 x16 K = L21_ReachBranches_R F 35 [(16, x16), (15, x15), (13, x13), (6, x6), (1, x1), (0, x0)] [0, 1, 6, 13, 15, 16, 162] K := by kernel_rfl

def L21_ReachBranches_b1 (F : Nat) (E1_2 : Value → Value → M Value) (A1 : Value → Value → Value → Value → Value → Value → M Value) (x0 x1 x6 x13 x15 x16 : Value) : M Value :=
  L21_ReachBranches_r35 F x0 x1 x6 x13 x15 x16 (fun x0 x1 x6 x13 x15 x16 x162 => onB x162 (L21_ReachBranches_r37 F x0 x1 x6 x13 x15 x16 (fun x0 x1 x6 x13 x15 x16 x167 => onB x167 (L21_ReachBranches_k2 F A1 x0 x1 x6 x13 x15 x16) (L21_ReachBranches_r38 F x0 x1 x6 x13 x15 x16 (fun x0 x1 x6 x13 x15 x16 x185 => onB x185 (L21_ReachBranches_r39 F (fun x4 => ret x4)) (L21_ReachBranches_r40 F x0 x1 x6 x13 x15 x16 (fun x0 x1 x6 x13 x15 x16 => L21_ReachBranches_k2 F A1 x0 x1 x6 x13 x15 x16)))))) (E1_2 x13 x15))

def L21_ReachBranches_l1 (F : Nat) (E1_2 : Value → Value → M Value) : Nat → Value → Value → Value → Value → Value → Value → M Value
  | 0, _, _, _, _, _, _ => fail
  | k1 + 1, x0, x1, x6, x13, x15, x16 => L21_ReachBranches_b1 F E1_2 (L21_ReachBranches_l1 F E1_2 k1) x0 x1 x6 x13 x15 x16

theorem L21_ReachBranches_l1_s (F : Nat) (E1_2 : Value → Value → M Value) (k1 : Nat) (x0 x1 x6 x13 x15 x16 : Value) : L21_ReachBranches_l1 F E1_2 (k1 + 1) x0 x1 x6 x13 x15 x16 = L21_ReachBranches_b1 F E1_2 (L21_ReachBranches_l1 F E1_2 k1) x0 x1 x6 x13 x15 x16 := rfl

def L21_ReachBranches_r34 (F : Nat) (x0 x1 x6 x13 x15 : Value) (K : Value → Value → Value → Value → Value → Value → M Value) : M Value :=
  K x0 x1 x6 x13 x15 (.int .i64 (0))

theorem L21_ReachBranches_r34_ok (F : Nat) (x0 x1 x6 x13 x15 : Value) (K : Value → Value → Value → Value → Value → Value → M Value) : L21_ReachBranches_r34 F x0 x1 x6 x13 x15 K = L21_ReachBranches_R F 34 [(15, x15), (13, x13), (6, x6), (1, x1), (0, x0)] [0, 1, 6, 13, 15, 16] K := by kernel_rfl

def L21_ReachBranches_k3 (F : Nat) (x0 x1 x6 x13 x15 : Value) : M Value :=
  L21_ReachBranches_r34 F x0 x1 x6 x13 x15 (fun x0 x1 x6 x13 x15 x16 => L21_ReachBranches_l1 F (fun x13 x15 => L21_ReachBranches_k0 F x13 x15) F x0 x1 x6 x13 x15 x16)

def L21_ReachBranches_r33 (F : Nat) (x0 x1 x6 x13 : Value) (K : Value → Value → Value → Value → Value → M Value) : M Value :=
  K x0 x1 x6 x13 (.int .i64 (1))

theorem L21_ReachBranches_r33_ok (F : Nat) (x0 x1 x6 x13 : Value) (K : Value → Value → Value → Value → Value → M Value) : L21_ReachBranches_r33 F x0 x1 x6 x13 K = L21_ReachBranches_R F 33 [(13, x13), (6, x6), (1, x1), (0, x0)] [0, 1, 6, 13, 15] K := by kernel_rfl

def L21_ReachBranches_r32 (F : Nat) (K : Value → M Value) : M Value :=
  K (.bool false)

theorem L21_ReachBranches_r32_ok (F : Nat) (K : Value → M Value) : L21_ReachBranches_r32 F K = L21_ReachBranches_R F 32 [] [4] K := by kernel_rfl

def L21_ReachBranches_r31 (F : Nat) (x0 x1 x6 x13 : Value) (K : Value → Value → Value → Value → Value → M Value) : M Value :=
  bnd (opLen x13) fun v144 => bnd (opBin .eql v144 (.int .i64 (0))) fun v145 => onB v145 (K x0 x1 x6 x13 (.bool true)) (bnd (opIndexAddr 5 x13 (.int .i64 (0))) fun v148 => bnd (opFieldAddr 0 v148) fun v149 => bnd (opLoad v149) fun v150 => bnd (opBin .neq v150 (.int .i64 (1))) fun v151 => onB v151 (K x0 x1 x6 x13 (.bool true)) (bnd (opIndexAddr 5 x13 (.int .i64 (0))) fun v155 => bnd (opFieldAddr 1 v155) fun v156 => bnd (opLoad v156) fun v157 => bnd (opBin .neq v157 (.int .i64 (1))) fun v158 => K x0 x1 x6 x13 v158))

theorem L21_ReachBranches_r31_ok (F : Nat) (x0 x1 x6 x13 : Value) (K : Value → Value → Value → Value → Value → M Value) : L21_ReachBranches_r31 F x0 x1 x6 x13 K = L21_ReachBranches_R F 31 [(13, x13), (6, x6), (1, x1), (0, x0)] [0, 1, 6, 13, 159] K := by kernel_rfl

def L21_ReachBranches_r30 (F : Nat) (x0 x1 x6 x13 x14 x15 : Value) (K : Value → Value → Value → Value → Value → Value → M Value) : M Value :=
  K x0 x1 x6 x13 x15 x14

theorem L21_ReachBranches_r30_ok (F : Nat) (x0 x1 x6 x13 x14 x15 : Value) (K : Value → Value → Value → Value → Value → Value → M Value) : L21_ReachBranches_r30 F x0 x1 x6 x13 x14 x15 K = L21_ReachBranches_R F 30 [(15, x15), (14, x14), (13, x13), (6, x6), (1, x1), (0, x0)] [0, 1, 6, 13, 15, 142] K := by kernel_rfl

def L21_ReachBranches_r29 (F : Nat) (x0 x1 x6 x13 x14 : Value) (K : Value → Value → Value → Value → Value → Value → M Value) : M Value :=
  K x0 x1 x6 x13 x14 (.int .i64 (0))

theorem L21_ReachBranches_r29_ok (F : Nat) (x0 x1 x6 x13 x14 : Value) (K : Value → Value → Value → Value → Value → Value → M Value) : L21_ReachBranches_r29 F x0 x1 x6 x13 x14 K = L21_ReachBranches_R F 29 [(14, x14), (13, x13), (6, x6), (1, x1), (0, x0)] [0, 1, 6, 13, 14, 15] K := by kernel_rfl

def L21_ReachBranches_r28 (F : Nat) (x0 x1 x6 x13 : Value) (K : Value → Value → Value → Value → Value → M Value) : M Value :=
  bnd (opBin .geq x1 (.int .i64 (0))) fun v136 => onB v136 (bnd (opBin .lss x1 x0) fun v140 => K x0 x1 x6 x13 v140) (K x0 x1 x6 x13 (.bool false))

theorem L21_ReachBranches_r28_ok (F : Nat) (x0 x1 x6 x13 : Value) (K : Value → Value → Value → Value → Value → M Value) : L21_ReachBranches_r28 F x0 x1 x6 x13 K = L21_ReachBranches_R F 28 [(13, x13), (6, x6), (1, x1), (0, x0)] [0, 1, 6, 13, 14] K := by kernel_rfl

def L21_ReachBranches_r27 (F : Nat) (x0 x1 x6 x12 : Value) (K : Value → Value → Value → Value → M Value) : M Value :=
  bnd (reach_Defs F x6 x12 (.int .i64 (1))) fun v134 => K x0 x1 x6 v134

theorem L21_ReachBranches_r27_ok (F : Nat) (x0 x1 x6 x12 : Value) (K : Value → Value → Value → Value → M Value) : L21_ReachBranches_r27 F x0 x1 x6 x12 K = L21_ReachBranches_R F 27 [(12, x12), (6, x6), (1, x1), (0, x0)] [0, 1, 6, 13] K := by kernel_rfl

def L21_ReachBranches_r26 (F : Nat) (x0 x1 x6 x8 : Value) (K : Value → Value → Value → Value → M Value) : M Value :=
  bnd (opBuild [(.int .i64 (0)), (.int .i64 (0)), (.int .i64 (0))] [(1, 1, false, x8)]) fun v130 => bnd (R8_Number F x6 v130) fun v131 => K x0 x1 x6 v131

theorem L21_ReachBranches_r26_ok (F : Nat) (x0 x1 x6 x8 : Value) (K : Value → Value → Value → Value → M Value) : L21_ReachBranches_r26 F x0 x1 x6 x8 K = L21_ReachBranches_R F 26 [(8, x8), (6, x6), (1, x1), (0, x0)] [0, 1, 6, 12] K := by kernel_rfl

def L21_ReachBranches_r25 (F : Nat) (K : Value → M Value) : M Value :=
  K (.bool false)

theorem L21_ReachBranches_r25_ok (F : Nat) (K : Value → M Value) : L21_ReachBranches_r25 F K = L21_ReachBranches_R F 25 [] [4] K := by kernel_rfl

def L21_ReachBranches_r24 (F : Nat) (x0 x1 x6 x8 : Value) (K : Value → Value → Value → Value → Value → M Value) : M Value :=
  bnd (L14_Right F x6) fun v126 => bnd (opNot v126) fun v127 => K x0 x1 x6 x8 v127

theorem L21_ReachBranches_r24_ok (F : Nat) (x0 x1 x6 x8 : Value) (K : Value → Value → Value → Value → Value → M Value) : L21_ReachBranches_r24 F x0 x1 x6 x8 K = L21_ReachBranches_R F 24 [(8, x8), (6, x6), (1, x1), (0, x0)] [0, 1, 6, 8, 127] K := by kernel_rfl

def L21_ReachBranches_r23 (F : Nat) (x0 x1 x6 x7 x8 : Value) (K : Value → Value → Value → Value → M Value) : M Value :=
  bnd (opNil x7) fun v117 => bnd (opFieldAddr 2 v117) fun v118 => bnd (opLoad v118) fun v119 => bnd (opBuild [(.slice none 0 0), (.int .i64 (0)), (.int .i64 (0)), (.int .i64 (0)), (.int .i64 (0))] [(1, 1, false, (.int .i64 (3))), (2, 1, false, (.int .i64 (1)))]) fun v120 => bnd (opBuildSlice 1 (rep 1 [(.slice none 0 0), (.int .i64 (0)), (.int .i64 (0)), (.int .i64 (0)), (.int .i64 (0))]) [(0, 5, true, v120)]) fun v121 => bnd (opAppend 5 56 v119 v121) fun v122 => bnd (opNil x7) fun v123 => bnd (opFieldAddr 2 v123) fun v124 => bnd (opStore v124 v122) fun _ => K x0 x1 x6 x8

theorem L21_ReachBranches_r23_ok (F : Nat) (x0 x1 x6 x7 x8 : Value) (K : Value → Value → Value → Value → M Value) : L21_ReachBranches_r23 F x0 x1 x6 x7 x8 K = L21_ReachBranches_R F 23 [(8, x8), (7, x7), (6, x6), (1, x1), (0, x0)] [0, 1, 6, 8] K := by kernel_rfl

def L21_ReachBranches_k4 (F : Nat) (x0 x1 x6 x7 x8 : Value) : M Value :=
  L21_ReachBranches_r23 F x0 x1 x6 x7 x8 (fun x0 x1 x6 x8 => L21_ReachBranches_r24 F x0 x1 x6 x8 (fun x0 x1 x6 x8 x127 => onB x127 (L21_ReachBranches_r25 F (fun x4 => ret x4)) (L21_ReachBranches_r26 F x0 x1 x6 x8 (fun x0 x1 x6 x12 => L21_ReachBranches_r27 F x0 x1 x6 x12 (fun x0 x1 x6 x13 => L21_ReachBranches_r28 F x0 x1 x6 x13 (fun x0 x1 x6 x13 x14 => L21_ReachBranches_r29 F x0 x1 x6 x13 x14 (fun x0 x1 x6 x13 x14 x15 => L21_ReachBranches_r30 F x0 x1 x6 x13 x14 x15 (fun x0 x1 x6 x13 x15 x142 => onB x142 (L21_ReachBranches_r31 F x0 x1 x6 x13 (fun x0 x1 x6 x13 x159 => onB x159 (L21_ReachBranches_r32 F (fun x4 => ret x4)) (L21_ReachBranches_r33 F x0 x1 x6 x13 (fun x0 x1 x6 x13 x15 => L21_ReachBranches_k3 F x0 x1 x6 x13 x15)))) (L21_ReachBranches_k3 F x0 x1 x6 x13 x15)))))))))

def L21_ReachBranches_r14 (F : Nat) (x0 x1 x6 x7 x8 x9 : Value) (K : Value → Value → Value → Value → Value → Value → M Value) : M Value :=
  bnd (opBin .add x9 (.int .i64 (1))) fun v71 => K x0 x1 x6 x7 x8 v71

theorem L21_ReachBranches_r14_ok (F : Nat) (x0 x1 x6 x7 x8 x9 : Value) (K : Value → Value → Value → Value → Value → Value → M Value) : L21_ReachBranches_r14 F x0 x1 x6 x7 x8 x9 K = L21_ReachBranches_R F 14 [(9, x9), (8, x8), (7, x7), (6, x6), (1, x1), (0, x0)] [0, 1, 6, 7, 8, 9] K := by kernel_rfl

def L21_ReachBranches_r22 (F : Nat) (x0 x1 x6 x7 x8 x9 x11 : Value) (K : Value → Value → Value → Value → Value → Value → M Value) : M Value :=
  bnd (opNil x7) fun v107 => bnd (opFieldAddr 2 v107) fun v108 => bnd (opLoad v108) fun v109 => bnd (opLoadN 5 x11) fun v110 => bnd (opBuildSlice 1 (rep 1 [(.slice none 0 0), (.int .i64 (0)), (.int .i64 (0)), (.int .i64 (0)), (.int .i64 (0))]) [(0, 5, true, v110)]) fun v111 => bnd (opAppend 5 56 v109 v111) fun v112 => bnd (opNil x7) fun v113 => bnd (opFieldAddr 2 v113) fun v114 => bnd (opStore v114 v112) fun _ => K x0 x1 x6 x7 x8 x9

theorem L21_ReachBranches_r22_ok (F : Nat) (x0 x1 x6 x7 x8 x9 x11 : Value) (K : Value → Value → Value → Value → Value → Value → M Value) : L21_ReachBranches_r22 F x0 x1 x6 x7 x8 x9 x11 K = L21_ReachBranches_D F 22 [0, 1, 2, 3, 4, 5, 6, 7, 8, 9, 10] [(11, x11), (9, x9), (8, x8), (7, x7), (6, x6), (1, x1), (0, x0)] [0, 1, 6, 7, 8, 9] K := by kernel_rfl

theorem L21_ReachBranches_r22_good : goodOrder (opsOf Try.f4 22) [0, 1, 2, 3, 4, 5, 6, 7, 8, 9, 10] = true := by kernel_rfl

def L21_ReachBranches_k6 (F : Nat) (A5 : Value → Value → Value → Value → Value → Value → M Value) (x0 x1 x6 x7 x8 x9 x11 : Value) : M Value :=
  L21_ReachBranches_r22 F x0 x1 x6 x7 x8 x9 x11 (fun x0 x1 x6 x7 x8 x9 => L21_ReachBranches_r14 F x0 x1 x6 x7 x8 x9 (fun x0 x1 x6 x7 x8 x9 => A5 x0 x1 x6 x7 x8 x9))

def L21_ReachBranches_r21 (F : Nat) (x0 x1 x6 x7 x8 x9 x11 : Value) (K : Value → Value → Value → Value → Value → Value → Value → M Value) : M Value :=
  bnd (opBuild [(.int .i64 (0)), (.int .i64 (0)), (.int .i64 (0)), (.int .i64 (0)), (.int .i64 (0)), (.slice none 0 0)] [(0, 1, false, (.int .i64 (1))), (1, 1, false, (.int .i64 (1))), (4, 1, false, x9)]) fun v102 => bnd (opBuildSlice 1 (rep 1 [(.int .i64 (0)), (.int .i64 (0)), (.int .i64 (0)), (.int .i64 (0)), (.int .i64 (0)), (.slice none 0 0)]) [(0, 6, true, v102)]) fun v103 => bnd (opFieldAddr 0 x11) fun v104 => bnd (opStore v104 v103) fun _ => K x0 x1 x6 x7 x8 x9 x11

theorem L21_ReachBranches_r21_ok (F : Nat) (x0 x1 x6 x7 x8 x9 x11 : Value) (K : Value → Value → Value → Value → Value → Value → Value → M Value) : L21_ReachBranches_r21 F x0 x1 x6 x7 x8 x9 x11 K = L21_ReachBranches_R F 21 [(11, x11), (9, x9), (8, x8), (7, x7), (6, x6), (1, x1), (0, x0)] [0, 1, 6, 7, 8, 9, 11] K := by kernel_rfl

def L21_ReachBranches_r20 (F : Nat) (x0 x1 x6 x7 x8 x9 x11 : Value) (K : Value → Value → Value → Value → Value → Value → Value → Value → M Value) : M Value :=
  bnd (opBin .neq x9 x1) fun v100 => K x0 x1 x6 x7 x8 x9 x11 v100

theorem L21_ReachBranches_r20_ok (F : Nat) (x0 x1 x6 x7 x8 x9 x11 : Value) (K : Value → Value → Value → Value → Value → Value → Value → Value → M Value) : L21_ReachBranches_r20 F x0 x1 x6 x7 x8 x9 x11 K = L21_ReachBranches_R F 20 [(11, x11), (9, x9), (8, x8), (7, x7), (6, x6), (1, x1), (0, x0)] [0, 1, 6, 7, 8, 9, 11, 100] K := by kernel_rfl

def L21_ReachBranches_r19 (F : Nat) (x0 x1 x6 x7 x8 x9 : Value) (K : Value → Value → Value → Value → Value → Value → Value → M Value) : M Value :=
  bnd (opBuild [(.slice none 0 0), (.int .i64 (0)), (.int .i64 (0)), (.int .i64 (0)), (.int .i64 (0))] [(1, 1, false, (.int .i64 (1))), (3, 1, false, x8)]) fun v97 => bnd (opPtr [(.slice none 0 0), (.int .i64 (0)), (.int .i64 (0)), (.int .i64 (0)), (.int .i64 (0))]) fun v11 => bnd (opStoreN 5 v11 v97) fun _ => K x0 x1 x6 x7 x8 x9 v11

theorem L21_ReachBranches_r19_ok (F : Nat) (x0 x1 x6 x7 x8 x9 : Value) (K : Value → Value → Value → Value → Value → Value → Value → M Value) : L21_ReachBranches_r19 F x0 x1 x6 x7 x8 x9 K = L21_ReachBranches_R F 19 [(9, x9), (8, x8), (7, x7), (6, x6), (1, x1), (0, x0)] [0, 1, 6, 7, 8, 9, 11] K := by kernel_rfl

def L21_ReachBranches_r18 (F : Nat) (x0 x1 x6 x7 x8 x9 x10 : Value) (K : Value → Value → Value → Value → Value → Value → M Value) : M Value :=
  bnd (opNil x7) fun v84 => bnd (opFieldAddr 2 v84) fun v85 => bnd (opLoad v85) fun v86 => bnd (opBin .mul (.int .i64 (2)) x9) fun v88 => bnd (opBin .add v88 (.int .i64 (2))) fun v89 => bnd (opBuild [(.slice none 0 0), (.int .i64 (0)), (.int .i64 (0)), (.int .i64 (0)), (.int .i64 (0))] [(1, 1, false, (.int .i64 (2))), (3, 1, false, v89), (4, 1, false, x10)]) fun v91 => bnd (opBuildSlice 1 (rep 1 [(.slice none 0 0), (.int .i64 (0)), (.int .i64 (0)), (.int .i64 (0)), (.int .i64 (0))]) [(0, 5, true, v91)]) fun v92 => bnd (opAppend 5 56 v86 v92) fun v93 => bnd (opNil x7) fun v94 => bnd (opFieldAddr 2 v94) fun v95 => bnd (opStore v95 v93) fun _ => K x0 x1 x6 x7 x8 x9

theorem L21_ReachBranches_r18_ok (F : Nat) (x0 x1 x6 x7 x8 x9 x10 : Value) (K : Value → Value → Value → Value → Value → Value → M Value) : L21_ReachBranches_r18 F x0 x1 x6 x7 x8 x9 x10 K = L21_ReachBranches_R F 18 [(10, x10), (9, x9), (8, x8), (7, x7), (6, x6), (1, x1), (0, x0)] [0, 1, 6, 7, 8, 9] K := by kernel_rfl

def L21_ReachBranches_k7 (F : Nat) (A5 : Value → Value → Value → Value → Value → Value → M Value) (x0 x1 x6 x7 x8 x9 x10 : Value) : M Value :=
  L21_ReachBranches_r18 F x0 x1 x6 x7 x8 x9 x10 (fun x0 x1 x6 x7 x8 x9 => L21_ReachBranches_r19 F x0 x1 x6 x7 x8 x9 (fun x0 x1 x6 x7 x8 x9 x11 => L21_ReachBranches_r20 F x0 x1 x6 x7 x8 x9 x11 (fun x0 x1 x6 x7 x8 x9 x11 x100 => onB x100 (L21_ReachBranches_r21 F x0 x1 x6 x7 x8 x9 x11 (fun x0 x1 x6 x7 x8 x9 x11 => L21_ReachBranches_k6 F A5 x0 x1 x6 x7 x8 x9 x11)) (L21_ReachBranches_k6 F A5 x0 x1 x6 x7 x8 x9 x11))))

def L21_ReachBranches_r17 (F : Nat) (x0 x1 x6 x7 x8 x9 : Value) (K : Value → Value → Value → Value → Value → Value → Value → M Value) : M Value :=
  bnd (opBin .mul (.int .i64 (2)) x9) fun v80 => bnd (opBin .add v80 (.int .i64 (2))) fun v81 => K x0 x1 x6 x7 x8 x9 v81

theorem L21_ReachBranches_r17_ok (F : Nat) (x0 x1 x6 x7 x8 x9 : Value) (K : Value → Value → Value → Value → Value → Value → Value → M Value) : L21_ReachBranches_r17 F x0 x1 x6 x7 x8 x9 K = L21_ReachBranches_R F 17 [(9, x9), (8, x8), (7, x7), (6, x6), (1, x1), (0, x0)] [0, 1, 6, 7, 8, 9, 10] K := by kernel_rfl

def L21_ReachBranches_r16 (F : Nat) (x0 x1 x6 x7 x8 x9 x10 : Value) (K : Value → Value → Value → Value → Value → Value → Value → Value → M Value) : M Value :=
  bnd (opBin .sub x0 (.int .i64 (1))) fun v77 => bnd (opBin .eql x9 v77) fun v78 => K x0 x1 x6 x7 x8 x9 x10 v78

theorem L21_ReachBranches_r16_ok (F : Nat) (x0 x1 x6 x7 x8 x9 x10 : Value) (K : Value → Value → Value → Value → Value → Value → Value → Value → M Value) : L21_ReachBranches_r16 F x0 x1 x6 x7 x8 x9 x10 K = L21_ReachBranches_R F 16 [(10, x10), (9, x9), (8, x8), (7, x7), (6, x6), (1, x1), (0, x0)] [0, 1, 6, 7, 8, 9, 10, 78] K := by kernel_rfl

def L21_ReachBranches_r15 (F : Nat) (x0 x1 x6 x7 x8 x9 : Value) (K : Value → Value → Value → Value → Value → Value → Value → M Value) : M Value :=
  bnd (opBin .mul (.int .i64 (2)) x9) fun v73 => bnd (opBin .add v73 (.int .i64 (3))) fun v74 => K x0 x1 x6 x7 x8 x9 v74

theorem L21_ReachBranches_r15_ok (F : Nat) (x0 x1 x6 x7 x8 x9 : Value) (K : Value → Value → Value → Value → Value → Value → Value → M Value) : L21_ReachBranches_r15 F x0 x1 x6 x7 x8 x9 K = L21_ReachBranches_R F 15 [(9, x9), (8, x8), (7, x7), (6, x6), (1, x1), (0, x0)] [0, 1, 6, 7, 8, 9, 10] K := by kernel_rfl

def L21_ReachBranches_r13 (F : Nat) (x0 x1 x6 x7 x8 x9 : Value) (K : Value → Value → Value → Value → Value → Value → Value → M Value) : M Value :=
  bnd (opBin .lss x9 x0) fun v69 => K x0 x1 x6 x7 x8 x9 v69

theorem L21_ReachBranches_r13_ok (F : Nat) (x0 x1 x6 x7 x8 x9 : Value) (K : Value → Value → Value → Value → Value → Value → Value → M Value) : L21_ReachBranches_r13 F x0 x1 x6 x7 x8 x9 K = L21_ReachBranches_R F 13 [(9, x9), (8, x8), (7, x7), (6, x6), (1, x1), (0, x0)] [0, 1, 6, 7, 8, 9, 69] K := by kernel_rfl

def L21_ReachBranches_b5 (F : Nat) (E5_0 : Value → Value → Value → Value → Value → M Value) (A5 : Value → Value → Value → Value → Value → Value → M Value) (x0 x1 x6 x7 x8 x9 : Value) : M Value :=
  L21_ReachBranches_r13 F x0 x1 x6 x7 x8 x9 (fun x0 x1 x6 x7 x8 x9 x69 => onB x69 (L21_ReachBranches_r15 F x0 x1 x6 x7 x8 x9 (fun x0 x1 x6 x7 x8 x9 x10 => L21_ReachBranches_r16 F x0 x1 x6 x7 x8 x9 x10 (fun x0 x1 x6 x7 x8 x9 x10 x78 => onB x78 (L21_ReachBranches_r17 F x0 x1 x6 x7 x8 x9 (fun x0 x1 x6 x7 x8 x9 x10 => L21_ReachBranches_k7 F A5 x0 x1 x6 x7 x8 x9 x10)) (L21_ReachBranches_k7 F A5 x0 x1 x6 x7 x8 x9 x10)))) (E5_0 x0 x1 x6 x7 x8))

def L21_ReachBranches_l5 (F : Nat) (E5_0 : Value → Value → Value → Value → Value → M Value) : Nat → Value → Value → Value → Value → Value → Value → M Value
  | 0, _, _, _, _, _, _ => fail
  | k5 + 1, x0, x1, x6, x7, x8, x9 => L21_ReachBranches_b5 F E5_0 (L21_ReachBranches_l5 F E5_0 k5) x0 x1 x6 x7 x8 x9

theorem L21_ReachBranches_l5_s (F : Nat) (E5_0 : Value → Value → Value → Value → Value → M Value) (k5 : Nat) (x0 x1 x6 x7 x8 x9 : Value) : L21_ReachBranches_l5 F E5_0 (k5 + 1) x0 x1 x6 x7 x8 x9 = L21_ReachBranches_b5 F E5_0 (L21_ReachBranches_l5 F E5_0 k5) x0 x1 x6 x7 x8 x9 := rfl

def L21_ReachBranches_r12 (F : Nat) (x0 x1 x6 x7 x8 : Value) (K : Value → Value → Value → Value → Value → Value → M Value) : M Value :=
  K x0 x1 x6 x7 x8 (.int .i64 (0))

theorem L21_ReachBranches_r12_ok (F : Nat) (x0 x1 x6 x7 x8 : Value) (K : Value → Value → Value → Value → Value → Value → M Value) : L21_ReachBranches_r12 F x0 x1 x6 x7 x8 K = L21_ReachBranches_R F 12 [(8, x8), (7, x7), (6, x6), (1, x1), (0, x0)] [0, 1, 6, 7, 8, 9] K := by kernel_rfl

def L21_ReachBranches_r11 (F : Nat) (x0 x1 x6 x7 : Value) (K : Value → Value → Value → Value → Value → M Value) : M Value :=
  bnd (opBin .mul (.int .i64 (2)) x0) fun v65 => bnd (opBin .add v65 (.int .i64 (1))) fun v66 => K x0 x1 x6 x7 v66

theorem L21_ReachBranches_r11_ok (F : Nat) (x0 x1 x6 x7 : Value) (K : Value → Value → Value → Value → Value → M Value) : L21_ReachBranches_r11 F x0 x1 x6 x7 K = L21_ReachBranches_R F 11 [(7, x7), (6, x6), (1, x1), (0, x0)] [0, 1, 6, 7, 8] K := by kernel_rfl

def L21_ReachBranches_r10 (F : Nat) (x0 x1 x6 x7 : Value) (K : Value → Value → Value → Value → M Value) : M Value :=
  bnd (opNil x7) fun v53 => bnd (opFieldAddr 2 v53) fun v54 => bnd (opLoad v54) fun v55 => bnd (opNil x7) fun v57 => bnd (opFieldAddr 2 v57) fun v58 => bnd (opLoad v58) fun v59 => bnd (opIndexAddr 5 v55 (.int .i64 (0))) fun v60 => bnd (opFieldAddr 1 v60) fun v61 => bnd (opStore v61 (.int .i64 (1))) fun _ => bnd (opIndexAddr 5 v59 (.int .i64 (0))) fun v62 => bnd (opFieldAddr 3 v62) fun v63 => bnd (opStore v63 (.int .i64 (1))) fun _ => K x0 x1 x6 x7

theorem L21_ReachBranches_r10_ok (F : Nat) (x0 x1 x6 x7 : Value) (K : Value → Value → Value → Value → M Value) : L21_ReachBranches_r10 F x0 x1 x6 x7 K = L21_ReachBranches_D F 10 [0, 1, 2, 3, 4, 5, 6, 7, 8, 9, 10, 11, 12, 13] [(7, x7), (6, x6), (1, x1), (0, x0)] [0, 1, 6, 7] K := by kernel_rfl

theorem L21_ReachBranches_r10_good : goodOrder (opsOf Try.f4 10) [0, 1, 2, 3, 4, 5, 6, 7, 8, 9, 10, 11, 12, 13] = true := by kernel_rfl

def L21_ReachBranches_r9 (F : Nat) (x0 x1 x6 x7 : Value) (K : Value → Value → Value → Value → M Value) : M Value :=
  bnd (opNil x7) fun v37 => bnd (opFieldAddr 2 v37) fun v38 => bnd (opLoad v38) fun v39 => bnd (opNil x7) fun v41 => bnd (opFieldAddr 2 v41) fun v42 => bnd (opLoad v42) fun v43 => bnd (opIndexAddr 5 v43 (.int .i64 (0))) fun v44 => bnd (opFieldAddr 0 v44) fun v45 => bnd (opLoad v45) fun v46 => bnd (opBuild [(.int .i64 (0)), (.int .i64 (0)), (.int .i64 (0)), (.int .i64 (0)), (.int .i64 (0)), (.slice none 0 0)] [(0, 1, false, (.int .i64 (1))), (1, 1, false, (.int .i64 (1)))]) fun v47 => bnd (opBuildSlice 1 (rep 1 [(.int .i64 (0)), (.int .i64 (0)), (.int .i64 (0)), (.int .i64 (0)), (.int .i64 (0)), (.slice none 0 0)]) [(0, 6, true, v47)]) fun v48 => bnd (opAppend 6 64 v46 v48) fun v49 => bnd (opChk false v38 v39) fun _ => bnd (opIndexAddr 5 v39 (.int .i64 (0))) fun v50 => bnd (opFieldAddr 0 v50) fun v51 => bnd (opStore v51 v49) fun _ => K x0 x1 x6 x7

theorem L21_ReachBranches_r9_ok (F : Nat) (x0 x1 x6 x7 : Value) (K : Value → Value → Value → Value → M Value) : L21_ReachBranches_r9 F x0 x1 x6 x7 K = L21_ReachBranches_D F 9 [0, 1, 2, 3, 4, 5, 6, 7, 8, 9, 10, 11, 12, 13, 14, 15, 16] [(7, x7), (6, x6), (1, x1), (0, x0)] [0, 1, 6, 7] K := by kernel_rfl

theorem L21_ReachBranches_r9_good : goodOrder (opsOf Try.f4 9) [0, 1, 2, 3, 4, 5, 6, 7, 8, 9, 10, 11, 12, 13, 14, 15, 16] = true := by kernel_rfl

def L21_ReachBranches_r8 (F : Nat) (x0 x1 x6 x7 : Value) (K : Value → Value → Value → Value → M Value) : M Value :=
  bnd (opMake 16 [(.int .i64 (0)), (.int .i64 (0))] (.int .i64 (2)) (.int .i64 (2))) fun v33 => bnd (opNil x7) fun v34 => bnd (opFieldAddr 1 v34) fun v35 => bnd (opStore v35 v33) fun _ => K x0 x1 x6 x7

theorem L21_ReachBranches_r8_ok (F : Nat) (x0 x1 x6 x7 : Value) (K : Value → Value → Value → Value → M Value) : L21_ReachBranches_r8 F x0 x1 x6 x7 K = L21_ReachBranches_R F 8 [(7, x7), (6, x6), (1, x1), (0, x0)] [0, 1, 6, 7] K := by kernel_rfl

def L21_ReachBranches_r7 (F : Nat) (x0 x1 x6 : Value) (K : Value → Value → Value → Value → M Value) : M Value :=
  bnd (opNil x6) fun v28 => bnd (opFieldAddr 4 v28) fun v29 => bnd (opLoad v29) fun v30 => bnd (opIndexAddr 3 v30 (.int .i64 (0))) fun v31 => K x0 x1 x6 v31

theorem L21_ReachBranches_r7_ok (F : Nat) (x0 x1 x6 : Value) (K : Value → Value → Value → Value → M Value) : L21_ReachBranches_r7 F x0 x1 x6 K = L21_ReachBranches_R F 7 [(6, x6), (1, x1), (0, x0)] [0, 1, 6, 7] K := by kernel_rfl

def L21_ReachBranches_r6 (F : Nat) (x0 x1 : Value) (K : Value → Value → Value → M Value) : M Value :=
  bnd (L10_One F) fun v26 => K x0 x1 v26

theorem L21_ReachBranches_r6_ok (F : Nat) (x0 x1 : Value) (K : Value → Value → Value → M Value) : L21_ReachBranches_r6 F x0 x1 K = L21_ReachBranches_R F 6 [(1, x1), (0, x0)] [0, 1, 6] K := by kernel_rfl

def L21_ReachBranches_r5 (F : Nat) (K : Value → M Value) : M Value :=
  K (.bool true)

theorem L21_ReachBranches_r5_ok (F : Nat) (K : Value → M Value) : L21_ReachBranches_r5 F K = L21_ReachBranches_R F 5 [] [4] K := by kernel_rfl

def L21_ReachBranches_r4 (F : Nat) (x0 x1 : Value) (K : Value → Value → Value → M Value) : M Value :=
  bnd (opBin .lss x0 (.int .i64 (1))) fun v21 => onB v21 (K x0 x1 (.bool true)) (bnd (opBin .gtr x0 (.int .i64 (5))) fun v24 => K x0 x1 v24)

theorem L21_ReachBranches_r4_ok (F : Nat) (x0 x1 : Value) (K : Value → Value → Value → M Value) : L21_ReachBranches_r4 F x0 x1 K = L21_ReachBranches_R F 4 [(1, x1), (0, x0)] [0, 1, 25] K := by kernel_rfl

def L21_ReachBranches_r3 (F : Nat) (K : Value → M Value) : M Value :=
  K (.bool false)

theorem L21_ReachBranches_r3_ok (F : Nat) (K : Value → M Value) : L21_ReachBranches_r3 F K = L21_ReachBranches_R F 3 [] [4] K := by kernel_rfl

def L21_ReachBranches_r2 (F : Nat) (x0 x1 x5 : Value) (K : Value → Value → Value → M Value) : M Value :=
  bnd (opNot x5) fun v19 => K x0 x1 v19

theorem L21_ReachBranches_r2_ok (F : Nat) (x0 x1 x5 : Value) (K : Value → Value → Value → M Value) : L21_ReachBranches_r2 F x0 x1 x5 K = L21_ReachBranches_R F 2 [(5, x5), (1, x1), (0, x0)] [0, 1, 19] K := by kernel_rfl

def L21_ReachBranches_r1 (F : Nat) (x0 x1 : Value) (K : Value → Value → Value → M Value) : M Value :=
  bnd (L21_begun F) fun v17 => K x0 x1 v17

theorem L21_ReachBranches_r1_ok (F : Nat) (x0 x1 : Value) (K : Value → Value → Value → M Value) : L21_ReachBranches_r1 F x0 x1 K = L21_ReachBranches_R F 1 [(1, x1), (0, x0)] [0, 1, 5] K := by kernel_rfl

def L21_ReachBranches_r0 (F : Nat) (x0 x1 : Value) (K : Value → Value → M Value) : M Value :=
  K x0 x1

theorem L21_ReachBranches_r0_ok (F : Nat) (x0 x1 : Value) (K : Value → Value → M Value) : L21_ReachBranches_r0 F x0 x1 K = L21_ReachBranches_R F 0 [(1, x1), (0, x0)] [0, 1] K := by kernel_rfl

def L21_ReachBranches (F : Nat) (x0 x1 : Value) : M Value :=
  L21_ReachBranches_r0 F x0 x1 (fun x0 x1 => L21_ReachBranches_r1 F x0 x1 (fun x0 x1 x5 => L21_ReachBranches_r2 F x0 x1 x5 (fun x0 x1 x19 => onB x19 (L21_ReachBranches_r3 F (fun x4 => ret x4)) (L21_ReachBranches_r4 F x0 x1 (fun x0 x1 x25 => onB x25 (L21_ReachBranches_r5 F (fun x4 => ret x4)) (L21_ReachBranches_r6 F x0 x1 (fun x0 x1 x6 => L21_ReachBranches_r7 F x0 x1 x6 (fun x0 x1 x6 x7 => L21_ReachBranches_r8 F x0 x1 x6 x7 (fun x0 x1 x6 x7 => L21_ReachBranches_r9 F x0 x1 x6 x7 (fun x0 x1 x6 x7 => L21_ReachBranches_r10 F x0 x1 x6 x7 (fun x0 x1 x6 x7 => L21_ReachBranches_r11 F x0 x1 x6 x7 (fun x0 x1 x6 x7 x8 => L21_ReachBranches_r12 F x0 x1 x6 x7 x8 (fun x0 x1 x6 x7 x8 x9 => L21_ReachBranches_l5 F (fun x0 x1 x6 x7 x8 => L21_ReachBranches_k4 F x0 x1 x6 x7 x8) F x0 x1 x6 x7 x8 x9)))))))))))))

def L21_ReachBranches_m (F : Nat) : List Value → M Value
  | [x0, x1] => L21_ReachBranches F x0 x1
  | _ => fail

theorem L21_ReachBranches_body : Try.f4.body = some (.seq (.region 0 (opsOf Try.f4 0) false) (.seq (.region 1 (opsOf Try.f4 1) false) (.seq (.seq (.region 2 (opsOf Try.f4 2) false) (.cond (.tmp 19) (.seq (.region 3 (opsOf Try.f4 3) false) .ret) .skip)) (.seq (.seq (.region 4 (opsOf Try.f4 4) false) (.cond (.tmp 25) (.seq (.region 5 (opsOf Try.f4 5) false) .ret) .skip)) (.seq (.region 6 (opsOf Try.f4 6) false) (.seq (.region 7 (opsOf Try.f4 7) false) (.seq (.region 8 (opsOf Try.f4 8) false) (.seq (.region 9 (opsOf Try.f4 9) true) (.seq (.region 10 (opsOf Try.f4 10) true) (.seq (.region 11 (opsOf Try.f4 11) false) (.seq (.seq (.region 12 (opsOf Try.f4 12) false) (.block 0 (.loop (.seq (.seq (.region 13 (opsOf Try.f4 13) false) (.cond (.tmp 69) .skip (.exit 0))) (.seq (.block 1 (.seq (.region 15 (opsOf Try.f4 15) false) (.seq (.seq (.region 16 (opsOf Try.f4 16) false) (.cond (.tmp 78) (.region 17 (opsOf Try.f4 17) false) .skip)) (.seq (.region 18 (opsOf Try.f4 18) false) (.seq (.region 19 (opsOf Try.f4 19) false) (.seq (.seq (.region 20 (opsOf Try.f4 20) false) (.cond (.tmp 100) (.region 21 (opsOf Try.f4 21) false) .skip)) (.region 22 (opsOf Try.f4 22) true))))))) (.region 14 (opsOf Try.f4 14) false)))))) (.seq (.region 23 (opsOf Try.f4 23) false) (.seq (.seq (.region 24 (opsOf Try.f4 24) false) (.cond (.tmp 127) (.seq (.region 25 (opsOf Try.f4 25) false) .ret) .skip)) (.seq (.region 26 (opsOf Try.f4 26) false) (.seq (.region 27 (opsOf Try.f4 27) false) (.seq (.region 28 (opsOf Try.f4 28) false) (.seq (.region 29 (opsOf Try.f4 29) false) (.seq (.seq (.region 30 (opsOf Try.f4 30) false) (.cond (.tmp 142) (.seq (.seq (.region 31 (opsOf Try.f4 31) false) (.cond (.tmp 159) (.seq (.region 32 (opsOf Try.f4 32) false) .ret) .skip)) (.region 33 (opsOf Try.f4 33) false)) .skip)) (.seq (.seq (.region 34 (opsOf Try.f4 34) false) (.block 2 (.loop (.seq (.seq (.region 35 (opsOf Try.f4 35) false) (.cond (.tmp 162) .skip (.exit 2))) (.seq (.block 3 (.seq (.seq (.region 37 (opsOf Try.f4 37) false) (.cond (.tmp 167) (.exit 3) .skip)) (.seq (.seq (.region 38 (opsOf Try.f4 38) true) (.cond (.tmp 185) (.seq (.region 39 (opsOf Try.f4 39) false) .ret) .skip)) (.region 40 (opsOf Try.f4 40) false)))) (.region 36 (opsOf Try.f4 36) false)))))) (.seq (.region 41 (opsOf Try.f4 41) false) .ret)))))))))))))))))))) := by kernel_rfl

theorem L21_ReachBranches_ok (F : Nat) : Sim Try.prog TryG 4 (L21_ReachBranches_m F) := by
 have hE : EnvOK Try.prog TryG (L21_ReachBranches_env F) := (EnvOK.cons (L21_begun_ok F) (EnvOK.cons (L14_Right_ok F) (EnvOK.cons (reach_Defs_ok F) (EnvOK.cons (L10_One_ok F) (EnvOK.cons (R8_Number_ok F) EnvOK.nil)))))
 refine Sim.of_body (E := L21_ReachBranches_env F) Try.func4 L21_ReachBranches_body Try.call4 ?_ ?_
 · intro args hl; unfold L21_ReachBranches_m; split
   · exact absurd hl (Nat.not_lt.2 (Nat.le_of_ble_eq_true rfl))
   · rfl
 · intro args ρ h w z; unfold L21_ReachBranches_m; split
   · rename_i x0 x1; show OKc _ _ [(0, x0), (1, x1)] _ _
     refine rSeq ?_
     refine cLess [1, 0] ?_
     refine xR hE [0, 1] rfl (L21_ReachBranches_r0_ok F _ _ _) ?_
     intro x0 x1
     show OKq _ _ _ [(1, x1), (0, x0)] _
     refine rThen ?_
     refine rSeq ?_
     refine cLess [1, 0] ?_
     refine xR hE [0, 1, 5] rfl (L21_ReachBranches_r1_ok F _ _ _) ?_
     intro x0 x1 x5
     show OKq _ _ _ [(5, x5), (1, x1), (0, x0)] _
     refine rThen ?_
     refine rSeq ?_
     refine rSeq ?_
     refine cLess [5, 1, 0] ?_
     refine xR hE [0, 1, 19] rfl (L21_ReachBranches_r2_ok F _ _ _ _) ?_
     intro x0 x1 x19
     show OKq _ _ _ [(19, x19), (1, x1), (0, x0)] _
     refine rThen ?_
     refine xCond rfl rfl ?_ ?_
     · refine rSeq ?_
       refine cLess [] ?_
       refine xR hE [4] rfl (L21_ReachBranches_r3_ok F _) ?_
       intro x4
       show OKq _ _ _ [(4, x4)] _
       refine rThen ?_
       refine rRet ?_
       refine xThenR ?_
       exact rDone (.inr rfl) rfl
     · refine rSkip ?_
       refine rThen ?_
       refine rSeq ?_
       refine rSeq ?_
       refine cLess [1, 0] ?_
       refine xR hE [0, 1, 25] rfl (L21_ReachBranches_r4_ok F _ _ _) ?_
       intro x0 x1 x25
       show OKq _ _ _ [(25, x25), (1, x1), (0, x0)] _
       refine rThen ?_
       refine xCond rfl rfl ?_ ?_
       · refine rSeq ?_
         refine cLess [] ?_
         refine xR hE [4] rfl (L21_ReachBranches_r5_ok F _) ?_
         intro x4
         show OKq _ _ _ [(4, x4)] _
         refine rThen ?_
         refine rRet ?_
         refine xThenR ?_
         exact rDone (.inr rfl) rfl
       · refine rSkip ?_
         refine rThen ?_
         refine rSeq ?_
         refine cLess [1, 0] ?_
         refine xR hE [0, 1, 6] rfl (L21_ReachBranches_r6_ok F _ _ _) ?_
         intro x0 x1 x6
         show OKq _ _ _ [(6, x6), (1, x1), (0, x0)] _
         refine rThen ?_
         refine rSeq ?_
         refine cLess [6, 1, 0] ?_
         refine xR hE [0, 1, 6, 7] rfl (L21_ReachBranches_r7_ok F _ _ _ _) ?_
         intro x0 x1 x6 x7
         show OKq _ _ _ [(7, x7), (6, x6), (1, x1), (0, x0)] _
         refine rThen ?_
         refine rSeq ?_
         refine cLess [7, 6, 1, 0] ?_
         refine xR hE [0, 1, 6, 7] rfl (L21_ReachBranches_r8_ok F _ _ _ _ _) ?_
         intro x0 x1 x6 x7
         show OKq _ _ _ [(7, x7), (6, x6), (1, x1), (0, x0)] _
         refine rThen ?_
         refine rSeq ?_
         refine cLess [7, 6, 1, 0] ?_
         refine xD Trymix hE [0, 1, 6, 7] rfl L21_ReachBranches_r9_good (L21_ReachBranches_r9_ok F _ _ _ _ _) ?_
         intro x0 x1 x6 x7
         show OKq _ _ _ [(7, x7), (6, x6), (1, x1), (0, x0)] _
         refine rThen ?_
         refine rSeq ?_
         refine cLess [7, 6, 1, 0] ?_
         refine xD Trymix hE [0, 1, 6, 7] rfl L21_ReachBranches_r10_good (L21_ReachBranches_r10_ok F _ _ _ _ _) ?_
         intro x0 x1 x6 x7
         show OKq _ _ _ [(7, x7), (6, x6), (1, x1), (0, x0)] _
         refine rThen ?_
         refine rSeq ?_
         refine cLess [7, 6, 1, 0] ?_
         refine xR hE [0, 1, 6, 7, 8] rfl (L21_ReachBranches_r11_ok F _ _ _ _ _) ?_
         intro x0 x1 x6 x7 x8
         show OKq _ _ _ [(8, x8), (7, x7), (6, x6), (1, x1), (0, x0)] _
         refine rThen ?_
         refine xSeq [0, 1, 6, 7, 8] (L21_ReachBranches_k4 F ) ?_ fun hj4 => ?_
         · intro x0 x1 x6 x7 x8
           show OKc _ _ [(8, x8), (7, x7), (6, x6), (1, x1), (0, x0)] _ _
           refine rSeq ?_
           refine cLess [8, 7, 6, 1, 0] ?_
           refine xR hE [0, 1, 6, 8] rfl (L21_ReachBranches_r23_ok F _ _ _ _ _ _) ?_
           intro x0 x1 x6 x8
           show OKq _ _ _ [(8, x8), (6, x6), (1, x1), (0, x0)] _
           refine rThen ?_
           refine rSeq ?_
           refine rSeq ?_
           refine cLess [8, 6, 1, 0] ?_
           refine xR hE [0, 1, 6, 8, 127] rfl (L21_ReachBranches_r24_ok F _ _ _ _ _) ?_
           intro x0 x1 x6 x8 x127
           show OKq _ _ _ [(127, x127), (8, x8), (6, x6), (1, x1), (0, x0)] _
           refine rThen ?_
           refine xCond rfl rfl ?_ ?_
           · refine rSeq ?_
             refine cLess [] ?_
             refine xR hE [4] rfl (L21_ReachBranches_r25_ok F _) ?_
             intro x4
             show OKq _ _ _ [(4, x4)] _
             refine rThen ?_
             refine rRet ?_
             refine xThenR ?_
             exact rDone (.inr rfl) rfl
           · refine rSkip ?_
             refine rThen ?_
             refine rSeq ?_
             refine cLess [8, 6, 1, 0] ?_
             refine xR hE [0, 1, 6, 12] rfl (L21_ReachBranches_r26_ok F _ _ _ _ _) ?_
             intro x0 x1 x6 x12
             show OKq _ _ _ [(12, x12), (6, x6), (1, x1), (0, x0)] _
             refine rThen ?_
             refine rSeq ?_
             refine cLess [12, 6, 1, 0] ?_
             refine xR hE [0, 1, 6, 13] rfl (L21_ReachBranches_r27_ok F _ _ _ _ _) ?_
             intro x0 x1 x6 x13
             show OKq _ _ _ [(13, x13), (6, x6), (1, x1), (0, x0)] _
             refine rThen ?_
             refine rSeq ?_
             refine cLess [13, 6, 1, 0] ?_
             refine xR hE [0, 1, 6, 13, 14] rfl (L21_ReachBranches_r28_ok F _ _ _ _ _) ?_
             intro x0 x1 x6 x13 x14
             show OKq _ _ _ [(14, x14), (13, x13), (6, x6), (1, x1), (0, x0)] _
             refine rThen ?_
             refine rSeq ?_
             refine cLess [14, 13, 6, 1, 0] ?_
             refine xR hE [0, 1, 6, 13, 14, 15] rfl (L21_ReachBranches_r29_ok F _ _ _ _ _ _) ?_
             intro x0 x1 x6 x13 x14 x15
             show OKq _ _ _ [(15, x15), (14, x14), (13, x13), (6, x6), (1, x1), (0, x0)] _
             refine rThen ?_
             refine xSeq [0, 1, 6, 13, 15] (L21_ReachBranches_k3 F ) ?_ fun hj3 => ?_
             · intro x0 x1 x6 x13 x15
               show OKc _ _ [(15, x15), (13, x13), (6, x6), (1, x1), (0, x0)] _ _
               refine xSeq [13, 15] (L21_ReachBranches_k0 F ) ?_ fun hj0 => ?_
               · intro x13 x15
                 show OKc _ _ [(15, x15), (13, x13)] _ _
                 refine rSeq ?_
                 refine cLess [15, 13] ?_
                 refine xR hE [4] rfl (L21_ReachBranches_r41_ok F _ _ _) ?_
                 intro x4
                 show OKq _ _ _ [(4, x4)] _
                 refine rThen ?_
                 refine rRet ?_
                 exact rDone (.inr rfl) rfl
               · refine rSeq ?_
                 refine cLess [15, 13, 6, 1, 0] ?_
                 refine xR hE [0, 1, 6, 13, 15, 16] rfl (L21_ReachBranches_r34_ok F _ _ _ _ _ _) ?_
                 intro x0 x1 x6 x13 x15 x16
                 show OKq _ _ _ [(16, x16), (15, x15), (13, x13), (6, x6), (1, x1), (0, x0)] _
                 refine rThen ?_
                 refine rBlock ?_
                 refine cLess [16, 15, 13, 6, 1, 0] ?_
                 refine xLoopAt [0, 1, 6, 13, 15, 16] [] (fun k1 => L21_ReachBranches_l1 F (fun x13 x15 => L21_ReachBranches_k0 F x13 x15) k1) F [x0, x1, x6, x13, x15, x16] rfl rfl (fun _ _ _ _ _ _ => rfl) fun I hI1 k1 => ?_
                 intro x0 x1 x6 x13 x15 x16
                 show OKc _ _ [(16, x16), (15, x15), (13, x13), (6, x6), (1, x1), (0, x0)] _ _
                 refine cAs (L21_ReachBranches_l1_s F _ _ _ _ _ _ _ _) ?_
                 refine rSeq ?_
                 refine rSeq ?_
                 refine cLess [16, 15, 13, 6, 1, 0] ?_
                 refine xR hE [0, 1, 6, 13, 15, 16, 162] rfl (L21_ReachBranches_r35_ok F _ _ _ _ _ _ _) ?_
                 intro x0 x1 x6 x13 x15 x16 x162
                 show OKq _ _ _ [(162, x162), (16, x16), (15, x15), (13, x13), (6, x6), (1, x1), (0, x0)] _
                 refine rThen ?_
                 refine xCond rfl rfl ?_ ?_
                 · refine rSkip ?_
                   refine rThen ?_
                   refine xSeq [0, 1, 6, 13, 15, 16] (L21_ReachBranches_k2 F (L21_ReachBranches_l1 F (fun x13 x15 => L21_ReachBranches_k0 F x13 x15) k1) ) ?_ fun hj2 => ?_
                   · intro x0 x1 x6 x13 x15 x16
                     show OKc _ _ [(16, x16), (15, x15), (13, x13), (6, x6), (1, x1), (0, x0)] _ _
                     refine cLess [16, 15, 13, 6, 1, 0] ?_
                     refine xR hE [0, 1, 6, 13, 15, 16] rfl (L21_ReachBranches_r36_ok F _ _ _ _ _ _ _) ?_
                     intro x0 x1 x6 x13 x15 x16
                     show OKq _ _ _ [(16, x16), (15, x15), (13, x13), (6, x6), (1, x1), (0, x0)] _
                     exact qLess [16, 15, 13, 6, 1, 0] (hI1 k1 x0 x1 x6 x13 x15 x16)
                   · refine rBlock ?_
                     refine rSeq ?_
                     refine rSeq ?_
                     refine cLess [16, 15, 13, 6, 1, 0] ?_
                     refine xR hE [0, 1, 6, 13, 15, 16, 167] rfl (L21_ReachBranches_r37_ok F _ _ _ _ _ _ _) ?_
                     intro x0 x1 x6 x13 x15 x16 x167
                     show OKq _ _ _ [(167, x167), (16, x16), (15, x15), (13, x13), (6, x6), (1, x1), (0, x0)] _
                     refine rThen ?_
                     refine xCond rfl rfl ?_ ?_
                     · refine rExit ?_
                       refine xThenX ?_
                       refine rOut ?_
                       exact qLess [16, 15, 13, 6, 1, 0] (hj2 x0 x1 x6 x13 x15 x16)
                     · refine rSkip ?_
                       refine rThen ?_
                       refine rSeq ?_
                       refine rSeq ?_
                       refine cLess [16, 15, 13, 6, 1, 0] ?_
                       refine xD Trymix hE [0, 1, 6, 13, 15, 16, 185] rfl L21_ReachBranches_r38_good (L21_ReachBranches_r38_ok F _ _ _ _ _ _ _) ?_
                       intro x0 x1 x6 x13 x15 x16 x185
                       show OKq _ _ _ [(185, x185), (16, x16), (15, x15), (13, x13), (6, x6), (1, x1), (0, x0)] _
                       refine rThen ?_
                       refine xCond rfl rfl ?_ ?_
                       · refine rSeq ?_
                         refine cLess [] ?_
                         refine xR hE [4] rfl (L21_ReachBranches_r39_ok F _) ?_
                         intro x4
                         show OKq _ _ _ [(4, x4)] _
                         refine rThen ?_
                         refine rRet ?_
                         refine xThenR ?_
                         refine xBlockR ?_
                         refine xThenR ?_
                         refine xThenR ?_
                         refine xBlockR ?_
                         refine xThenR ?_
                         exact rDone (.inr rfl) rfl
                       · refine rSkip ?_
                         refine rThen ?_
                         refine cLess [16, 15, 13, 6, 1, 0] ?_
                         refine xR hE [0, 1, 6, 13, 15, 16] rfl (L21_ReachBranches_r40_ok F _ _ _ _ _ _ _) ?_
                         intro x0 x1 x6 x13 x15 x16
                         show OKq _ _ _ [(16, x16), (15, x15), (13, x13), (6, x6), (1, x1), (0, x0)] _
                         refine xBlockN ?_
                         exact qLess [16, 15, 13, 6, 1, 0] (hj2 x0 x1 x6 x13 x15 x16)
                 · refine rExit ?_
                   refine xThenX ?_
                   refine xThenX ?_
                   refine rOut ?_
                   exact qLess [15, 13] (hj0 x13 x15)
             · refine rSeq ?_
               refine cLess [15, 14, 13, 6, 1, 0] ?_
               refine xR hE [0, 1, 6, 13, 15, 142] rfl (L21_ReachBranches_r30_ok F _ _ _ _ _ _ _) ?_
               intro x0 x1 x6 x13 x15 x142
               show OKq _ _ _ [(142, x142), (15, x15), (13, x13), (6, x6), (1, x1), (0, x0)] _
               refine rThen ?_
               refine xCond rfl rfl ?_ ?_
               · refine rSeq ?_
                 refine rSeq ?_
                 refine cLess [13, 6, 1, 0] ?_
                 refine xR hE [0, 1, 6, 13, 159] rfl (L21_ReachBranches_r31_ok F _ _ _ _ _) ?_
                 intro x0 x1 x6 x13 x159
                 show OKq _ _ _ [(159, x159), (13, x13), (6, x6), (1, x1), (0, x0)] _
                 refine rThen ?_
                 refine xCond rfl rfl ?_ ?_
                 · refine rSeq ?_
                   refine cLess [] ?_
                   refine xR hE [4] rfl (L21_ReachBranches_r32_ok F _) ?_
                   intro x4
                   show OKq _ _ _ [(4, x4)] _
                   refine rThen ?_
                   refine rRet ?_
                   refine xThenR ?_
                   refine xThenR ?_
                   exact rDone (.inr rfl) rfl
                 · refine rSkip ?_
                   refine rThen ?_
                   refine cLess [13, 6, 1, 0] ?_
                   refine xR hE [0, 1, 6, 13, 15] rfl (L21_ReachBranches_r33_ok F _ _ _ _ _) ?_
                   intro x0 x1 x6 x13 x15
                   show OKq _ _ _ [(15, x15), (13, x13), (6, x6), (1, x1), (0, x0)] _
                   exact qLess [15, 13, 6, 1, 0] (hj3 x0 x1 x6 x13 x15)
               · refine rSkip ?_
                 exact qLess [15, 13, 6, 1, 0] (hj3 x0 x1 x6 x13 x15)
         · refine rSeq ?_
           refine cLess [8, 7, 6, 1, 0] ?_
           refine xR hE [0, 1, 6, 7, 8, 9] rfl (L21_ReachBranches_r12_ok F _ _ _ _ _ _) ?_
           intro x0 x1 x6 x7 x8 x9
           show OKq _ _ _ [(9, x9), (8, x8), (7, x7), (6, x6), (1, x1), (0, x0)] _
           refine rThen ?_
           refine rBlock ?_
           refine cLess [9, 8, 7, 6, 1, 0] ?_
           refine xLoopAt [0, 1, 6, 7, 8, 9] [] (fun k5 => L21_ReachBranches_l5 F (fun x0 x1 x6 x7 x8 => L21_ReachBranches_k4 F x0 x1 x6 x7 x8) k5) F [x0, x1, x6, x7, x8, x9] rfl rfl (fun _ _ _ _ _ _ => rfl) fun I hI5 k5 => ?_
           intro x0 x1 x6 x7 x8 x9
           show OKc _ _ [(9, x9), (8, x8), (7, x7), (6, x6), (1, x1), (0, x0)] _ _
           refine cAs (L21_ReachBranches_l5_s F _ _ _ _ _ _ _ _) ?_
           refine rSeq ?_
           refine rSeq ?_
           refine cLess [9, 8, 7, 6, 1, 0] ?_
           refine xR hE [0, 1, 6, 7, 8, 9, 69] rfl (L21_ReachBranches_r13_ok F _ _ _ _ _ _ _) ?_
           intro x0 x1 x6 x7 x8 x9 x69
           show OKq _ _ _ [(69, x69), (9, x9), (8, x8), (7, x7), (6, x6), (1, x1), (0, x0)] _
           refine rThen ?_
           refine xCond rfl rfl ?_ ?_
           · refine rSkip ?_
             refine rThen ?_
             refine rSeq ?_
             refine rBlock ?_
             refine rSeq ?_
             refine cLess [9, 8, 7, 6, 1, 0] ?_
             refine xR hE [0, 1, 6, 7, 8, 9, 10] rfl (L21_ReachBranches_r15_ok F _ _ _ _ _ _ _) ?_
             intro x0 x1 x6 x7 x8 x9 x10
             show OKq _ _ _ [(10, x10), (9, x9), (8, x8), (7, x7), (6, x6), (1, x1), (0, x0)] _
             refine rThen ?_
             refine xSeq [0, 1, 6, 7, 8, 9, 10] (L21_ReachBranches_k7 F (L21_ReachBranches_l5 F (fun x0 x1 x6 x7 x8 => L21_ReachBranches_k4 F x0 x1 x6 x7 x8) k5) ) ?_ fun hj7 => ?_
             · intro x0 x1 x6 x7 x8 x9 x10
               show OKc _ _ [(10, x10), (9, x9), (8, x8), (7, x7), (6, x6), (1, x1), (0, x0)] _ _
               refine rSeq ?_
               refine cLess [10, 9, 8, 7, 6, 1, 0] ?_
               refine xR hE [0, 1, 6, 7, 8, 9] rfl (L21_ReachBranches_r18_ok F _ _ _ _ _ _ _ _) ?_
               intro x0 x1 x6 x7 x8 x9
               show OKq _ _ _ [(9, x9), (8, x8), (7, x7), (6, x6), (1, x1), (0, x0)] _
               refine rThen ?_
               refine rSeq ?_
               refine cLess [9, 8, 7, 6, 1, 0] ?_
               refine xR hE [0, 1, 6, 7, 8, 9, 11] rfl (L21_ReachBranches_r19_ok F _ _ _ _ _ _ _) ?_
               intro x0 x1 x6 x7 x8 x9 x11
               show OKq _ _ _ [(11, x11), (9, x9), (8, x8), (7, x7), (6, x6), (1, x1), (0, x0)] _
               refine rThen ?_
               refine xSeq [0, 1, 6, 7, 8, 9, 11] (L21_ReachBranches_k6 F (L21_ReachBranches_l5 F (fun x0 x1 x6 x7 x8 => L21_ReachBranches_k4 F x0 x1 x6 x7 x8) k5) ) ?_ fun hj6 => ?_
               · intro x0 x1 x6 x7 x8 x9 x11
                 show OKc _ _ [(11, x11), (9, x9), (8, x8), (7, x7), (6, x6), (1, x1), (0, x0)] _ _
                 refine cLess [11, 9, 8, 7, 6, 1, 0] ?_
                 refine xD Trymix hE [0, 1, 6, 7, 8, 9] rfl L21_ReachBranches_r22_good (L21_ReachBranches_r22_ok F _ _ _ _ _ _ _ _) ?_
                 intro x0 x1 x6 x7 x8 x9
                 show OKq _ _ _ [(9, x9), (8, x8), (7, x7), (6, x6), (1, x1), (0, x0)] _
                 refine xBlockN ?_
                 refine rThen ?_
                 refine cLess [9, 8, 7, 6, 1, 0] ?_
                 refine xR hE [0, 1, 6, 7, 8, 9] rfl (L21_ReachBranches_r14_ok F _ _ _ _ _ _ _) ?_
                 intro x0 x1 x6 x7 x8 x9
                 show OKq _ _ _ [(9, x9), (8, x8), (7, x7), (6, x6), (1, x1), (0, x0)] _
                 exact qLess [9, 8, 7, 6, 1, 0] (hI5 k5 x0 x1 x6 x7 x8 x9)
               · refine rSeq ?_
                 refine cLess [11, 9, 8, 7, 6, 1, 0] ?_
                 refine xR hE [0, 1, 6, 7, 8, 9, 11, 100] rfl (L21_ReachBranches_r20_ok F _ _ _ _ _ _ _ _) ?_
                 intro x0 x1 x6 x7 x8 x9 x11 x100
                 show OKq _ _ _ [(100, x100), (11, x11), (9, x9), (8, x8), (7, x7), (6, x6), (1, x1), (0, x0)] _
                 refine rThen ?_
                 refine xCond rfl rfl ?_ ?_
                 · refine cLess [11, 9, 8, 7, 6, 1, 0] ?_
                   refine xR hE [0, 1, 6, 7, 8, 9, 11] rfl (L21_ReachBranches_r21_ok F _ _ _ _ _ _ _ _) ?_
                   intro x0 x1 x6 x7 x8 x9 x11
                   show OKq _ _ _ [(11, x11), (9, x9), (8, x8), (7, x7), (6, x6), (1, x1), (0, x0)] _
                   exact qLess [11, 9, 8, 7, 6, 1, 0] (hj6 x0 x1 x6 x7 x8 x9 x11)
                 · refine rSkip ?_
                   exact qLess [11, 9, 8, 7, 6, 1, 0] (hj6 x0 x1 x6 x7 x8 x9 x11)
             · refine rSeq ?_
               refine cLess [10, 9, 8, 7, 6, 1, 0] ?_
               refine xR hE [0, 1, 6, 7, 8, 9, 10, 78] rfl (L21_ReachBranches_r16_ok F _ _ _ _ _ _ _ _) ?_
               intro x0 x1 x6 x7 x8 x9 x10 x78
               show OKq _ _ _ [(78, x78), (10, x10), (9, x9), (8, x8), (7, x7), (6, x6), (1, x1), (0, x0)] _
               refine rThen ?_
               refine xCond rfl rfl ?_ ?_
               · refine cLess [9, 8, 7, 6, 1, 0] ?_
                 refine xR hE [0, 1, 6, 7, 8, 9, 10] rfl (L21_ReachBranches_r17_ok F _ _ _ _ _ _ _) ?_
                 intro x0 x1 x6 x7 x8 x9 x10
                 show OKq _ _ _ [(10, x10), (9, x9), (8, x8), (7, x7), (6, x6), (1, x1), (0, x0)] _
                 exact qLess [10, 9, 8, 7, 6, 1, 0] (hj7 x0 x1 x6 x7 x8 x9 x10)
               · refine rSkip ?_
                 exact qLess [10, 9, 8, 7, 6, 1, 0] (hj7 x0 x1 x6 x7 x8 x9 x10)
           · refine rExit ?_
             refine xThenX ?_
             refine xThenX ?_
             refine rOut ?_
             exact qLess [8, 7, 6, 1, 0] (hj4 x0 x1 x6 x7 x8)
   · exact rFail


end Go.Fw
