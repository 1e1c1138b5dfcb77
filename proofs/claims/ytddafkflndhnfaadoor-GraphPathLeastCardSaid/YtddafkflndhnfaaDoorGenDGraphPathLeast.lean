/-
  What this law comes to.
-/
import Derived.Test.YtddafkflndhnfaaDoorGenD
set_option linter.unusedVariables false
set_option maxRecDepth 20000
namespace Go.Fw
open Go.Proofs

/-! ### haruspex/haruspexlaw5.GraphPathLeast -/

def L5_GraphPathLeast_env (F : Nat) : Env := envOf [(16, L5_begun_m F), (17, L5_Made_m F), (19, graph_Reach_m F), (30, graph_Path_m F), (33, bitset_Set_Has_m F), (34, R1_In_m F), (35, R1_Put_m F)]

noncomputable def L5_GraphPathLeast_R (F : Nat) := rK Tryd.prog TrydG (L5_GraphPathLeast_env F) Tryd.f9
noncomputable def L5_GraphPathLeast_D (F : Nat) := dK Tryd.prog TrydG (L5_GraphPathLeast_env F) Tryd.f9

def L5_GraphPathLeast_r30 (F : Nat) (x3 x13 : Value) (K : Value → M Value) : M Value :=
  bnd (R1_In F x13 x3) fun v155 => K v155

theorem L5_GraphPathLeast_r30_ok (F : Nat) (x3 x13 : Value) (K : Value → M Value) : L5_GraphPathLeast_r30 F x3 x13 K = L5_GraphPathLeast_R F 30 [(13, x13), (3, x3)] [8] K := by kernel_rfl

def L5_GraphPathLeast_k0 (F : Nat) (x3 x13 : Value) : M Value :=
  L5_GraphPathLeast_r30 F x3 x13 (fun x8 => ret x8)

def L5_GraphPathLeast_r14 (F : Nat) (x3 x10 x11 x13 x14 : Value) (K : Value → Value → Value → Value → Value → M Value) : M Value :=
  bnd (opBin .add x14 (.int .i64 (1))) fun v87 => K x3 x10 x11 x13 v87

theorem L5_GraphPathLeast_r14_ok (F : Nat) (x3 x10 x11 x13 x14 : Value) (K : Value → Value → Value → Value → Value → M Value) : L5_GraphPathLeast_r14 F x3 x10 x11 x13 x14 K = L5_GraphPathLeast_R F 14 [(14, x14), (13, x13), (11, x11), (10, x10), (3, x3)] [3, 10, 11, 13, 14] K := by kernel_rfl

def L5_GraphPathLeast_k2 (F : Nat) (A1 : Value → Value → Value → Value → Value → M Value) (x3 x10 x11 x13 x14 : Value) : M Value :=
  L5_GraphPathLeast_r14 F x3 x10 x11 x13 x14 (fun x3 x10 x11 x13 x14 => A1 x3 x10 x11 x13 x14)

def L5_GraphPathLeast_r29 (F : Nat) (x3 x10 x11 x14 x15 : Value) (K : Value → Value → Value → Value → Value → M Value) : M Value :=
  K x3 x10 x11 x15 x14

theorem L5_GraphPathLeast_r29_ok (F : Nat) (x3 x10 x11 x14 x15 : Value) (K : Value → Value → Value → Value → Value → M Value) : L5_GraphPathLeast_r29 F x3 x10 x11 x14 x15 K = L5_GraphPathLeast_R F 29 [(15, x15), (14, x14), (11, x11), (10, x10), (3, x3)] [3, 10, 11, 13, 14] K := by kernel_rfl

def L5_GraphPathLeast_k3 (F : Nat) (A1 : Value → Value → Value → Value → Value → M Value) (x3 x10 x11 x14 x15 : Value) : M Value :=
  L5_GraphPathLeast_r29 F x3 x10 x11 x14 x15 (fun x3 x10 x11 x13 x14 => L5_GraphPathLeast_k2 F A1 x3 x10 x11 x13 x14)

def L5_GraphPathLeast_r27 (F : Nat) (x3 x10 x11 x13 x14 x15 x18 : Value) (K : Value → Value → Value → Value → Value → Value → Value → M Value) : M Value :=
  bnd (opBin .add x18 (.int .i64 (1))) fun v145 => K x3 x10 x11 x13 x14 x15 v145

theorem L5_GraphPathLeast_r27_ok (F : Nat) (x3 x10 x11 x13 x14 x15 x18 : Value) (K : Value → Value → Value → Value → Value → Value → Value → M Value) : L5_GraphPathLeast_r27 F x3 x10 x11 x13 x14 x15 x18 K = L5_GraphPathLeast_R F 27 [(18, x18), (15, x15), (14, x14), (13, x13), (11, x11), (10, x10), (3, x3)] [3, 10, 11, 13, 14, 15, 18] K := by kernel_rfl

def L5_GraphPathLeast_r28 (F : Nat) (x3 x10 x11 x13 x14 x15 x18 : Value) (K : Value → Value → Value → Value → Value → Value → Value → M Value) : M Value :=
  bnd (opIndexAddr 1 x13 x18) fun v149 => bnd (opLoad v149) fun v150 => bnd (R1_Put F x15 v150) fun v151 => K x3 x10 x11 x13 x14 v151 x18

theorem L5_GraphPathLeast_r28_ok (F : Nat) (x3 x10 x11 x13 x14 x15 x18 : Value) (K : Value → Value → Value → Value → Value → Value → Value → M Value) : L5_GraphPathLeast_r28 F x3 x10 x11 x13 x14 x15 x18 K = L5_GraphPathLeast_R F 28 [(18, x18), (15, x15), (14, x14), (13, x13), (11, x11), (10, x10), (3, x3)] [3, 10, 11, 13, 14, 15, 18] K := by kernel_rfl

def L5_GraphPathLeast_r26 (F : Nat) (x3 x10 x11 x13 x14 x15 x18 : Value) (K : Value → Value → Value → Value → Value → Value → Value → Value → M Value) : M Value :=
  bnd (opLen x13) fun v142 => bnd (opBin .lss x18 v142) fun v143 => K x3 x10 x11 x13 x14 x15 x18 v143

theorem L5_GraphPathLeast_r26_ok (F : Nat) (x3 x10 x11 x13 x14 x15 x18 : Value) (K : Value → Value → Value → Value → Value → Value → Value → Value → M Value) : L5_GraphPathLeast_r26 F x3 x10 x11 x13 x14 x15 x18 K = L5_GraphPathLeast_R F 26 [(18, x18), (15, x15), (14, x14), (13, x13), (11, x11), (10, x10), (3, x3)] [3, 10, 11, 13, 14, 15, 18, 143] K := by kernel_rfl

def L5_GraphPathLeast_b4 (F : Nat) (E4_6 : Value → Value → Value → Value → Value → M Value) (A4 : Value → Value → Value → Value → Value → Value → Value → M Value) (x3 x10 x11 x13 x14 x15 x18 : Value) : M Value :=
  L5_GraphPathLeast_r26 F x3 x10 x11 x13 x14 x15 x18 (fun x3 x10 x11 x13 x14 x15 x18 x143 => onB x143 (L5_GraphPathLeast_r28 F x3 x10 x11 x13 x14 x15 x18 (fun x3 x10 x11 x13 x14 x15 x18 => L5_GraphPathLeast_r27 F x3 x10 x11 x13 x14 x15 x18 (fun x3 x10 x11 x13 x14 x15 x18 => A4 x3 x10 x11 x13 x14 x15 x18))) (E4_6 x3 x10 x11 x14 x15))

def L5_GraphPathLeast_l4 (F : Nat) (E4_6 : Value → Value → Value → Value → Value → M Value) : Nat → Value → Value → Value → Value → Value → Value → Value → M Value
  | 0, _, _, _, _, _, _, _ => fail
  | k4 + 1, x3, x10, x11, x13, x14, x15, x18 => L5_GraphPathLeast_b4 F E4_6 (L5_GraphPathLeast_l4 F E4_6 k4) x3 x10 x11 x13 x14 x15 x18

theorem L5_GraphPathLeast_l4_s (F : Nat) (E4_6 : Value → Value → Value → Value → Value → M Value) (k4 : Nat) (x3 x10 x11 x13 x14 x15 x18 : Value) : L5_GraphPathLeast_l4 F E4_6 (k4 + 1) x3 x10 x11 x13 x14 x15 x18 = L5_GraphPathLeast_b4 F E4_6 (L5_GraphPathLeast_l4 F E4_6 k4) x3 x10 x11 x13 x14 x15 x18 := rfl

def L5_GraphPathLeast_r25 (F : Nat) (x3 x10 x11 x13 x14 x15 : Value) (K : Value → Value → Value → Value → Value → Value → Value → M Value) : M Value :=
  K x3 x10 x11 x13 x14 x15 (.int .i64 (0))

theorem L5_GraphPathLeast_r25_ok (F : Nat) (x3 x10 x11 x13 x14 x15 : Value) (K : Value → Value → Value → Value → Value → Value → Value → M Value) : L5_GraphPathLeast_r25 F x3 x10 x11 x13 x14 x15 K = L5_GraphPathLeast_R F 25 [(15, x15), (14, x14), (13, x13), (11, x11), (10, x10), (3, x3)] [3, 10, 11, 13, 14, 15, 18] K := by kernel_rfl

def L5_GraphPathLeast_k5 (F : Nat) (A1 : Value → Value → Value → Value → Value → M Value) (x3 x10 x11 x13 x14 x15 : Value) : M Value :=
  L5_GraphPathLeast_r25 F x3 x10 x11 x13 x14 x15 (fun x3 x10 x11 x13 x14 x15 x18 => L5_GraphPathLeast_l4 F (fun x3 x10 x11 x14 x15 => L5_GraphPathLeast_k3 F A1 x3 x10 x11 x14 x15) F x3 x10 x11 x13 x14 x15 x18)

def L5_GraphPathLeast_r20 (F : Nat) (x3 x10 x11 x13 x14 x15 x16 : Value) (K : Value → Value → Value → Value → Value → Value → Value → M Value) : M Value :=
  bnd (opBin .add x16 (.int .i64 (1))) fun v113 => K x3 x10 x11 x13 x14 x15 v113

theorem L5_GraphPathLeast_r20_ok (F : Nat) (x3 x10 x11 x13 x14 x15 x16 : Value) (K : Value → Value → Value → Value → Value → Value → Value → M Value) : L5_GraphPathLeast_r20 F x3 x10 x11 x13 x14 x15 x16 K = L5_GraphPathLeast_R F 20 [(16, x16), (15, x15), (14, x14), (13, x13), (11, x11), (10, x10), (3, x3)] [3, 10, 11, 13, 14, 15, 16] K := by kernel_rfl

def L5_GraphPathLeast_k7 (F : Nat) (A6 : Value → Value → Value → Value → Value → Value → Value → M Value) (x3 x10 x11 x13 x14 x15 x16 : Value) : M Value :=
  L5_GraphPathLeast_r20 F x3 x10 x11 x13 x14 x15 x16 (fun x3 x10 x11 x13 x14 x15 x16 => A6 x3 x10 x11 x13 x14 x15 x16)

def L5_GraphPathLeast_r23 (F : Nat) (x3 x10 x11 x13 x14 x15 x16 x17 : Value) (K : Value → Value → Value → Value → Value → Value → Value → Value → M Value) : M Value :=
  bnd (opBin .add x17 (.int .i64 (1))) fun v126 => K x3 x10 x11 x13 x14 x15 x16 v126

theorem L5_GraphPathLeast_r23_ok (F : Nat) (x3 x10 x11 x13 x14 x15 x16 x17 : Value) (K : Value → Value → Value → Value → Value → Value → Value → Value → M Value) : L5_GraphPathLeast_r23 F x3 x10 x11 x13 x14 x15 x16 x17 K = L5_GraphPathLeast_R F 23 [(17, x17), (16, x16), (15, x15), (14, x14), (13, x13), (11, x11), (10, x10), (3, x3)] [3, 10, 11, 13, 14, 15, 16, 17] K := by kernel_rfl

def L5_GraphPathLeast_r24 (F : Nat) (x3 x10 x11 x13 x14 x15 x16 x17 : Value) (K : Value → Value → Value → Value → Value → Value → Value → Value → M Value) : M Value :=
  bnd (opFieldAddr 1 x10) fun v128 => bnd (opLoad v128) fun v129 => bnd (opIndexAddr 1 x13 x16) fun v132 => bnd (opLoad v132) fun v133 => bnd (opIndexAddr 1 v129 v133) fun v134 => bnd (opLoad v134) fun v135 => bnd (opIndexAddr 1 v135 x17) fun v137 => bnd (opLoad v137) fun v138 => bnd (R1_Put F x15 v138) fun v139 => K x3 x10 x11 x13 x14 v139 x16 x17

theorem L5_GraphPathLeast_r24_ok (F : Nat) (x3 x10 x11 x13 x14 x15 x16 x17 : Value) (K : Value → Value → Value → Value → Value → Value → Value → Value → M Value) : L5_GraphPathLeast_r24 F x3 x10 x11 x13 x14 x15 x16 x17 K = L5_GraphPathLeast_D F 24 [0, 1, 2, 3, 4, 5, 6, 7, 8, 9, 10, 11, 12, 13] [(17, x17), (16, x16), (15, x15), (14, x14), (13, x13), (11, x11), (10, x10), (3, x3)] [3, 10, 11, 13, 14, 15, 16, 17] K := by kernel_rfl

theorem L5_GraphPathLeast_r24_good : goodOrder (opsOf Tryd.f9 24) [0, 1, 2, 3, 4, 5, 6, 7, 8, 9, 10, 11, 12, 13] = true := by kernel_rfl

def L5_GraphPathLeast_r22 (F : Nat) (x3 x10 x11 x13 x14 x15 x16 x17 : Value) (K : Value → Value → Value → Value → Value → Value → Value → Value → Value → M Value) : M Value :=
  bnd (opFieldAddr 1 x10) fun v115 => bnd (opLoad v115) fun v116 => bnd (opIndexAddr 1 x13 x16) fun v119 => bnd (opLoad v119) fun v120 => bnd (opIndexAddr 1 v116 v120) fun v121 => bnd (opLoad v121) fun v122 => bnd (opLen v122) fun v123 => bnd (opBin .lss x17 v123) fun v124 => K x3 x10 x11 x13 x14 x15 x16 x17 v124

theorem L5_GraphPathLeast_r22_ok (F : Nat) (x3 x10 x11 x13 x14 x15 x16 x17 : Value) (K : Value → Value → Value → Value → Value → Value → Value → Value → Value → M Value) : L5_GraphPathLeast_r22 F x3 x10 x11 x13 x14 x15 x16 x17 K = L5_GraphPathLeast_D F 22 [0, 1, 2, 3, 4, 5, 6, 7, 8, 9, 10] [(17, x17), (16, x16), (15, x15), (14, x14), (13, x13), (11, x11), (10, x10), (3, x3)] [3, 10, 11, 13, 14, 15, 16, 17, 124] K := by kernel_rfl

theorem L5_GraphPathLeast_r22_good : goodOrder (opsOf Tryd.f9 22) [0, 1, 2, 3, 4, 5, 6, 7, 8, 9, 10] = true := by kernel_rfl

def L5_GraphPathLeast_b8 (F : Nat) (E8_4 : Value → Value → Value → Value → Value → Value → Value → M Value) (A8 : Value → Value → Value → Value → Value → Value → Value → Value → M Value) (x3 x10 x11 x13 x14 x15 x16 x17 : Value) : M Value :=
  L5_GraphPathLeast_r22 F x3 x10 x11 x13 x14 x15 x16 x17 (fun x3 x10 x11 x13 x14 x15 x16 x17 x124 => onB x124 (L5_GraphPathLeast_r24 F x3 x10 x11 x13 x14 x15 x16 x17 (fun x3 x10 x11 x13 x14 x15 x16 x17 => L5_GraphPathLeast_r23 F x3 x10 x11 x13 x14 x15 x16 x17 (fun x3 x10 x11 x13 x14 x15 x16 x17 => A8 x3 x10 x11 x13 x14 x15 x16 x17))) (E8_4 x3 x10 x11 x13 x14 x15 x16))

def L5_GraphPathLeast_l8 (F : Nat) (E8_4 : Value → Value → Value → Value → Value → Value → Value → M Value) : Nat → Value → Value → Value → Value → Value → Value → Value → Value → M Value
  | 0, _, _, _, _, _, _, _, _ => fail
  | k8 + 1, x3, x10, x11, x13, x14, x15, x16, x17 => L5_GraphPathLeast_b8 F E8_4 (L5_GraphPathLeast_l8 F E8_4 k8) x3 x10 x11 x13 x14 x15 x16 x17

theorem L5_GraphPathLeast_l8_s (F : Nat) (E8_4 : Value → Value → Value → Value → Value → Value → Value → M Value) (k8 : Nat) (x3 x10 x11 x13 x14 x15 x16 x17 : Value) : L5_GraphPathLeast_l8 F E8_4 (k8 + 1) x3 x10 x11 x13 x14 x15 x16 x17 = L5_GraphPathLeast_b8 F E8_4 (L5_GraphPathLeast_l8 F E8_4 k8) x3 x10 x11 x13 x14 x15 x16 x17 := rfl

def L5_GraphPathLeast_r21 (F : Nat) (x3 x10 x11 x13 x14 x15 x16 : Value) (K : Value → Value → Value → Value → Value → Value → Value → Value → M Value) : M Value :=
  K x3 x10 x11 x13 x14 x15 x16 (.int .i64 (0))

theorem L5_GraphPathLeast_r21_ok (F : Nat) (x3 x10 x11 x13 x14 x15 x16 : Value) (K : Value → Value → Value → Value → Value → Value → Value → Value → M Value) : L5_GraphPathLeast_r21 F x3 x10 x11 x13 x14 x15 x16 K = L5_GraphPathLeast_R F 21 [(16, x16), (15, x15), (14, x14), (13, x13), (11, x11), (10, x10), (3, x3)] [3, 10, 11, 13, 14, 15, 16, 17] K := by kernel_rfl

def L5_GraphPathLeast_r19 (F : Nat) (x3 x10 x11 x13 x14 x15 x16 : Value) (K : Value → Value → Value → Value → Value → Value → Value → Value → M Value) : M Value :=
  bnd (opLen x13) fun v110 => bnd (opBin .lss x16 v110) fun v111 => K x3 x10 x11 x13 x14 x15 x16 v111

theorem L5_GraphPathLeast_r19_ok (F : Nat) (x3 x10 x11 x13 x14 x15 x16 : Value) (K : Value → Value → Value → Value → Value → Value → Value → Value → M Value) : L5_GraphPathLeast_r19 F x3 x10 x11 x13 x14 x15 x16 K = L5_GraphPathLeast_R F 19 [(16, x16), (15, x15), (14, x14), (13, x13), (11, x11), (10, x10), (3, x3)] [3, 10, 11, 13, 14, 15, 16, 111] K := by kernel_rfl

def L5_GraphPathLeast_b6 (F : Nat) (E6_2 : Value → Value → Value → Value → Value → Value → M Value) (A6 : Value → Value → Value → Value → Value → Value → Value → M Value) (x3 x10 x11 x13 x14 x15 x16 : Value) : M Value :=
  L5_GraphPathLeast_r19 F x3 x10 x11 x13 x14 x15 x16 (fun x3 x10 x11 x13 x14 x15 x16 x111 => onB x111 (L5_GraphPathLeast_r21 F x3 x10 x11 x13 x14 x15 x16 (fun x3 x10 x11 x13 x14 x15 x16 x17 => L5_GraphPathLeast_l8 F (fun x3 x10 x11 x13 x14 x15 x16 => L5_GraphPathLeast_k7 F A6 x3 x10 x11 x13 x14 x15 x16) F x3 x10 x11 x13 x14 x15 x16 x17)) (E6_2 x3 x10 x11 x13 x14 x15))

def L5_GraphPathLeast_l6 (F : Nat) (E6_2 : Value → Value → Value → Value → Value → Value → M Value) : Nat → Value → Value → Value → Value → Value → Value → Value → M Value
  | 0, _, _, _, _, _, _, _ => fail
  | k6 + 1, x3, x10, x11, x13, x14, x15, x16 => L5_GraphPathLeast_b6 F E6_2 (L5_GraphPathLeast_l6 F E6_2 k6) x3 x10 x11 x13 x14 x15 x16

theorem L5_GraphPathLeast_l6_s (F : Nat) (E6_2 : Value → Value → Value → Value → Value → Value → M Value) (k6 : Nat) (x3 x10 x11 x13 x14 x15 x16 : Value) : L5_GraphPathLeast_l6 F E6_2 (k6 + 1) x3 x10 x11 x13 x14 x15 x16 = L5_GraphPathLeast_b6 F E6_2 (L5_GraphPathLeast_l6 F E6_2 k6) x3 x10 x11 x13 x14 x15 x16 := rfl

def L5_GraphPathLeast_r18 (F : Nat) (x3 x10 x11 x13 x14 x15 : Value) (K : Value → Value → Value → Value → Value → Value → Value → M Value) : M Value :=
  K x3 x10 x11 x13 x14 x15 (.int .i64 (0))

theorem L5_GraphPathLeast_r18_ok (F : Nat) (x3 x10 x11 x13 x14 x15 : Value) (K : Value → Value → Value → Value → Value → Value → Value → M Value) : L5_GraphPathLeast_r18 F x3 x10 x11 x13 x14 x15 K = L5_GraphPathLeast_R F 18 [(15, x15), (14, x14), (13, x13), (11, x11), (10, x10), (3, x3)] [3, 10, 11, 13, 14, 15, 16] K := by kernel_rfl

def L5_GraphPathLeast_r17 (F : Nat) (x3 x10 x11 x13 x14 : Value) (K : Value → Value → Value → Value → Value → Value → M Value) : M Value :=
  K x3 x10 x11 x13 x14 (.slice none 0 0)

theorem L5_GraphPathLeast_r17_ok (F : Nat) (x3 x10 x11 x13 x14 : Value) (K : Value → Value → Value → Value → Value → Value → M Value) : L5_GraphPathLeast_r17 F x3 x10 x11 x13 x14 K = L5_GraphPathLeast_R F 17 [(14, x14), (13, x13), (11, x11), (10, x10), (3, x3)] [3, 10, 11, 13, 14, 15] K := by kernel_rfl

def L5_GraphPathLeast_r16 (F : Nat) (K : Value → M Value) : M Value :=
  K (.bool false)

theorem L5_GraphPathLeast_r16_ok (F : Nat) (K : Value → M Value) : L5_GraphPathLeast_r16 F K = L5_GraphPathLeast_R F 16 [] [8] K := by kernel_rfl

def L5_GraphPathLeast_r15 (F : Nat) (x3 x10 x11 x13 x14 : Value) (K : Value → Value → Value → Value → Value → Value → M Value) : M Value :=
  bnd (opFieldAddr 1 x10) fun v88 => bnd (opLoad v88) fun v89 => bnd (opBin .sub x14 (.int .i64 (1))) fun v92 => bnd (opIndexAddr 1 x11 v92) fun v93 => bnd (opLoad v93) fun v94 => bnd (opIndexAddr 1 v89 v94) fun v95 => bnd (opLoad v95) fun v96 => bnd (opIndexAddr 1 x11 x14) fun v99 => bnd (opLoad v99) fun v100 => bnd (R1_In F v96 v100) fun v101 => bnd (opNot v101) fun v102 => onB v102 (K x3 x10 x11 x13 x14 (.bool true)) (bnd (R1_In F x13 x3) fun v106 => K x3 x10 x11 x13 x14 v106)

theorem L5_GraphPathLeast_r15_ok (F : Nat) (x3 x10 x11 x13 x14 : Value) (K : Value → Value → Value → Value → Value → Value → M Value) : L5_GraphPathLeast_r15 F x3 x10 x11 x13 x14 K = L5_GraphPathLeast_D F 15 [0, 1, 2, 3, 4, 5, 6, 7, 8, 9, 10, 11, 12, 13, 14, 15, 16, 17, 18, 19] [(14, x14), (13, x13), (11, x11), (10, x10), (3, x3)] [3, 10, 11, 13, 14, 107] K := by kernel_rfl

theorem L5_GraphPathLeast_r15_good : goodOrder (opsOf Tryd.f9 15) [0, 1, 2, 3, 4, 5, 6, 7, 8, 9, 10, 11, 12, 13, 14, 15, 16, 17, 18, 19] = true := by kernel_rfl

def L5_GraphPathLeast_r13 (F : Nat) (x3 x10 x11 x13 x14 : Value) (K : Value → Value → Value → Value → Value → Value → M Value) : M Value :=
  bnd (opLen x11) fun v84 => bnd (opBin .lss x14 v84) fun v85 => K x3 x10 x11 x13 x14 v85

theorem L5_GraphPathLeast_r13_ok (F : Nat) (x3 x10 x11 x13 x14 : Value) (K : Value → Value → Value → Value → Value → Value → M Value) : L5_GraphPathLeast_r13 F x3 x10 x11 x13 x14 K = L5_GraphPathLeast_R F 13 [(14, x14), (13, x13), (11, x11), (10, x10), (3, x3)] [3, 10, 11, 13, 14, 85] K := by kernel_rfl

def L5_GraphPathLeast_b1 (F : Nat) (E1_0 : Value → Value → M Value) (A1 : Value → Value → Value → Value → Value → M Value) (x3 x10 x11 x13 x14 : Value) : M Value :=
  L5_GraphPathLeast_r13 F x3 x10 x11 x13 x14 (fun x3 x10 x11 x13 x14 x85 => onB x85 (L5_GraphPathLeast_r15 F x3 x10 x11 x13 x14 (fun x3 x10 x11 x13 x14 x107 => onB x107 (L5_GraphPathLeast_r16 F (fun x8 => ret x8)) (L5_GraphPathLeast_r17 F x3 x10 x11 x13 x14 (fun x3 x10 x11 x13 x14 x15 => L5_GraphPathLeast_r18 F x3 x10 x11 x13 x14 x15 (fun x3 x10 x11 x13 x14 x15 x16 => L5_GraphPathLeast_l6 F (fun x3 x10 x11 x13 x14 x15 => L5_GraphPathLeast_k5 F A1 x3 x10 x11 x13 x14 x15) F x3 x10 x11 x13 x14 x15 x16))))) (E1_0 x3 x13))

def L5_GraphPathLeast_l1 (F : Nat) (E1_0 : Value → Value → M Value) : Nat → Value → Value → Value → Value → Value → M Value
  | 0, _, _, _, _, _ => fail
  | k1 + 1, x3, x10, x11, x13, x14 => L5_GraphPathLeast_b1 F E1_0 (L5_GraphPathLeast_l1 F E1_0 k1) x3 x10 x11 x13 x14

theorem L5_GraphPathLeast_l1_s (F : Nat) (E1_0 : Value → Value → M Value) (k1 : Nat) (x3 x10 x11 x13 x14 : Value) : L5_GraphPathLeast_l1 F E1_0 (k1 + 1) x3 x10 x11 x13 x14 = L5_GraphPathLeast_b1 F E1_0 (L5_GraphPathLeast_l1 F E1_0 k1) x3 x10 x11 x13 x14 := rfl

def L5_GraphPathLeast_r12 (F : Nat) (x3 x10 x11 x13 : Value) (K : Value → Value → Value → Value → Value → M Value) : M Value :=
  K x3 x10 x11 x13 (.int .i64 (1))

theorem L5_GraphPathLeast_r12_ok (F : Nat) (x3 x10 x11 x13 : Value) (K : Value → Value → Value → Value → Value → M Value) : L5_GraphPathLeast_r12 F x3 x10 x11 x13 K = L5_GraphPathLeast_R F 12 [(13, x13), (11, x11), (10, x10), (3, x3)] [3, 10, 11, 13, 14] K := by kernel_rfl

def L5_GraphPathLeast_r11 (F : Nat) (x2 x3 x10 x11 : Value) (K : Value → Value → Value → Value → M Value) : M Value :=
  bnd (opBuildSlice 1 (rep 1 [(.int .i64 (0))]) [(0, 1, false, x2)]) fun v81 => K x3 x10 x11 v81

theorem L5_GraphPathLeast_r11_ok (F : Nat) (x2 x3 x10 x11 : Value) (K : Value → Value → Value → Value → M Value) : L5_GraphPathLeast_r11 F x2 x3 x10 x11 K = L5_GraphPathLeast_R F 11 [(11, x11), (10, x10), (3, x3), (2, x2)] [3, 10, 11, 13] K := by kernel_rfl

def L5_GraphPathLeast_r10 (F : Nat) (K : Value → M Value) : M Value :=
  K (.bool false)

theorem L5_GraphPathLeast_r10_ok (F : Nat) (K : Value → M Value) : L5_GraphPathLeast_r10 F K = L5_GraphPathLeast_R F 10 [] [8] K := by kernel_rfl

def L5_GraphPathLeast_r9 (F : Nat) (x2 x3 x10 x11 x12 : Value) (K : Value → Value → Value → Value → Value → M Value) : M Value :=
  bnd (opNot x12) fun v62 => onB v62 (K x2 x3 x10 x11 (.bool true)) (bnd (opIndexAddr 1 x11 (.int .i64 (0))) fun v65 => bnd (opLoad v65) fun v66 => bnd (opBin .neq v66 x2) fun v68 => onB v68 (K x2 x3 x10 x11 (.bool true)) (bnd (opLen x11) fun v73 => bnd (opBin .sub v73 (.int .i64 (1))) fun v74 => bnd (opIndexAddr 1 x11 v74) fun v75 => bnd (opLoad v75) fun v76 => bnd (opBin .neq v76 x3) fun v78 => K x2 x3 x10 x11 v78))

theorem L5_GraphPathLeast_r9_ok (F : Nat) (x2 x3 x10 x11 x12 : Value) (K : Value → Value → Value → Value → Value → M Value) : L5_GraphPathLeast_r9 F x2 x3 x10 x11 x12 K = L5_GraphPathLeast_R F 9 [(12, x12), (11, x11), (10, x10), (3, x3), (2, x2)] [2, 3, 10, 11, 79] K := by kernel_rfl

def L5_GraphPathLeast_r8 (F : Nat) (x2 x3 x10 x12 : Value) (K : Value → M Value) : M Value :=
  bnd (opNot x12) fun v51 => onB v51 (K (.bool true)) (bnd (opLoadN 2 x10) fun v53 => bnd (opBuildSlice 1 (rep 1 [(.int .i64 (0))]) [(0, 1, false, x2)]) fun v55 => bnd (graph_Reach F v53 v55) fun v56 => bnd (bitset_Set_Has F v56 x3) fun v58 => bnd (opNot v58) fun v59 => K v59)

theorem L5_GraphPathLeast_r8_ok (F : Nat) (x2 x3 x10 x12 : Value) (K : Value → M Value) : L5_GraphPathLeast_r8 F x2 x3 x10 x12 K = L5_GraphPathLeast_R F 8 [(12, x12), (10, x10), (3, x3), (2, x2)] [8] K := by kernel_rfl

def L5_GraphPathLeast_r7 (F : Nat) (x2 x3 x10 x11 x12 : Value) (K : Value → Value → Value → Value → Value → Value → M Value) : M Value :=
  bnd (opLen x11) fun v48 => bnd (opBin .eql v48 (.int .i64 (0))) fun v49 => K x2 x3 x10 x11 x12 v49

theorem L5_GraphPathLeast_r7_ok (F : Nat) (x2 x3 x10 x11 x12 : Value) (K : Value → Value → Value → Value → Value → Value → M Value) : L5_GraphPathLeast_r7 F x2 x3 x10 x11 x12 K = L5_GraphPathLeast_R F 7 [(12, x12), (11, x11), (10, x10), (3, x3), (2, x2)] [2, 3, 10, 11, 12, 49] K := by kernel_rfl

def L5_GraphPathLeast_r6 (F : Nat) (x2 x3 x10 x11 : Value) (K : Value → Value → Value → Value → Value → M Value) : M Value :=
  bnd (opBin .geq x2 (.int .i64 (0))) fun v30 => onB v30 (bnd (opFieldAddr 0 x10) fun v33 => bnd (opLoad v33) fun v34 => bnd (opBin .lss x2 v34) fun v35 => onB v35 (bnd (opBin .geq x3 (.int .i64 (0))) fun v39 => onB v39 (bnd (opFieldAddr 0 x10) fun v43 => bnd (opLoad v43) fun v44 => bnd (opBin .lss x3 v44) fun v45 => K x2 x3 x10 x11 v45) (K x2 x3 x10 x11 (.bool false))) (K x2 x3 x10 x11 (.bool false))) (K x2 x3 x10 x11 (.bool false))

theorem L5_GraphPathLeast_r6_ok (F : Nat) (x2 x3 x10 x11 : Value) (K : Value → Value → Value → Value → Value → M Value) : L5_GraphPathLeast_r6 F x2 x3 x10 x11 K = L5_GraphPathLeast_R F 6 [(11, x11), (10, x10), (3, x3), (2, x2)] [2, 3, 10, 11, 12] K := by kernel_rfl

def L5_GraphPathLeast_r5 (F : Nat) (x2 x3 x10 : Value) (K : Value → Value → Value → Value → M Value) : M Value :=
  bnd (opLoadN 2 x10) fun v25 => bnd (graph_Path F v25 x2 x3) fun v28 => K x2 x3 x10 v28

theorem L5_GraphPathLeast_r5_ok (F : Nat) (x2 x3 x10 : Value) (K : Value → Value → Value → Value → M Value) : L5_GraphPathLeast_r5 F x2 x3 x10 K = L5_GraphPathLeast_R F 5 [(10, x10), (3, x3), (2, x2)] [2, 3, 10, 11] K := by kernel_rfl

def L5_GraphPathLeast_r4 (F : Nat) (x0 x1 x2 x3 : Value) (K : Value → Value → Value → M Value) : M Value :=
  bnd (L5_Made F x0 x1) fun v24 => bnd (opPtr [(.int .i64 (0)), (.slice none 0 0)]) fun v10 => bnd (opStoreN 2 v10 v24) fun _ => K x2 x3 v10

theorem L5_GraphPathLeast_r4_ok (F : Nat) (x0 x1 x2 x3 : Value) (K : Value → Value → Value → M Value) : L5_GraphPathLeast_r4 F x0 x1 x2 x3 K = L5_GraphPathLeast_R F 4 [(3, x3), (2, x2), (1, x1), (0, x0)] [2, 3, 10] K := by kernel_rfl

def L5_GraphPathLeast_r3 (F : Nat) (K : Value → M Value) : M Value :=
  K (.bool false)

theorem L5_GraphPathLeast_r3_ok (F : Nat) (K : Value → M Value) : L5_GraphPathLeast_r3 F K = L5_GraphPathLeast_R F 3 [] [8] K := by kernel_rfl

def L5_GraphPathLeast_r2 (F : Nat) (x0 x1 x2 x3 x9 : Value) (K : Value → Value → Value → Value → Value → M Value) : M Value :=
  bnd (opNot x9) fun v21 => K x0 x1 x2 x3 v21

theorem L5_GraphPathLeast_r2_ok (F : Nat) (x0 x1 x2 x3 x9 : Value) (K : Value → Value → Value → Value → Value → M Value) : L5_GraphPathLeast_r2 F x0 x1 x2 x3 x9 K = L5_GraphPathLeast_R F 2 [(9, x9), (3, x3), (2, x2), (1, x1), (0, x0)] [0, 1, 2, 3, 21] K := by kernel_rfl

def L5_GraphPathLeast_r1 (F : Nat) (x0 x1 x2 x3 : Value) (K : Value → Value → Value → Value → Value → M Value) : M Value :=
  bnd (L5_begun F) fun v19 => K x0 x1 x2 x3 v19

theorem L5_GraphPathLeast_r1_ok (F : Nat) (x0 x1 x2 x3 : Value) (K : Value → Value → Value → Value → Value → M Value) : L5_GraphPathLeast_r1 F x0 x1 x2 x3 K = L5_GraphPathLeast_R F 1 [(3, x3), (2, x2), (1, x1), (0, x0)] [0, 1, 2, 3, 9] K := by kernel_rfl

def L5_GraphPathLeast_r0 (F : Nat) (x0 x1 x2 x3 : Value) (K : Value → Value → Value → Value → M Value) : M Value :=
  K x0 x1 x2 x3

theorem L5_GraphPathLeast_r0_ok (F : Nat) (x0 x1 x2 x3 : Value) (K : Value → Value → Value → Value → M Value) : L5_GraphPathLeast_r0 F x0 x1 x2 x3 K = L5_GraphPathLeast_R F 0 [(3, x3), (2, x2), (1, x1), (0, x0)] [0, 1, 2, 3] K := by kernel_rfl

def L5_GraphPathLeast (F : Nat) (x0 x1 x2 x3 : Value) : M Value :=
  L5_GraphPathLeast_r0 F x0 x1 x2 x3 (fun x0 x1 x2 x3 => L5_GraphPathLeast_r1 F x0 x1 x2 x3 (fun x0 x1 x2 x3 x9 => L5_GraphPathLeast_r2 F x0 x1 x2 x3 x9 (fun x0 x1 x2 x3 x21 => onB x21 (L5_GraphPathLeast_r3 F (fun x8 => ret x8)) (L5_GraphPathLeast_r4 F x0 x1 x2 x3 (fun x2 x3 x10 => L5_GraphPathLeast_r5 F x2 x3 x10 (fun x2 x3 x10 x11 => L5_GraphPathLeast_r6 F x2 x3 x10 x11 (fun x2 x3 x10 x11 x12 => L5_GraphPathLeast_r7 F x2 x3 x10 x11 x12 (fun x2 x3 x10 x11 x12 x49 => onB x49 (L5_GraphPathLeast_r8 F x2 x3 x10 x12 (fun x8 => ret x8)) (L5_GraphPathLeast_r9 F x2 x3 x10 x11 x12 (fun x2 x3 x10 x11 x79 => onB x79 (L5_GraphPathLeast_r10 F (fun x8 => ret x8)) (L5_GraphPathLeast_r11 F x2 x3 x10 x11 (fun x3 x10 x11 x13 => L5_GraphPathLeast_r12 F x3 x10 x11 x13 (fun x3 x10 x11 x13 x14 => L5_GraphPathLeast_l1 F (fun x3 x13 => L5_GraphPathLeast_k0 F x3 x13) F x3 x10 x11 x13 x14)))))))))))))

def L5_GraphPathLeast_m (F : Nat) : List Value → M Value
  | [x0, x1, x2, x3] => L5_GraphPathLeast F x0 x1 x2 x3
  | _ => fail

theorem L5_GraphPathLeast_body : Tryd.f9.body = some (.seq (.region 0 (opsOf Tryd.f9 0) false) (.seq (.region 1 (opsOf Tryd.f9 1) false) (.seq (.seq (.region 2 (opsOf Tryd.f9 2) false) (.cond (.tmp 21) (.seq (.region 3 (opsOf Tryd.f9 3) false) .ret) .skip)) (.seq (.region 4 (opsOf Tryd.f9 4) false) (.seq (.region 5 (opsOf Tryd.f9 5) false) (.seq (.region 6 (opsOf Tryd.f9 6) false) (.seq (.seq (.region 7 (opsOf Tryd.f9 7) false) (.cond (.tmp 49) (.seq (.region 8 (opsOf Tryd.f9 8) false) .ret) .skip)) (.seq (.seq (.region 9 (opsOf Tryd.f9 9) false) (.cond (.tmp 79) (.seq (.region 10 (opsOf Tryd.f9 10) false) .ret) .skip)) (.seq (.region 11 (opsOf Tryd.f9 11) false) (.seq (.seq (.region 12 (opsOf Tryd.f9 12) false) (.block 0 (.loop (.seq (.seq (.region 13 (opsOf Tryd.f9 13) false) (.cond (.tmp 85) .skip (.exit 0))) (.seq (.block 1 (.seq (.seq (.region 15 (opsOf Tryd.f9 15) true) (.cond (.tmp 107) (.seq (.region 16 (opsOf Tryd.f9 16) false) .ret) .skip)) (.seq (.region 17 (opsOf Tryd.f9 17) false) (.seq (.seq (.region 18 (opsOf Tryd.f9 18) false) (.block 2 (.loop (.seq (.seq (.region 19 (opsOf Tryd.f9 19) false) (.cond (.tmp 111) .skip (.exit 2))) (.seq (.block 3 (.seq (.region 21 (opsOf Tryd.f9 21) false) (.block 4 (.loop (.seq (.seq (.region 22 (opsOf Tryd.f9 22) true) (.cond (.tmp 124) .skip (.exit 4))) (.seq (.block 5 (.region 24 (opsOf Tryd.f9 24) true)) (.region 23 (opsOf Tryd.f9 23) false))))))) (.region 20 (opsOf Tryd.f9 20) false)))))) (.seq (.seq (.region 25 (opsOf Tryd.f9 25) false) (.block 6 (.loop (.seq (.seq (.region 26 (opsOf Tryd.f9 26) false) (.cond (.tmp 143) .skip (.exit 6))) (.seq (.block 7 (.region 28 (opsOf Tryd.f9 28) false)) (.region 27 (opsOf Tryd.f9 27) false)))))) (.region 29 (opsOf Tryd.f9 29) false)))))) (.region 14 (opsOf Tryd.f9 14) false)))))) (.seq (.region 30 (opsOf Tryd.f9 30) false) .ret))))))))))) := by kernel_rfl

theorem L5_GraphPathLeast_ok (F : Nat) : Sim Tryd.prog TrydG 9 (L5_GraphPathLeast_m F) := by
 have hE : EnvOK Tryd.prog TrydG (L5_GraphPathLeast_env F) := (EnvOK.cons (L5_begun_ok F) (EnvOK.cons (L5_Made_ok F) (EnvOK.cons (graph_Reach_ok F) (EnvOK.cons (graph_Path_ok F) (EnvOK.cons (bitset_Set_Has_ok F) (EnvOK.cons (R1_In_ok F) (EnvOK.cons (R1_Put_ok F) EnvOK.nil)))))))
 refine Sim.of_body (E := L5_GraphPathLeast_env F) Tryd.func9 L5_GraphPathLeast_body Tryd.call9 ?_ ?_
 · intro args hl; unfold L5_GraphPathLeast_m; split
   · exact absurd hl (Nat.not_lt.2 (Nat.le_of_ble_eq_true rfl))
   · rfl
 · intro args ρ h w z; unfold L5_GraphPathLeast_m; split
   · rename_i x0 x1 x2 x3; show OKc _ _ [(0, x0), (1, x1), (2, x2), (3, x3)] _ _
     refine rSeq ?_
     refine cLess [3, 2, 1, 0] ?_
     refine xR hE [0, 1, 2, 3] rfl (L5_GraphPathLeast_r0_ok F _ _ _ _ _) ?_
     intro x0 x1 x2 x3
     show OKq _ _ _ [(3, x3), (2, x2), (1, x1), (0, x0)] _
     refine rThen ?_
     refine rSeq ?_
     refine cLess [3, 2, 1, 0] ?_
     refine xR hE [0, 1, 2, 3, 9] rfl (L5_GraphPathLeast_r1_ok F _ _ _ _ _) ?_
     intro x0 x1 x2 x3 x9
     show OKq _ _ _ [(9, x9), (3, x3), (2, x2), (1, x1), (0, x0)] _
     refine rThen ?_
     refine rSeq ?_
     refine rSeq ?_
     refine cLess [9, 3, 2, 1, 0] ?_
     refine xR hE [0, 1, 2, 3, 21] rfl (L5_GraphPathLeast_r2_ok F _ _ _ _ _ _) ?_
     intro x0 x1 x2 x3 x21
     show OKq _ _ _ [(21, x21), (3, x3), (2, x2), (1, x1), (0, x0)] _
     refine rThen ?_
     refine xCond rfl rfl ?_ ?_
     · refine rSeq ?_
       refine cLess [] ?_
       refine xR hE [8] rfl (L5_GraphPathLeast_r3_ok F _) ?_
       intro x8
       show OKq _ _ _ [(8, x8)] _
       refine rThen ?_
       refine rRet ?_
       refine xThenR ?_
       exact rDone (.inr rfl) rfl
     · refine rSkip ?_
       refine rThen ?_
       refine rSeq ?_
       refine cLess [3, 2, 1, 0] ?_
       refine xR hE [2, 3, 10] rfl (L5_GraphPathLeast_r4_ok F _ _ _ _ _) ?_
       intro x2 x3 x10
       show OKq _ _ _ [(10, x10), (3, x3), (2, x2)] _
       refine rThen ?_
       refine rSeq ?_
       refine cLess [10, 3, 2] ?_
       refine xR hE [2, 3, 10, 11] rfl (L5_GraphPathLeast_r5_ok F _ _ _ _) ?_
       intro x2 x3 x10 x11
       show OKq _ _ _ [(11, x11), (10, x10), (3, x3), (2, x2)] _
       refine rThen ?_
       refine rSeq ?_
       refine cLess [11, 10, 3, 2] ?_
       refine xR hE [2, 3, 10, 11, 12] rfl (L5_GraphPathLeast_r6_ok F _ _ _ _ _) ?_
       intro x2 x3 x10 x11 x12
       show OKq _ _ _ [(12, x12), (11, x11), (10, x10), (3, x3), (2, x2)] _
       refine rThen ?_
       refine rSeq ?_
       refine rSeq ?_
       refine cLess [12, 11, 10, 3, 2] ?_
       refine xR hE [2, 3, 10, 11, 12, 49] rfl (L5_GraphPathLeast_r7_ok F _ _ _ _ _ _) ?_
       intro x2 x3 x10 x11 x12 x49
       show OKq _ _ _ [(49, x49), (12, x12), (11, x11), (10, x10), (3, x3), (2, x2)] _
       refine rThen ?_
       refine xCond rfl rfl ?_ ?_
       · refine rSeq ?_
         refine cLess [12, 10, 3, 2] ?_
         refine xR hE [8] rfl (L5_GraphPathLeast_r8_ok F _ _ _ _ _) ?_
         intro x8
         show OKq _ _ _ [(8, x8)] _
         refine rThen ?_
         refine rRet ?_
         refine xThenR ?_
         exact rDone (.inr rfl) rfl
       · refine rSkip ?_
         refine rThen ?_
         refine rSeq ?_
         refine rSeq ?_
         refine cLess [12, 11, 10, 3, 2] ?_
         refine xR hE [2, 3, 10, 11, 79] rfl (L5_GraphPathLeast_r9_ok F _ _ _ _ _ _) ?_
         intro x2 x3 x10 x11 x79
         show OKq _ _ _ [(79, x79), (11, x11), (10, x10), (3, x3), (2, x2)] _
         refine rThen ?_
         refine xCond rfl rfl ?_ ?_
         · refine rSeq ?_
           refine cLess [] ?_
           refine xR hE [8] rfl (L5_GraphPathLeast_r10_ok F _) ?_
           intro x8
           show OKq _ _ _ [(8, x8)] _
           refine rThen ?_
           refine rRet ?_
           refine xThenR ?_
           exact rDone (.inr rfl) rfl
         · refine rSkip ?_
           refine rThen ?_
           refine rSeq ?_
           refine cLess [11, 10, 3, 2] ?_
           refine xR hE [3, 10, 11, 13] rfl (L5_GraphPathLeast_r11_ok F _ _ _ _ _) ?_
           intro x3 x10 x11 x13
           show OKq _ _ _ [(13, x13), (11, x11), (10, x10), (3, x3)] _
           refine rThen ?_
           refine xSeq [3, 13] (L5_GraphPathLeast_k0 F ) ?_ fun hj0 => ?_
           · intro x3 x13
             show OKc _ _ [(13, x13), (3, x3)] _ _
             refine rSeq ?_
             refine cLess [13, 3] ?_
             refine xR hE [8] rfl (L5_GraphPathLeast_r30_ok F _ _ _) ?_
             intro x8
             show OKq _ _ _ [(8, x8)] _
             refine rThen ?_
             refine rRet ?_
             exact rDone (.inr rfl) rfl
           · refine rSeq ?_
             refine cLess [13, 11, 10, 3] ?_
             refine xR hE [3, 10, 11, 13, 14] rfl (L5_GraphPathLeast_r12_ok F _ _ _ _ _) ?_
             intro x3 x10 x11 x13 x14
             show OKq _ _ _ [(14, x14), (13, x13), (11, x11), (10, x10), (3, x3)] _
             refine rThen ?_
             refine rBlock ?_
             refine cLess [14, 13, 11, 10, 3] ?_
             refine xLoopAt [3, 10, 11, 13, 14] [] (fun k1 => L5_GraphPathLeast_l1 F (fun x3 x13 => L5_GraphPathLeast_k0 F x3 x13) k1) F [x3, x10, x11, x13, x14] rfl rfl (fun _ _ _ _ _ => rfl) fun I hI1 k1 => ?_
             intro x3 x10 x11 x13 x14
             show OKc _ _ [(14, x14), (13, x13), (11, x11), (10, x10), (3, x3)] _ _
             refine cAs (L5_GraphPathLeast_l1_s F _ _ _ _ _ _ _) ?_
             refine rSeq ?_
             refine rSeq ?_
             refine cLess [14, 13, 11, 10, 3] ?_
             refine xR hE [3, 10, 11, 13, 14, 85] rfl (L5_GraphPathLeast_r13_ok F _ _ _ _ _ _) ?_
             intro x3 x10 x11 x13 x14 x85
             show OKq _ _ _ [(85, x85), (14, x14), (13, x13), (11, x11), (10, x10), (3, x3)] _
             refine rThen ?_
             refine xCond rfl rfl ?_ ?_
             · refine rSkip ?_
               refine rThen ?_
               refine xSeq [3, 10, 11, 13, 14] (L5_GraphPathLeast_k2 F (L5_GraphPathLeast_l1 F (fun x3 x13 => L5_GraphPathLeast_k0 F x3 x13) k1) ) ?_ fun hj2 => ?_
               · intro x3 x10 x11 x13 x14
                 show OKc _ _ [(14, x14), (13, x13), (11, x11), (10, x10), (3, x3)] _ _
                 refine cLess [14, 13, 11, 10, 3] ?_
                 refine xR hE [3, 10, 11, 13, 14] rfl (L5_GraphPathLeast_r14_ok F _ _ _ _ _ _) ?_
                 intro x3 x10 x11 x13 x14
                 show OKq _ _ _ [(14, x14), (13, x13), (11, x11), (10, x10), (3, x3)] _
                 exact qLess [14, 13, 11, 10, 3] (hI1 k1 x3 x10 x11 x13 x14)
               · refine rBlock ?_
                 refine rSeq ?_
                 refine rSeq ?_
                 refine cLess [14, 13, 11, 10, 3] ?_
                 refine xD Trydmix hE [3, 10, 11, 13, 14, 107] rfl L5_GraphPathLeast_r15_good (L5_GraphPathLeast_r15_ok F _ _ _ _ _ _) ?_
                 intro x3 x10 x11 x13 x14 x107
                 show OKq _ _ _ [(107, x107), (14, x14), (13, x13), (11, x11), (10, x10), (3, x3)] _
                 refine rThen ?_
                 refine xCond rfl rfl ?_ ?_
                 · refine rSeq ?_
                   refine cLess [] ?_
                   refine xR hE [8] rfl (L5_GraphPathLeast_r16_ok F _) ?_
                   intro x8
                   show OKq _ _ _ [(8, x8)] _
                   refine rThen ?_
                   refine rRet ?_
                   refine xThenR ?_
                   refine xBlockR ?_
                   refine xThenR ?_
                   refine xThenR ?_
                   refine xBlockR ?_
                   refine xThenR ?_
                   exact rDone (.inr rfl) rfl
                 · refine rSkip ?_
                   refine rThen ?_
                   refine rSeq ?_
                   refine cLess [14, 13, 11, 10, 3] ?_
                   refine xR hE [3, 10, 11, 13, 14, 15] rfl (L5_GraphPathLeast_r17_ok F _ _ _ _ _ _) ?_
                   intro x3 x10 x11 x13 x14 x15
                   show OKq _ _ _ [(15, x15), (14, x14), (13, x13), (11, x11), (10, x10), (3, x3)] _
                   refine rThen ?_
                   refine xSeq [3, 10, 11, 13, 14, 15] (L5_GraphPathLeast_k5 F (L5_GraphPathLeast_l1 F (fun x3 x13 => L5_GraphPathLeast_k0 F x3 x13) k1) ) ?_ fun hj5 => ?_
                   · intro x3 x10 x11 x13 x14 x15
                     show OKc _ _ [(15, x15), (14, x14), (13, x13), (11, x11), (10, x10), (3, x3)] _ _
                     refine xSeq [3, 10, 11, 14, 15] (L5_GraphPathLeast_k3 F (L5_GraphPathLeast_l1 F (fun x3 x13 => L5_GraphPathLeast_k0 F x3 x13) k1) ) ?_ fun hj3 => ?_
                     · intro x3 x10 x11 x14 x15
                       show OKc _ _ [(15, x15), (14, x14), (11, x11), (10, x10), (3, x3)] _ _
                       refine cLess [15, 14, 11, 10, 3] ?_
                       refine xR hE [3, 10, 11, 13, 14] rfl (L5_GraphPathLeast_r29_ok F _ _ _ _ _ _) ?_
                       intro x3 x10 x11 x13 x14
                       show OKq _ _ _ [(14, x14), (13, x13), (11, x11), (10, x10), (3, x3)] _
                       refine xBlockN ?_
                       exact qLess [14, 13, 11, 10, 3] (hj2 x3 x10 x11 x13 x14)
                     · refine rSeq ?_
                       refine cLess [15, 14, 13, 11, 10, 3] ?_
                       refine xR hE [3, 10, 11, 13, 14, 15, 18] rfl (L5_GraphPathLeast_r25_ok F _ _ _ _ _ _ _) ?_
                       intro x3 x10 x11 x13 x14 x15 x18
                       show OKq _ _ _ [(18, x18), (15, x15), (14, x14), (13, x13), (11, x11), (10, x10), (3, x3)] _
                       refine rThen ?_
                       refine rBlock ?_
                       refine cLess [18, 15, 14, 13, 11, 10, 3] ?_
                       refine xLoopAt [3, 10, 11, 13, 14, 15, 18] [] (fun k4 => L5_GraphPathLeast_l4 F (fun x3 x10 x11 x14 x15 => L5_GraphPathLeast_k3 F (L5_GraphPathLeast_l1 F (fun x3 x13 => L5_GraphPathLeast_k0 F x3 x13) k1) x3 x10 x11 x14 x15) k4) F [x3, x10, x11, x13, x14, x15, x18] rfl rfl (fun _ _ _ _ _ _ _ => rfl) fun I hI4 k4 => ?_
                       intro x3 x10 x11 x13 x14 x15 x18
                       show OKc _ _ [(18, x18), (15, x15), (14, x14), (13, x13), (11, x11), (10, x10), (3, x3)] _ _
                       refine cAs (L5_GraphPathLeast_l4_s F _ _ _ _ _ _ _ _ _) ?_
                       refine rSeq ?_
                       refine rSeq ?_
                       refine cLess [18, 15, 14, 13, 11, 10, 3] ?_
                       refine xR hE [3, 10, 11, 13, 14, 15, 18, 143] rfl (L5_GraphPathLeast_r26_ok F _ _ _ _ _ _ _ _) ?_
                       intro x3 x10 x11 x13 x14 x15 x18 x143
                       show OKq _ _ _ [(143, x143), (18, x18), (15, x15), (14, x14), (13, x13), (11, x11), (10, x10), (3, x3)] _
                       refine rThen ?_
                       refine xCond rfl rfl ?_ ?_
                       · refine rSkip ?_
                         refine rThen ?_
                         refine rSeq ?_
                         refine rBlock ?_
                         refine cLess [18, 15, 14, 13, 11, 10, 3] ?_
                         refine xR hE [3, 10, 11, 13, 14, 15, 18] rfl (L5_GraphPathLeast_r28_ok F _ _ _ _ _ _ _ _) ?_
                         intro x3 x10 x11 x13 x14 x15 x18
                         show OKq _ _ _ [(18, x18), (15, x15), (14, x14), (13, x13), (11, x11), (10, x10), (3, x3)] _
                         refine xBlockN ?_
                         refine rThen ?_
                         refine cLess [18, 15, 14, 13, 11, 10, 3] ?_
                         refine xR hE [3, 10, 11, 13, 14, 15, 18] rfl (L5_GraphPathLeast_r27_ok F _ _ _ _ _ _ _ _) ?_
                         intro x3 x10 x11 x13 x14 x15 x18
                         show OKq _ _ _ [(18, x18), (15, x15), (14, x14), (13, x13), (11, x11), (10, x10), (3, x3)] _
                         exact qLess [18, 15, 14, 13, 11, 10, 3] (hI4 k4 x3 x10 x11 x13 x14 x15 x18)
                       · refine rExit ?_
                         refine xThenX ?_
                         refine xThenX ?_
                         refine rOut ?_
                         exact qLess [15, 14, 11, 10, 3] (hj3 x3 x10 x11 x14 x15)
                   · refine rSeq ?_
                     refine cLess [15, 14, 13, 11, 10, 3] ?_
                     refine xR hE [3, 10, 11, 13, 14, 15, 16] rfl (L5_GraphPathLeast_r18_ok F _ _ _ _ _ _ _) ?_
                     intro x3 x10 x11 x13 x14 x15 x16
                     show OKq _ _ _ [(16, x16), (15, x15), (14, x14), (13, x13), (11, x11), (10, x10), (3, x3)] _
                     refine rThen ?_
                     refine rBlock ?_
                     refine cLess [16, 15, 14, 13, 11, 10, 3] ?_
                     refine xLoopAt [3, 10, 11, 13, 14, 15, 16] [] (fun k6 => L5_GraphPathLeast_l6 F (fun x3 x10 x11 x13 x14 x15 => L5_GraphPathLeast_k5 F (L5_GraphPathLeast_l1 F (fun x3 x13 => L5_GraphPathLeast_k0 F x3 x13) k1) x3 x10 x11 x13 x14 x15) k6) F [x3, x10, x11, x13, x14, x15, x16] rfl rfl (fun _ _ _ _ _ _ _ => rfl) fun I hI6 k6 => ?_
                     intro x3 x10 x11 x13 x14 x15 x16
                     show OKc _ _ [(16, x16), (15, x15), (14, x14), (13, x13), (11, x11), (10, x10), (3, x3)] _ _
                     refine cAs (L5_GraphPathLeast_l6_s F _ _ _ _ _ _ _ _ _) ?_
                     refine rSeq ?_
                     refine rSeq ?_
                     refine cLess [16, 15, 14, 13, 11, 10, 3] ?_
                     refine xR hE [3, 10, 11, 13, 14, 15, 16, 111] rfl (L5_GraphPathLeast_r19_ok F _ _ _ _ _ _ _ _) ?_
                     intro x3 x10 x11 x13 x14 x15 x16 x111
                     show OKq _ _ _ [(111, x111), (16, x16), (15, x15), (14, x14), (13, x13), (11, x11), (10, x10), (3, x3)] _
                     refine rThen ?_
                     refine xCond rfl rfl ?_ ?_
                     · refine rSkip ?_
                       refine rThen ?_
                       refine xSeq [3, 10, 11, 13, 14, 15, 16] (L5_GraphPathLeast_k7 F (L5_GraphPathLeast_l6 F (fun x3 x10 x11 x13 x14 x15 => L5_GraphPathLeast_k5 F (L5_GraphPathLeast_l1 F (fun x3 x13 => L5_GraphPathLeast_k0 F x3 x13) k1) x3 x10 x11 x13 x14 x15) k6) ) ?_ fun hj7 => ?_
                       · intro x3 x10 x11 x13 x14 x15 x16
                         show OKc _ _ [(16, x16), (15, x15), (14, x14), (13, x13), (11, x11), (10, x10), (3, x3)] _ _
                         refine cLess [16, 15, 14, 13, 11, 10, 3] ?_
                         refine xR hE [3, 10, 11, 13, 14, 15, 16] rfl (L5_GraphPathLeast_r20_ok F _ _ _ _ _ _ _ _) ?_
                         intro x3 x10 x11 x13 x14 x15 x16
                         show OKq _ _ _ [(16, x16), (15, x15), (14, x14), (13, x13), (11, x11), (10, x10), (3, x3)] _
                         exact qLess [16, 15, 14, 13, 11, 10, 3] (hI6 k6 x3 x10 x11 x13 x14 x15 x16)
                       · refine rBlock ?_
                         refine rSeq ?_
                         refine cLess [16, 15, 14, 13, 11, 10, 3] ?_
                         refine xR hE [3, 10, 11, 13, 14, 15, 16, 17] rfl (L5_GraphPathLeast_r21_ok F _ _ _ _ _ _ _ _) ?_
                         intro x3 x10 x11 x13 x14 x15 x16 x17
                         show OKq _ _ _ [(17, x17), (16, x16), (15, x15), (14, x14), (13, x13), (11, x11), (10, x10), (3, x3)] _
                         refine rThen ?_
                         refine rBlock ?_
                         refine cLess [17, 16, 15, 14, 13, 11, 10, 3] ?_
                         refine xLoopAt [3, 10, 11, 13, 14, 15, 16, 17] [] (fun k8 => L5_GraphPathLeast_l8 F (fun x3 x10 x11 x13 x14 x15 x16 => L5_GraphPathLeast_k7 F (L5_GraphPathLeast_l6 F (fun x3 x10 x11 x13 x14 x15 => L5_GraphPathLeast_k5 F (L5_GraphPathLeast_l1 F (fun x3 x13 => L5_GraphPathLeast_k0 F x3 x13) k1) x3 x10 x11 x13 x14 x15) k6) x3 x10 x11 x13 x14 x15 x16) k8) F [x3, x10, x11, x13, x14, x15, x16, x17] rfl rfl (fun _ _ _ _ _ _ _ _ => rfl) fun I hI8 k8 => ?_
                         intro x3 x10 x11 x13 x14 x15 x16 x17
                         show OKc _ _ [(17, x17), (16, x16), (15, x15), (14, x14), (13, x13), (11, x11), (10, x10), (3, x3)] _ _
                         refine cAs (L5_GraphPathLeast_l8_s F _ _ _ _ _ _ _ _ _ _) ?_
                         refine rSeq ?_
                         refine rSeq ?_
                         refine cLess [17, 16, 15, 14, 13, 11, 10, 3] ?_
                         refine xD Trydmix hE [3, 10, 11, 13, 14, 15, 16, 17, 124] rfl L5_GraphPathLeast_r22_good (L5_GraphPathLeast_r22_ok F _ _ _ _ _ _ _ _ _) ?_
                         intro x3 x10 x11 x13 x14 x15 x16 x17 x124
                         show OKq _ _ _ [(124, x124), (17, x17), (16, x16), (15, x15), (14, x14), (13, x13), (11, x11), (10, x10), (3, x3)] _
                         refine rThen ?_
                         refine xCond rfl rfl ?_ ?_
                         · refine rSkip ?_
                           refine rThen ?_
                           refine rSeq ?_
                           refine rBlock ?_
                           refine cLess [17, 16, 15, 14, 13, 11, 10, 3] ?_
                           refine xD Trydmix hE [3, 10, 11, 13, 14, 15, 16, 17] rfl L5_GraphPathLeast_r24_good (L5_GraphPathLeast_r24_ok F _ _ _ _ _ _ _ _ _) ?_
                           intro x3 x10 x11 x13 x14 x15 x16 x17
                           show OKq _ _ _ [(17, x17), (16, x16), (15, x15), (14, x14), (13, x13), (11, x11), (10, x10), (3, x3)] _
                           refine xBlockN ?_
                           refine rThen ?_
                           refine cLess [17, 16, 15, 14, 13, 11, 10, 3] ?_
                           refine xR hE [3, 10, 11, 13, 14, 15, 16, 17] rfl (L5_GraphPathLeast_r23_ok F _ _ _ _ _ _ _ _ _) ?_
                           intro x3 x10 x11 x13 x14 x15 x16 x17
                           show OKq _ _ _ [(17, x17), (16, x16), (15, x15), (14, x14), (13, x13), (11, x11), (10, x10), (3, x3)] _
                           exact qLess [17, 16, 15, 14, 13, 11, 10, 3] (hI8 k8 x3 x10 x11 x13 x14 x15 x16 x17)
                         · refine rExit ?_
                           refine xThenX ?_
                           refine xThenX ?_
                           refine rOut ?_
                           refine xBlockN ?_
                           exact qLess [16, 15, 14, 13, 11, 10, 3] (hj7 x3 x10 x11 x13 x14 x15 x16)
                     · refine rExit ?_
                       refine xThenX ?_
                       refine xThenX ?_
                       refine rOut ?_
                       exact qLess [15, 14, 13, 11, 10, 3] (hj5 x3 x10 x11 x13 x14 x15)
             · refine rExit ?_
               refine xThenX ?_
               refine xThenX ?_
               refine rOut ?_
               exact qLess [13, 3] (hj0 x3 x13)
   · exact rFail



end Go.Fw
