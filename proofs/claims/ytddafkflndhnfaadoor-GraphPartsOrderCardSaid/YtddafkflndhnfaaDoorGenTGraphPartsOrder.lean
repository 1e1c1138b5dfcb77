/-
  What this law comes to.
-/
import Derived.Test.YtddafkflndhnfaaDoorGenT
set_option linter.unusedVariables false
set_option maxRecDepth 20000
namespace Go.Fw
open Go.Proofs

/-! ### haruspex/haruspexlaw5.GraphPartsOrder -/

def L5_GraphPartsOrder_env (F : Nat) : Env := envOf [(16, L5_begun_m F), (17, L5_Made_m F), (26, graph_Parts_m F)]

noncomputable def L5_GraphPartsOrder_R (F : Nat) := rK Tryd.prog TrydG (L5_GraphPartsOrder_env F) Tryd.f10
noncomputable def L5_GraphPartsOrder_D (F : Nat) := dK Tryd.prog TrydG (L5_GraphPartsOrder_env F) Tryd.f10

def L5_GraphPartsOrder_r26 (F : Nat) (x6 x9 : Value) (K : Value → M Value) : M Value :=
  bnd (opFieldAddr 0 x6) fun v127 => bnd (opLoad v127) fun v128 => bnd (opBin .eql x9 v128) fun v129 => K v129

theorem L5_GraphPartsOrder_r26_ok (F : Nat) (x6 x9 : Value) (K : Value → M Value) : L5_GraphPartsOrder_r26 F x6 x9 K = L5_GraphPartsOrder_R F 26 [(9, x9), (6, x6)] [4] K := by kernel_rfl

def L5_GraphPartsOrder_k0 (F : Nat) (x6 x9 : Value) : M Value :=
  L5_GraphPartsOrder_r26 F x6 x9 (fun x4 => ret x4)

def L5_GraphPartsOrder_r20 (F : Nat) (x6 x8 x9 x12 : Value) (K : Value → Value → Value → Value → M Value) : M Value :=
  bnd (opBin .add x12 (.int .i64 (1))) fun v99 => K x6 x8 x9 v99

theorem L5_GraphPartsOrder_r20_ok (F : Nat) (x6 x8 x9 x12 : Value) (K : Value → Value → Value → Value → M Value) : L5_GraphPartsOrder_r20 F x6 x8 x9 x12 K = L5_GraphPartsOrder_R F 20 [(12, x12), (9, x9), (8, x8), (6, x6)] [6, 8, 9, 12] K := by kernel_rfl

def L5_GraphPartsOrder_k2 (F : Nat) (A1 : Value → Value → Value → Value → M Value) (x6 x8 x9 x12 : Value) : M Value :=
  L5_GraphPartsOrder_r20 F x6 x8 x9 x12 (fun x6 x8 x9 x12 => A1 x6 x8 x9 x12)

def L5_GraphPartsOrder_r23 (F : Nat) (x6 x8 x9 x12 x13 : Value) (K : Value → Value → Value → Value → Value → M Value) : M Value :=
  bnd (opBin .add x13 (.int .i64 (1))) fun v109 => K x6 x8 x9 x12 v109

theorem L5_GraphPartsOrder_r23_ok (F : Nat) (x6 x8 x9 x12 x13 : Value) (K : Value → Value → Value → Value → Value → M Value) : L5_GraphPartsOrder_r23 F x6 x8 x9 x12 x13 K = L5_GraphPartsOrder_R F 23 [(13, x13), (12, x12), (9, x9), (8, x8), (6, x6)] [6, 8, 9, 12, 13] K := by kernel_rfl

def L5_GraphPartsOrder_r25 (F : Nat) (K : Value → M Value) : M Value :=
  K (.bool false)

theorem L5_GraphPartsOrder_r25_ok (F : Nat) (K : Value → M Value) : L5_GraphPartsOrder_r25 F K = L5_GraphPartsOrder_R F 25 [] [4] K := by kernel_rfl

def L5_GraphPartsOrder_r24 (F : Nat) (x6 x8 x9 x12 x13 : Value) (K : Value → Value → Value → Value → Value → Value → M Value) : M Value :=
  bnd (opIndexAddr 1 x8 x12) fun v112 => bnd (opLoad v112) fun v113 => bnd (opFieldAddr 1 x6) fun v115 => bnd (opLoad v115) fun v116 => bnd (opIndexAddr 1 v116 x12) fun v118 => bnd (opLoad v118) fun v119 => bnd (opIndexAddr 1 v119 x13) fun v121 => bnd (opLoad v121) fun v122 => bnd (opIndexAddr 1 x8 v122) fun v123 => bnd (opLoad v123) fun v124 => bnd (opBin .gtr v113 v124) fun v125 => K x6 x8 x9 x12 x13 v125

theorem L5_GraphPartsOrder_r24_ok (F : Nat) (x6 x8 x9 x12 x13 : Value) (K : Value → Value → Value → Value → Value → Value → M Value) : L5_GraphPartsOrder_r24 F x6 x8 x9 x12 x13 K = L5_GraphPartsOrder_D F 24 [0, 1, 2, 3, 4, 5, 6, 7, 8, 9, 10, 11, 12, 13, 14, 15] [(13, x13), (12, x12), (9, x9), (8, x8), (6, x6)] [6, 8, 9, 12, 13, 125] K := by kernel_rfl

theorem L5_GraphPartsOrder_r24_good : goodOrder (opsOf Tryd.f10 24) [0, 1, 2, 3, 4, 5, 6, 7, 8, 9, 10, 11, 12, 13, 14, 15] = true := by kernel_rfl

def L5_GraphPartsOrder_r22 (F : Nat) (x6 x8 x9 x12 x13 : Value) (K : Value → Value → Value → Value → Value → Value → M Value) : M Value :=
  bnd (opFieldAddr 1 x6) fun v101 => bnd (opLoad v101) fun v102 => bnd (opIndexAddr 1 v102 x12) fun v104 => bnd (opLoad v104) fun v105 => bnd (opLen v105) fun v106 => bnd (opBin .lss x13 v106) fun v107 => K x6 x8 x9 x12 x13 v107

theorem L5_GraphPartsOrder_r22_ok (F : Nat) (x6 x8 x9 x12 x13 : Value) (K : Value → Value → Value → Value → Value → Value → M Value) : L5_GraphPartsOrder_r22 F x6 x8 x9 x12 x13 K = L5_GraphPartsOrder_R F 22 [(13, x13), (12, x12), (9, x9), (8, x8), (6, x6)] [6, 8, 9, 12, 13, 107] K := by kernel_rfl

def L5_GraphPartsOrder_b3 (F : Nat) (E3_6 : Value → Value → Value → Value → M Value) (A3 : Value → Value → Value → Value → Value → M Value) (x6 x8 x9 x12 x13 : Value) : M Value :=
  L5_GraphPartsOrder_r22 F x6 x8 x9 x12 x13 (fun x6 x8 x9 x12 x13 x107 => onB x107 (L5_GraphPartsOrder_r24 F x6 x8 x9 x12 x13 (fun x6 x8 x9 x12 x13 x125 => onB x125 (L5_GraphPartsOrder_r25 F (fun x4 => ret x4)) (L5_GraphPartsOrder_r23 F x6 x8 x9 x12 x13 (fun x6 x8 x9 x12 x13 => A3 x6 x8 x9 x12 x13)))) (E3_6 x6 x8 x9 x12))

def L5_GraphPartsOrder_l3 (F : Nat) (E3_6 : Value → Value → Value → Value → M Value) : Nat → Value → Value → Value → Value → Value → M Value
  | 0, _, _, _, _, _ => fail
  | k3 + 1, x6, x8, x9, x12, x13 => L5_GraphPartsOrder_b3 F E3_6 (L5_GraphPartsOrder_l3 F E3_6 k3) x6 x8 x9 x12 x13

theorem L5_GraphPartsOrder_l3_s (F : Nat) (E3_6 : Value → Value → Value → Value → M Value) (k3 : Nat) (x6 x8 x9 x12 x13 : Value) : L5_GraphPartsOrder_l3 F E3_6 (k3 + 1) x6 x8 x9 x12 x13 = L5_GraphPartsOrder_b3 F E3_6 (L5_GraphPartsOrder_l3 F E3_6 k3) x6 x8 x9 x12 x13 := rfl

def L5_GraphPartsOrder_r21 (F : Nat) (x6 x8 x9 x12 : Value) (K : Value → Value → Value → Value → Value → M Value) : M Value :=
  K x6 x8 x9 x12 (.int .i64 (0))

theorem L5_GraphPartsOrder_r21_ok (F : Nat) (x6 x8 x9 x12 : Value) (K : Value → Value → Value → Value → Value → M Value) : L5_GraphPartsOrder_r21 F x6 x8 x9 x12 K = L5_GraphPartsOrder_R F 21 [(12, x12), (9, x9), (8, x8), (6, x6)] [6, 8, 9, 12, 13] K := by kernel_rfl

def L5_GraphPartsOrder_r19 (F : Nat) (x6 x8 x9 x12 : Value) (K : Value → Value → Value → Value → Value → M Value) : M Value :=
  bnd (opFieldAddr 0 x6) fun v95 => bnd (opLoad v95) fun v96 => bnd (opBin .lss x12 v96) fun v97 => K x6 x8 x9 x12 v97

theorem L5_GraphPartsOrder_r19_ok (F : Nat) (x6 x8 x9 x12 : Value) (K : Value → Value → Value → Value → Value → M Value) : L5_GraphPartsOrder_r19 F x6 x8 x9 x12 K = L5_GraphPartsOrder_R F 19 [(12, x12), (9, x9), (8, x8), (6, x6)] [6, 8, 9, 12, 97] K := by kernel_rfl

def L5_GraphPartsOrder_b1 (F : Nat) (E1_4 : Value → Value → M Value) (A1 : Value → Value → Value → Value → M Value) (x6 x8 x9 x12 : Value) : M Value :=
  L5_GraphPartsOrder_r19 F x6 x8 x9 x12 (fun x6 x8 x9 x12 x97 => onB x97 (L5_GraphPartsOrder_r21 F x6 x8 x9 x12 (fun x6 x8 x9 x12 x13 => L5_GraphPartsOrder_l3 F (fun x6 x8 x9 x12 => L5_GraphPartsOrder_k2 F A1 x6 x8 x9 x12) F x6 x8 x9 x12 x13)) (E1_4 x6 x9))

def L5_GraphPartsOrder_l1 (F : Nat) (E1_4 : Value → Value → M Value) : Nat → Value → Value → Value → Value → M Value
  | 0, _, _, _, _ => fail
  | k1 + 1, x6, x8, x9, x12 => L5_GraphPartsOrder_b1 F E1_4 (L5_GraphPartsOrder_l1 F E1_4 k1) x6 x8 x9 x12

theorem L5_GraphPartsOrder_l1_s (F : Nat) (E1_4 : Value → Value → M Value) (k1 : Nat) (x6 x8 x9 x12 : Value) : L5_GraphPartsOrder_l1 F E1_4 (k1 + 1) x6 x8 x9 x12 = L5_GraphPartsOrder_b1 F E1_4 (L5_GraphPartsOrder_l1 F E1_4 k1) x6 x8 x9 x12 := rfl

def L5_GraphPartsOrder_r18 (F : Nat) (x6 x8 x9 : Value) (K : Value → Value → Value → Value → M Value) : M Value :=
  K x6 x8 x9 (.int .i64 (0))

theorem L5_GraphPartsOrder_r18_ok (F : Nat) (x6 x8 x9 : Value) (K : Value → Value → Value → Value → M Value) : L5_GraphPartsOrder_r18 F x6 x8 x9 K = L5_GraphPartsOrder_R F 18 [(9, x9), (8, x8), (6, x6)] [6, 8, 9, 12] K := by kernel_rfl

def L5_GraphPartsOrder_k4 (F : Nat) (x6 x8 x9 : Value) : M Value :=
  L5_GraphPartsOrder_r18 F x6 x8 x9 (fun x6 x8 x9 x12 => L5_GraphPartsOrder_l1 F (fun x6 x9 => L5_GraphPartsOrder_k0 F x6 x9) F x6 x8 x9 x12)

def L5_GraphPartsOrder_r10 (F : Nat) (x6 x7 x8 x9 x10 : Value) (K : Value → Value → Value → Value → Value → M Value) : M Value :=
  bnd (opBin .add x10 (.int .i64 (1))) fun v30 => K x6 x7 x8 x9 v30

theorem L5_GraphPartsOrder_r10_ok (F : Nat) (x6 x7 x8 x9 x10 : Value) (K : Value → Value → Value → Value → Value → M Value) : L5_GraphPartsOrder_r10 F x6 x7 x8 x9 x10 K = L5_GraphPartsOrder_R F 10 [(10, x10), (9, x9), (8, x8), (7, x7), (6, x6)] [6, 7, 8, 9, 10] K := by kernel_rfl

def L5_GraphPartsOrder_k6 (F : Nat) (A5 : Value → Value → Value → Value → Value → M Value) (x6 x7 x8 x9 x10 : Value) : M Value :=
  L5_GraphPartsOrder_r10 F x6 x7 x8 x9 x10 (fun x6 x7 x8 x9 x10 => A5 x6 x7 x8 x9 x10)

def L5_GraphPartsOrder_r13 (F : Nat) (x6 x7 x8 x9 x10 x11 : Value) (K : Value → Value → Value → Value → Value → Value → M Value) : M Value :=
  bnd (opBin .add x11 (.int .i64 (1))) fun v39 => K x6 x7 x8 x9 x10 v39

theorem L5_GraphPartsOrder_r13_ok (F : Nat) (x6 x7 x8 x9 x10 x11 : Value) (K : Value → Value → Value → Value → Value → Value → M Value) : L5_GraphPartsOrder_r13 F x6 x7 x8 x9 x10 x11 K = L5_GraphPartsOrder_R F 13 [(11, x11), (10, x10), (9, x9), (8, x8), (7, x7), (6, x6)] [6, 7, 8, 9, 10, 11] K := by kernel_rfl

def L5_GraphPartsOrder_r17 (F : Nat) (x6 x7 x8 x9 x10 x11 : Value) (K : Value → Value → Value → Value → Value → Value → M Value) : M Value :=
  bnd (opBin .add x9 (.int .i64 (1))) fun v93 => K x6 x7 x8 v93 x10 x11

theorem L5_GraphPartsOrder_r17_ok (F : Nat) (x6 x7 x8 x9 x10 x11 : Value) (K : Value → Value → Value → Value → Value → Value → M Value) : L5_GraphPartsOrder_r17 F x6 x7 x8 x9 x10 x11 K = L5_GraphPartsOrder_R F 17 [(11, x11), (10, x10), (9, x9), (8, x8), (7, x7), (6, x6)] [6, 7, 8, 9, 10, 11] K := by kernel_rfl

def L5_GraphPartsOrder_r16 (F : Nat) (x6 x7 x8 x9 x10 x11 : Value) (K : Value → Value → Value → Value → Value → Value → M Value) : M Value :=
  bnd (opIndexAddr 1 x7 x10) fun v85 => bnd (opLoad v85) fun v86 => bnd (opIndexAddr 1 v86 x11) fun v88 => bnd (opLoad v88) fun v89 => bnd (opIndexAddr 1 x8 v89) fun v91 => bnd (opStore v91 x10) fun _ => K x6 x7 x8 x9 x10 x11

theorem L5_GraphPartsOrder_r16_ok (F : Nat) (x6 x7 x8 x9 x10 x11 : Value) (K : Value → Value → Value → Value → Value → Value → M Value) : L5_GraphPartsOrder_r16 F x6 x7 x8 x9 x10 x11 K = L5_GraphPartsOrder_R F 16 [(11, x11), (10, x10), (9, x9), (8, x8), (7, x7), (6, x6)] [6, 7, 8, 9, 10, 11] K := by kernel_rfl

def L5_GraphPartsOrder_r15 (F : Nat) (K : Value → M Value) : M Value :=
  K (.bool false)

theorem L5_GraphPartsOrder_r15_ok (F : Nat) (K : Value → M Value) : L5_GraphPartsOrder_r15 F K = L5_GraphPartsOrder_R F 15 [] [4] K := by kernel_rfl

def L5_GraphPartsOrder_r14 (F : Nat) (x6 x7 x8 x9 x10 x11 : Value) (K : Value → Value → Value → Value → Value → Value → Value → M Value) : M Value :=
  bnd (opIndexAddr 1 x7 x10) fun v42 => bnd (opLoad v42) fun v43 => bnd (opIndexAddr 1 v43 x11) fun v45 => bnd (opLoad v45) fun v46 => bnd (opBin .lss v46 (.int .i64 (0))) fun v47 => onB v47 (K x6 x7 x8 x9 x10 x11 (.bool true)) (bnd (opIndexAddr 1 x7 x10) fun v51 => bnd (opLoad v51) fun v52 => bnd (opIndexAddr 1 v52 x11) fun v54 => bnd (opLoad v54) fun v55 => bnd (opFieldAddr 0 x6) fun v56 => bnd (opLoad v56) fun v57 => bnd (opBin .geq v55 v57) fun v58 => onB v58 (K x6 x7 x8 x9 x10 x11 (.bool true)) (bnd (opBin .gtr x11 (.int .i64 (0))) fun v62 => onB v62 (bnd (opIndexAddr 1 x7 x10) fun v66 => bnd (opLoad v66) fun v67 => bnd (opIndexAddr 1 v67 x11) fun v69 => bnd (opLoad v69) fun v70 => bnd (opIndexAddr 1 x7 x10) fun v73 => bnd (opLoad v73) fun v74 => bnd (opBin .sub x11 (.int .i64 (1))) fun v76 => bnd (opIndexAddr 1 v74 v76) fun v77 => bnd (opLoad v77) fun v78 => bnd (opBin .leq v70 v78) fun v79 => K x6 x7 x8 x9 x10 x11 v79) (K x6 x7 x8 x9 x10 x11 (.bool false))))

theorem L5_GraphPartsOrder_r14_ok (F : Nat) (x6 x7 x8 x9 x10 x11 : Value) (K : Value → Value → Value → Value → Value → Value → Value → M Value) : L5_GraphPartsOrder_r14 F x6 x7 x8 x9 x10 x11 K = L5_GraphPartsOrder_D F 14 [0, 1, 2, 3, 4, 5, 6, 7, 8, 9, 10, 11, 12, 13, 14, 15, 16, 17, 18, 19, 20, 21, 22, 23, 24, 25, 26, 27, 28, 29, 30, 31, 32, 33, 34, 35, 36, 37, 38, 39, 40, 41] [(11, x11), (10, x10), (9, x9), (8, x8), (7, x7), (6, x6)] [6, 7, 8, 9, 10, 11, 81] K := by kernel_rfl

theorem L5_GraphPartsOrder_r14_good : goodOrder (opsOf Tryd.f10 14) [0, 1, 2, 3, 4, 5, 6, 7, 8, 9, 10, 11, 12, 13, 14, 15, 16, 17, 18, 19, 20, 21, 22, 23, 24, 25, 26, 27, 28, 29, 30, 31, 32, 33, 34, 35, 36, 37, 38, 39, 40, 41] = true := by kernel_rfl

def L5_GraphPartsOrder_r12 (F : Nat) (x6 x7 x8 x9 x10 x11 : Value) (K : Value → Value → Value → Value → Value → Value → Value → M Value) : M Value :=
  bnd (opIndexAddr 1 x7 x10) fun v34 => bnd (opLoad v34) fun v35 => bnd (opLen v35) fun v36 => bnd (opBin .lss x11 v36) fun v37 => K x6 x7 x8 x9 x10 x11 v37

theorem L5_GraphPartsOrder_r12_ok (F : Nat) (x6 x7 x8 x9 x10 x11 : Value) (K : Value → Value → Value → Value → Value → Value → Value → M Value) : L5_GraphPartsOrder_r12 F x6 x7 x8 x9 x10 x11 K = L5_GraphPartsOrder_R F 12 [(11, x11), (10, x10), (9, x9), (8, x8), (7, x7), (6, x6)] [6, 7, 8, 9, 10, 11, 37] K := by kernel_rfl

def L5_GraphPartsOrder_b7 (F : Nat) (E7_2 : Value → Value → Value → Value → Value → M Value) (A7 : Value → Value → Value → Value → Value → Value → M Value) (x6 x7 x8 x9 x10 x11 : Value) : M Value :=
  L5_GraphPartsOrder_r12 F x6 x7 x8 x9 x10 x11 (fun x6 x7 x8 x9 x10 x11 x37 => onB x37 (L5_GraphPartsOrder_r14 F x6 x7 x8 x9 x10 x11 (fun x6 x7 x8 x9 x10 x11 x81 => onB x81 (L5_GraphPartsOrder_r15 F (fun x4 => ret x4)) (L5_GraphPartsOrder_r16 F x6 x7 x8 x9 x10 x11 (fun x6 x7 x8 x9 x10 x11 => L5_GraphPartsOrder_r17 F x6 x7 x8 x9 x10 x11 (fun x6 x7 x8 x9 x10 x11 => L5_GraphPartsOrder_r13 F x6 x7 x8 x9 x10 x11 (fun x6 x7 x8 x9 x10 x11 => A7 x6 x7 x8 x9 x10 x11)))))) (E7_2 x6 x7 x8 x9 x10))

def L5_GraphPartsOrder_l7 (F : Nat) (E7_2 : Value → Value → Value → Value → Value → M Value) : Nat → Value → Value → Value → Value → Value → Value → M Value
  | 0, _, _, _, _, _, _ => fail
  | k7 + 1, x6, x7, x8, x9, x10, x11 => L5_GraphPartsOrder_b7 F E7_2 (L5_GraphPartsOrder_l7 F E7_2 k7) x6 x7 x8 x9 x10 x11

theorem L5_GraphPartsOrder_l7_s (F : Nat) (E7_2 : Value → Value → Value → Value → Value → M Value) (k7 : Nat) (x6 x7 x8 x9 x10 x11 : Value) : L5_GraphPartsOrder_l7 F E7_2 (k7 + 1) x6 x7 x8 x9 x10 x11 = L5_GraphPartsOrder_b7 F E7_2 (L5_GraphPartsOrder_l7 F E7_2 k7) x6 x7 x8 x9 x10 x11 := rfl

def L5_GraphPartsOrder_r11 (F : Nat) (x6 x7 x8 x9 x10 : Value) (K : Value → Value → Value → Value → Value → Value → M Value) : M Value :=
  K x6 x7 x8 x9 x10 (.int .i64 (0))

theorem L5_GraphPartsOrder_r11_ok (F : Nat) (x6 x7 x8 x9 x10 : Value) (K : Value → Value → Value → Value → Value → Value → M Value) : L5_GraphPartsOrder_r11 F x6 x7 x8 x9 x10 K = L5_GraphPartsOrder_R F 11 [(10, x10), (9, x9), (8, x8), (7, x7), (6, x6)] [6, 7, 8, 9, 10, 11] K := by kernel_rfl

def L5_GraphPartsOrder_r9 (F : Nat) (x6 x7 x8 x9 x10 : Value) (K : Value → Value → Value → Value → Value → Value → M Value) : M Value :=
  bnd (opLen x7) fun v27 => bnd (opBin .lss x10 v27) fun v28 => K x6 x7 x8 x9 x10 v28

theorem L5_GraphPartsOrder_r9_ok (F : Nat) (x6 x7 x8 x9 x10 : Value) (K : Value → Value → Value → Value → Value → Value → M Value) : L5_GraphPartsOrder_r9 F x6 x7 x8 x9 x10 K = L5_GraphPartsOrder_R F 9 [(10, x10), (9, x9), (8, x8), (7, x7), (6, x6)] [6, 7, 8, 9, 10, 28] K := by kernel_rfl

def L5_GraphPartsOrder_b5 (F : Nat) (E5_0 : Value → Value → Value → M Value) (A5 : Value → Value → Value → Value → Value → M Value) (x6 x7 x8 x9 x10 : Value) : M Value :=
  L5_GraphPartsOrder_r9 F x6 x7 x8 x9 x10 (fun x6 x7 x8 x9 x10 x28 => onB x28 (L5_GraphPartsOrder_r11 F x6 x7 x8 x9 x10 (fun x6 x7 x8 x9 x10 x11 => L5_GraphPartsOrder_l7 F (fun x6 x7 x8 x9 x10 => L5_GraphPartsOrder_k6 F A5 x6 x7 x8 x9 x10) F x6 x7 x8 x9 x10 x11)) (E5_0 x6 x8 x9))

def L5_GraphPartsOrder_l5 (F : Nat) (E5_0 : Value → Value → Value → M Value) : Nat → Value → Value → Value → Value → Value → M Value
  | 0, _, _, _, _, _ => fail
  | k5 + 1, x6, x7, x8, x9, x10 => L5_GraphPartsOrder_b5 F E5_0 (L5_GraphPartsOrder_l5 F E5_0 k5) x6 x7 x8 x9 x10

theorem L5_GraphPartsOrder_l5_s (F : Nat) (E5_0 : Value → Value → Value → M Value) (k5 : Nat) (x6 x7 x8 x9 x10 : Value) : L5_GraphPartsOrder_l5 F E5_0 (k5 + 1) x6 x7 x8 x9 x10 = L5_GraphPartsOrder_b5 F E5_0 (L5_GraphPartsOrder_l5 F E5_0 k5) x6 x7 x8 x9 x10 := rfl

def L5_GraphPartsOrder_r8 (F : Nat) (x6 x7 x8 x9 : Value) (K : Value → Value → Value → Value → Value → M Value) : M Value :=
  K x6 x7 x8 x9 (.int .i64 (0))

theorem L5_GraphPartsOrder_r8_ok (F : Nat) (x6 x7 x8 x9 : Value) (K : Value → Value → Value → Value → Value → M Value) : L5_GraphPartsOrder_r8 F x6 x7 x8 x9 K = L5_GraphPartsOrder_R F 8 [(9, x9), (8, x8), (7, x7), (6, x6)] [6, 7, 8, 9, 10] K := by kernel_rfl

def L5_GraphPartsOrder_r7 (F : Nat) (x6 x7 x8 : Value) (K : Value → Value → Value → Value → M Value) : M Value :=
  K x6 x7 x8 (.int .i64 (0))

theorem L5_GraphPartsOrder_r7_ok (F : Nat) (x6 x7 x8 : Value) (K : Value → Value → Value → Value → M Value) : L5_GraphPartsOrder_r7 F x6 x7 x8 K = L5_GraphPartsOrder_R F 7 [(8, x8), (7, x7), (6, x6)] [6, 7, 8, 9] K := by kernel_rfl

def L5_GraphPartsOrder_r6 (F : Nat) (x6 x7 : Value) (K : Value → Value → Value → M Value) : M Value :=
  bnd (opFieldAddr 0 x6) fun v22 => bnd (opLoad v22) fun v23 => bnd (opMake 8 [(.int .i64 (0))] v23 v23) fun v24 => K x6 x7 v24

theorem L5_GraphPartsOrder_r6_ok (F : Nat) (x6 x7 : Value) (K : Value → Value → Value → M Value) : L5_GraphPartsOrder_r6 F x6 x7 K = L5_GraphPartsOrder_R F 6 [(7, x7), (6, x6)] [6, 7, 8] K := by kernel_rfl

def L5_GraphPartsOrder_r5 (F : Nat) (x6 : Value) (K : Value → Value → M Value) : M Value :=
  bnd (opLoadN 2 x6) fun v20 => bnd (graph_Parts F v20) fun v21 => K x6 v21

theorem L5_GraphPartsOrder_r5_ok (F : Nat) (x6 : Value) (K : Value → Value → M Value) : L5_GraphPartsOrder_r5 F x6 K = L5_GraphPartsOrder_R F 5 [(6, x6)] [6, 7] K := by kernel_rfl

def L5_GraphPartsOrder_r4 (F : Nat) (x0 x1 : Value) (K : Value → M Value) : M Value :=
  bnd (L5_Made F x0 x1) fun v19 => bnd (opPtr [(.int .i64 (0)), (.slice none 0 0)]) fun v6 => bnd (opStoreN 2 v6 v19) fun _ => K v6

theorem L5_GraphPartsOrder_r4_ok (F : Nat) (x0 x1 : Value) (K : Value → M Value) : L5_GraphPartsOrder_r4 F x0 x1 K = L5_GraphPartsOrder_R F 4 [(1, x1), (0, x0)] [6] K := by kernel_rfl

def L5_GraphPartsOrder_r3 (F : Nat) (K : Value → M Value) : M Value :=
  K (.bool false)

theorem L5_GraphPartsOrder_r3_ok (F : Nat) (K : Value → M Value) : L5_GraphPartsOrder_r3 F K = L5_GraphPartsOrder_R F 3 [] [4] K := by kernel_rfl

def L5_GraphPartsOrder_r2 (F : Nat) (x0 x1 x5 : Value) (K : Value → Value → Value → M Value) : M Value :=
  bnd (opNot x5) fun v16 => K x0 x1 v16

theorem L5_GraphPartsOrder_r2_ok (F : Nat) (x0 x1 x5 : Value) (K : Value → Value → Value → M Value) : L5_GraphPartsOrder_r2 F x0 x1 x5 K = L5_GraphPartsOrder_R F 2 [(5, x5), (1, x1), (0, x0)] [0, 1, 16] K := by kernel_rfl

def L5_GraphPartsOrder_r1 (F : Nat) (x0 x1 : Value) (K : Value → Value → Value → M Value) : M Value :=
  bnd (L5_begun F) fun v14 => K x0 x1 v14

theorem L5_GraphPartsOrder_r1_ok (F : Nat) (x0 x1 : Value) (K : Value → Value → Value → M Value) : L5_GraphPartsOrder_r1 F x0 x1 K = L5_GraphPartsOrder_R F 1 [(1, x1), (0, x0)] [0, 1, 5] K := by kernel_rfl

def L5_GraphPartsOrder_r0 (F : Nat) (x0 x1 : Value) (K : Value → Value → M Value) : M Value :=
  K x0 x1

theorem L5_GraphPartsOrder_r0_ok (F : Nat) (x0 x1 : Value) (K : Value → Value → M Value) : L5_GraphPartsOrder_r0 F x0 x1 K = L5_GraphPartsOrder_R F 0 [(1, x1), (0, x0)] [0, 1] K := by kernel_rfl

def L5_GraphPartsOrder (F : Nat) (x0 x1 : Value) : M Value :=
  L5_GraphPartsOrder_r0 F x0 x1 (fun x0 x1 => L5_GraphPartsOrder_r1 F x0 x1 (fun x0 x1 x5 => L5_GraphPartsOrder_r2 F x0 x1 x5 (fun x0 x1 x16 => onB x16 (L5_GraphPartsOrder_r3 F (fun x4 => ret x4)) (L5_GraphPartsOrder_r4 F x0 x1 (fun x6 => L5_GraphPartsOrder_r5 F x6 (fun x6 x7 => L5_GraphPartsOrder_r6 F x6 x7 (fun x6 x7 x8 => L5_GraphPartsOrder_r7 F x6 x7 x8 (fun x6 x7 x8 x9 => L5_GraphPartsOrder_r8 F x6 x7 x8 x9 (fun x6 x7 x8 x9 x10 => L5_GraphPartsOrder_l5 F (fun x6 x8 x9 => L5_GraphPartsOrder_k4 F x6 x8 x9) F x6 x7 x8 x9 x10)))))))))

def L5_GraphPartsOrder_m (F : Nat) : List Value → M Value
  | [x0, x1] => L5_GraphPartsOrder F x0 x1
  | _ => fail

theorem L5_GraphPartsOrder_body : Tryd.f10.body = some (.seq (.region 0 (opsOf Tryd.f10 0) false) (.seq (.region 1 (opsOf Tryd.f10 1) false) (.seq (.seq (.region 2 (opsOf Tryd.f10 2) false) (.cond (.tmp 16) (.seq (.region 3 (opsOf Tryd.f10 3) false) .ret) .skip)) (.seq (.region 4 (opsOf Tryd.f10 4) false) (.seq (.region 5 (opsOf Tryd.f10 5) false) (.seq (.region 6 (opsOf Tryd.f10 6) false) (.seq (.region 7 (opsOf Tryd.f10 7) false) (.seq (.seq (.region 8 (opsOf Tryd.f10 8) false) (.block 0 (.loop (.seq (.seq (.region 9 (opsOf Tryd.f10 9) false) (.cond (.tmp 28) .skip (.exit 0))) (.seq (.block 1 (.seq (.region 11 (opsOf Tryd.f10 11) false) (.block 2 (.loop (.seq (.seq (.region 12 (opsOf Tryd.f10 12) false) (.cond (.tmp 37) .skip (.exit 2))) (.seq (.block 3 (.seq (.seq (.region 14 (opsOf Tryd.f10 14) true) (.cond (.tmp 81) (.seq (.region 15 (opsOf Tryd.f10 15) false) .ret) .skip)) (.seq (.region 16 (opsOf Tryd.f10 16) false) (.region 17 (opsOf Tryd.f10 17) false)))) (.region 13 (opsOf Tryd.f10 13) false))))))) (.region 10 (opsOf Tryd.f10 10) false)))))) (.seq (.seq (.region 18 (opsOf Tryd.f10 18) false) (.block 4 (.loop (.seq (.seq (.region 19 (opsOf Tryd.f10 19) false) (.cond (.tmp 97) .skip (.exit 4))) (.seq (.block 5 (.seq (.region 21 (opsOf Tryd.f10 21) false) (.block 6 (.loop (.seq (.seq (.region 22 (opsOf Tryd.f10 22) false) (.cond (.tmp 107) .skip (.exit 6))) (.seq (.block 7 (.seq (.region 24 (opsOf Tryd.f10 24) true) (.cond (.tmp 125) (.seq (.region 25 (opsOf Tryd.f10 25) false) .ret) .skip))) (.region 23 (opsOf Tryd.f10 23) false))))))) (.region 20 (opsOf Tryd.f10 20) false)))))) (.seq (.region 26 (opsOf Tryd.f10 26) false) .ret)))))))))) := by kernel_rfl

theorem L5_GraphPartsOrder_ok (F : Nat) : Sim Tryd.prog TrydG 10 (L5_GraphPartsOrder_m F) := by
 have hE : EnvOK Tryd.prog TrydG (L5_GraphPartsOrder_env F) := (EnvOK.cons (L5_begun_ok F) (EnvOK.cons (L5_Made_ok F) (EnvOK.cons (graph_Parts_ok F) EnvOK.nil)))
 refine Sim.of_body (E := L5_GraphPartsOrder_env F) Tryd.func10 L5_GraphPartsOrder_body Tryd.call10 ?_ ?_
 · intro args hl; unfold L5_GraphPartsOrder_m; split
   · exact absurd hl (Nat.not_lt.2 (Nat.le_of_ble_eq_true rfl))
   · rfl
 · intro args ρ h w z; unfold L5_GraphPartsOrder_m; split
   · rename_i x0 x1; show OKc _ _ [(0, x0), (1, x1)] _ _
     refine rSeq ?_
     refine cLess [1, 0] ?_
     refine xR hE [0, 1] rfl (L5_GraphPartsOrder_r0_ok F _ _ _) ?_
     intro x0 x1
     show OKq _ _ _ [(1, x1), (0, x0)] _
     refine rThen ?_
     refine rSeq ?_
     refine cLess [1, 0] ?_
     refine xR hE [0, 1, 5] rfl (L5_GraphPartsOrder_r1_ok F _ _ _) ?_
     intro x0 x1 x5
     show OKq _ _ _ [(5, x5), (1, x1), (0, x0)] _
     refine rThen ?_
     refine rSeq ?_
     refine rSeq ?_
     refine cLess [5, 1, 0] ?_
     refine xR hE [0, 1, 16] rfl (L5_GraphPartsOrder_r2_ok F _ _ _ _) ?_
     intro x0 x1 x16
     show OKq _ _ _ [(16, x16), (1, x1), (0, x0)] _
     refine rThen ?_
     refine xCond rfl rfl ?_ ?_
     · refine rSeq ?_
       refine cLess [] ?_
       refine xR hE [4] rfl (L5_GraphPartsOrder_r3_ok F _) ?_
       intro x4
       show OKq _ _ _ [(4, x4)] _
       refine rThen ?_
       refine rRet ?_
       refine xThenR ?_
       exact rDone (.inr rfl) rfl
     · refine rSkip ?_
       refine rThen ?_
       refine rSeq ?_
       refine cLess [1, 0] ?_
       refine xR hE [6] rfl (L5_GraphPartsOrder_r4_ok F _ _ _) ?_
       intro x6
       show OKq _ _ _ [(6, x6)] _
       refine rThen ?_
       refine rSeq ?_
       refine cLess [6] ?_
       refine xR hE [6, 7] rfl (L5_GraphPartsOrder_r5_ok F _ _) ?_
       intro x6 x7
       show OKq _ _ _ [(7, x7), (6, x6)] _
       refine rThen ?_
       refine rSeq ?_
       refine cLess [7, 6] ?_
       refine xR hE [6, 7, 8] rfl (L5_GraphPartsOrder_r6_ok F _ _ _) ?_
       intro x6 x7 x8
       show OKq _ _ _ [(8, x8), (7, x7), (6, x6)] _
       refine rThen ?_
       refine rSeq ?_
       refine cLess [8, 7, 6] ?_
       refine xR hE [6, 7, 8, 9] rfl (L5_GraphPartsOrder_r7_ok F _ _ _ _) ?_
       intro x6 x7 x8 x9
       show OKq _ _ _ [(9, x9), (8, x8), (7, x7), (6, x6)] _
       refine rThen ?_
       refine xSeq [6, 8, 9] (L5_GraphPartsOrder_k4 F ) ?_ fun hj4 => ?_
       · intro x6 x8 x9
         show OKc _ _ [(9, x9), (8, x8), (6, x6)] _ _
         refine xSeq [6, 9] (L5_GraphPartsOrder_k0 F ) ?_ fun hj0 => ?_
         · intro x6 x9
           show OKc _ _ [(9, x9), (6, x6)] _ _
           refine rSeq ?_
           refine cLess [9, 6] ?_
           refine xR hE [4] rfl (L5_GraphPartsOrder_r26_ok F _ _ _) ?_
           intro x4
           show OKq _ _ _ [(4, x4)] _
           refine rThen ?_
           refine rRet ?_
           exact rDone (.inr rfl) rfl
         · refine rSeq ?_
           refine cLess [9, 8, 6] ?_
           refine xR hE [6, 8, 9, 12] rfl (L5_GraphPartsOrder_r18_ok F _ _ _ _) ?_
           intro x6 x8 x9 x12
           show OKq _ _ _ [(12, x12), (9, x9), (8, x8), (6, x6)] _
           refine rThen ?_
           refine rBlock ?_
           refine cLess [12, 9, 8, 6] ?_
           refine xLoopAt [6, 8, 9, 12] [] (fun k1 => L5_GraphPartsOrder_l1 F (fun x6 x9 => L5_GraphPartsOrder_k0 F x6 x9) k1) F [x6, x8, x9, x12] rfl rfl (fun _ _ _ _ => rfl) fun I hI1 k1 => ?_
           intro x6 x8 x9 x12
           show OKc _ _ [(12, x12), (9, x9), (8, x8), (6, x6)] _ _
           refine cAs (L5_GraphPartsOrder_l1_s F _ _ _ _ _ _) ?_
           refine rSeq ?_
           refine rSeq ?_
           refine cLess [12, 9, 8, 6] ?_
           refine xR hE [6, 8, 9, 12, 97] rfl (L5_GraphPartsOrder_r19_ok F _ _ _ _ _) ?_
           intro x6 x8 x9 x12 x97
           show OKq _ _ _ [(97, x97), (12, x12), (9, x9), (8, x8), (6, x6)] _
           refine rThen ?_
           refine xCond rfl rfl ?_ ?_
           · refine rSkip ?_
             refine rThen ?_
             refine xSeq [6, 8, 9, 12] (L5_GraphPartsOrder_k2 F (L5_GraphPartsOrder_l1 F (fun x6 x9 => L5_GraphPartsOrder_k0 F x6 x9) k1) ) ?_ fun hj2 => ?_
             · intro x6 x8 x9 x12
               show OKc _ _ [(12, x12), (9, x9), (8, x8), (6, x6)] _ _
               refine cLess [12, 9, 8, 6] ?_
               refine xR hE [6, 8, 9, 12] rfl (L5_GraphPartsOrder_r20_ok F _ _ _ _ _) ?_
               intro x6 x8 x9 x12
               show OKq _ _ _ [(12, x12), (9, x9), (8, x8), (6, x6)] _
               exact qLess [12, 9, 8, 6] (hI1 k1 x6 x8 x9 x12)
             · refine rBlock ?_
               refine rSeq ?_
               refine cLess [12, 9, 8, 6] ?_
               refine xR hE [6, 8, 9, 12, 13] rfl (L5_GraphPartsOrder_r21_ok F _ _ _ _ _) ?_
               intro x6 x8 x9 x12 x13
               show OKq _ _ _ [(13, x13), (12, x12), (9, x9), (8, x8), (6, x6)] _
               refine rThen ?_
               refine rBlock ?_
               refine cLess [13, 12, 9, 8, 6] ?_
               refine xLoopAt [6, 8, 9, 12, 13] [] (fun k3 => L5_GraphPartsOrder_l3 F (fun x6 x8 x9 x12 => L5_GraphPartsOrder_k2 F (L5_GraphPartsOrder_l1 F (fun x6 x9 => L5_GraphPartsOrder_k0 F x6 x9) k1) x6 x8 x9 x12) k3) F [x6, x8, x9, x12, x13] rfl rfl (fun _ _ _ _ _ => rfl) fun I hI3 k3 => ?_
               intro x6 x8 x9 x12 x13
               show OKc _ _ [(13, x13), (12, x12), (9, x9), (8, x8), (6, x6)] _ _
               refine cAs (L5_GraphPartsOrder_l3_s F _ _ _ _ _ _ _) ?_
               refine rSeq ?_
               refine rSeq ?_
               refine cLess [13, 12, 9, 8, 6] ?_
               refine xR hE [6, 8, 9, 12, 13, 107] rfl (L5_GraphPartsOrder_r22_ok F _ _ _ _ _ _) ?_
               intro x6 x8 x9 x12 x13 x107
               show OKq _ _ _ [(107, x107), (13, x13), (12, x12), (9, x9), (8, x8), (6, x6)] _
               refine rThen ?_
               refine xCond rfl rfl ?_ ?_
               · refine rSkip ?_
                 refine rThen ?_
                 refine rSeq ?_
                 refine rBlock ?_
                 refine rSeq ?_
                 refine cLess [13, 12, 9, 8, 6] ?_
                 refine xD Trydmix hE [6, 8, 9, 12, 13, 125] rfl L5_GraphPartsOrder_r24_good (L5_GraphPartsOrder_r24_ok F _ _ _ _ _ _) ?_
                 intro x6 x8 x9 x12 x13 x125
                 show OKq _ _ _ [(125, x125), (13, x13), (12, x12), (9, x9), (8, x8), (6, x6)] _
                 refine rThen ?_
                 refine xCond rfl rfl ?_ ?_
                 · refine rSeq ?_
                   refine cLess [] ?_
                   refine xR hE [4] rfl (L5_GraphPartsOrder_r25_ok F _) ?_
                   intro x4
                   show OKq _ _ _ [(4, x4)] _
                   refine rThen ?_
                   refine rRet ?_
                   refine xBlockR ?_
                   refine xThenR ?_
                   refine xThenR ?_
                   refine xBlockR ?_
                   refine xBlockR ?_
                   refine xThenR ?_
                   refine xThenR ?_
                   refine xBlockR ?_
                   refine xThenR ?_
                   exact rDone (.inr rfl) rfl
                 · refine rSkip ?_
                   refine xBlockN ?_
                   refine rThen ?_
                   refine cLess [13, 12, 9, 8, 6] ?_
                   refine xR hE [6, 8, 9, 12, 13] rfl (L5_GraphPartsOrder_r23_ok F _ _ _ _ _ _) ?_
                   intro x6 x8 x9 x12 x13
                   show OKq _ _ _ [(13, x13), (12, x12), (9, x9), (8, x8), (6, x6)] _
                   exact qLess [13, 12, 9, 8, 6] (hI3 k3 x6 x8 x9 x12 x13)
               · refine rExit ?_
                 refine xThenX ?_
                 refine xThenX ?_
                 refine rOut ?_
                 refine xBlockN ?_
                 exact qLess [12, 9, 8, 6] (hj2 x6 x8 x9 x12)
           · refine rExit ?_
             refine xThenX ?_
             refine xThenX ?_
             refine rOut ?_
             exact qLess [9, 6] (hj0 x6 x9)
       · refine rSeq ?_
         refine cLess [9, 8, 7, 6] ?_
         refine xR hE [6, 7, 8, 9, 10] rfl (L5_GraphPartsOrder_r8_ok F _ _ _ _ _) ?_
         intro x6 x7 x8 x9 x10
         show OKq _ _ _ [(10, x10), (9, x9), (8, x8), (7, x7), (6, x6)] _
         refine rThen ?_
         refine rBlock ?_
         refine cLess [10, 9, 8, 7, 6] ?_
         refine xLoopAt [6, 7, 8, 9, 10] [] (fun k5 => L5_GraphPartsOrder_l5 F (fun x6 x8 x9 => L5_GraphPartsOrder_k4 F x6 x8 x9) k5) F [x6, x7, x8, x9, x10] rfl rfl (fun _ _ _ _ _ => rfl) fun I hI5 k5 => ?_
         intro x6 x7 x8 x9 x10
         show OKc _ _ [(10, x10), (9, x9), (8, x8), (7, x7), (6, x6)] _ _
         refine cAs (L5_GraphPartsOrder_l5_s F _ _ _ _ _ _ _) ?_
         refine rSeq ?_
         refine rSeq ?_
         refine cLess [10, 9, 8, 7, 6] ?_
         refine xR hE [6, 7, 8, 9, 10, 28] rfl (L5_GraphPartsOrder_r9_ok F _ _ _ _ _ _) ?_
         intro x6 x7 x8 x9 x10 x28
         show OKq _ _ _ [(28, x28), (10, x10), (9, x9), (8, x8), (7, x7), (6, x6)] _
         refine rThen ?_
         refine xCond rfl rfl ?_ ?_
         · refine rSkip ?_
           refine rThen ?_
           refine xSeq [6, 7, 8, 9, 10] (L5_GraphPartsOrder_k6 F (L5_GraphPartsOrder_l5 F (fun x6 x8 x9 => L5_GraphPartsOrder_k4 F x6 x8 x9) k5) ) ?_ fun hj6 => ?_
           · intro x6 x7 x8 x9 x10
             show OKc _ _ [(10, x10), (9, x9), (8, x8), (7, x7), (6, x6)] _ _
             refine cLess [10, 9, 8, 7, 6] ?_
             refine xR hE [6, 7, 8, 9, 10] rfl (L5_GraphPartsOrder_r10_ok F _ _ _ _ _ _) ?_
             intro x6 x7 x8 x9 x10
             show OKq _ _ _ [(10, x10), (9, x9), (8, x8), (7, x7), (6, x6)] _
             exact qLess [10, 9, 8, 7, 6] (hI5 k5 x6 x7 x8 x9 x10)
           · refine rBlock ?_
             refine rSeq ?_
             refine cLess [10, 9, 8, 7, 6] ?_
             refine xR hE [6, 7, 8, 9, 10, 11] rfl (L5_GraphPartsOrder_r11_ok F _ _ _ _ _ _) ?_
             intro x6 x7 x8 x9 x10 x11
             show OKq _ _ _ [(11, x11), (10, x10), (9, x9), (8, x8), (7, x7), (6, x6)] _
             refine rThen ?_
             refine rBlock ?_
             refine cLess [11, 10, 9, 8, 7, 6] ?_
             refine xLoopAt [6, 7, 8, 9, 10, 11] [] (fun k7 => L5_GraphPartsOrder_l7 F (fun x6 x7 x8 x9 x10 => L5_GraphPartsOrder_k6 F (L5_GraphPartsOrder_l5 F (fun x6 x8 x9 => L5_GraphPartsOrder_k4 F x6 x8 x9) k5) x6 x7 x8 x9 x10) k7) F [x6, x7, x8, x9, x10, x11] rfl rfl (fun _ _ _ _ _ _ => rfl) fun I hI7 k7 => ?_
             intro x6 x7 x8 x9 x10 x11
             show OKc _ _ [(11, x11), (10, x10), (9, x9), (8, x8), (7, x7), (6, x6)] _ _
             refine cAs (L5_GraphPartsOrder_l7_s F _ _ _ _ _ _ _ _) ?_
             refine rSeq ?_
             refine rSeq ?_
             refine cLess [11, 10, 9, 8, 7, 6] ?_
             refine xR hE [6, 7, 8, 9, 10, 11, 37] rfl (L5_GraphPartsOrder_r12_ok F _ _ _ _ _ _ _) ?_
             intro x6 x7 x8 x9 x10 x11 x37
             show OKq _ _ _ [(37, x37), (11, x11), (10, x10), (9, x9), (8, x8), (7, x7), (6, x6)] _
             refine rThen ?_
             refine xCond rfl rfl ?_ ?_
             · refine rSkip ?_
               refine rThen ?_
               refine rSeq ?_
               refine rBlock ?_
               refine rSeq ?_
               refine rSeq ?_
               refine cLess [11, 10, 9, 8, 7, 6] ?_
               refine xD Trydmix hE [6, 7, 8, 9, 10, 11, 81] rfl L5_GraphPartsOrder_r14_good (L5_GraphPartsOrder_r14_ok F _ _ _ _ _ _ _) ?_
               intro x6 x7 x8 x9 x10 x11 x81
               show OKq _ _ _ [(81, x81), (11, x11), (10, x10), (9, x9), (8, x8), (7, x7), (6, x6)] _
               refine rThen ?_
               refine xCond rfl rfl ?_ ?_
               · refine rSeq ?_
                 refine cLess [] ?_
                 refine xR hE [4] rfl (L5_GraphPartsOrder_r15_ok F _) ?_
                 intro x4
                 show OKq _ _ _ [(4, x4)] _
                 refine rThen ?_
                 refine rRet ?_
                 refine xThenR ?_
                 refine xBlockR ?_
                 refine xThenR ?_
                 refine xThenR ?_
                 refine xBlockR ?_
                 refine xBlockR ?_
                 refine xThenR ?_
                 refine xThenR ?_
                 refine xBlockR ?_
                 refine xThenR ?_
                 exact rDone (.inr rfl) rfl
               · refine rSkip ?_
                 refine rThen ?_
                 refine rSeq ?_
                 refine cLess [11, 10, 9, 8, 7, 6] ?_
                 refine xR hE [6, 7, 8, 9, 10, 11] rfl (L5_GraphPartsOrder_r16_ok F _ _ _ _ _ _ _) ?_
                 intro x6 x7 x8 x9 x10 x11
                 show OKq _ _ _ [(11, x11), (10, x10), (9, x9), (8, x8), (7, x7), (6, x6)] _
                 refine rThen ?_
                 refine cLess [11, 10, 9, 8, 7, 6] ?_
                 refine xR hE [6, 7, 8, 9, 10, 11] rfl (L5_GraphPartsOrder_r17_ok F _ _ _ _ _ _ _) ?_
                 intro x6 x7 x8 x9 x10 x11
                 show OKq _ _ _ [(11, x11), (10, x10), (9, x9), (8, x8), (7, x7), (6, x6)] _
                 refine xBlockN ?_
                 refine rThen ?_
                 refine cLess [11, 10, 9, 8, 7, 6] ?_
                 refine xR hE [6, 7, 8, 9, 10, 11] rfl (L5_GraphPartsOrder_r13_ok F _ _ _ _ _ _ _) ?_
                 intro x6 x7 x8 x9 x10 x11
                 show OKq _ _ _ [(11, x11), (10, x10), (9, x9), (8, x8), (7, x7), (6, x6)] _
                 exact qLess [11, 10, 9, 8, 7, 6] (hI7 k7 x6 x7 x8 x9 x10 x11)
             · refine rExit ?_
               refine xThenX ?_
               refine xThenX ?_
               refine rOut ?_
               refine xBlockN ?_
               exact qLess [10, 9, 8, 7, 6] (hj6 x6 x7 x8 x9 x10)
         · refine rExit ?_
           refine xThenX ?_
           refine xThenX ?_
           refine rOut ?_
           exact qLess [9, 8, 6] (hj4 x6 x8 x9)
   · exact rFail



end Go.Fw
