/-
  What functions of this seat come to, and that they do: part 2.
-/
import Derived.Test.YtdomcfoabnhlfaaGenQ1
set_option linter.unusedVariables false
set_option maxRecDepth 20000
namespace Go.Fw
open Go.Proofs

/-! ### haruspex/haruspexref1.Reach -/

def R1_Reach_env (F : Nat) : Env := envOf []

noncomputable def R1_Reach_R (F : Nat) := rK Try.prog TryG (R1_Reach_env F) Try.f62
noncomputable def R1_Reach_D (F : Nat) := dK Try.prog TryG (R1_Reach_env F) Try.f62

def R1_Reach_r20 (F : Nat) (x7 : Value) (K : Value → M Value) : M Value :=
  K x7

theorem R1_Reach_r20_ok (F : Nat) (x7 : Value) (K : Value → M Value) : R1_Reach_r20 F x7 K = R1_Reach_R F 20 [(7, x7)] [6] K := by kernel_rfl

def R1_Reach_k0 (F : Nat) (x7 : Value) : M Value :=
  R1_Reach_r20 F x7 (fun x6 => ret x6)

def R1_Reach_r15 (F : Nat) (x0 x2 x7 x8 x11 x12 : Value) (K : Value → Value → Value → Value → Value → Value → M Value) : M Value :=
  bnd (opBin .add x12 (.int .i64 (1))) fun v70 => K x0 x2 x7 x8 x11 v70

theorem R1_Reach_r15_ok (F : Nat) (x0 x2 x7 x8 x11 x12 : Value) (K : Value → Value → Value → Value → Value → Value → M Value) : R1_Reach_r15 F x0 x2 x7 x8 x11 x12 K = R1_Reach_R F 15 [(12, x12), (11, x11), (8, x8), (7, x7), (2, x2), (0, x0)] [0, 2, 7, 8, 11, 12] K := by kernel_rfl

def R1_Reach_k3 (F : Nat) (A2 : Value → Value → Value → Value → Value → Value → M Value) (x0 x2 x7 x8 x11 x12 : Value) : M Value :=
  R1_Reach_r15 F x0 x2 x7 x8 x11 x12 (fun x0 x2 x7 x8 x11 x12 => A2 x0 x2 x7 x8 x11 x12)

def R1_Reach_r19 (F : Nat) (x0 x2 x7 x8 x11 x12 x13 : Value) (K : Value → Value → Value → Value → Value → Value → M Value) : M Value :=
  bnd (opBuildSlice 1 (rep 1 [(.int .i64 (0))]) [(0, 1, false, x13)]) fun v93 => bnd (opAppend 1 8 x8 v93) fun v94 => K x0 x2 x7 v94 x11 x12

theorem R1_Reach_r19_ok (F : Nat) (x0 x2 x7 x8 x11 x12 x13 : Value) (K : Value → Value → Value → Value → Value → Value → M Value) : R1_Reach_r19 F x0 x2 x7 x8 x11 x12 x13 K = R1_Reach_R F 19 [(13, x13), (12, x12), (11, x11), (8, x8), (7, x7), (2, x2), (0, x0)] [0, 2, 7, 8, 11, 12] K := by kernel_rfl

def R1_Reach_r18 (F : Nat) (x0 x2 x7 x8 x11 x12 x13 : Value) (K : Value → Value → Value → Value → Value → Value → Value → M Value) : M Value :=
  bnd (opIndexAddr 1 x7 x13) fun v90 => bnd (opStore v90 (.bool true)) fun _ => K x0 x2 x7 x8 x11 x12 x13

theorem R1_Reach_r18_ok (F : Nat) (x0 x2 x7 x8 x11 x12 x13 : Value) (K : Value → Value → Value → Value → Value → Value → Value → M Value) : R1_Reach_r18 F x0 x2 x7 x8 x11 x12 x13 K = R1_Reach_R F 18 [(13, x13), (12, x12), (11, x11), (8, x8), (7, x7), (2, x2), (0, x0)] [0, 2, 7, 8, 11, 12, 13] K := by kernel_rfl

def R1_Reach_r17 (F : Nat) (x0 x2 x7 x8 x11 x12 x13 : Value) (K : Value → Value → Value → Value → Value → Value → Value → Value → M Value) : M Value :=
  bnd (opIndexAddr 1 x7 x13) fun v80 => bnd (opLoad v80) fun v81 => bnd (opNot v81) fun v82 => onB v82 (bnd (opBin .neq x13 x2) fun v86 => K x0 x2 x7 x8 x11 x12 x13 v86) (K x0 x2 x7 x8 x11 x12 x13 (.bool false))

theorem R1_Reach_r17_ok (F : Nat) (x0 x2 x7 x8 x11 x12 x13 : Value) (K : Value → Value → Value → Value → Value → Value → Value → Value → M Value) : R1_Reach_r17 F x0 x2 x7 x8 x11 x12 x13 K = R1_Reach_R F 17 [(13, x13), (12, x12), (11, x11), (8, x8), (7, x7), (2, x2), (0, x0)] [0, 2, 7, 8, 11, 12, 13, 87] K := by kernel_rfl

def R1_Reach_r16 (F : Nat) (x0 x2 x7 x8 x11 x12 : Value) (K : Value → Value → Value → Value → Value → Value → Value → M Value) : M Value :=
  bnd (opIndexAddr 1 x0 x11) fun v73 => bnd (opLoad v73) fun v74 => bnd (opIndexAddr 1 v74 x12) fun v76 => bnd (opLoad v76) fun v77 => K x0 x2 x7 x8 x11 x12 v77

theorem R1_Reach_r16_ok (F : Nat) (x0 x2 x7 x8 x11 x12 : Value) (K : Value → Value → Value → Value → Value → Value → Value → M Value) : R1_Reach_r16 F x0 x2 x7 x8 x11 x12 K = R1_Reach_R F 16 [(12, x12), (11, x11), (8, x8), (7, x7), (2, x2), (0, x0)] [0, 2, 7, 8, 11, 12, 13] K := by kernel_rfl

def R1_Reach_r14 (F : Nat) (x0 x2 x7 x8 x11 x12 : Value) (K : Value → Value → Value → Value → Value → Value → Value → M Value) : M Value :=
  bnd (opIndexAddr 1 x0 x11) fun v65 => bnd (opLoad v65) fun v66 => bnd (opLen v66) fun v67 => bnd (opBin .lss x12 v67) fun v68 => K x0 x2 x7 x8 x11 x12 v68

theorem R1_Reach_r14_ok (F : Nat) (x0 x2 x7 x8 x11 x12 : Value) (K : Value → Value → Value → Value → Value → Value → Value → M Value) : R1_Reach_r14 F x0 x2 x7 x8 x11 x12 K = R1_Reach_R F 14 [(12, x12), (11, x11), (8, x8), (7, x7), (2, x2), (0, x0)] [0, 2, 7, 8, 11, 12, 68] K := by kernel_rfl

def R1_Reach_b2 (F : Nat) (E2_4 : Value → Value → Value → Value → M Value) (A2 : Value → Value → Value → Value → Value → Value → M Value) (x0 x2 x7 x8 x11 x12 : Value) : M Value :=
  R1_Reach_r14 F x0 x2 x7 x8 x11 x12 (fun x0 x2 x7 x8 x11 x12 x68 => onB x68 (R1_Reach_r16 F x0 x2 x7 x8 x11 x12 (fun x0 x2 x7 x8 x11 x12 x13 => R1_Reach_r17 F x0 x2 x7 x8 x11 x12 x13 (fun x0 x2 x7 x8 x11 x12 x13 x87 => onB x87 (R1_Reach_r18 F x0 x2 x7 x8 x11 x12 x13 (fun x0 x2 x7 x8 x11 x12 x13 => R1_Reach_r19 F x0 x2 x7 x8 x11 x12 x13 (fun x0 x2 x7 x8 x11 x12 => R1_Reach_k3 F A2 x0 x2 x7 x8 x11 x12))) (R1_Reach_k3 F A2 x0 x2 x7 x8 x11 x12)))) (E2_4 x0 x2 x7 x8))

def R1_Reach_l2 (F : Nat) (E2_4 : Value → Value → Value → Value → M Value) : Nat → Value → Value → Value → Value → Value → Value → M Value
  | 0, _, _, _, _, _, _ => fail
  | k2 + 1, x0, x2, x7, x8, x11, x12 => R1_Reach_b2 F E2_4 (R1_Reach_l2 F E2_4 k2) x0 x2 x7 x8 x11 x12

theorem R1_Reach_l2_s (F : Nat) (E2_4 : Value → Value → Value → Value → M Value) (k2 : Nat) (x0 x2 x7 x8 x11 x12 : Value) : R1_Reach_l2 F E2_4 (k2 + 1) x0 x2 x7 x8 x11 x12 = R1_Reach_b2 F E2_4 (R1_Reach_l2 F E2_4 k2) x0 x2 x7 x8 x11 x12 := rfl

def R1_Reach_r13 (F : Nat) (x0 x2 x7 x8 x11 : Value) (K : Value → Value → Value → Value → Value → Value → M Value) : M Value :=
  K x0 x2 x7 x8 x11 (.int .i64 (0))

theorem R1_Reach_r13_ok (F : Nat) (x0 x2 x7 x8 x11 : Value) (K : Value → Value → Value → Value → Value → Value → M Value) : R1_Reach_r13 F x0 x2 x7 x8 x11 K = R1_Reach_R F 13 [(11, x11), (8, x8), (7, x7), (2, x2), (0, x0)] [0, 2, 7, 8, 11, 12] K := by kernel_rfl

def R1_Reach_r12 (F : Nat) (x0 x2 x7 x8 x11 : Value) (K : Value → Value → Value → Value → Value → M Value) : M Value :=
  bnd (opSlice 1 x8 (some (.int .i64 (1))) none none) fun v61 => K x0 x2 x7 v61 x11

theorem R1_Reach_r12_ok (F : Nat) (x0 x2 x7 x8 x11 : Value) (K : Value → Value → Value → Value → Value → M Value) : R1_Reach_r12 F x0 x2 x7 x8 x11 K = R1_Reach_R F 12 [(11, x11), (8, x8), (7, x7), (2, x2), (0, x0)] [0, 2, 7, 8, 11] K := by kernel_rfl

def R1_Reach_r11 (F : Nat) (x0 x2 x7 x8 : Value) (K : Value → Value → Value → Value → Value → M Value) : M Value :=
  bnd (opIndexAddr 1 x8 (.int .i64 (0))) fun v58 => bnd (opLoad v58) fun v59 => K x0 x2 x7 x8 v59

theorem R1_Reach_r11_ok (F : Nat) (x0 x2 x7 x8 : Value) (K : Value → Value → Value → Value → Value → M Value) : R1_Reach_r11 F x0 x2 x7 x8 K = R1_Reach_R F 11 [(8, x8), (7, x7), (2, x2), (0, x0)] [0, 2, 7, 8, 11] K := by kernel_rfl

def R1_Reach_r10 (F : Nat) (x0 x2 x7 x8 : Value) (K : Value → Value → Value → Value → Value → M Value) : M Value :=
  bnd (opLen x8) fun v55 => bnd (opBin .gtr v55 (.int .i64 (0))) fun v56 => K x0 x2 x7 x8 v56

theorem R1_Reach_r10_ok (F : Nat) (x0 x2 x7 x8 : Value) (K : Value → Value → Value → Value → Value → M Value) : R1_Reach_r10 F x0 x2 x7 x8 K = R1_Reach_R F 10 [(8, x8), (7, x7), (2, x2), (0, x0)] [0, 2, 7, 8, 56] K := by kernel_rfl

def R1_Reach_b1 (F : Nat) (E1_2 : Value → M Value) (A1 : Value → Value → Value → Value → M Value) (x0 x2 x7 x8 : Value) : M Value :=
  R1_Reach_r10 F x0 x2 x7 x8 (fun x0 x2 x7 x8 x56 => onB x56 (R1_Reach_r11 F x0 x2 x7 x8 (fun x0 x2 x7 x8 x11 => R1_Reach_r12 F x0 x2 x7 x8 x11 (fun x0 x2 x7 x8 x11 => R1_Reach_r13 F x0 x2 x7 x8 x11 (fun x0 x2 x7 x8 x11 x12 => R1_Reach_l2 F (fun x0 x2 x7 x8 => A1 x0 x2 x7 x8) F x0 x2 x7 x8 x11 x12)))) (E1_2 x7))

def R1_Reach_l1 (F : Nat) (E1_2 : Value → M Value) : Nat → Value → Value → Value → Value → M Value
  | 0, _, _, _, _ => fail
  | k1 + 1, x0, x2, x7, x8 => R1_Reach_b1 F E1_2 (R1_Reach_l1 F E1_2 k1) x0 x2 x7 x8

theorem R1_Reach_l1_s (F : Nat) (E1_2 : Value → M Value) (k1 : Nat) (x0 x2 x7 x8 : Value) : R1_Reach_l1 F E1_2 (k1 + 1) x0 x2 x7 x8 = R1_Reach_b1 F E1_2 (R1_Reach_l1 F E1_2 k1) x0 x2 x7 x8 := rfl

def R1_Reach_k4 (F : Nat) (x0 x2 x7 x8 : Value) : M Value :=
  R1_Reach_l1 F (fun x7 => R1_Reach_k0 F x7) F x0 x2 x7 x8

def R1_Reach_r5 (F : Nat) (x0 x1 x2 x7 x8 x9 : Value) (K : Value → Value → Value → Value → Value → Value → M Value) : M Value :=
  bnd (opBin .add x9 (.int .i64 (1))) fun v22 => K x0 x1 x2 x7 x8 v22

theorem R1_Reach_r5_ok (F : Nat) (x0 x1 x2 x7 x8 x9 : Value) (K : Value → Value → Value → Value → Value → Value → M Value) : R1_Reach_r5 F x0 x1 x2 x7 x8 x9 K = R1_Reach_R F 5 [(9, x9), (8, x8), (7, x7), (2, x2), (1, x1), (0, x0)] [0, 1, 2, 7, 8, 9] K := by kernel_rfl

def R1_Reach_k6 (F : Nat) (A5 : Value → Value → Value → Value → Value → Value → M Value) (x0 x1 x2 x7 x8 x9 : Value) : M Value :=
  R1_Reach_r5 F x0 x1 x2 x7 x8 x9 (fun x0 x1 x2 x7 x8 x9 => A5 x0 x1 x2 x7 x8 x9)

def R1_Reach_r9 (F : Nat) (x0 x1 x2 x7 x8 x9 x10 : Value) (K : Value → Value → Value → Value → Value → Value → M Value) : M Value :=
  bnd (opBuildSlice 1 (rep 1 [(.int .i64 (0))]) [(0, 1, false, x10)]) fun v52 => bnd (opAppend 1 8 x8 v52) fun v53 => K x0 x1 x2 x7 v53 x9

theorem R1_Reach_r9_ok (F : Nat) (x0 x1 x2 x7 x8 x9 x10 : Value) (K : Value → Value → Value → Value → Value → Value → M Value) : R1_Reach_r9 F x0 x1 x2 x7 x8 x9 x10 K = R1_Reach_R F 9 [(10, x10), (9, x9), (8, x8), (7, x7), (2, x2), (1, x1), (0, x0)] [0, 1, 2, 7, 8, 9] K := by kernel_rfl

def R1_Reach_r8 (F : Nat) (x0 x1 x2 x7 x8 x9 x10 : Value) (K : Value → Value → Value → Value → Value → Value → Value → M Value) : M Value :=
  bnd (opIndexAddr 1 x7 x10) fun v49 => bnd (opStore v49 (.bool true)) fun _ => K x0 x1 x2 x7 x8 x9 x10

theorem R1_Reach_r8_ok (F : Nat) (x0 x1 x2 x7 x8 x9 x10 : Value) (K : Value → Value → Value → Value → Value → Value → Value → M Value) : R1_Reach_r8 F x0 x1 x2 x7 x8 x9 x10 K = R1_Reach_R F 8 [(10, x10), (9, x9), (8, x8), (7, x7), (2, x2), (1, x1), (0, x0)] [0, 1, 2, 7, 8, 9, 10] K := by kernel_rfl

def R1_Reach_r7 (F : Nat) (x0 x1 x2 x7 x8 x9 x10 : Value) (K : Value → Value → Value → Value → Value → Value → Value → Value → M Value) : M Value :=
  bnd (opBin .geq x10 (.int .i64 (0))) fun v28 => onB v28 (bnd (opLen x0) fun v32 => bnd (opBin .lss x10 v32) fun v33 => onB v33 (bnd (opIndexAddr 1 x7 x10) fun v38 => bnd (opLoad v38) fun v39 => bnd (opNot v39) fun v40 => onB v40 (bnd (opBin .neq x10 x2) fun v45 => K x0 x1 x2 x7 x8 x9 x10 v45) (K x0 x1 x2 x7 x8 x9 x10 (.bool false))) (K x0 x1 x2 x7 x8 x9 x10 (.bool false))) (K x0 x1 x2 x7 x8 x9 x10 (.bool false))

theorem R1_Reach_r7_ok (F : Nat) (x0 x1 x2 x7 x8 x9 x10 : Value) (K : Value → Value → Value → Value → Value → Value → Value → Value → M Value) : R1_Reach_r7 F x0 x1 x2 x7 x8 x9 x10 K = R1_Reach_R F 7 [(10, x10), (9, x9), (8, x8), (7, x7), (2, x2), (1, x1), (0, x0)] [0, 1, 2, 7, 8, 9, 10, 46] K := by kernel_rfl

def R1_Reach_r6 (F : Nat) (x0 x1 x2 x7 x8 x9 : Value) (K : Value → Value → Value → Value → Value → Value → Value → M Value) : M Value :=
  bnd (opIndexAddr 1 x1 x9) fun v25 => bnd (opLoad v25) fun v26 => K x0 x1 x2 x7 x8 x9 v26

theorem R1_Reach_r6_ok (F : Nat) (x0 x1 x2 x7 x8 x9 : Value) (K : Value → Value → Value → Value → Value → Value → Value → M Value) : R1_Reach_r6 F x0 x1 x2 x7 x8 x9 K = R1_Reach_R F 6 [(9, x9), (8, x8), (7, x7), (2, x2), (1, x1), (0, x0)] [0, 1, 2, 7, 8, 9, 10] K := by kernel_rfl

def R1_Reach_r4 (F : Nat) (x0 x1 x2 x7 x8 x9 : Value) (K : Value → Value → Value → Value → Value → Value → Value → M Value) : M Value :=
  bnd (opLen x1) fun v19 => bnd (opBin .lss x9 v19) fun v20 => K x0 x1 x2 x7 x8 x9 v20

theorem R1_Reach_r4_ok (F : Nat) (x0 x1 x2 x7 x8 x9 : Value) (K : Value → Value → Value → Value → Value → Value → Value → M Value) : R1_Reach_r4 F x0 x1 x2 x7 x8 x9 K = R1_Reach_R F 4 [(9, x9), (8, x8), (7, x7), (2, x2), (1, x1), (0, x0)] [0, 1, 2, 7, 8, 9, 20] K := by kernel_rfl

def R1_Reach_b5 (F : Nat) (E5_0 : Value → Value → Value → Value → M Value) (A5 : Value → Value → Value → Value → Value → Value → M Value) (x0 x1 x2 x7 x8 x9 : Value) : M Value :=
  R1_Reach_r4 F x0 x1 x2 x7 x8 x9 (fun x0 x1 x2 x7 x8 x9 x20 => onB x20 (R1_Reach_r6 F x0 x1 x2 x7 x8 x9 (fun x0 x1 x2 x7 x8 x9 x10 => R1_Reach_r7 F x0 x1 x2 x7 x8 x9 x10 (fun x0 x1 x2 x7 x8 x9 x10 x46 => onB x46 (R1_Reach_r8 F x0 x1 x2 x7 x8 x9 x10 (fun x0 x1 x2 x7 x8 x9 x10 => R1_Reach_r9 F x0 x1 x2 x7 x8 x9 x10 (fun x0 x1 x2 x7 x8 x9 => R1_Reach_k6 F A5 x0 x1 x2 x7 x8 x9))) (R1_Reach_k6 F A5 x0 x1 x2 x7 x8 x9)))) (E5_0 x0 x2 x7 x8))

def R1_Reach_l5 (F : Nat) (E5_0 : Value → Value → Value → Value → M Value) : Nat → Value → Value → Value → Value → Value → Value → M Value
  | 0, _, _, _, _, _, _ => fail
  | k5 + 1, x0, x1, x2, x7, x8, x9 => R1_Reach_b5 F E5_0 (R1_Reach_l5 F E5_0 k5) x0 x1 x2 x7 x8 x9

theorem R1_Reach_l5_s (F : Nat) (E5_0 : Value → Value → Value → Value → M Value) (k5 : Nat) (x0 x1 x2 x7 x8 x9 : Value) : R1_Reach_l5 F E5_0 (k5 + 1) x0 x1 x2 x7 x8 x9 = R1_Reach_b5 F E5_0 (R1_Reach_l5 F E5_0 k5) x0 x1 x2 x7 x8 x9 := rfl

def R1_Reach_r3 (F : Nat) (x0 x1 x2 x7 x8 : Value) (K : Value → Value → Value → Value → Value → Value → M Value) : M Value :=
  K x0 x1 x2 x7 x8 (.int .i64 (0))

theorem R1_Reach_r3_ok (F : Nat) (x0 x1 x2 x7 x8 : Value) (K : Value → Value → Value → Value → Value → Value → M Value) : R1_Reach_r3 F x0 x1 x2 x7 x8 K = R1_Reach_R F 3 [(8, x8), (7, x7), (2, x2), (1, x1), (0, x0)] [0, 1, 2, 7, 8, 9] K := by kernel_rfl

def R1_Reach_r2 (F : Nat) (x0 x1 x2 x7 : Value) (K : Value → Value → Value → Value → Value → M Value) : M Value :=
  K x0 x1 x2 x7 (.slice none 0 0)

theorem R1_Reach_r2_ok (F : Nat) (x0 x1 x2 x7 : Value) (K : Value → Value → Value → Value → Value → M Value) : R1_Reach_r2 F x0 x1 x2 x7 K = R1_Reach_R F 2 [(7, x7), (2, x2), (1, x1), (0, x0)] [0, 1, 2, 7, 8] K := by kernel_rfl

def R1_Reach_r1 (F : Nat) (x0 x1 x2 : Value) (K : Value → Value → Value → Value → M Value) : M Value :=
  bnd (opLen x0) fun v15 => bnd (opMake 1 [(.bool false)] v15 v15) fun v16 => K x0 x1 x2 v16

theorem R1_Reach_r1_ok (F : Nat) (x0 x1 x2 : Value) (K : Value → Value → Value → Value → M Value) : R1_Reach_r1 F x0 x1 x2 K = R1_Reach_R F 1 [(2, x2), (1, x1), (0, x0)] [0, 1, 2, 7] K := by kernel_rfl

def R1_Reach_r0 (F : Nat) (x0 x1 x2 : Value) (K : Value → Value → Value → M Value) : M Value :=
  K x0 x1 x2

theorem R1_Reach_r0_ok (F : Nat) (x0 x1 x2 : Value) (K : Value → Value → Value → M Value) : R1_Reach_r0 F x0 x1 x2 K = R1_Reach_R F 0 [(2, x2), (1, x1), (0, x0)] [0, 1, 2] K := by kernel_rfl

def R1_Reach (F : Nat) (x0 x1 x2 : Value) : M Value :=
  R1_Reach_r0 F x0 x1 x2 (fun x0 x1 x2 => R1_Reach_r1 F x0 x1 x2 (fun x0 x1 x2 x7 => R1_Reach_r2 F x0 x1 x2 x7 (fun x0 x1 x2 x7 x8 => R1_Reach_r3 F x0 x1 x2 x7 x8 (fun x0 x1 x2 x7 x8 x9 => R1_Reach_l5 F (fun x0 x2 x7 x8 => R1_Reach_k4 F x0 x2 x7 x8) F x0 x1 x2 x7 x8 x9))))

def R1_Reach_m (F : Nat) : List Value → M Value
  | [x0, x1, x2] => R1_Reach F x0 x1 x2
  | _ => fail

theorem R1_Reach_body : Try.f62.body = some (.seq (.region 0 (opsOf Try.f62 0) false) (.seq (.region 1 (opsOf Try.f62 1) false) (.seq (.region 2 (opsOf Try.f62 2) false) (.seq (.seq (.region 3 (opsOf Try.f62 3) false) (.block 0 (.loop (.seq (.seq (.region 4 (opsOf Try.f62 4) false) (.cond (.tmp 20) .skip (.exit 0))) (.seq (.block 1 (.seq (.region 6 (opsOf Try.f62 6) false) (.seq (.region 7 (opsOf Try.f62 7) false) (.cond (.tmp 46) (.seq (.region 8 (opsOf Try.f62 8) false) (.region 9 (opsOf Try.f62 9) false)) .skip)))) (.region 5 (opsOf Try.f62 5) false)))))) (.seq (.block 2 (.loop (.seq (.seq (.region 10 (opsOf Try.f62 10) false) (.cond (.tmp 56) .skip (.exit 2))) (.block 3 (.seq (.region 11 (opsOf Try.f62 11) false) (.seq (.region 12 (opsOf Try.f62 12) false) (.seq (.region 13 (opsOf Try.f62 13) false) (.block 4 (.loop (.seq (.seq (.region 14 (opsOf Try.f62 14) false) (.cond (.tmp 68) .skip (.exit 4))) (.seq (.block 5 (.seq (.region 16 (opsOf Try.f62 16) false) (.seq (.region 17 (opsOf Try.f62 17) false) (.cond (.tmp 87) (.seq (.region 18 (opsOf Try.f62 18) false) (.region 19 (opsOf Try.f62 19) false)) .skip)))) (.region 15 (opsOf Try.f62 15) false)))))))))))) (.seq (.region 20 (opsOf Try.f62 20) false) .ret)))))) := by kernel_rfl

theorem R1_Reach_ok (F : Nat) : Sim Try.prog TryG 62 (R1_Reach_m F) := by
 have hE : EnvOK Try.prog TryG (R1_Reach_env F) := EnvOK.nil
 refine Sim.of_body (E := R1_Reach_env F) Try.func62 R1_Reach_body Try.call62 ?_ ?_
 · intro args hl; unfold R1_Reach_m; split
   · exact absurd hl (Nat.not_lt.2 (Nat.le_of_ble_eq_true rfl))
   · rfl
 · intro args ρ h w z; unfold R1_Reach_m; split
   · rename_i x0 x1 x2; show OKc _ _ [(0, x0), (1, x1), (2, x2)] _ _
     refine rSeq ?_
     refine cLess [2, 1, 0] ?_
     refine xR hE [0, 1, 2] rfl (R1_Reach_r0_ok F _ _ _ _) ?_
     intro x0 x1 x2
     show OKq _ _ _ [(2, x2), (1, x1), (0, x0)] _
     refine rThen ?_
     refine rSeq ?_
     refine cLess [2, 1, 0] ?_
     refine xR hE [0, 1, 2, 7] rfl (R1_Reach_r1_ok F _ _ _ _) ?_
     intro x0 x1 x2 x7
     show OKq _ _ _ [(7, x7), (2, x2), (1, x1), (0, x0)] _
     refine rThen ?_
     refine rSeq ?_
     refine cLess [7, 2, 1, 0] ?_
     refine xR hE [0, 1, 2, 7, 8] rfl (R1_Reach_r2_ok F _ _ _ _ _) ?_
     intro x0 x1 x2 x7 x8
     show OKq _ _ _ [(8, x8), (7, x7), (2, x2), (1, x1), (0, x0)] _
     refine rThen ?_
     refine xSeq [0, 2, 7, 8] (R1_Reach_k4 F ) ?_ fun hj4 => ?_
     · intro x0 x2 x7 x8
       show OKc _ _ [(8, x8), (7, x7), (2, x2), (0, x0)] _ _
       refine xSeq [7] (R1_Reach_k0 F ) ?_ fun hj0 => ?_
       · intro x7
         show OKc _ _ [(7, x7)] _ _
         refine rSeq ?_
         refine cLess [7] ?_
         refine xR hE [6] rfl (R1_Reach_r20_ok F _ _) ?_
         intro x6
         show OKq _ _ _ [(6, x6)] _
         refine rThen ?_
         refine rRet ?_
         exact rDone (.inr rfl) rfl
       · refine rBlock ?_
         refine cLess [8, 7, 2, 0] ?_
         refine xLoopAt [0, 2, 7, 8] [] (fun k1 => R1_Reach_l1 F (fun x7 => R1_Reach_k0 F x7) k1) F [x0, x2, x7, x8] rfl rfl (fun _ _ _ _ => rfl) fun I hI1 k1 => ?_
         intro x0 x2 x7 x8
         show OKc _ _ [(8, x8), (7, x7), (2, x2), (0, x0)] _ _
         refine cAs (R1_Reach_l1_s F _ _ _ _ _ _) ?_
         refine rSeq ?_
         refine rSeq ?_
         refine cLess [8, 7, 2, 0] ?_
         refine xR hE [0, 2, 7, 8, 56] rfl (R1_Reach_r10_ok F _ _ _ _ _) ?_
         intro x0 x2 x7 x8 x56
         show OKq _ _ _ [(56, x56), (8, x8), (7, x7), (2, x2), (0, x0)] _
         refine rThen ?_
         refine xCond rfl rfl ?_ ?_
         · refine rSkip ?_
           refine rThen ?_
           refine rBlock ?_
           refine rSeq ?_
           refine cLess [8, 7, 2, 0] ?_
           refine xR hE [0, 2, 7, 8, 11] rfl (R1_Reach_r11_ok F _ _ _ _ _) ?_
           intro x0 x2 x7 x8 x11
           show OKq _ _ _ [(11, x11), (8, x8), (7, x7), (2, x2), (0, x0)] _
           refine rThen ?_
           refine rSeq ?_
           refine cLess [11, 8, 7, 2, 0] ?_
           refine xR hE [0, 2, 7, 8, 11] rfl (R1_Reach_r12_ok F _ _ _ _ _ _) ?_
           intro x0 x2 x7 x8 x11
           show OKq _ _ _ [(11, x11), (8, x8), (7, x7), (2, x2), (0, x0)] _
           refine rThen ?_
           refine rSeq ?_
           refine cLess [11, 8, 7, 2, 0] ?_
           refine xR hE [0, 2, 7, 8, 11, 12] rfl (R1_Reach_r13_ok F _ _ _ _ _ _) ?_
           intro x0 x2 x7 x8 x11 x12
           show OKq _ _ _ [(12, x12), (11, x11), (8, x8), (7, x7), (2, x2), (0, x0)] _
           refine rThen ?_
           refine rBlock ?_
           refine cLess [12, 11, 8, 7, 2, 0] ?_
           refine xLoopAt [0, 2, 7, 8, 11, 12] [] (fun k2 => R1_Reach_l2 F (fun x0 x2 x7 x8 => (R1_Reach_l1 F (fun x7 => R1_Reach_k0 F x7) k1) x0 x2 x7 x8) k2) F [x0, x2, x7, x8, x11, x12] rfl rfl (fun _ _ _ _ _ _ => rfl) fun I hI2 k2 => ?_
           intro x0 x2 x7 x8 x11 x12
           show OKc _ _ [(12, x12), (11, x11), (8, x8), (7, x7), (2, x2), (0, x0)] _ _
           refine cAs (R1_Reach_l2_s F _ _ _ _ _ _ _ _) ?_
           refine rSeq ?_
           refine rSeq ?_
           refine cLess [12, 11, 8, 7, 2, 0] ?_
           refine xR hE [0, 2, 7, 8, 11, 12, 68] rfl (R1_Reach_r14_ok F _ _ _ _ _ _ _) ?_
           intro x0 x2 x7 x8 x11 x12 x68
           show OKq _ _ _ [(68, x68), (12, x12), (11, x11), (8, x8), (7, x7), (2, x2), (0, x0)] _
           refine rThen ?_
           refine xCond rfl rfl ?_ ?_
           · refine rSkip ?_
             refine rThen ?_
             refine xSeq [0, 2, 7, 8, 11, 12] (R1_Reach_k3 F (R1_Reach_l2 F (fun x0 x2 x7 x8 => (R1_Reach_l1 F (fun x7 => R1_Reach_k0 F x7) k1) x0 x2 x7 x8) k2) ) ?_ fun hj3 => ?_
             · intro x0 x2 x7 x8 x11 x12
               show OKc _ _ [(12, x12), (11, x11), (8, x8), (7, x7), (2, x2), (0, x0)] _ _
               refine cLess [12, 11, 8, 7, 2, 0] ?_
               refine xR hE [0, 2, 7, 8, 11, 12] rfl (R1_Reach_r15_ok F _ _ _ _ _ _ _) ?_
               intro x0 x2 x7 x8 x11 x12
               show OKq _ _ _ [(12, x12), (11, x11), (8, x8), (7, x7), (2, x2), (0, x0)] _
               exact qLess [12, 11, 8, 7, 2, 0] (hI2 k2 x0 x2 x7 x8 x11 x12)
             · refine rBlock ?_
               refine rSeq ?_
               refine cLess [12, 11, 8, 7, 2, 0] ?_
               refine xR hE [0, 2, 7, 8, 11, 12, 13] rfl (R1_Reach_r16_ok F _ _ _ _ _ _ _) ?_
               intro x0 x2 x7 x8 x11 x12 x13
               show OKq _ _ _ [(13, x13), (12, x12), (11, x11), (8, x8), (7, x7), (2, x2), (0, x0)] _
               refine rThen ?_
               refine rSeq ?_
               refine cLess [13, 12, 11, 8, 7, 2, 0] ?_
               refine xR hE [0, 2, 7, 8, 11, 12, 13, 87] rfl (R1_Reach_r17_ok F _ _ _ _ _ _ _ _) ?_
               intro x0 x2 x7 x8 x11 x12 x13 x87
               show OKq _ _ _ [(87, x87), (13, x13), (12, x12), (11, x11), (8, x8), (7, x7), (2, x2), (0, x0)] _
               refine rThen ?_
               refine xCond rfl rfl ?_ ?_
               · refine rSeq ?_
                 refine cLess [13, 12, 11, 8, 7, 2, 0] ?_
                 refine xR hE [0, 2, 7, 8, 11, 12, 13] rfl (R1_Reach_r18_ok F _ _ _ _ _ _ _ _) ?_
                 intro x0 x2 x7 x8 x11 x12 x13
                 show OKq _ _ _ [(13, x13), (12, x12), (11, x11), (8, x8), (7, x7), (2, x2), (0, x0)] _
                 refine rThen ?_
                 refine cLess [13, 12, 11, 8, 7, 2, 0] ?_
                 refine xR hE [0, 2, 7, 8, 11, 12] rfl (R1_Reach_r19_ok F _ _ _ _ _ _ _ _) ?_
                 intro x0 x2 x7 x8 x11 x12
                 show OKq _ _ _ [(12, x12), (11, x11), (8, x8), (7, x7), (2, x2), (0, x0)] _
                 refine xBlockN ?_
                 exact qLess [12, 11, 8, 7, 2, 0] (hj3 x0 x2 x7 x8 x11 x12)
               · refine rSkip ?_
                 refine xBlockN ?_
                 exact qLess [12, 11, 8, 7, 2, 0] (hj3 x0 x2 x7 x8 x11 x12)
           · refine rExit ?_
             refine xThenX ?_
             refine xThenX ?_
             refine rOut ?_
             refine xBlockN ?_
             exact qLess [8, 7, 2, 0] (hI1 k1 x0 x2 x7 x8)
         · refine rExit ?_
           refine xThenX ?_
           refine xThenX ?_
           refine rOut ?_
           exact qLess [7] (hj0 x7)
     · refine rSeq ?_
       refine cLess [8, 7, 2, 1, 0] ?_
       refine xR hE [0, 1, 2, 7, 8, 9] rfl (R1_Reach_r3_ok F _ _ _ _ _ _) ?_
       intro x0 x1 x2 x7 x8 x9
       show OKq _ _ _ [(9, x9), (8, x8), (7, x7), (2, x2), (1, x1), (0, x0)] _
       refine rThen ?_
       refine rBlock ?_
       refine cLess [9, 8, 7, 2, 1, 0] ?_
       refine xLoopAt [0, 1, 2, 7, 8, 9] [] (fun k5 => R1_Reach_l5 F (fun x0 x2 x7 x8 => R1_Reach_k4 F x0 x2 x7 x8) k5) F [x0, x1, x2, x7, x8, x9] rfl rfl (fun _ _ _ _ _ _ => rfl) fun I hI5 k5 => ?_
       intro x0 x1 x2 x7 x8 x9
       show OKc _ _ [(9, x9), (8, x8), (7, x7), (2, x2), (1, x1), (0, x0)] _ _
       refine cAs (R1_Reach_l5_s F _ _ _ _ _ _ _ _) ?_
       refine rSeq ?_
       refine rSeq ?_
       refine cLess [9, 8, 7, 2, 1, 0] ?_
       refine xR hE [0, 1, 2, 7, 8, 9, 20] rfl (R1_Reach_r4_ok F _ _ _ _ _ _ _) ?_
       intro x0 x1 x2 x7 x8 x9 x20
       show OKq _ _ _ [(20, x20), (9, x9), (8, x8), (7, x7), (2, x2), (1, x1), (0, x0)] _
       refine rThen ?_
       refine xCond rfl rfl ?_ ?_
       · refine rSkip ?_
         refine rThen ?_
         refine xSeq [0, 1, 2, 7, 8, 9] (R1_Reach_k6 F (R1_Reach_l5 F (fun x0 x2 x7 x8 => R1_Reach_k4 F x0 x2 x7 x8) k5) ) ?_ fun hj6 => ?_
         · intro x0 x1 x2 x7 x8 x9
           show OKc _ _ [(9, x9), (8, x8), (7, x7), (2, x2), (1, x1), (0, x0)] _ _
           refine cLess [9, 8, 7, 2, 1, 0] ?_
           refine xR hE [0, 1, 2, 7, 8, 9] rfl (R1_Reach_r5_ok F _ _ _ _ _ _ _) ?_
           intro x0 x1 x2 x7 x8 x9
           show OKq _ _ _ [(9, x9), (8, x8), (7, x7), (2, x2), (1, x1), (0, x0)] _
           exact qLess [9, 8, 7, 2, 1, 0] (hI5 k5 x0 x1 x2 x7 x8 x9)
         · refine rBlock ?_
           refine rSeq ?_
           refine cLess [9, 8, 7, 2, 1, 0] ?_
           refine xR hE [0, 1, 2, 7, 8, 9, 10] rfl (R1_Reach_r6_ok F _ _ _ _ _ _ _) ?_
           intro x0 x1 x2 x7 x8 x9 x10
           show OKq _ _ _ [(10, x10), (9, x9), (8, x8), (7, x7), (2, x2), (1, x1), (0, x0)] _
           refine rThen ?_
           refine rSeq ?_
           refine cLess [10, 9, 8, 7, 2, 1, 0] ?_
           refine xR hE [0, 1, 2, 7, 8, 9, 10, 46] rfl (R1_Reach_r7_ok F _ _ _ _ _ _ _ _) ?_
           intro x0 x1 x2 x7 x8 x9 x10 x46
           show OKq _ _ _ [(46, x46), (10, x10), (9, x9), (8, x8), (7, x7), (2, x2), (1, x1), (0, x0)] _
           refine rThen ?_
           refine xCond rfl rfl ?_ ?_
           · refine rSeq ?_
             refine cLess [10, 9, 8, 7, 2, 1, 0] ?_
             refine xR hE [0, 1, 2, 7, 8, 9, 10] rfl (R1_Reach_r8_ok F _ _ _ _ _ _ _ _) ?_
             intro x0 x1 x2 x7 x8 x9 x10
             show OKq _ _ _ [(10, x10), (9, x9), (8, x8), (7, x7), (2, x2), (1, x1), (0, x0)] _
             refine rThen ?_
             refine cLess [10, 9, 8, 7, 2, 1, 0] ?_
             refine xR hE [0, 1, 2, 7, 8, 9] rfl (R1_Reach_r9_ok F _ _ _ _ _ _ _ _) ?_
             intro x0 x1 x2 x7 x8 x9
             show OKq _ _ _ [(9, x9), (8, x8), (7, x7), (2, x2), (1, x1), (0, x0)] _
             refine xBlockN ?_
             exact qLess [9, 8, 7, 2, 1, 0] (hj6 x0 x1 x2 x7 x8 x9)
           · refine rSkip ?_
             refine xBlockN ?_
             exact qLess [9, 8, 7, 2, 1, 0] (hj6 x0 x1 x2 x7 x8 x9)
       · refine rExit ?_
         refine xThenX ?_
         refine xThenX ?_
         refine rOut ?_
         exact qLess [8, 7, 2, 0] (hj4 x0 x2 x7 x8)
   · exact rFail


/-! ### haruspex/haruspexref8.Blocks -/

def R8_Blocks_env (F : Nat) : Env := envOf []

noncomputable def R8_Blocks_R (F : Nat) := rK Try.prog TryG (R8_Blocks_env F) Try.f63
noncomputable def R8_Blocks_D (F : Nat) := dK Try.prog TryG (R8_Blocks_env F) Try.f63

def R8_Blocks_r11 (F : Nat) (x3 : Value) (K : Value → M Value) : M Value :=
  K x3

theorem R8_Blocks_r11_ok (F : Nat) (x3 : Value) (K : Value → M Value) : R8_Blocks_r11 F x3 K = R8_Blocks_R F 11 [(3, x3)] [2] K := by kernel_rfl

def R8_Blocks_k0 (F : Nat) (x3 : Value) : M Value :=
  R8_Blocks_r11 F x3 (fun x2 => ret x2)

def R8_Blocks_r4 (F : Nat) (x1 x3 x4 : Value) (K : Value → Value → Value → M Value) : M Value :=
  bnd (opBin .add x4 (.int .i64 (1))) fun v12 => K x1 x3 v12

theorem R8_Blocks_r4_ok (F : Nat) (x1 x3 x4 : Value) (K : Value → Value → Value → M Value) : R8_Blocks_r4 F x1 x3 x4 K = R8_Blocks_R F 4 [(4, x4), (3, x3), (1, x1)] [1, 3, 4] K := by kernel_rfl

def R8_Blocks_r10 (F : Nat) (x1 x3 x4 x5 : Value) (K : Value → Value → Value → M Value) : M Value :=
  bnd (opBuildSlice 1 (rep 1 [(.slice none 0 0)]) [(0, 1, false, x5)]) fun v71 => bnd (opAppend 1 24 x3 v71) fun v72 => K x1 v72 x4

theorem R8_Blocks_r10_ok (F : Nat) (x1 x3 x4 x5 : Value) (K : Value → Value → Value → M Value) : R8_Blocks_r10 F x1 x3 x4 x5 K = R8_Blocks_R F 10 [(5, x5), (4, x4), (3, x3), (1, x1)] [1, 3, 4] K := by kernel_rfl

def R8_Blocks_k2 (F : Nat) (A1 : Value → Value → Value → M Value) (x1 x3 x4 x5 : Value) : M Value :=
  R8_Blocks_r10 F x1 x3 x4 x5 (fun x1 x3 x4 => R8_Blocks_r4 F x1 x3 x4 (fun x1 x3 x4 => A1 x1 x3 x4))

def R8_Blocks_r9 (F : Nat) (x1 x3 x4 x5 : Value) (K : Value → Value → Value → Value → M Value) : M Value :=
  bnd (opFieldAddr 2 x1) fun v61 => bnd (opLoad v61) fun v62 => bnd (opIndexAddr 5 v62 x4) fun v64 => bnd (opFieldAddr 4 v64) fun v65 => bnd (opLoad v65) fun v66 => bnd (opBuildSlice 1 (rep 1 [(.int .i64 (0))]) [(0, 1, false, v66)]) fun v67 => bnd (opAppend 1 8 x5 v67) fun v68 => K x1 x3 x4 v68

theorem R8_Blocks_r9_ok (F : Nat) (x1 x3 x4 x5 : Value) (K : Value → Value → Value → Value → M Value) : R8_Blocks_r9 F x1 x3 x4 x5 K = R8_Blocks_R F 9 [(5, x5), (4, x4), (3, x3), (1, x1)] [1, 3, 4, 5] K := by kernel_rfl

def R8_Blocks_r8 (F : Nat) (x1 x3 x4 x5 : Value) (K : Value → Value → Value → Value → Value → M Value) : M Value :=
  bnd (opFieldAddr 2 x1) fun v38 => bnd (opLoad v38) fun v39 => bnd (opIndexAddr 5 v39 x4) fun v41 => bnd (opFieldAddr 1 v41) fun v42 => bnd (opLoad v42) fun v43 => bnd (opBin .eql v43 (.int .i64 (2))) fun v44 => onB v44 (bnd (opFieldAddr 2 x1) fun v46 => bnd (opLoad v46) fun v47 => bnd (opIndexAddr 5 v47 x4) fun v49 => bnd (opFieldAddr 4 v49) fun v50 => bnd (opLoad v50) fun v51 => bnd (opFieldAddr 2 x1) fun v52 => bnd (opLoad v52) fun v53 => bnd (opIndexAddr 5 v53 x4) fun v55 => bnd (opFieldAddr 3 v55) fun v56 => bnd (opLoad v56) fun v57 => bnd (opBin .neq v51 v57) fun v58 => K x1 x3 x4 x5 v58) (K x1 x3 x4 x5 (.bool false))

theorem R8_Blocks_r8_ok (F : Nat) (x1 x3 x4 x5 : Value) (K : Value → Value → Value → Value → Value → M Value) : R8_Blocks_r8 F x1 x3 x4 x5 K = R8_Blocks_D F 8 [0, 1, 2, 3, 4, 5, 6, 7, 8, 9, 10, 11, 12, 13, 14, 15, 16, 17, 18, 19, 20, 21] [(5, x5), (4, x4), (3, x3), (1, x1)] [1, 3, 4, 5, 59] K := by kernel_rfl

theorem R8_Blocks_r8_good : goodOrder (opsOf Try.f63 8) [0, 1, 2, 3, 4, 5, 6, 7, 8, 9, 10, 11, 12, 13, 14, 15, 16, 17, 18, 19, 20, 21] = true := by kernel_rfl

def R8_Blocks_k3 (F : Nat) (A1 : Value → Value → Value → M Value) (x1 x3 x4 x5 : Value) : M Value :=
  R8_Blocks_r8 F x1 x3 x4 x5 (fun x1 x3 x4 x5 x59 => onB x59 (R8_Blocks_r9 F x1 x3 x4 x5 (fun x1 x3 x4 x5 => R8_Blocks_k2 F A1 x1 x3 x4 x5)) (R8_Blocks_k2 F A1 x1 x3 x4 x5))

def R8_Blocks_r7 (F : Nat) (x1 x3 x4 x5 : Value) (K : Value → Value → Value → Value → M Value) : M Value :=
  bnd (opFieldAddr 2 x1) fun v30 => bnd (opLoad v30) fun v31 => bnd (opIndexAddr 5 v31 x4) fun v33 => bnd (opFieldAddr 3 v33) fun v34 => bnd (opLoad v34) fun v35 => bnd (opBuildSlice 1 (rep 1 [(.int .i64 (0))]) [(0, 1, false, v35)]) fun v36 => bnd (opAppend 1 8 x5 v36) fun v37 => K x1 x3 x4 v37

theorem R8_Blocks_r7_ok (F : Nat) (x1 x3 x4 x5 : Value) (K : Value → Value → Value → Value → M Value) : R8_Blocks_r7 F x1 x3 x4 x5 K = R8_Blocks_R F 7 [(5, x5), (4, x4), (3, x3), (1, x1)] [1, 3, 4, 5] K := by kernel_rfl

def R8_Blocks_r6 (F : Nat) (x1 x3 x4 x5 : Value) (K : Value → Value → Value → Value → Value → M Value) : M Value :=
  bnd (opFieldAddr 2 x1) fun v13 => bnd (opLoad v13) fun v14 => bnd (opIndexAddr 5 v14 x4) fun v16 => bnd (opFieldAddr 1 v16) fun v17 => bnd (opLoad v17) fun v18 => bnd (opBin .eql v18 (.int .i64 (1))) fun v19 => onB v19 (K x1 x3 x4 x5 (.bool true)) (bnd (opFieldAddr 2 x1) fun v21 => bnd (opLoad v21) fun v22 => bnd (opIndexAddr 5 v22 x4) fun v24 => bnd (opFieldAddr 1 v24) fun v25 => bnd (opLoad v25) fun v26 => bnd (opBin .eql v26 (.int .i64 (2))) fun v27 => K x1 x3 x4 x5 v27)

theorem R8_Blocks_r6_ok (F : Nat) (x1 x3 x4 x5 : Value) (K : Value → Value → Value → Value → Value → M Value) : R8_Blocks_r6 F x1 x3 x4 x5 K = R8_Blocks_R F 6 [(5, x5), (4, x4), (3, x3), (1, x1)] [1, 3, 4, 5, 28] K := by kernel_rfl

def R8_Blocks_r5 (F : Nat) (x1 x3 x4 : Value) (K : Value → Value → Value → Value → M Value) : M Value :=
  K x1 x3 x4 (.slice none 0 0)

theorem R8_Blocks_r5_ok (F : Nat) (x1 x3 x4 : Value) (K : Value → Value → Value → Value → M Value) : R8_Blocks_r5 F x1 x3 x4 K = R8_Blocks_R F 5 [(4, x4), (3, x3), (1, x1)] [1, 3, 4, 5] K := by kernel_rfl

def R8_Blocks_r3 (F : Nat) (x1 x3 x4 : Value) (K : Value → Value → Value → Value → M Value) : M Value :=
  bnd (opFieldAddr 2 x1) fun v7 => bnd (opLoad v7) fun v8 => bnd (opLen v8) fun v9 => bnd (opBin .lss x4 v9) fun v10 => K x1 x3 x4 v10

theorem R8_Blocks_r3_ok (F : Nat) (x1 x3 x4 : Value) (K : Value → Value → Value → Value → M Value) : R8_Blocks_r3 F x1 x3 x4 K = R8_Blocks_R F 3 [(4, x4), (3, x3), (1, x1)] [1, 3, 4, 10] K := by kernel_rfl

def R8_Blocks_b1 (F : Nat) (E1_0 : Value → M Value) (A1 : Value → Value → Value → M Value) (x1 x3 x4 : Value) : M Value :=
  R8_Blocks_r3 F x1 x3 x4 (fun x1 x3 x4 x10 => onB x10 (R8_Blocks_r5 F x1 x3 x4 (fun x1 x3 x4 x5 => R8_Blocks_r6 F x1 x3 x4 x5 (fun x1 x3 x4 x5 x28 => onB x28 (R8_Blocks_r7 F x1 x3 x4 x5 (fun x1 x3 x4 x5 => R8_Blocks_k3 F A1 x1 x3 x4 x5)) (R8_Blocks_k3 F A1 x1 x3 x4 x5)))) (E1_0 x3))

def R8_Blocks_l1 (F : Nat) (E1_0 : Value → M Value) : Nat → Value → Value → Value → M Value
  | 0, _, _, _ => fail
  | k1 + 1, x1, x3, x4 => R8_Blocks_b1 F E1_0 (R8_Blocks_l1 F E1_0 k1) x1 x3 x4

theorem R8_Blocks_l1_s (F : Nat) (E1_0 : Value → M Value) (k1 : Nat) (x1 x3 x4 : Value) : R8_Blocks_l1 F E1_0 (k1 + 1) x1 x3 x4 = R8_Blocks_b1 F E1_0 (R8_Blocks_l1 F E1_0 k1) x1 x3 x4 := rfl

def R8_Blocks_r2 (F : Nat) (x1 x3 : Value) (K : Value → Value → Value → M Value) : M Value :=
  K x1 x3 (.int .i64 (0))

theorem R8_Blocks_r2_ok (F : Nat) (x1 x3 : Value) (K : Value → Value → Value → M Value) : R8_Blocks_r2 F x1 x3 K = R8_Blocks_R F 2 [(3, x3), (1, x1)] [1, 3, 4] K := by kernel_rfl

def R8_Blocks_r1 (F : Nat) (x1 : Value) (K : Value → Value → M Value) : M Value :=
  K x1 (.slice none 0 0)

theorem R8_Blocks_r1_ok (F : Nat) (x1 : Value) (K : Value → Value → M Value) : R8_Blocks_r1 F x1 K = R8_Blocks_R F 1 [(1, x1)] [1, 3] K := by kernel_rfl

def R8_Blocks_r0 (F : Nat) (x0 : Value) (K : Value → M Value) : M Value :=
  bnd (opBoxN x0) fun v1 => K v1

theorem R8_Blocks_r0_ok (F : Nat) (x0 : Value) (K : Value → M Value) : R8_Blocks_r0 F x0 K = R8_Blocks_R F 0 [(0, x0)] [1] K := by kernel_rfl

def R8_Blocks (F : Nat) (x0 : Value) : M Value :=
  R8_Blocks_r0 F x0 (fun x1 => R8_Blocks_r1 F x1 (fun x1 x3 => R8_Blocks_r2 F x1 x3 (fun x1 x3 x4 => R8_Blocks_l1 F (fun x3 => R8_Blocks_k0 F x3) F x1 x3 x4)))

def R8_Blocks_m (F : Nat) : List Value → M Value
  | [x0] => R8_Blocks F x0
  | _ => fail

theorem R8_Blocks_body : Try.f63.body = some (.seq (.region 0 (opsOf Try.f63 0) false) (.seq (.region 1 (opsOf Try.f63 1) false) (.seq (.seq (.region 2 (opsOf Try.f63 2) false) (.block 0 (.loop (.seq (.seq (.region 3 (opsOf Try.f63 3) false) (.cond (.tmp 10) .skip (.exit 0))) (.seq (.block 1 (.seq (.region 5 (opsOf Try.f63 5) false) (.seq (.seq (.region 6 (opsOf Try.f63 6) false) (.cond (.tmp 28) (.region 7 (opsOf Try.f63 7) false) .skip)) (.seq (.seq (.region 8 (opsOf Try.f63 8) true) (.cond (.tmp 59) (.region 9 (opsOf Try.f63 9) false) .skip)) (.region 10 (opsOf Try.f63 10) false))))) (.region 4 (opsOf Try.f63 4) false)))))) (.seq (.region 11 (opsOf Try.f63 11) false) .ret)))) := by kernel_rfl

theorem R8_Blocks_ok (F : Nat) : Sim Try.prog TryG 63 (R8_Blocks_m F) := by
 have hE : EnvOK Try.prog TryG (R8_Blocks_env F) := EnvOK.nil
 refine Sim.of_body (E := R8_Blocks_env F) Try.func63 R8_Blocks_body Try.call63 ?_ ?_
 · intro args hl; unfold R8_Blocks_m; split
   · exact absurd hl (Nat.not_lt.2 (Nat.le_of_ble_eq_true rfl))
   · rfl
 · intro args ρ h w z; unfold R8_Blocks_m; split
   · rename_i x0; show OKc _ _ [(0, x0)] _ _
     refine rSeq ?_
     refine cLess [0] ?_
     refine xR hE [1] rfl (R8_Blocks_r0_ok F _ _) ?_
     intro x1
     show OKq _ _ _ [(1, x1)] _
     refine rThen ?_
     refine rSeq ?_
     refine cLess [1] ?_
     refine xR hE [1, 3] rfl (R8_Blocks_r1_ok F _ _) ?_
     intro x1 x3
     show OKq _ _ _ [(3, x3), (1, x1)] _
     refine rThen ?_
     refine xSeq [3] (R8_Blocks_k0 F ) ?_ fun hj0 => ?_
     · intro x3
       show OKc _ _ [(3, x3)] _ _
       refine rSeq ?_
       refine cLess [3] ?_
       refine xR hE [2] rfl (R8_Blocks_r11_ok F _ _) ?_
       intro x2
       show OKq _ _ _ [(2, x2)] _
       refine rThen ?_
       refine rRet ?_
       exact rDone (.inr rfl) rfl
     · refine rSeq ?_
       refine cLess [3, 1] ?_
       refine xR hE [1, 3, 4] rfl (R8_Blocks_r2_ok F _ _ _) ?_
       intro x1 x3 x4
       show OKq _ _ _ [(4, x4), (3, x3), (1, x1)] _
       refine rThen ?_
       refine rBlock ?_
       refine cLess [4, 3, 1] ?_
       refine xLoopAt [1, 3, 4] [] (fun k1 => R8_Blocks_l1 F (fun x3 => R8_Blocks_k0 F x3) k1) F [x1, x3, x4] rfl rfl (fun _ _ _ => rfl) fun I hI1 k1 => ?_
       intro x1 x3 x4
       show OKc _ _ [(4, x4), (3, x3), (1, x1)] _ _
       refine cAs (R8_Blocks_l1_s F _ _ _ _ _) ?_
       refine rSeq ?_
       refine rSeq ?_
       refine cLess [4, 3, 1] ?_
       refine xR hE [1, 3, 4, 10] rfl (R8_Blocks_r3_ok F _ _ _ _) ?_
       intro x1 x3 x4 x10
       show OKq _ _ _ [(10, x10), (4, x4), (3, x3), (1, x1)] _
       refine rThen ?_
       refine xCond rfl rfl ?_ ?_
       · refine rSkip ?_
         refine rThen ?_
         refine rSeq ?_
         refine rBlock ?_
         refine rSeq ?_
         refine cLess [4, 3, 1] ?_
         refine xR hE [1, 3, 4, 5] rfl (R8_Blocks_r5_ok F _ _ _ _) ?_
         intro x1 x3 x4 x5
         show OKq _ _ _ [(5, x5), (4, x4), (3, x3), (1, x1)] _
         refine rThen ?_
         refine xSeq [1, 3, 4, 5] (R8_Blocks_k3 F (R8_Blocks_l1 F (fun x3 => R8_Blocks_k0 F x3) k1) ) ?_ fun hj3 => ?_
         · intro x1 x3 x4 x5
           show OKc _ _ [(5, x5), (4, x4), (3, x3), (1, x1)] _ _
           refine xSeq [1, 3, 4, 5] (R8_Blocks_k2 F (R8_Blocks_l1 F (fun x3 => R8_Blocks_k0 F x3) k1) ) ?_ fun hj2 => ?_
           · intro x1 x3 x4 x5
             show OKc _ _ [(5, x5), (4, x4), (3, x3), (1, x1)] _ _
             refine cLess [5, 4, 3, 1] ?_
             refine xR hE [1, 3, 4] rfl (R8_Blocks_r10_ok F _ _ _ _ _) ?_
             intro x1 x3 x4
             show OKq _ _ _ [(4, x4), (3, x3), (1, x1)] _
             refine xBlockN ?_
             refine rThen ?_
             refine cLess [4, 3, 1] ?_
             refine xR hE [1, 3, 4] rfl (R8_Blocks_r4_ok F _ _ _ _) ?_
             intro x1 x3 x4
             show OKq _ _ _ [(4, x4), (3, x3), (1, x1)] _
             exact qLess [4, 3, 1] (hI1 k1 x1 x3 x4)
           · refine rSeq ?_
             refine cLess [5, 4, 3, 1] ?_
             refine xD Trymix hE [1, 3, 4, 5, 59] rfl R8_Blocks_r8_good (R8_Blocks_r8_ok F _ _ _ _ _) ?_
             intro x1 x3 x4 x5 x59
             show OKq _ _ _ [(59, x59), (5, x5), (4, x4), (3, x3), (1, x1)] _
             refine rThen ?_
             refine xCond rfl rfl ?_ ?_
             · refine cLess [5, 4, 3, 1] ?_
               refine xR hE [1, 3, 4, 5] rfl (R8_Blocks_r9_ok F _ _ _ _ _) ?_
               intro x1 x3 x4 x5
               show OKq _ _ _ [(5, x5), (4, x4), (3, x3), (1, x1)] _
               exact qLess [5, 4, 3, 1] (hj2 x1 x3 x4 x5)
             · refine rSkip ?_
               exact qLess [5, 4, 3, 1] (hj2 x1 x3 x4 x5)
         · refine rSeq ?_
           refine cLess [5, 4, 3, 1] ?_
           refine xR hE [1, 3, 4, 5, 28] rfl (R8_Blocks_r6_ok F _ _ _ _ _) ?_
           intro x1 x3 x4 x5 x28
           show OKq _ _ _ [(28, x28), (5, x5), (4, x4), (3, x3), (1, x1)] _
           refine rThen ?_
           refine xCond rfl rfl ?_ ?_
           · refine cLess [5, 4, 3, 1] ?_
             refine xR hE [1, 3, 4, 5] rfl (R8_Blocks_r7_ok F _ _ _ _ _) ?_
             intro x1 x3 x4 x5
             show OKq _ _ _ [(5, x5), (4, x4), (3, x3), (1, x1)] _
             exact qLess [5, 4, 3, 1] (hj3 x1 x3 x4 x5)
           · refine rSkip ?_
             exact qLess [5, 4, 3, 1] (hj3 x1 x3 x4 x5)
       · refine rExit ?_
         refine xThenX ?_
         refine xThenX ?_
         refine rOut ?_
         exact qLess [3] (hj0 x3)
   · exact rFail


/-! ### haruspex/ir.Outs -/

def ir_Outs_env (F : Nat) : Env := envOf []

noncomputable def ir_Outs_R (F : Nat) := rK Try.prog TryG (ir_Outs_env F) Try.f65
noncomputable def ir_Outs_D (F : Nat) := dK Try.prog TryG (ir_Outs_env F) Try.f65

def ir_Outs_r6 (F : Nat) (K : Value → M Value) : M Value :=
  K (.slice none 0 0)

theorem ir_Outs_r6_ok (F : Nat) (K : Value → M Value) : ir_Outs_r6 F K = ir_Outs_R F 6 [] [2] K := by kernel_rfl

def ir_Outs_r3 (F : Nat) (x0 : Value) (K : Value → M Value) : M Value :=
  bnd (opNil x0) fun v26 => bnd (opFieldAddr 3 v26) fun v27 => bnd (opLoad v27) fun v28 => bnd (opBuildSlice 1 (rep 1 [(.int .i64 (0))]) [(0, 1, false, v28)]) fun v29 => K v29

theorem ir_Outs_r3_ok (F : Nat) (x0 : Value) (K : Value → M Value) : ir_Outs_r3 F x0 K = ir_Outs_R F 3 [(0, x0)] [2] K := by kernel_rfl

def ir_Outs_r5 (F : Nat) (x0 : Value) (K : Value → M Value) : M Value :=
  bnd (opNil x0) fun v37 => bnd (opFieldAddr 3 v37) fun v38 => bnd (opLoad v38) fun v39 => bnd (opNil x0) fun v41 => bnd (opFieldAddr 4 v41) fun v42 => bnd (opLoad v42) fun v43 => bnd (opBuildSlice 2 (rep 2 [(.int .i64 (0))]) [(0, 1, false, v39), (1, 1, false, v43)]) fun v44 => K v44

theorem ir_Outs_r5_ok (F : Nat) (x0 : Value) (K : Value → M Value) : ir_Outs_r5 F x0 K = ir_Outs_D F 5 [0, 1, 2, 3, 4, 5, 6, 7, 8, 9] [(0, x0)] [2] K := by kernel_rfl

theorem ir_Outs_r5_good : goodOrder (opsOf Try.f65 5) [0, 1, 2, 3, 4, 5, 6, 7, 8, 9] = true := by kernel_rfl

def ir_Outs_r4 (F : Nat) (x0 : Value) (K : Value → Value → M Value) : M Value :=
  bnd (opNil x0) fun v32 => bnd (opFieldAddr 1 v32) fun v33 => bnd (opLoad v33) fun v34 => bnd (opBin .eql v34 (.int .i64 (2))) fun v35 => K x0 v35

theorem ir_Outs_r4_ok (F : Nat) (x0 : Value) (K : Value → Value → M Value) : ir_Outs_r4 F x0 K = ir_Outs_R F 4 [(0, x0)] [0, 30] K := by kernel_rfl

def ir_Outs_k0 (F : Nat) (x0 x3 : Value) : M Value :=
  onB x3 (ir_Outs_r3 F x0 (fun x2 => ret x2)) (ir_Outs_r4 F x0 (fun x0 x30 => onB x30 (ir_Outs_r5 F x0 (fun x2 => ret x2)) (ir_Outs_r6 F (fun x2 => ret x2))))

def ir_Outs_r2 (F : Nat) (x0 : Value) (K : Value → Value → M Value) : M Value :=
  bnd (opNil x0) fun v10 => bnd (opFieldAddr 1 v10) fun v11 => bnd (opLoad v11) fun v12 => bnd (opBin .eql v12 (.int .i64 (2))) fun v13 => onB v13 (bnd (opNil x0) fun v16 => bnd (opFieldAddr 3 v16) fun v17 => bnd (opLoad v17) fun v18 => bnd (opNil x0) fun v20 => bnd (opFieldAddr 4 v20) fun v21 => bnd (opLoad v21) fun v22 => bnd (opBin .eql v18 v22) fun v23 => K x0 v23) (K x0 (.bool false))

theorem ir_Outs_r2_ok (F : Nat) (x0 : Value) (K : Value → Value → M Value) : ir_Outs_r2 F x0 K = ir_Outs_D F 2 [0, 1, 2, 3, 4, 5, 6, 7, 8, 9, 10, 11, 12, 13, 14, 15, 16] [(0, x0)] [0, 3] K := by kernel_rfl

theorem ir_Outs_r2_good : goodOrder (opsOf Try.f65 2) [0, 1, 2, 3, 4, 5, 6, 7, 8, 9, 10, 11, 12, 13, 14, 15, 16] = true := by kernel_rfl

def ir_Outs_r1 (F : Nat) (x0 : Value) (K : Value → Value → M Value) : M Value :=
  bnd (opNil x0) fun v5 => bnd (opFieldAddr 1 v5) fun v6 => bnd (opLoad v6) fun v7 => bnd (opBin .eql v7 (.int .i64 (1))) fun v8 => K x0 v8

theorem ir_Outs_r1_ok (F : Nat) (x0 : Value) (K : Value → Value → M Value) : ir_Outs_r1 F x0 K = ir_Outs_R F 1 [(0, x0)] [0, 3] K := by kernel_rfl

def ir_Outs_r0 (F : Nat) (x0 : Value) (K : Value → M Value) : M Value :=
  K x0

theorem ir_Outs_r0_ok (F : Nat) (x0 : Value) (K : Value → M Value) : ir_Outs_r0 F x0 K = ir_Outs_R F 0 [(0, x0)] [0] K := by kernel_rfl

def ir_Outs (F : Nat) (x0 : Value) : M Value :=
  ir_Outs_r0 F x0 (fun x0 => ir_Outs_r1 F x0 (fun x0 x3 => onB x3 (ir_Outs_k0 F x0 x3) (ir_Outs_r2 F x0 (fun x0 x3 => ir_Outs_k0 F x0 x3))))

def ir_Outs_m (F : Nat) : List Value → M Value
  | [x0] => ir_Outs F x0
  | _ => fail

theorem ir_Outs_body : Try.f65.body = some (.seq (.region 0 (opsOf Try.f65 0) false) (.seq (.block 0 (.seq (.seq (.region 1 (opsOf Try.f65 1) false) (.cond (.tmp 3) .skip (.region 2 (opsOf Try.f65 2) true))) (.cond (.tmp 3) (.seq (.region 3 (opsOf Try.f65 3) false) .ret) (.seq (.region 4 (opsOf Try.f65 4) false) (.cond (.tmp 30) (.seq (.region 5 (opsOf Try.f65 5) true) .ret) .skip))))) (.seq (.region 6 (opsOf Try.f65 6) false) .ret))) := by kernel_rfl

theorem ir_Outs_ok (F : Nat) : Sim Try.prog TryG 65 (ir_Outs_m F) := by
 have hE : EnvOK Try.prog TryG (ir_Outs_env F) := EnvOK.nil
 refine Sim.of_body (E := ir_Outs_env F) Try.func65 ir_Outs_body Try.call65 ?_ ?_
 · intro args hl; unfold ir_Outs_m; split
   · exact absurd hl (Nat.not_lt.2 (Nat.le_of_ble_eq_true rfl))
   · rfl
 · intro args ρ h w z; unfold ir_Outs_m; split
   · rename_i x0; show OKc _ _ [(0, x0)] _ _
     refine rSeq ?_
     refine cLess [0] ?_
     refine xR hE [0] rfl (ir_Outs_r0_ok F _ _) ?_
     intro x0
     show OKq _ _ _ [(0, x0)] _
     refine rThen ?_
     refine rSeq ?_
     refine rBlock ?_
     refine xSeq [0, 3] (ir_Outs_k0 F ) ?_ fun hj0 => ?_
     · intro x0 x3
       show OKc _ _ [(3, x3), (0, x0)] _ _
       refine xCond rfl rfl ?_ ?_
       · refine rSeq ?_
         refine cLess [0] ?_
         refine xR hE [2] rfl (ir_Outs_r3_ok F _ _) ?_
         intro x2
         show OKq _ _ _ [(2, x2)] _
         refine rThen ?_
         refine rRet ?_
         refine xBlockR ?_
         refine xThenR ?_
         exact rDone (.inr rfl) rfl
       · refine rSeq ?_
         refine cLess [0] ?_
         refine xR hE [0, 30] rfl (ir_Outs_r4_ok F _ _) ?_
         intro x0 x30
         show OKq _ _ _ [(30, x30), (0, x0)] _
         refine rThen ?_
         refine xCond rfl rfl ?_ ?_
         · refine rSeq ?_
           refine cLess [0] ?_
           refine xD Trymix hE [2] rfl ir_Outs_r5_good (ir_Outs_r5_ok F _ _) ?_
           intro x2
           show OKq _ _ _ [(2, x2)] _
           refine rThen ?_
           refine rRet ?_
           refine xBlockR ?_
           refine xThenR ?_
           exact rDone (.inr rfl) rfl
         · refine rSkip ?_
           refine xBlockN ?_
           refine rThen ?_
           refine rSeq ?_
           refine cLess [] ?_
           refine xR hE [2] rfl (ir_Outs_r6_ok F _) ?_
           intro x2
           show OKq _ _ _ [(2, x2)] _
           refine rThen ?_
           refine rRet ?_
           exact rDone (.inr rfl) rfl
     · refine rSeq ?_
       refine cLess [0] ?_
       refine xR hE [0, 3] rfl (ir_Outs_r1_ok F _ _) ?_
       intro x0 x3
       show OKq _ _ _ [(3, x3), (0, x0)] _
       refine rThen ?_
       refine xCond rfl rfl ?_ ?_
       · refine rSkip ?_
         exact qLess [3, 0] (hj0 x0 x3)
       · refine cLess [0] ?_
         refine xD Trymix hE [0, 3] rfl ir_Outs_r2_good (ir_Outs_r2_ok F _ _) ?_
         intro x0 x3
         show OKq _ _ _ [(3, x3), (0, x0)] _
         exact qLess [3, 0] (hj0 x0 x3)
   · exact rFail


/-! ### slices.heapSortOrdered[int] -/

def slices_heapSortOrdered (F : Nat) (x0 x1 x2 : Value) : M Value := fail

def slices_heapSortOrdered_m (F : Nat) : List Value → M Value
  | [x0, x1, x2] => slices_heapSortOrdered F x0 x1 x2
  | _ => fail

theorem slices_heapSortOrdered_ok (F : Nat) : Sim Try.prog TryG 72 (slices_heapSortOrdered_m F) := Sim.of_fail Try.call72 (by intro args; unfold slices_heapSortOrdered_m; split <;> rfl)


/-! ### slices.breakPatternsOrdered[int] -/

def slices_breakPatternsOrdered (F : Nat) (x0 x1 x2 : Value) : M Value := fail

def slices_breakPatternsOrdered_m (F : Nat) : List Value → M Value
  | [x0, x1, x2] => slices_breakPatternsOrdered F x0 x1 x2
  | _ => fail

theorem slices_breakPatternsOrdered_ok (F : Nat) : Sim Try.prog TryG 73 (slices_breakPatternsOrdered_m F) := Sim.of_fail Try.call73 (by intro args; unfold slices_breakPatternsOrdered_m; split <;> rfl)


/-! ### slices.choosePivotOrdered[int] -/

def slices_choosePivotOrdered (F : Nat) (x0 x1 x2 : Value) : M Value := fail

def slices_choosePivotOrdered_m (F : Nat) : List Value → M Value
  | [x0, x1, x2] => slices_choosePivotOrdered F x0 x1 x2
  | _ => fail

theorem slices_choosePivotOrdered_ok (F : Nat) : Sim Try.prog TryG 74 (slices_choosePivotOrdered_m F) := Sim.of_fail Try.call74 (by intro args; unfold slices_choosePivotOrdered_m; split <;> rfl)


/-! ### slices.reverseRangeOrdered[int] -/

def slices_reverseRangeOrdered (F : Nat) (x0 x1 x2 : Value) : M Value := fail

def slices_reverseRangeOrdered_m (F : Nat) : List Value → M Value
  | [x0, x1, x2] => slices_reverseRangeOrdered F x0 x1 x2
  | _ => fail

theorem slices_reverseRangeOrdered_ok (F : Nat) : Sim Try.prog TryG 75 (slices_reverseRangeOrdered_m F) := Sim.of_fail Try.call75 (by intro args; unfold slices_reverseRangeOrdered_m; split <;> rfl)


/-! ### slices.partialInsertionSortOrdered[int] -/

def slices_partialInsertionSortOrdered (F : Nat) (x0 x1 x2 : Value) : M Value := fail

def slices_partialInsertionSortOrdered_m (F : Nat) : List Value → M Value
  | [x0, x1, x2] => slices_partialInsertionSortOrdered F x0 x1 x2
  | _ => fail

theorem slices_partialInsertionSortOrdered_ok (F : Nat) : Sim Try.prog TryG 76 (slices_partialInsertionSortOrdered_m F) := Sim.of_fail Try.call76 (by intro args; unfold slices_partialInsertionSortOrdered_m; split <;> rfl)


/-! ### slices.partitionEqualOrdered[int] -/

def slices_partitionEqualOrdered (F : Nat) (x0 x1 x2 x3 : Value) : M Value := fail

def slices_partitionEqualOrdered_m (F : Nat) : List Value → M Value
  | [x0, x1, x2, x3] => slices_partitionEqualOrdered F x0 x1 x2 x3
  | _ => fail

theorem slices_partitionEqualOrdered_ok (F : Nat) : Sim Try.prog TryG 78 (slices_partitionEqualOrdered_m F) := Sim.of_fail Try.call78 (by intro args; unfold slices_partitionEqualOrdered_m; split <;> rfl)


/-! ### slices.partitionOrdered[int] -/

def slices_partitionOrdered (F : Nat) (x0 x1 x2 x3 : Value) : M Value := fail

def slices_partitionOrdered_m (F : Nat) : List Value → M Value
  | [x0, x1, x2, x3] => slices_partitionOrdered F x0 x1 x2 x3
  | _ => fail

theorem slices_partitionOrdered_ok (F : Nat) : Sim Try.prog TryG 79 (slices_partitionOrdered_m F) := Sim.of_fail Try.call79 (by intro args; unfold slices_partitionOrdered_m; split <;> rfl)


/-! ### math/bits.Len32 -/

def bits_Len32_env (F : Nat) : Env := envOf []

noncomputable def bits_Len32_R (F : Nat) := rK Try.prog TryG (bits_Len32_env F) Try.f80
noncomputable def bits_Len32_D (F : Nat) := dK Try.prog TryG (bits_Len32_env F) Try.f80

def bits_Len32_r7 (F : Nat) (x0 x2 : Value) (K : Value → M Value) : M Value :=
  bnd (opConv .u8 x0) fun v15 => bnd (opIndexS (.string ⟨#[0, 1, 2, 2, 3, 3, 3, 3, 4, 4, 4, 4, 4, 4, 4, 4, 5, 5, 5, 5, 5, 5, 5, 5, 5, 5, 5, 5, 5, 5, 5, 5, 6, 6, 6, 6, 6, 6, 6, 6, 6, 6, 6, 6, 6, 6, 6, 6, 6, 6, 6, 6, 6, 6, 6, 6, 6, 6, 6, 6, 6, 6, 6, 6, 7, 7, 7, 7, 7, 7, 7, 7, 7, 7, 7, 7, 7, 7, 7, 7, 7, 7, 7, 7, 7, 7, 7, 7, 7, 7, 7, 7, 7, 7, 7, 7, 7, 7, 7, 7, 7, 7, 7, 7, 7, 7, 7, 7, 7, 7, 7, 7, 7, 7, 7, 7, 7, 7, 7, 7, 7, 7, 7, 7, 7, 7, 7, 7, 8, 8, 8, 8, 8, 8, 8, 8, 8, 8, 8, 8, 8, 8, 8, 8, 8, 8, 8, 8, 8, 8, 8, 8, 8, 8, 8, 8, 8, 8, 8, 8, 8, 8, 8, 8, 8, 8, 8, 8, 8, 8, 8, 8, 8, 8, 8, 8, 8, 8, 8, 8, 8, 8, 8, 8, 8, 8, 8, 8, 8, 8, 8, 8, 8, 8, 8, 8, 8, 8, 8, 8, 8, 8, 8, 8, 8, 8, 8, 8, 8, 8, 8, 8, 8, 8, 8, 8, 8, 8, 8, 8, 8, 8, 8, 8, 8, 8, 8, 8, 8, 8, 8, 8, 8, 8, 8, 8, 8, 8, 8, 8, 8, 8, 8, 8, 8, 8, 8, 8, 8, 8, 8, 8, 8, 8, 8, 8]⟩) v15) fun v16 => bnd (opConv .i64 v16) fun v17 => bnd (opBin .add x2 v17) fun v18 => K v18

theorem bits_Len32_r7_ok (F : Nat) (x0 x2 : Value) (K : Value → M Value) : bits_Len32_r7 F x0 x2 K = bits_Len32_R F 7 [(2, x2), (0, x0)] [2] K := by kernel_rfl

def bits_Len32_k0 (F : Nat) (x0 x2 : Value) : M Value :=
  bits_Len32_r7 F x0 x2 (fun x2 => ret x2)

def bits_Len32_r6 (F : Nat) (x0 x2 : Value) (K : Value → Value → M Value) : M Value :=
  bnd (opBin .add x2 (.int .i64 (8))) fun v12 => K x0 v12

theorem bits_Len32_r6_ok (F : Nat) (x0 x2 : Value) (K : Value → Value → M Value) : bits_Len32_r6 F x0 x2 K = bits_Len32_R F 6 [(2, x2), (0, x0)] [0, 2] K := by kernel_rfl

def bits_Len32_r5 (F : Nat) (x0 x2 : Value) (K : Value → Value → M Value) : M Value :=
  bnd (opBin .shr x0 (.int .u64 (8))) fun v10 => K v10 x2

theorem bits_Len32_r5_ok (F : Nat) (x0 x2 : Value) (K : Value → Value → M Value) : bits_Len32_r5 F x0 x2 K = bits_Len32_R F 5 [(2, x2), (0, x0)] [0, 2] K := by kernel_rfl

def bits_Len32_r4 (F : Nat) (x0 x2 : Value) (K : Value → Value → Value → M Value) : M Value :=
  bnd (opBin .geq x0 (.int .u32 (256))) fun v8 => K x0 x2 v8

theorem bits_Len32_r4_ok (F : Nat) (x0 x2 : Value) (K : Value → Value → Value → M Value) : bits_Len32_r4 F x0 x2 K = bits_Len32_R F 4 [(2, x2), (0, x0)] [0, 2, 8] K := by kernel_rfl

def bits_Len32_k1 (F : Nat) (x0 x2 : Value) : M Value :=
  bits_Len32_r4 F x0 x2 (fun x0 x2 x8 => onB x8 (bits_Len32_r5 F x0 x2 (fun x0 x2 => bits_Len32_r6 F x0 x2 (fun x0 x2 => bits_Len32_k0 F x0 x2))) (bits_Len32_k0 F x0 x2))

def bits_Len32_r3 (F : Nat) (x0 : Value) (K : Value → Value → M Value) : M Value :=
  K x0 (.int .i64 (16))

theorem bits_Len32_r3_ok (F : Nat) (x0 : Value) (K : Value → Value → M Value) : bits_Len32_r3 F x0 K = bits_Len32_R F 3 [(0, x0)] [0, 2] K := by kernel_rfl

def bits_Len32_r2 (F : Nat) (x0 : Value) (K : Value → M Value) : M Value :=
  bnd (opBin .shr x0 (.int .u64 (16))) fun v6 => K v6

theorem bits_Len32_r2_ok (F : Nat) (x0 : Value) (K : Value → M Value) : bits_Len32_r2 F x0 K = bits_Len32_R F 2 [(0, x0)] [0] K := by kernel_rfl

def bits_Len32_r1 (F : Nat) (x0 x2 : Value) (K : Value → Value → Value → M Value) : M Value :=
  bnd (opBin .geq x0 (.int .u32 (65536))) fun v4 => K x0 x2 v4

theorem bits_Len32_r1_ok (F : Nat) (x0 x2 : Value) (K : Value → Value → Value → M Value) : bits_Len32_r1 F x0 x2 K = bits_Len32_R F 1 [(2, x2), (0, x0)] [0, 2, 4] K := by kernel_rfl

def bits_Len32_r0 (F : Nat) (x0 : Value) (K : Value → Value → M Value) : M Value :=
  K x0 (.int .i64 (0))

theorem bits_Len32_r0_ok (F : Nat) (x0 : Value) (K : Value → Value → M Value) : bits_Len32_r0 F x0 K = bits_Len32_R F 0 [(0, x0)] [0, 2] K := by kernel_rfl

def bits_Len32 (F : Nat) (x0 : Value) : M Value :=
  bits_Len32_r0 F x0 (fun x0 x2 => bits_Len32_r1 F x0 x2 (fun x0 x2 x4 => onB x4 (bits_Len32_r2 F x0 (fun x0 => bits_Len32_r3 F x0 (fun x0 x2 => bits_Len32_k1 F x0 x2))) (bits_Len32_k1 F x0 x2)))

def bits_Len32_m (F : Nat) : List Value → M Value
  | [x0] => bits_Len32 F x0
  | _ => fail

theorem bits_Len32_body : Try.f80.body = some (.seq (.region 0 (opsOf Try.f80 0) false) (.seq (.seq (.region 1 (opsOf Try.f80 1) false) (.cond (.tmp 4) (.seq (.region 2 (opsOf Try.f80 2) false) (.region 3 (opsOf Try.f80 3) false)) .skip)) (.seq (.seq (.region 4 (opsOf Try.f80 4) false) (.cond (.tmp 8) (.seq (.region 5 (opsOf Try.f80 5) false) (.region 6 (opsOf Try.f80 6) false)) .skip)) (.seq (.region 7 (opsOf Try.f80 7) false) .ret)))) := by kernel_rfl

theorem bits_Len32_ok (F : Nat) : Sim Try.prog TryG 80 (bits_Len32_m F) := by
 have hE : EnvOK Try.prog TryG (bits_Len32_env F) := EnvOK.nil
 refine Sim.of_body (E := bits_Len32_env F) Try.func80 bits_Len32_body Try.call80 ?_ ?_
 · intro args hl; unfold bits_Len32_m; split
   · exact absurd hl (Nat.not_lt.2 (Nat.le_of_ble_eq_true rfl))
   · rfl
 · intro args ρ h w z; unfold bits_Len32_m; split
   · rename_i x0; show OKc _ _ [(0, x0)] _ _
     refine rSeq ?_
     refine cLess [0] ?_
     refine xR hE [0, 2] rfl (bits_Len32_r0_ok F _ _) ?_
     intro x0 x2
     show OKq _ _ _ [(2, x2), (0, x0)] _
     refine rThen ?_
     refine xSeq [0, 2] (bits_Len32_k1 F ) ?_ fun hj1 => ?_
     · intro x0 x2
       show OKc _ _ [(2, x2), (0, x0)] _ _
       refine xSeq [0, 2] (bits_Len32_k0 F ) ?_ fun hj0 => ?_
       · intro x0 x2
         show OKc _ _ [(2, x2), (0, x0)] _ _
         refine rSeq ?_
         refine cLess [2, 0] ?_
         refine xR hE [2] rfl (bits_Len32_r7_ok F _ _ _) ?_
         intro x2
         show OKq _ _ _ [(2, x2)] _
         refine rThen ?_
         refine rRet ?_
         exact rDone (.inr rfl) rfl
       · refine rSeq ?_
         refine cLess [2, 0] ?_
         refine xR hE [0, 2, 8] rfl (bits_Len32_r4_ok F _ _ _) ?_
         intro x0 x2 x8
         show OKq _ _ _ [(8, x8), (2, x2), (0, x0)] _
         refine rThen ?_
         refine xCond rfl rfl ?_ ?_
         · refine rSeq ?_
           refine cLess [2, 0] ?_
           refine xR hE [0, 2] rfl (bits_Len32_r5_ok F _ _ _) ?_
           intro x0 x2
           show OKq _ _ _ [(2, x2), (0, x0)] _
           refine rThen ?_
           refine cLess [2, 0] ?_
           refine xR hE [0, 2] rfl (bits_Len32_r6_ok F _ _ _) ?_
           intro x0 x2
           show OKq _ _ _ [(2, x2), (0, x0)] _
           exact qLess [2, 0] (hj0 x0 x2)
         · refine rSkip ?_
           exact qLess [2, 0] (hj0 x0 x2)
     · refine rSeq ?_
       refine cLess [2, 0] ?_
       refine xR hE [0, 2, 4] rfl (bits_Len32_r1_ok F _ _ _) ?_
       intro x0 x2 x4
       show OKq _ _ _ [(4, x4), (2, x2), (0, x0)] _
       refine rThen ?_
       refine xCond rfl rfl ?_ ?_
       · refine rSeq ?_
         refine cLess [0] ?_
         refine xR hE [0] rfl (bits_Len32_r2_ok F _ _) ?_
         intro x0
         show OKq _ _ _ [(0, x0)] _
         refine rThen ?_
         refine cLess [0] ?_
         refine xR hE [0, 2] rfl (bits_Len32_r3_ok F _ _) ?_
         intro x0 x2
         show OKq _ _ _ [(2, x2), (0, x0)] _
         exact qLess [2, 0] (hj1 x0 x2)
       · refine rSkip ?_
         exact qLess [2, 0] (hj1 x0 x2)
   · exact rFail


/-! ### math/bits.Len64 -/

def bits_Len64_env (F : Nat) : Env := envOf []

noncomputable def bits_Len64_R (F : Nat) := rK Try.prog TryG (bits_Len64_env F) Try.f81
noncomputable def bits_Len64_D (F : Nat) := dK Try.prog TryG (bits_Len64_env F) Try.f81

def bits_Len64_r10 (F : Nat) (x0 x2 : Value) (K : Value → M Value) : M Value :=
  bnd (opConv .u8 x0) fun v21 => bnd (opIndexS (.string ⟨#[0, 1, 2, 2, 3, 3, 3, 3, 4, 4, 4, 4, 4, 4, 4, 4, 5, 5, 5, 5, 5, 5, 5, 5, 5, 5, 5, 5, 5, 5, 5, 5, 6, 6, 6, 6, 6, 6, 6, 6, 6, 6, 6, 6, 6, 6, 6, 6, 6, 6, 6, 6, 6, 6, 6, 6, 6, 6, 6, 6, 6, 6, 6, 6, 7, 7, 7, 7, 7, 7, 7, 7, 7, 7, 7, 7, 7, 7, 7, 7, 7, 7, 7, 7, 7, 7, 7, 7, 7, 7, 7, 7, 7, 7, 7, 7, 7, 7, 7, 7, 7, 7, 7, 7, 7, 7, 7, 7, 7, 7, 7, 7, 7, 7, 7, 7, 7, 7, 7, 7, 7, 7, 7, 7, 7, 7, 7, 7, 8, 8, 8, 8, 8, 8, 8, 8, 8, 8, 8, 8, 8, 8, 8, 8, 8, 8, 8, 8, 8, 8, 8, 8, 8, 8, 8, 8, 8, 8, 8, 8, 8, 8, 8, 8, 8, 8, 8, 8, 8, 8, 8, 8, 8, 8, 8, 8, 8, 8, 8, 8, 8, 8, 8, 8, 8, 8, 8, 8, 8, 8, 8, 8, 8, 8, 8, 8, 8, 8, 8, 8, 8, 8, 8, 8, 8, 8, 8, 8, 8, 8, 8, 8, 8, 8, 8, 8, 8, 8, 8, 8, 8, 8, 8, 8, 8, 8, 8, 8, 8, 8, 8, 8, 8, 8, 8, 8, 8, 8, 8, 8, 8, 8, 8, 8, 8, 8, 8, 8, 8, 8, 8, 8, 8, 8, 8, 8]⟩) v21) fun v22 => bnd (opConv .i64 v22) fun v23 => bnd (opBin .add x2 v23) fun v24 => K v24

theorem bits_Len64_r10_ok (F : Nat) (x0 x2 : Value) (K : Value → M Value) : bits_Len64_r10 F x0 x2 K = bits_Len64_R F 10 [(2, x2), (0, x0)] [2] K := by kernel_rfl

def bits_Len64_k0 (F : Nat) (x0 x2 : Value) : M Value :=
  bits_Len64_r10 F x0 x2 (fun x2 => ret x2)

def bits_Len64_r9 (F : Nat) (x0 x2 : Value) (K : Value → Value → M Value) : M Value :=
  bnd (opBin .add x2 (.int .i64 (8))) fun v18 => K x0 v18

theorem bits_Len64_r9_ok (F : Nat) (x0 x2 : Value) (K : Value → Value → M Value) : bits_Len64_r9 F x0 x2 K = bits_Len64_R F 9 [(2, x2), (0, x0)] [0, 2] K := by kernel_rfl

def bits_Len64_r8 (F : Nat) (x0 x2 : Value) (K : Value → Value → M Value) : M Value :=
  bnd (opBin .shr x0 (.int .u64 (8))) fun v16 => K v16 x2

theorem bits_Len64_r8_ok (F : Nat) (x0 x2 : Value) (K : Value → Value → M Value) : bits_Len64_r8 F x0 x2 K = bits_Len64_R F 8 [(2, x2), (0, x0)] [0, 2] K := by kernel_rfl

def bits_Len64_r7 (F : Nat) (x0 x2 : Value) (K : Value → Value → Value → M Value) : M Value :=
  bnd (opBin .geq x0 (.int .u64 (256))) fun v14 => K x0 x2 v14

theorem bits_Len64_r7_ok (F : Nat) (x0 x2 : Value) (K : Value → Value → Value → M Value) : bits_Len64_r7 F x0 x2 K = bits_Len64_R F 7 [(2, x2), (0, x0)] [0, 2, 14] K := by kernel_rfl

def bits_Len64_k1 (F : Nat) (x0 x2 : Value) : M Value :=
  bits_Len64_r7 F x0 x2 (fun x0 x2 x14 => onB x14 (bits_Len64_r8 F x0 x2 (fun x0 x2 => bits_Len64_r9 F x0 x2 (fun x0 x2 => bits_Len64_k0 F x0 x2))) (bits_Len64_k0 F x0 x2))

def bits_Len64_r6 (F : Nat) (x0 x2 : Value) (K : Value → Value → M Value) : M Value :=
  bnd (opBin .add x2 (.int .i64 (16))) fun v12 => K x0 v12

theorem bits_Len64_r6_ok (F : Nat) (x0 x2 : Value) (K : Value → Value → M Value) : bits_Len64_r6 F x0 x2 K = bits_Len64_R F 6 [(2, x2), (0, x0)] [0, 2] K := by kernel_rfl

def bits_Len64_r5 (F : Nat) (x0 x2 : Value) (K : Value → Value → M Value) : M Value :=
  bnd (opBin .shr x0 (.int .u64 (16))) fun v10 => K v10 x2

theorem bits_Len64_r5_ok (F : Nat) (x0 x2 : Value) (K : Value → Value → M Value) : bits_Len64_r5 F x0 x2 K = bits_Len64_R F 5 [(2, x2), (0, x0)] [0, 2] K := by kernel_rfl

def bits_Len64_r4 (F : Nat) (x0 x2 : Value) (K : Value → Value → Value → M Value) : M Value :=
  bnd (opBin .geq x0 (.int .u64 (65536))) fun v8 => K x0 x2 v8

theorem bits_Len64_r4_ok (F : Nat) (x0 x2 : Value) (K : Value → Value → Value → M Value) : bits_Len64_r4 F x0 x2 K = bits_Len64_R F 4 [(2, x2), (0, x0)] [0, 2, 8] K := by kernel_rfl

def bits_Len64_k2 (F : Nat) (x0 x2 : Value) : M Value :=
  bits_Len64_r4 F x0 x2 (fun x0 x2 x8 => onB x8 (bits_Len64_r5 F x0 x2 (fun x0 x2 => bits_Len64_r6 F x0 x2 (fun x0 x2 => bits_Len64_k1 F x0 x2))) (bits_Len64_k1 F x0 x2))

def bits_Len64_r3 (F : Nat) (x0 : Value) (K : Value → Value → M Value) : M Value :=
  K x0 (.int .i64 (32))

theorem bits_Len64_r3_ok (F : Nat) (x0 : Value) (K : Value → Value → M Value) : bits_Len64_r3 F x0 K = bits_Len64_R F 3 [(0, x0)] [0, 2] K := by kernel_rfl

def bits_Len64_r2 (F : Nat) (x0 : Value) (K : Value → M Value) : M Value :=
  bnd (opBin .shr x0 (.int .u64 (32))) fun v6 => K v6

theorem bits_Len64_r2_ok (F : Nat) (x0 : Value) (K : Value → M Value) : bits_Len64_r2 F x0 K = bits_Len64_R F 2 [(0, x0)] [0] K := by kernel_rfl

def bits_Len64_r1 (F : Nat) (x0 x2 : Value) (K : Value → Value → Value → M Value) : M Value :=
  bnd (opBin .geq x0 (.int .u64 (4294967296))) fun v4 => K x0 x2 v4

theorem bits_Len64_r1_ok (F : Nat) (x0 x2 : Value) (K : Value → Value → Value → M Value) : bits_Len64_r1 F x0 x2 K = bits_Len64_R F 1 [(2, x2), (0, x0)] [0, 2, 4] K := by kernel_rfl

def bits_Len64_r0 (F : Nat) (x0 : Value) (K : Value → Value → M Value) : M Value :=
  K x0 (.int .i64 (0))

theorem bits_Len64_r0_ok (F : Nat) (x0 : Value) (K : Value → Value → M Value) : bits_Len64_r0 F x0 K = bits_Len64_R F 0 [(0, x0)] [0, 2] K := by kernel_rfl

def bits_Len64 (F : Nat) (x0 : Value) : M Value :=
  bits_Len64_r0 F x0 (fun x0 x2 => bits_Len64_r1 F x0 x2 (fun x0 x2 x4 => onB x4 (bits_Len64_r2 F x0 (fun x0 => bits_Len64_r3 F x0 (fun x0 x2 => bits_Len64_k2 F x0 x2))) (bits_Len64_k2 F x0 x2)))

def bits_Len64_m (F : Nat) : List Value → M Value
  | [x0] => bits_Len64 F x0
  | _ => fail

theorem bits_Len64_body : Try.f81.body = some (.seq (.region 0 (opsOf Try.f81 0) false) (.seq (.seq (.region 1 (opsOf Try.f81 1) false) (.cond (.tmp 4) (.seq (.region 2 (opsOf Try.f81 2) false) (.region 3 (opsOf Try.f81 3) false)) .skip)) (.seq (.seq (.region 4 (opsOf Try.f81 4) false) (.cond (.tmp 8) (.seq (.region 5 (opsOf Try.f81 5) false) (.region 6 (opsOf Try.f81 6) false)) .skip)) (.seq (.seq (.region 7 (opsOf Try.f81 7) false) (.cond (.tmp 14) (.seq (.region 8 (opsOf Try.f81 8) false) (.region 9 (opsOf Try.f81 9) false)) .skip)) (.seq (.region 10 (opsOf Try.f81 10) false) .ret))))) := by kernel_rfl

theorem bits_Len64_ok (F : Nat) : Sim Try.prog TryG 81 (bits_Len64_m F) := by
 have hE : EnvOK Try.prog TryG (bits_Len64_env F) := EnvOK.nil
 refine Sim.of_body (E := bits_Len64_env F) Try.func81 bits_Len64_body Try.call81 ?_ ?_
 · intro args hl; unfold bits_Len64_m; split
   · exact absurd hl (Nat.not_lt.2 (Nat.le_of_ble_eq_true rfl))
   · rfl
 · intro args ρ h w z; unfold bits_Len64_m; split
   · rename_i x0; show OKc _ _ [(0, x0)] _ _
     refine rSeq ?_
     refine cLess [0] ?_
     refine xR hE [0, 2] rfl (bits_Len64_r0_ok F _ _) ?_
     intro x0 x2
     show OKq _ _ _ [(2, x2), (0, x0)] _
     refine rThen ?_
     refine xSeq [0, 2] (bits_Len64_k2 F ) ?_ fun hj2 => ?_
     · intro x0 x2
       show OKc _ _ [(2, x2), (0, x0)] _ _
       refine xSeq [0, 2] (bits_Len64_k1 F ) ?_ fun hj1 => ?_
       · intro x0 x2
         show OKc _ _ [(2, x2), (0, x0)] _ _
         refine xSeq [0, 2] (bits_Len64_k0 F ) ?_ fun hj0 => ?_
         · intro x0 x2
           show OKc _ _ [(2, x2), (0, x0)] _ _
           refine rSeq ?_
           refine cLess [2, 0] ?_
           refine xR hE [2] rfl (bits_Len64_r10_ok F _ _ _) ?_
           intro x2
           show OKq _ _ _ [(2, x2)] _
           refine rThen ?_
           refine rRet ?_
           exact rDone (.inr rfl) rfl
         · refine rSeq ?_
           refine cLess [2, 0] ?_
           refine xR hE [0, 2, 14] rfl (bits_Len64_r7_ok F _ _ _) ?_
           intro x0 x2 x14
           show OKq _ _ _ [(14, x14), (2, x2), (0, x0)] _
           refine rThen ?_
           refine xCond rfl rfl ?_ ?_
           · refine rSeq ?_
             refine cLess [2, 0] ?_
             refine xR hE [0, 2] rfl (bits_Len64_r8_ok F _ _ _) ?_
             intro x0 x2
             show OKq _ _ _ [(2, x2), (0, x0)] _
             refine rThen ?_
             refine cLess [2, 0] ?_
             refine xR hE [0, 2] rfl (bits_Len64_r9_ok F _ _ _) ?_
             intro x0 x2
             show OKq _ _ _ [(2, x2), (0, x0)] _
             exact qLess [2, 0] (hj0 x0 x2)
           · refine rSkip ?_
             exact qLess [2, 0] (hj0 x0 x2)
       · refine rSeq ?_
         refine cLess [2, 0] ?_
         refine xR hE [0, 2, 8] rfl (bits_Len64_r4_ok F _ _ _) ?_
         intro x0 x2 x8
         show OKq _ _ _ [(8, x8), (2, x2), (0, x0)] _
         refine rThen ?_
         refine xCond rfl rfl ?_ ?_
         · refine rSeq ?_
           refine cLess [2, 0] ?_
           refine xR hE [0, 2] rfl (bits_Len64_r5_ok F _ _ _) ?_
           intro x0 x2
           show OKq _ _ _ [(2, x2), (0, x0)] _
           refine rThen ?_
           refine cLess [2, 0] ?_
           refine xR hE [0, 2] rfl (bits_Len64_r6_ok F _ _ _) ?_
           intro x0 x2
           show OKq _ _ _ [(2, x2), (0, x0)] _
           exact qLess [2, 0] (hj1 x0 x2)
         · refine rSkip ?_
           exact qLess [2, 0] (hj1 x0 x2)
     · refine rSeq ?_
       refine cLess [2, 0] ?_
       refine xR hE [0, 2, 4] rfl (bits_Len64_r1_ok F _ _ _) ?_
       intro x0 x2 x4
       show OKq _ _ _ [(4, x4), (2, x2), (0, x0)] _
       refine rThen ?_
       refine xCond rfl rfl ?_ ?_
       · refine rSeq ?_
         refine cLess [0] ?_
         refine xR hE [0] rfl (bits_Len64_r2_ok F _ _) ?_
         intro x0
         show OKq _ _ _ [(0, x0)] _
         refine rThen ?_
         refine cLess [0] ?_
         refine xR hE [0, 2] rfl (bits_Len64_r3_ok F _ _) ?_
         intro x0 x2
         show OKq _ _ _ [(2, x2), (0, x0)] _
         exact qLess [2, 0] (hj2 x0 x2)
       · refine rSkip ?_
         exact qLess [2, 0] (hj2 x0 x2)
   · exact rFail


/-! ### haruspex/haruspexref8.typ -/

def R8_typ_env (F : Nat) : Env := envOf []

noncomputable def R8_typ_R (F : Nat) := rK Try.prog TryG (R8_typ_env F) Try.f82
noncomputable def R8_typ_D (F : Nat) := dK Try.prog TryG (R8_typ_env F) Try.f82

def R8_typ_r1 (F : Nat) (x1 x2 x4 : Value) (K : Value → M Value) : M Value :=
  bnd (opFieldAddr 1 x2) fun v5 => bnd (opLoad v5) fun v6 => bnd (opIndexAddr 2 v6 x1) fun v8 => bnd (opLoadN 2 v8) fun v9 => bnd (opStoreN 2 x4 v9) fun _ => K x4

theorem R8_typ_r1_ok (F : Nat) (x1 x2 x4 : Value) (K : Value → M Value) : R8_typ_r1 F x1 x2 x4 K = R8_typ_R F 1 [(4, x4), (2, x2), (1, x1)] [4] K := by kernel_rfl

def R8_typ_r0 (F : Nat) (x0 x1 : Value) (K : Value → Value → Value → M Value) : M Value :=
  bnd (opBoxN x0) fun v2 => bnd (opPtr [(.int .i64 (0)), (.int .i64 (0))]) fun v4 => K x1 v2 v4

theorem R8_typ_r0_ok (F : Nat) (x0 x1 : Value) (K : Value → Value → Value → M Value) : R8_typ_r0 F x0 x1 K = R8_typ_R F 0 [(1, x1), (0, x0)] [1, 2, 4] K := by kernel_rfl

def R8_typ (F : Nat) (x0 x1 : Value) : M Value :=
  R8_typ_r0 F x0 x1 (fun x1 x2 x4 => R8_typ_r1 F x1 x2 x4 (fun x4 => bnd (opLoadN 2 x4) fun r0 => ret r0))

def R8_typ_m (F : Nat) : List Value → M Value
  | [x0, x1] => R8_typ F x0 x1
  | _ => fail

theorem R8_typ_body : Try.f82.body = some (.seq (.region 0 (opsOf Try.f82 0) false) (.seq (.region 1 (opsOf Try.f82 1) false) .ret)) := by kernel_rfl

theorem R8_typ_ok (F : Nat) : Sim Try.prog TryG 82 (R8_typ_m F) := by
 have hE : EnvOK Try.prog TryG (R8_typ_env F) := EnvOK.nil
 refine Sim.of_body (E := R8_typ_env F) Try.func82 R8_typ_body Try.call82 ?_ ?_
 · intro args hl; unfold R8_typ_m; split
   · exact absurd hl (Nat.not_lt.2 (Nat.le_of_ble_eq_true rfl))
   · rfl
 · intro args ρ h w z; unfold R8_typ_m; split
   · rename_i x0 x1; show OKc _ _ [(0, x0), (1, x1)] _ _
     refine rSeq ?_
     refine cLess [1, 0] ?_
     refine xR hE [1, 2, 4] rfl (R8_typ_r0_ok F _ _ _) ?_
     intro x1 x2 x4
     show OKq _ _ _ [(4, x4), (2, x2), (1, x1)] _
     refine rThen ?_
     refine rSeq ?_
     refine cLess [4, 2, 1] ?_
     refine xR hE [4] rfl (R8_typ_r1_ok F _ _ _ _) ?_
     intro x4
     show OKq _ _ _ [(4, x4)] _
     refine rThen ?_
     refine rRet ?_
     exact rDone (.inr rfl) rfl
   · exact rFail


/-! ### haruspex/haruspexref8.Next -/

def R8_Next_env (F : Nat) : Env := envOf []

noncomputable def R8_Next_R (F : Nat) := rK Try.prog TryG (R8_Next_env F) Try.f84
noncomputable def R8_Next_D (F : Nat) := dK Try.prog TryG (R8_Next_env F) Try.f84

def R8_Next_r22 (F : Nat) (x7 : Value) (K : Value → M Value) : M Value :=
  K x7

theorem R8_Next_r22_ok (F : Nat) (x7 : Value) (K : Value → M Value) : R8_Next_r22 F x7 K = R8_Next_R F 22 [(7, x7)] [4] K := by kernel_rfl

def R8_Next_k0 (F : Nat) (x7 : Value) : M Value :=
  R8_Next_r22 F x7 (fun x4 => ret x4)

def R8_Next_r19 (F : Nat) (x0 x3 x6 x7 x8 : Value) (K : Value → Value → Value → Value → Value → M Value) : M Value :=
  bnd (opBin .add x8 (.int .i64 (1))) fun v108 => K x0 x3 x6 x7 v108

theorem R8_Next_r19_ok (F : Nat) (x0 x3 x6 x7 x8 : Value) (K : Value → Value → Value → Value → Value → M Value) : R8_Next_r19 F x0 x3 x6 x7 x8 K = R8_Next_R F 19 [(8, x8), (7, x7), (6, x6), (3, x3), (0, x0)] [0, 3, 6, 7, 8] K := by kernel_rfl

def R8_Next_k2 (F : Nat) (A1 : Value → Value → Value → Value → Value → M Value) (x0 x3 x6 x7 x8 : Value) : M Value :=
  R8_Next_r19 F x0 x3 x6 x7 x8 (fun x0 x3 x6 x7 x8 => A1 x0 x3 x6 x7 x8)

def R8_Next_r21 (F : Nat) (x0 x3 x6 x7 x8 : Value) (K : Value → Value → Value → Value → Value → M Value) : M Value :=
  bnd (opFieldAddr 0 x3) fun v132 => bnd (opLoad v132) fun v133 => bnd (opIndexAddr 1 x6 x8) fun v136 => bnd (opLoad v136) fun v137 => bnd (opBuild [(.int .i64 (0)), (.int .i64 (0)), (.int .i64 (0))] [(0, 1, false, v133), (1, 1, false, v137)]) fun v138 => bnd (opBuildSlice 1 (rep 1 [(.int .i64 (0)), (.int .i64 (0)), (.int .i64 (0))]) [(0, 3, true, v138)]) fun v139 => bnd (opAppend 3 24 x7 v139) fun v140 => K x0 x3 x6 v140 x8

theorem R8_Next_r21_ok (F : Nat) (x0 x3 x6 x7 x8 : Value) (K : Value → Value → Value → Value → Value → M Value) : R8_Next_r21 F x0 x3 x6 x7 x8 K = R8_Next_D F 21 [0, 1, 2, 3, 4, 5, 6, 7, 8, 9, 10] [(8, x8), (7, x7), (6, x6), (3, x3), (0, x0)] [0, 3, 6, 7, 8] K := by kernel_rfl

theorem R8_Next_r21_good : goodOrder (opsOf Try.f84 21) [0, 1, 2, 3, 4, 5, 6, 7, 8, 9, 10] = true := by kernel_rfl

def R8_Next_r20 (F : Nat) (x0 x3 x6 x7 x8 : Value) (K : Value → Value → Value → Value → Value → Value → M Value) : M Value :=
  bnd (opIndexAddr 1 x6 x8) fun v111 => bnd (opLoad v111) fun v112 => bnd (opBin .geq v112 (.int .i64 (0))) fun v113 => onB v113 (bnd (opIndexAddr 1 x6 x8) fun v117 => bnd (opLoad v117) fun v118 => bnd (opNil x0) fun v120 => bnd (opFieldAddr 4 v120) fun v121 => bnd (opLoad v121) fun v122 => bnd (opFieldAddr 0 x3) fun v123 => bnd (opLoad v123) fun v124 => bnd (opIndexAddr 3 v122 v124) fun v125 => bnd (opFieldAddr 2 v125) fun v126 => bnd (opLoad v126) fun v127 => bnd (opLen v127) fun v128 => bnd (opBin .lss v118 v128) fun v129 => K x0 x3 x6 x7 x8 v129) (K x0 x3 x6 x7 x8 (.bool false))

theorem R8_Next_r20_ok (F : Nat) (x0 x3 x6 x7 x8 : Value) (K : Value → Value → Value → Value → Value → Value → M Value) : R8_Next_r20 F x0 x3 x6 x7 x8 K = R8_Next_D F 20 [0, 1, 2, 3, 4, 5, 6, 7, 8, 9, 10, 11, 12, 13, 14, 15, 16, 17, 18, 19, 20, 21] [(8, x8), (7, x7), (6, x6), (3, x3), (0, x0)] [0, 3, 6, 7, 8, 130] K := by kernel_rfl

theorem R8_Next_r20_good : goodOrder (opsOf Try.f84 20) [0, 1, 2, 3, 4, 5, 6, 7, 8, 9, 10, 11, 12, 13, 14, 15, 16, 17, 18, 19, 20, 21] = true := by kernel_rfl

def R8_Next_r18 (F : Nat) (x0 x3 x6 x7 x8 : Value) (K : Value → Value → Value → Value → Value → Value → M Value) : M Value :=
  bnd (opLen x6) fun v105 => bnd (opBin .lss x8 v105) fun v106 => K x0 x3 x6 x7 x8 v106

theorem R8_Next_r18_ok (F : Nat) (x0 x3 x6 x7 x8 : Value) (K : Value → Value → Value → Value → Value → Value → M Value) : R8_Next_r18 F x0 x3 x6 x7 x8 K = R8_Next_R F 18 [(8, x8), (7, x7), (6, x6), (3, x3), (0, x0)] [0, 3, 6, 7, 8, 106] K := by kernel_rfl

def R8_Next_b1 (F : Nat) (E1_1 : Value → M Value) (A1 : Value → Value → Value → Value → Value → M Value) (x0 x3 x6 x7 x8 : Value) : M Value :=
  R8_Next_r18 F x0 x3 x6 x7 x8 (fun x0 x3 x6 x7 x8 x106 => onB x106 (R8_Next_r20 F x0 x3 x6 x7 x8 (fun x0 x3 x6 x7 x8 x130 => onB x130 (R8_Next_r21 F x0 x3 x6 x7 x8 (fun x0 x3 x6 x7 x8 => R8_Next_k2 F A1 x0 x3 x6 x7 x8)) (R8_Next_k2 F A1 x0 x3 x6 x7 x8))) (E1_1 x7))

def R8_Next_l1 (F : Nat) (E1_1 : Value → M Value) : Nat → Value → Value → Value → Value → Value → M Value
  | 0, _, _, _, _, _ => fail
  | k1 + 1, x0, x3, x6, x7, x8 => R8_Next_b1 F E1_1 (R8_Next_l1 F E1_1 k1) x0 x3 x6 x7 x8

theorem R8_Next_l1_s (F : Nat) (E1_1 : Value → M Value) (k1 : Nat) (x0 x3 x6 x7 x8 : Value) : R8_Next_l1 F E1_1 (k1 + 1) x0 x3 x6 x7 x8 = R8_Next_b1 F E1_1 (R8_Next_l1 F E1_1 k1) x0 x3 x6 x7 x8 := rfl

def R8_Next_r17 (F : Nat) (x0 x3 x6 x7 : Value) (K : Value → Value → Value → Value → Value → M Value) : M Value :=
  K x0 x3 x6 x7 (.int .i64 (0))

theorem R8_Next_r17_ok (F : Nat) (x0 x3 x6 x7 : Value) (K : Value → Value → Value → Value → Value → M Value) : R8_Next_r17 F x0 x3 x6 x7 K = R8_Next_R F 17 [(7, x7), (6, x6), (3, x3), (0, x0)] [0, 3, 6, 7, 8] K := by kernel_rfl

def R8_Next_r16 (F : Nat) (x0 x3 x6 : Value) (K : Value → Value → Value → Value → M Value) : M Value :=
  K x0 x3 x6 (.slice none 0 0)

theorem R8_Next_r16_ok (F : Nat) (x0 x3 x6 : Value) (K : Value → Value → Value → Value → M Value) : R8_Next_r16 F x0 x3 x6 K = R8_Next_R F 16 [(6, x6), (3, x3), (0, x0)] [0, 3, 6, 7] K := by kernel_rfl

def R8_Next_k3 (F : Nat) (x0 x3 x6 : Value) : M Value :=
  R8_Next_r16 F x0 x3 x6 (fun x0 x3 x6 x7 => R8_Next_r17 F x0 x3 x6 x7 (fun x0 x3 x6 x7 x8 => R8_Next_l1 F (fun x7 => R8_Next_k0 F x7) F x0 x3 x6 x7 x8))

def R8_Next_r11 (F : Nat) (x0 x3 x5 : Value) (K : Value → Value → Value → M Value) : M Value :=
  bnd (opFieldAddr 3 x5) fun v85 => bnd (opLoad v85) fun v86 => bnd (opBuildSlice 1 (rep 1 [(.int .i64 (0))]) [(0, 1, false, v86)]) fun v87 => K x0 x3 v87

theorem R8_Next_r11_ok (F : Nat) (x0 x3 x5 : Value) (K : Value → Value → Value → M Value) : R8_Next_r11 F x0 x3 x5 K = R8_Next_R F 11 [(5, x5), (3, x3), (0, x0)] [0, 3, 6] K := by kernel_rfl

def R8_Next_r15 (F : Nat) (x0 x3 x5 x6 : Value) (K : Value → Value → Value → M Value) : M Value :=
  bnd (opFieldAddr 4 x5) fun v99 => bnd (opLoad v99) fun v100 => bnd (opBuildSlice 1 (rep 1 [(.int .i64 (0))]) [(0, 1, false, v100)]) fun v101 => bnd (opAppend 1 8 x6 v101) fun v102 => K x0 x3 v102

theorem R8_Next_r15_ok (F : Nat) (x0 x3 x5 x6 : Value) (K : Value → Value → Value → M Value) : R8_Next_r15 F x0 x3 x5 x6 K = R8_Next_R F 15 [(6, x6), (5, x5), (3, x3), (0, x0)] [0, 3, 6] K := by kernel_rfl

def R8_Next_r14 (F : Nat) (x0 x3 x5 x6 : Value) (K : Value → Value → Value → Value → Value → M Value) : M Value :=
  bnd (opFieldAddr 4 x5) fun v93 => bnd (opLoad v93) fun v94 => bnd (opFieldAddr 3 x5) fun v95 => bnd (opLoad v95) fun v96 => bnd (opBin .neq v94 v96) fun v97 => K x0 x3 x5 x6 v97

theorem R8_Next_r14_ok (F : Nat) (x0 x3 x5 x6 : Value) (K : Value → Value → Value → Value → Value → M Value) : R8_Next_r14 F x0 x3 x5 x6 K = R8_Next_R F 14 [(6, x6), (5, x5), (3, x3), (0, x0)] [0, 3, 5, 6, 97] K := by kernel_rfl

def R8_Next_r13 (F : Nat) (x0 x3 x5 : Value) (K : Value → Value → Value → Value → M Value) : M Value :=
  bnd (opFieldAddr 3 x5) fun v90 => bnd (opLoad v90) fun v91 => bnd (opBuildSlice 1 (rep 1 [(.int .i64 (0))]) [(0, 1, false, v91)]) fun v92 => K x0 x3 x5 v92

theorem R8_Next_r13_ok (F : Nat) (x0 x3 x5 : Value) (K : Value → Value → Value → Value → M Value) : R8_Next_r13 F x0 x3 x5 K = R8_Next_R F 13 [(5, x5), (3, x3), (0, x0)] [0, 3, 5, 6] K := by kernel_rfl

def R8_Next_r12 (F : Nat) (x0 x3 x5 x6 x82 : Value) (K : Value → Value → Value → Value → Value → M Value) : M Value :=
  bnd (opBin .eql x82 (.int .i64 (2))) fun v89 => K x0 x3 x5 x6 v89

theorem R8_Next_r12_ok (F : Nat) (x0 x3 x5 x6 x82 : Value) (K : Value → Value → Value → Value → Value → M Value) : R8_Next_r12 F x0 x3 x5 x6 x82 K = R8_Next_R F 12 [(82, x82), (6, x6), (5, x5), (3, x3), (0, x0)] [0, 3, 5, 6, 88] K := by kernel_rfl

def R8_Next_r10 (F : Nat) (x0 x3 x5 x6 x82 : Value) (K : Value → Value → Value → Value → Value → Value → M Value) : M Value :=
  bnd (opBin .eql x82 (.int .i64 (1))) fun v84 => K x0 x3 x5 x6 x82 v84

theorem R8_Next_r10_ok (F : Nat) (x0 x3 x5 x6 x82 : Value) (K : Value → Value → Value → Value → Value → Value → M Value) : R8_Next_r10 F x0 x3 x5 x6 x82 K = R8_Next_R F 10 [(82, x82), (6, x6), (5, x5), (3, x3), (0, x0)] [0, 3, 5, 6, 82, 83] K := by kernel_rfl

def R8_Next_r9 (F : Nat) (x0 x3 x5 x6 : Value) (K : Value → Value → Value → Value → Value → M Value) : M Value :=
  bnd (opFieldAddr 1 x5) fun v81 => bnd (opLoad v81) fun v82 => K x0 x3 x5 x6 v82

theorem R8_Next_r9_ok (F : Nat) (x0 x3 x5 x6 : Value) (K : Value → Value → Value → Value → Value → M Value) : R8_Next_r9 F x0 x3 x5 x6 K = R8_Next_R F 9 [(6, x6), (5, x5), (3, x3), (0, x0)] [0, 3, 5, 6, 82] K := by kernel_rfl

def R8_Next_r8 (F : Nat) (x0 x3 x5 : Value) (K : Value → Value → Value → Value → M Value) : M Value :=
  K x0 x3 x5 (.slice none 0 0)

theorem R8_Next_r8_ok (F : Nat) (x0 x3 x5 : Value) (K : Value → Value → Value → Value → M Value) : R8_Next_r8 F x0 x3 x5 K = R8_Next_R F 8 [(5, x5), (3, x3), (0, x0)] [0, 3, 5, 6] K := by kernel_rfl

def R8_Next_r7 (F : Nat) (x3 : Value) (K : Value → M Value) : M Value :=
  bnd (opFieldAddr 0 x3) fun v72 => bnd (opLoad v72) fun v73 => bnd (opFieldAddr 1 x3) fun v74 => bnd (opLoad v74) fun v75 => bnd (opFieldAddr 2 x3) fun v76 => bnd (opLoad v76) fun v77 => bnd (opBin .add v77 (.int .i64 (1))) fun v78 => bnd (opBuild [(.int .i64 (0)), (.int .i64 (0)), (.int .i64 (0))] [(0, 1, false, v73), (1, 1, false, v75), (2, 1, false, v78)]) fun v79 => bnd (opBuildSlice 1 (rep 1 [(.int .i64 (0)), (.int .i64 (0)), (.int .i64 (0))]) [(0, 3, true, v79)]) fun v80 => K v80

theorem R8_Next_r7_ok (F : Nat) (x3 : Value) (K : Value → M Value) : R8_Next_r7 F x3 K = R8_Next_R F 7 [(3, x3)] [4] K := by kernel_rfl

def R8_Next_r6 (F : Nat) (x0 x3 x5 : Value) (K : Value → Value → Value → Value → M Value) : M Value :=
  bnd (opFieldAddr 2 x3) fun v66 => bnd (opLoad v66) fun v67 => bnd (opFieldAddr 0 x5) fun v68 => bnd (opLoad v68) fun v69 => bnd (opLen v69) fun v70 => bnd (opBin .lss v67 v70) fun v71 => K x0 x3 x5 v71

theorem R8_Next_r6_ok (F : Nat) (x0 x3 x5 : Value) (K : Value → Value → Value → Value → M Value) : R8_Next_r6 F x0 x3 x5 K = R8_Next_R F 6 [(5, x5), (3, x3), (0, x0)] [0, 3, 5, 71] K := by kernel_rfl

def R8_Next_r5 (F : Nat) (K : Value → M Value) : M Value :=
  K (.slice none 0 0)

theorem R8_Next_r5_ok (F : Nat) (K : Value → M Value) : R8_Next_r5 F K = R8_Next_R F 5 [] [4] K := by kernel_rfl

def R8_Next_r4 (F : Nat) (x0 x3 x5 : Value) (K : Value → Value → Value → Value → M Value) : M Value :=
  bnd (opFieldAddr 2 x3) fun v55 => bnd (opLoad v55) fun v56 => bnd (opBin .lss v56 (.int .i64 (0))) fun v57 => onB v57 (K x0 x3 x5 (.bool true)) (bnd (opFieldAddr 2 x3) fun v59 => bnd (opLoad v59) fun v60 => bnd (opFieldAddr 0 x5) fun v61 => bnd (opLoad v61) fun v62 => bnd (opLen v62) fun v63 => bnd (opBin .gtr v60 v63) fun v64 => K x0 x3 x5 v64)

theorem R8_Next_r4_ok (F : Nat) (x0 x3 x5 : Value) (K : Value → Value → Value → Value → M Value) : R8_Next_r4 F x0 x3 x5 K = R8_Next_R F 4 [(5, x5), (3, x3), (0, x0)] [0, 3, 5, 65] K := by kernel_rfl

def R8_Next_r3 (F : Nat) (x0 x3 : Value) (K : Value → Value → Value → M Value) : M Value :=
  bnd (opNil x0) fun v43 => bnd (opFieldAddr 4 v43) fun v44 => bnd (opLoad v44) fun v45 => bnd (opFieldAddr 0 x3) fun v46 => bnd (opLoad v46) fun v47 => bnd (opIndexAddr 3 v45 v47) fun v48 => bnd (opFieldAddr 2 v48) fun v49 => bnd (opLoad v49) fun v50 => bnd (opFieldAddr 1 x3) fun v51 => bnd (opLoad v51) fun v52 => bnd (opIndexAddr 5 v50 v52) fun v53 => bnd (opLoadN 5 v53) fun v54 => bnd (opPtr [(.slice none 0 0), (.int .i64 (0)), (.int .i64 (0)), (.int .i64 (0)), (.int .i64 (0))]) fun v5 => bnd (opStoreN 5 v5 v54) fun _ => K x0 x3 v5

theorem R8_Next_r3_ok (F : Nat) (x0 x3 : Value) (K : Value → Value → Value → M Value) : R8_Next_r3 F x0 x3 K = R8_Next_D F 3 [0, 1, 2, 3, 4, 5, 6, 7, 8, 9, 10, 11, 12, 13, 14] [(3, x3), (0, x0)] [0, 3, 5] K := by kernel_rfl

theorem R8_Next_r3_good : goodOrder (opsOf Try.f84 3) [0, 1, 2, 3, 4, 5, 6, 7, 8, 9, 10, 11, 12, 13, 14] = true := by kernel_rfl

def R8_Next_r2 (F : Nat) (K : Value → M Value) : M Value :=
  K (.slice none 0 0)

theorem R8_Next_r2_ok (F : Nat) (K : Value → M Value) : R8_Next_r2 F K = R8_Next_R F 2 [] [4] K := by kernel_rfl

def R8_Next_r1 (F : Nat) (x0 x3 : Value) (K : Value → Value → Value → M Value) : M Value :=
  bnd (opFieldAddr 0 x3) fun v9 => bnd (opLoad v9) fun v10 => bnd (opBin .lss v10 (.int .i64 (0))) fun v11 => onB v11 (K x0 x3 (.bool true)) (bnd (opFieldAddr 0 x3) fun v13 => bnd (opLoad v13) fun v14 => bnd (opNil x0) fun v16 => bnd (opFieldAddr 4 v16) fun v17 => bnd (opLoad v17) fun v18 => bnd (opLen v18) fun v19 => bnd (opBin .geq v14 v19) fun v20 => onB v20 (K x0 x3 (.bool true)) (bnd (opFieldAddr 1 x3) fun v23 => bnd (opLoad v23) fun v24 => bnd (opBin .lss v24 (.int .i64 (0))) fun v25 => onB v25 (K x0 x3 (.bool true)) (bnd (opFieldAddr 1 x3) fun v28 => bnd (opLoad v28) fun v29 => bnd (opNil x0) fun v31 => bnd (opFieldAddr 4 v31) fun v32 => bnd (opLoad v32) fun v33 => bnd (opFieldAddr 0 x3) fun v34 => bnd (opLoad v34) fun v35 => bnd (opIndexAddr 3 v33 v35) fun v36 => bnd (opFieldAddr 2 v36) fun v37 => bnd (opLoad v37) fun v38 => bnd (opLen v38) fun v39 => bnd (opBin .geq v29 v39) fun v40 => K x0 x3 v40)))

theorem R8_Next_r1_ok (F : Nat) (x0 x3 : Value) (K : Value → Value → Value → M Value) : R8_Next_r1 F x0 x3 K = R8_Next_D F 1 [0, 1, 2, 3, 4, 5, 6, 7, 8, 9, 10, 11, 12, 13, 14, 15, 16, 17, 18, 19, 20, 21, 22, 23, 24, 25, 26, 27, 28, 29, 30, 31, 32] [(3, x3), (0, x0)] [0, 3, 41] K := by kernel_rfl

theorem R8_Next_r1_good : goodOrder (opsOf Try.f84 1) [0, 1, 2, 3, 4, 5, 6, 7, 8, 9, 10, 11, 12, 13, 14, 15, 16, 17, 18, 19, 20, 21, 22, 23, 24, 25, 26, 27, 28, 29, 30, 31, 32] = true := by kernel_rfl

def R8_Next_r0 (F : Nat) (x0 x1 : Value) (K : Value → Value → M Value) : M Value :=
  bnd (opBoxN x1) fun v3 => K x0 v3

theorem R8_Next_r0_ok (F : Nat) (x0 x1 : Value) (K : Value → Value → M Value) : R8_Next_r0 F x0 x1 K = R8_Next_R F 0 [(1, x1), (0, x0)] [0, 3] K := by kernel_rfl

def R8_Next (F : Nat) (x0 x1 : Value) : M Value :=
  R8_Next_r0 F x0 x1 (fun x0 x3 => R8_Next_r1 F x0 x3 (fun x0 x3 x41 => onB x41 (R8_Next_r2 F (fun x4 => ret x4)) (R8_Next_r3 F x0 x3 (fun x0 x3 x5 => R8_Next_r4 F x0 x3 x5 (fun x0 x3 x5 x65 => onB x65 (R8_Next_r5 F (fun x4 => ret x4)) (R8_Next_r6 F x0 x3 x5 (fun x0 x3 x5 x71 => onB x71 (R8_Next_r7 F x3 (fun x4 => ret x4)) (R8_Next_r8 F x0 x3 x5 (fun x0 x3 x5 x6 => R8_Next_r9 F x0 x3 x5 x6 (fun x0 x3 x5 x6 x82 => R8_Next_r10 F x0 x3 x5 x6 x82 (fun x0 x3 x5 x6 x82 x83 => onB x83 (R8_Next_r11 F x0 x3 x5 (fun x0 x3 x6 => R8_Next_k3 F x0 x3 x6)) (R8_Next_r12 F x0 x3 x5 x6 x82 (fun x0 x3 x5 x6 x88 => onB x88 (R8_Next_r13 F x0 x3 x5 (fun x0 x3 x5 x6 => R8_Next_r14 F x0 x3 x5 x6 (fun x0 x3 x5 x6 x97 => onB x97 (R8_Next_r15 F x0 x3 x5 x6 (fun x0 x3 x6 => R8_Next_k3 F x0 x3 x6)) (R8_Next_k3 F x0 x3 x6)))) (R8_Next_k3 F x0 x3 x6))))))))))))))

def R8_Next_m (F : Nat) : List Value → M Value
  | [x0, x1] => R8_Next F x0 x1
  | _ => fail

theorem R8_Next_body : Try.f84.body = some (.seq (.region 0 (opsOf Try.f84 0) false) (.seq (.seq (.region 1 (opsOf Try.f84 1) true) (.cond (.tmp 41) (.seq (.region 2 (opsOf Try.f84 2) false) .ret) .skip)) (.seq (.region 3 (opsOf Try.f84 3) true) (.seq (.seq (.region 4 (opsOf Try.f84 4) false) (.cond (.tmp 65) (.seq (.region 5 (opsOf Try.f84 5) false) .ret) .skip)) (.seq (.seq (.region 6 (opsOf Try.f84 6) false) (.cond (.tmp 71) (.seq (.region 7 (opsOf Try.f84 7) false) .ret) .skip)) (.seq (.region 8 (opsOf Try.f84 8) false) (.seq (.seq (.region 9 (opsOf Try.f84 9) false) (.block 0 (.seq (.region 10 (opsOf Try.f84 10) false) (.cond (.tmp 83) (.region 11 (opsOf Try.f84 11) false) (.seq (.region 12 (opsOf Try.f84 12) false) (.cond (.tmp 88) (.seq (.region 13 (opsOf Try.f84 13) false) (.seq (.region 14 (opsOf Try.f84 14) false) (.cond (.tmp 97) (.region 15 (opsOf Try.f84 15) false) .skip))) .skip)))))) (.seq (.region 16 (opsOf Try.f84 16) false) (.seq (.seq (.region 17 (opsOf Try.f84 17) false) (.block 1 (.loop (.seq (.seq (.region 18 (opsOf Try.f84 18) false) (.cond (.tmp 106) .skip (.exit 1))) (.seq (.block 2 (.seq (.region 20 (opsOf Try.f84 20) true) (.cond (.tmp 130) (.region 21 (opsOf Try.f84 21) true) .skip))) (.region 19 (opsOf Try.f84 19) false)))))) (.seq (.region 22 (opsOf Try.f84 22) false) .ret)))))))))) := by kernel_rfl

theorem R8_Next_ok (F : Nat) : Sim Try.prog TryG 84 (R8_Next_m F) := by
 have hE : EnvOK Try.prog TryG (R8_Next_env F) := EnvOK.nil
 refine Sim.of_body (E := R8_Next_env F) Try.func84 R8_Next_body Try.call84 ?_ ?_
 · intro args hl; unfold R8_Next_m; split
   · exact absurd hl (Nat.not_lt.2 (Nat.le_of_ble_eq_true rfl))
   · rfl
 · intro args ρ h w z; unfold R8_Next_m; split
   · rename_i x0 x1; show OKc _ _ [(0, x0), (1, x1)] _ _
     refine rSeq ?_
     refine cLess [1, 0] ?_
     refine xR hE [0, 3] rfl (R8_Next_r0_ok F _ _ _) ?_
     intro x0 x3
     show OKq _ _ _ [(3, x3), (0, x0)] _
     refine rThen ?_
     refine rSeq ?_
     refine rSeq ?_
     refine cLess [3, 0] ?_
     refine xD Trymix hE [0, 3, 41] rfl R8_Next_r1_good (R8_Next_r1_ok F _ _ _) ?_
     intro x0 x3 x41
     show OKq _ _ _ [(41, x41), (3, x3), (0, x0)] _
     refine rThen ?_
     refine xCond rfl rfl ?_ ?_
     · refine rSeq ?_
       refine cLess [] ?_
       refine xR hE [4] rfl (R8_Next_r2_ok F _) ?_
       intro x4
       show OKq _ _ _ [(4, x4)] _
       refine rThen ?_
       refine rRet ?_
       refine xThenR ?_
       exact rDone (.inr rfl) rfl
     · refine rSkip ?_
       refine rThen ?_
       refine rSeq ?_
       refine cLess [3, 0] ?_
       refine xD Trymix hE [0, 3, 5] rfl R8_Next_r3_good (R8_Next_r3_ok F _ _ _) ?_
       intro x0 x3 x5
       show OKq _ _ _ [(5, x5), (3, x3), (0, x0)] _
       refine rThen ?_
       refine rSeq ?_
       refine rSeq ?_
       refine cLess [5, 3, 0] ?_
       refine xR hE [0, 3, 5, 65] rfl (R8_Next_r4_ok F _ _ _ _) ?_
       intro x0 x3 x5 x65
       show OKq _ _ _ [(65, x65), (5, x5), (3, x3), (0, x0)] _
       refine rThen ?_
       refine xCond rfl rfl ?_ ?_
       · refine rSeq ?_
         refine cLess [] ?_
         refine xR hE [4] rfl (R8_Next_r5_ok F _) ?_
         intro x4
         show OKq _ _ _ [(4, x4)] _
         refine rThen ?_
         refine rRet ?_
         refine xThenR ?_
         exact rDone (.inr rfl) rfl
       · refine rSkip ?_
         refine rThen ?_
         refine rSeq ?_
         refine rSeq ?_
         refine cLess [5, 3, 0] ?_
         refine xR hE [0, 3, 5, 71] rfl (R8_Next_r6_ok F _ _ _ _) ?_
         intro x0 x3 x5 x71
         show OKq _ _ _ [(71, x71), (5, x5), (3, x3), (0, x0)] _
         refine rThen ?_
         refine xCond rfl rfl ?_ ?_
         · refine rSeq ?_
           refine cLess [3] ?_
           refine xR hE [4] rfl (R8_Next_r7_ok F _ _) ?_
           intro x4
           show OKq _ _ _ [(4, x4)] _
           refine rThen ?_
           refine rRet ?_
           refine xThenR ?_
           exact rDone (.inr rfl) rfl
         · refine rSkip ?_
           refine rThen ?_
           refine rSeq ?_
           refine cLess [5, 3, 0] ?_
           refine xR hE [0, 3, 5, 6] rfl (R8_Next_r8_ok F _ _ _ _) ?_
           intro x0 x3 x5 x6
           show OKq _ _ _ [(6, x6), (5, x5), (3, x3), (0, x0)] _
           refine rThen ?_
           refine xSeq [0, 3, 6] (R8_Next_k3 F ) ?_ fun hj3 => ?_
           · intro x0 x3 x6
             show OKc _ _ [(6, x6), (3, x3), (0, x0)] _ _
             refine rSeq ?_
             refine cLess [6, 3, 0] ?_
             refine xR hE [0, 3, 6, 7] rfl (R8_Next_r16_ok F _ _ _ _) ?_
             intro x0 x3 x6 x7
             show OKq _ _ _ [(7, x7), (6, x6), (3, x3), (0, x0)] _
             refine rThen ?_
             refine xSeq [7] (R8_Next_k0 F ) ?_ fun hj0 => ?_
             · intro x7
               show OKc _ _ [(7, x7)] _ _
               refine rSeq ?_
               refine cLess [7] ?_
               refine xR hE [4] rfl (R8_Next_r22_ok F _ _) ?_
               intro x4
               show OKq _ _ _ [(4, x4)] _
               refine rThen ?_
               refine rRet ?_
               exact rDone (.inr rfl) rfl
             · refine rSeq ?_
               refine cLess [7, 6, 3, 0] ?_
               refine xR hE [0, 3, 6, 7, 8] rfl (R8_Next_r17_ok F _ _ _ _ _) ?_
               intro x0 x3 x6 x7 x8
               show OKq _ _ _ [(8, x8), (7, x7), (6, x6), (3, x3), (0, x0)] _
               refine rThen ?_
               refine rBlock ?_
               refine cLess [8, 7, 6, 3, 0] ?_
               refine xLoopAt [0, 3, 6, 7, 8] [] (fun k1 => R8_Next_l1 F (fun x7 => R8_Next_k0 F x7) k1) F [x0, x3, x6, x7, x8] rfl rfl (fun _ _ _ _ _ => rfl) fun I hI1 k1 => ?_
               intro x0 x3 x6 x7 x8
               show OKc _ _ [(8, x8), (7, x7), (6, x6), (3, x3), (0, x0)] _ _
               refine cAs (R8_Next_l1_s F _ _ _ _ _ _ _) ?_
               refine rSeq ?_
               refine rSeq ?_
               refine cLess [8, 7, 6, 3, 0] ?_
               refine xR hE [0, 3, 6, 7, 8, 106] rfl (R8_Next_r18_ok F _ _ _ _ _ _) ?_
               intro x0 x3 x6 x7 x8 x106
               show OKq _ _ _ [(106, x106), (8, x8), (7, x7), (6, x6), (3, x3), (0, x0)] _
               refine rThen ?_
               refine xCond rfl rfl ?_ ?_
               · refine rSkip ?_
                 refine rThen ?_
                 refine xSeq [0, 3, 6, 7, 8] (R8_Next_k2 F (R8_Next_l1 F (fun x7 => R8_Next_k0 F x7) k1) ) ?_ fun hj2 => ?_
                 · intro x0 x3 x6 x7 x8
                   show OKc _ _ [(8, x8), (7, x7), (6, x6), (3, x3), (0, x0)] _ _
                   refine cLess [8, 7, 6, 3, 0] ?_
                   refine xR hE [0, 3, 6, 7, 8] rfl (R8_Next_r19_ok F _ _ _ _ _ _) ?_
                   intro x0 x3 x6 x7 x8
                   show OKq _ _ _ [(8, x8), (7, x7), (6, x6), (3, x3), (0, x0)] _
                   exact qLess [8, 7, 6, 3, 0] (hI1 k1 x0 x3 x6 x7 x8)
                 · refine rBlock ?_
                   refine rSeq ?_
                   refine cLess [8, 7, 6, 3, 0] ?_
                   refine xD Trymix hE [0, 3, 6, 7, 8, 130] rfl R8_Next_r20_good (R8_Next_r20_ok F _ _ _ _ _ _) ?_
                   intro x0 x3 x6 x7 x8 x130
                   show OKq _ _ _ [(130, x130), (8, x8), (7, x7), (6, x6), (3, x3), (0, x0)] _
                   refine rThen ?_
                   refine xCond rfl rfl ?_ ?_
                   · refine cLess [8, 7, 6, 3, 0] ?_
                     refine xD Trymix hE [0, 3, 6, 7, 8] rfl R8_Next_r21_good (R8_Next_r21_ok F _ _ _ _ _ _) ?_
                     intro x0 x3 x6 x7 x8
                     show OKq _ _ _ [(8, x8), (7, x7), (6, x6), (3, x3), (0, x0)] _
                     refine xBlockN ?_
                     exact qLess [8, 7, 6, 3, 0] (hj2 x0 x3 x6 x7 x8)
                   · refine rSkip ?_
                     refine xBlockN ?_
                     exact qLess [8, 7, 6, 3, 0] (hj2 x0 x3 x6 x7 x8)
               · refine rExit ?_
                 refine xThenX ?_
                 refine xThenX ?_
                 refine rOut ?_
                 exact qLess [7] (hj0 x7)
           · refine rSeq ?_
             refine cLess [6, 5, 3, 0] ?_
             refine xR hE [0, 3, 5, 6, 82] rfl (R8_Next_r9_ok F _ _ _ _ _) ?_
             intro x0 x3 x5 x6 x82
             show OKq _ _ _ [(82, x82), (6, x6), (5, x5), (3, x3), (0, x0)] _
             refine rThen ?_
             refine rBlock ?_
             refine rSeq ?_
             refine cLess [82, 6, 5, 3, 0] ?_
             refine xR hE [0, 3, 5, 6, 82, 83] rfl (R8_Next_r10_ok F _ _ _ _ _ _) ?_
             intro x0 x3 x5 x6 x82 x83
             show OKq _ _ _ [(83, x83), (82, x82), (6, x6), (5, x5), (3, x3), (0, x0)] _
             refine rThen ?_
             refine xCond rfl rfl ?_ ?_
             · refine cLess [5, 3, 0] ?_
               refine xR hE [0, 3, 6] rfl (R8_Next_r11_ok F _ _ _ _) ?_
               intro x0 x3 x6
               show OKq _ _ _ [(6, x6), (3, x3), (0, x0)] _
               refine xBlockN ?_
               exact qLess [6, 3, 0] (hj3 x0 x3 x6)
             · refine rSeq ?_
               refine cLess [82, 6, 5, 3, 0] ?_
               refine xR hE [0, 3, 5, 6, 88] rfl (R8_Next_r12_ok F _ _ _ _ _ _) ?_
               intro x0 x3 x5 x6 x88
               show OKq _ _ _ [(88, x88), (6, x6), (5, x5), (3, x3), (0, x0)] _
               refine rThen ?_
               refine xCond rfl rfl ?_ ?_
               · refine rSeq ?_
                 refine cLess [5, 3, 0] ?_
                 refine xR hE [0, 3, 5, 6] rfl (R8_Next_r13_ok F _ _ _ _) ?_
                 intro x0 x3 x5 x6
                 show OKq _ _ _ [(6, x6), (5, x5), (3, x3), (0, x0)] _
                 refine rThen ?_
                 refine rSeq ?_
                 refine cLess [6, 5, 3, 0] ?_
                 refine xR hE [0, 3, 5, 6, 97] rfl (R8_Next_r14_ok F _ _ _ _ _) ?_
                 intro x0 x3 x5 x6 x97
                 show OKq _ _ _ [(97, x97), (6, x6), (5, x5), (3, x3), (0, x0)] _
                 refine rThen ?_
                 refine xCond rfl rfl ?_ ?_
                 · refine cLess [6, 5, 3, 0] ?_
                   refine xR hE [0, 3, 6] rfl (R8_Next_r15_ok F _ _ _ _ _) ?_
                   intro x0 x3 x6
                   show OKq _ _ _ [(6, x6), (3, x3), (0, x0)] _
                   refine xBlockN ?_
                   exact qLess [6, 3, 0] (hj3 x0 x3 x6)
                 · refine rSkip ?_
                   refine xBlockN ?_
                   exact qLess [6, 3, 0] (hj3 x0 x3 x6)
               · refine rSkip ?_
                 refine xBlockN ?_
                 exact qLess [6, 3, 0] (hj3 x0 x3 x6)
   · exact rFail


/-! ### cmp.isNaN[int] -/

def cmp_isNaN_env (F : Nat) : Env := envOf []

noncomputable def cmp_isNaN_R (F : Nat) := rK Try.prog TryG (cmp_isNaN_env F) Try.f90
noncomputable def cmp_isNaN_D (F : Nat) := dK Try.prog TryG (cmp_isNaN_env F) Try.f90

def cmp_isNaN_r1 (F : Nat) (x0 : Value) (K : Value → M Value) : M Value :=
  bnd (opBin .neq x0 x0) fun v5 => K v5

theorem cmp_isNaN_r1_ok (F : Nat) (x0 : Value) (K : Value → M Value) : cmp_isNaN_r1 F x0 K = cmp_isNaN_R F 1 [(0, x0)] [2] K := by kernel_rfl

def cmp_isNaN_r0 (F : Nat) (x0 : Value) (K : Value → M Value) : M Value :=
  K x0

theorem cmp_isNaN_r0_ok (F : Nat) (x0 : Value) (K : Value → M Value) : cmp_isNaN_r0 F x0 K = cmp_isNaN_R F 0 [(0, x0)] [0] K := by kernel_rfl

def cmp_isNaN (F : Nat) (x0 : Value) : M Value :=
  cmp_isNaN_r0 F x0 (fun x0 => cmp_isNaN_r1 F x0 (fun x2 => ret x2))

def cmp_isNaN_m (F : Nat) : List Value → M Value
  | [x0] => cmp_isNaN F x0
  | _ => fail

theorem cmp_isNaN_body : Try.f90.body = some (.seq (.region 0 (opsOf Try.f90 0) false) (.seq (.region 1 (opsOf Try.f90 1) false) .ret)) := by kernel_rfl

theorem cmp_isNaN_ok (F : Nat) : Sim Try.prog TryG 90 (cmp_isNaN_m F) := by
 have hE : EnvOK Try.prog TryG (cmp_isNaN_env F) := EnvOK.nil
 refine Sim.of_body (E := cmp_isNaN_env F) Try.func90 cmp_isNaN_body Try.call90 ?_ ?_
 · intro args hl; unfold cmp_isNaN_m; split
   · exact absurd hl (Nat.not_lt.2 (Nat.le_of_ble_eq_true rfl))
   · rfl
 · intro args ρ h w z; unfold cmp_isNaN_m; split
   · rename_i x0; show OKc _ _ [(0, x0)] _ _
     refine rSeq ?_
     refine cLess [0] ?_
     refine xR hE [0] rfl (cmp_isNaN_r0_ok F _ _) ?_
     intro x0
     show OKq _ _ _ [(0, x0)] _
     refine rThen ?_
     refine rSeq ?_
     refine cLess [0] ?_
     refine xR hE [2] rfl (cmp_isNaN_r1_ok F _ _) ?_
     intro x2
     show OKq _ _ _ [(2, x2)] _
     refine rThen ?_
     refine rRet ?_
     exact rDone (.inr rfl) rfl
   · exact rFail


/-! ### haruspex/haruspexref8.Reads -/

def R8_Reads_env (F : Nat) : Env := envOf [(13, R8_Code_m F), (26, R8_Uses_m F)]

noncomputable def R8_Reads_R (F : Nat) := rK Try.prog TryG (R8_Reads_env F) Try.f10
noncomputable def R8_Reads_D (F : Nat) := dK Try.prog TryG (R8_Reads_env F) Try.f10

def R8_Reads_r7 (F : Nat) (K : Value → M Value) : M Value :=
  K (.slice none 0 0)

theorem R8_Reads_r7_ok (F : Nat) (K : Value → M Value) : R8_Reads_r7 F K = R8_Reads_R F 7 [] [4] K := by kernel_rfl

def R8_Reads_r6 (F : Nat) (x7 : Value) (K : Value → M Value) : M Value :=
  bnd (opFieldAddr 2 x7) fun v46 => bnd (opLoad v46) fun v47 => bnd (opBuildSlice 1 (rep 1 [(.int .i64 (0))]) [(0, 1, false, v47)]) fun v48 => K v48

theorem R8_Reads_r6_ok (F : Nat) (x7 : Value) (K : Value → M Value) : R8_Reads_r6 F x7 K = R8_Reads_R F 6 [(7, x7)] [4] K := by kernel_rfl

def R8_Reads_r5 (F : Nat) (x3 x7 : Value) (K : Value → Value → M Value) : M Value :=
  bnd (opFieldAddr 2 x3) fun v30 => bnd (opLoad v30) fun v31 => bnd (opFieldAddr 0 x7) fun v32 => bnd (opLoad v32) fun v33 => bnd (opLen v33) fun v34 => bnd (opBin .eql v31 v34) fun v35 => onB v35 (bnd (opFieldAddr 1 x7) fun v37 => bnd (opLoad v37) fun v38 => bnd (opBin .eql v38 (.int .i64 (2))) fun v39 => onB v39 (K x7 (.bool true)) (bnd (opFieldAddr 1 x7) fun v41 => bnd (opLoad v41) fun v42 => bnd (opBin .eql v42 (.int .i64 (3))) fun v43 => K x7 v43)) (K x7 (.bool false))

theorem R8_Reads_r5_ok (F : Nat) (x3 x7 : Value) (K : Value → Value → M Value) : R8_Reads_r5 F x3 x7 K = R8_Reads_R F 5 [(7, x7), (3, x3)] [7, 45] K := by kernel_rfl

def R8_Reads_r4 (F : Nat) (x0 x3 : Value) (K : Value → Value → M Value) : M Value :=
  bnd (opNil x0) fun v18 => bnd (opFieldAddr 4 v18) fun v19 => bnd (opLoad v19) fun v20 => bnd (opFieldAddr 0 x3) fun v21 => bnd (opLoad v21) fun v22 => bnd (opIndexAddr 3 v20 v22) fun v23 => bnd (opFieldAddr 2 v23) fun v24 => bnd (opLoad v24) fun v25 => bnd (opFieldAddr 1 x3) fun v26 => bnd (opLoad v26) fun v27 => bnd (opIndexAddr 5 v25 v27) fun v28 => bnd (opLoadN 5 v28) fun v29 => bnd (opPtr [(.slice none 0 0), (.int .i64 (0)), (.int .i64 (0)), (.int .i64 (0)), (.int .i64 (0))]) fun v7 => bnd (opStoreN 5 v7 v29) fun _ => K x3 v7

theorem R8_Reads_r4_ok (F : Nat) (x0 x3 : Value) (K : Value → Value → M Value) : R8_Reads_r4 F x0 x3 K = R8_Reads_D F 4 [0, 1, 2, 3, 4, 5, 6, 7, 8, 9, 10, 11, 12, 13, 14] [(3, x3), (0, x0)] [3, 7] K := by kernel_rfl

theorem R8_Reads_r4_good : goodOrder (opsOf Try.f10 4) [0, 1, 2, 3, 4, 5, 6, 7, 8, 9, 10, 11, 12, 13, 14] = true := by kernel_rfl

def R8_Reads_r3 (F : Nat) (x5 : Value) (K : Value → M Value) : M Value :=
  bnd (opLoadN 6 x5) fun v15 => bnd (R8_Uses F v15) fun v16 => K v16

theorem R8_Reads_r3_ok (F : Nat) (x5 : Value) (K : Value → M Value) : R8_Reads_r3 F x5 K = R8_Reads_R F 3 [(5, x5)] [4] K := by kernel_rfl

def R8_Reads_r2 (F : Nat) (x0 x3 x5 x6 : Value) (K : Value → Value → Value → Value → M Value) : M Value :=
  K x0 x3 x5 x6

theorem R8_Reads_r2_ok (F : Nat) (x0 x3 x5 x6 : Value) (K : Value → Value → Value → Value → M Value) : R8_Reads_r2 F x0 x3 x5 x6 K = R8_Reads_R F 2 [(6, x6), (5, x5), (3, x3), (0, x0)] [0, 3, 5, 14] K := by kernel_rfl

def R8_Reads_r1 (F : Nat) (x0 x3 : Value) (K : Value → Value → Value → Value → M Value) : M Value :=
  bnd (opLoadN 3 x3) fun v10 => bnd (R8_Code F x0 v10) fun v11 => bnd (opExtract v11 0) fun v12 => bnd (opExtract v11 1) fun v13 => bnd (opPtr [(.int .i64 (0)), (.int .i64 (0)), (.int .i64 (0)), (.int .i64 (0)), (.int .i64 (0)), (.slice none 0 0)]) fun v5 => bnd (opStoreN 6 v5 v12) fun _ => K x0 x3 v5 v13

theorem R8_Reads_r1_ok (F : Nat) (x0 x3 : Value) (K : Value → Value → Value → Value → M Value) : R8_Reads_r1 F x0 x3 K = R8_Reads_R F 1 [(3, x3), (0, x0)] [0, 3, 5, 6] K := by kernel_rfl

def R8_Reads_r0 (F : Nat) (x0 x1 : Value) (K : Value → Value → M Value) : M Value :=
  bnd (opBoxN x1) fun v3 => K x0 v3

theorem R8_Reads_r0_ok (F : Nat) (x0 x1 : Value) (K : Value → Value → M Value) : R8_Reads_r0 F x0 x1 K = R8_Reads_R F 0 [(1, x1), (0, x0)] [0, 3] K := by kernel_rfl

def R8_Reads (F : Nat) (x0 x1 : Value) : M Value :=
  R8_Reads_r0 F x0 x1 (fun x0 x3 => R8_Reads_r1 F x0 x3 (fun x0 x3 x5 x6 => R8_Reads_r2 F x0 x3 x5 x6 (fun x0 x3 x5 x14 => onB x14 (R8_Reads_r3 F x5 (fun x4 => ret x4)) (R8_Reads_r4 F x0 x3 (fun x3 x7 => R8_Reads_r5 F x3 x7 (fun x7 x45 => onB x45 (R8_Reads_r6 F x7 (fun x4 => ret x4)) (R8_Reads_r7 F (fun x4 => ret x4))))))))

def R8_Reads_m (F : Nat) : List Value → M Value
  | [x0, x1] => R8_Reads F x0 x1
  | _ => fail

theorem R8_Reads_body : Try.f10.body = some (.seq (.region 0 (opsOf Try.f10 0) false) (.seq (.region 1 (opsOf Try.f10 1) false) (.seq (.seq (.region 2 (opsOf Try.f10 2) false) (.cond (.tmp 14) (.seq (.region 3 (opsOf Try.f10 3) false) .ret) .skip)) (.seq (.region 4 (opsOf Try.f10 4) true) (.seq (.seq (.region 5 (opsOf Try.f10 5) false) (.cond (.tmp 45) (.seq (.region 6 (opsOf Try.f10 6) false) .ret) .skip)) (.seq (.region 7 (opsOf Try.f10 7) false) .ret)))))) := by kernel_rfl

theorem R8_Reads_ok (F : Nat) : Sim Try.prog TryG 10 (R8_Reads_m F) := by
 have hE : EnvOK Try.prog TryG (R8_Reads_env F) := (EnvOK.cons (R8_Code_ok F) (EnvOK.cons (R8_Uses_ok F) EnvOK.nil))
 refine Sim.of_body (E := R8_Reads_env F) Try.func10 R8_Reads_body Try.call10 ?_ ?_
 · intro args hl; unfold R8_Reads_m; split
   · exact absurd hl (Nat.not_lt.2 (Nat.le_of_ble_eq_true rfl))
   · rfl
 · intro args ρ h w z; unfold R8_Reads_m; split
   · rename_i x0 x1; show OKc _ _ [(0, x0), (1, x1)] _ _
     refine rSeq ?_
     refine cLess [1, 0] ?_
     refine xR hE [0, 3] rfl (R8_Reads_r0_ok F _ _ _) ?_
     intro x0 x3
     show OKq _ _ _ [(3, x3), (0, x0)] _
     refine rThen ?_
     refine rSeq ?_
     refine cLess [3, 0] ?_
     refine xR hE [0, 3, 5, 6] rfl (R8_Reads_r1_ok F _ _ _) ?_
     intro x0 x3 x5 x6
     show OKq _ _ _ [(6, x6), (5, x5), (3, x3), (0, x0)] _
     refine rThen ?_
     refine rSeq ?_
     refine rSeq ?_
     refine cLess [6, 5, 3, 0] ?_
     refine xR hE [0, 3, 5, 14] rfl (R8_Reads_r2_ok F _ _ _ _ _) ?_
     intro x0 x3 x5 x14
     show OKq _ _ _ [(14, x14), (5, x5), (3, x3), (0, x0)] _
     refine rThen ?_
     refine xCond rfl rfl ?_ ?_
     · refine rSeq ?_
       refine cLess [5] ?_
       refine xR hE [4] rfl (R8_Reads_r3_ok F _ _) ?_
       intro x4
       show OKq _ _ _ [(4, x4)] _
       refine rThen ?_
       refine rRet ?_
       refine xThenR ?_
       exact rDone (.inr rfl) rfl
     · refine rSkip ?_
       refine rThen ?_
       refine rSeq ?_
       refine cLess [3, 0] ?_
       refine xD Trymix hE [3, 7] rfl R8_Reads_r4_good (R8_Reads_r4_ok F _ _ _) ?_
       intro x3 x7
       show OKq _ _ _ [(7, x7), (3, x3)] _
       refine rThen ?_
       refine rSeq ?_
       refine rSeq ?_
       refine cLess [7, 3] ?_
       refine xR hE [7, 45] rfl (R8_Reads_r5_ok F _ _ _) ?_
       intro x7 x45
       show OKq _ _ _ [(45, x45), (7, x7)] _
       refine rThen ?_
       refine xCond rfl rfl ?_ ?_
       · refine rSeq ?_
         refine cLess [7] ?_
         refine xR hE [4] rfl (R8_Reads_r6_ok F _ _) ?_
         intro x4
         show OKq _ _ _ [(4, x4)] _
         refine rThen ?_
         refine rRet ?_
         refine xThenR ?_
         exact rDone (.inr rfl) rfl
       · refine rSkip ?_
         refine rThen ?_
         refine rSeq ?_
         refine cLess [] ?_
         refine xR hE [4] rfl (R8_Reads_r7_ok F _) ?_
         intro x4
         show OKq _ _ _ [(4, x4)] _
         refine rThen ?_
         refine rRet ?_
         exact rDone (.inr rfl) rfl
   · exact rFail


/-! ### haruspex/haruspexref8.Number -/

def R8_Number_env (F : Nat) : Env := envOf [(32, R8_Points_m F)]

noncomputable def R8_Number_R (F : Nat) := rK Try.prog TryG (R8_Number_env F) Try.f17
noncomputable def R8_Number_D (F : Nat) := dK Try.prog TryG (R8_Number_env F) Try.f17

def R8_Number_r7 (F : Nat) (K : Value → M Value) : M Value :=
  K (.int .i64 (-1))

theorem R8_Number_r7_ok (F : Nat) (K : Value → M Value) : R8_Number_r7 F K = R8_Number_R F 7 [] [4] K := by kernel_rfl

def R8_Number_k0 (F : Nat) : M Value :=
  R8_Number_r7 F (fun x4 => ret x4)

def R8_Number_r4 (F : Nat) (x3 x5 x6 : Value) (K : Value → Value → Value → M Value) : M Value :=
  bnd (opBin .add x6 (.int .i64 (1))) fun v14 => K x3 x5 v14

theorem R8_Number_r4_ok (F : Nat) (x3 x5 x6 : Value) (K : Value → Value → Value → M Value) : R8_Number_r4 F x3 x5 x6 K = R8_Number_R F 4 [(6, x6), (5, x5), (3, x3)] [3, 5, 6] K := by kernel_rfl

def R8_Number_r6 (F : Nat) (x6 : Value) (K : Value → M Value) : M Value :=
  K x6

theorem R8_Number_r6_ok (F : Nat) (x6 : Value) (K : Value → M Value) : R8_Number_r6 F x6 K = R8_Number_R F 6 [(6, x6)] [4] K := by kernel_rfl

def R8_Number_r5 (F : Nat) (x3 x5 x6 : Value) (K : Value → Value → Value → Value → M Value) : M Value :=
  bnd (opIndexAddr 3 x5 x6) fun v17 => bnd (opFieldAddr 0 v17) fun v18 => bnd (opLoad v18) fun v19 => bnd (opFieldAddr 0 x3) fun v20 => bnd (opLoad v20) fun v21 => bnd (opBin .eql v19 v21) fun v22 => onB v22 (bnd (opIndexAddr 3 x5 x6) fun v26 => bnd (opFieldAddr 1 v26) fun v27 => bnd (opLoad v27) fun v28 => bnd (opFieldAddr 1 x3) fun v29 => bnd (opLoad v29) fun v30 => bnd (opBin .eql v28 v30) fun v31 => onB v31 (bnd (opIndexAddr 3 x5 x6) fun v36 => bnd (opFieldAddr 2 v36) fun v37 => bnd (opLoad v37) fun v38 => bnd (opFieldAddr 2 x3) fun v39 => bnd (opLoad v39) fun v40 => bnd (opBin .eql v38 v40) fun v41 => K x3 x5 x6 v41) (K x3 x5 x6 (.bool false))) (K x3 x5 x6 (.bool false))

theorem R8_Number_r5_ok (F : Nat) (x3 x5 x6 : Value) (K : Value → Value → Value → Value → M Value) : R8_Number_r5 F x3 x5 x6 K = R8_Number_D F 5 [0, 1, 2, 3, 4, 5, 6, 7, 8, 9, 10, 11, 12, 13, 14, 15, 16, 17, 18, 19, 20, 21, 22, 23, 24, 25, 26, 27] [(6, x6), (5, x5), (3, x3)] [3, 5, 6, 42] K := by kernel_rfl

theorem R8_Number_r5_good : goodOrder (opsOf Try.f17 5) [0, 1, 2, 3, 4, 5, 6, 7, 8, 9, 10, 11, 12, 13, 14, 15, 16, 17, 18, 19, 20, 21, 22, 23, 24, 25, 26, 27] = true := by kernel_rfl

def R8_Number_r3 (F : Nat) (x3 x5 x6 : Value) (K : Value → Value → Value → Value → M Value) : M Value :=
  bnd (opLen x5) fun v11 => bnd (opBin .lss x6 v11) fun v12 => K x3 x5 x6 v12

theorem R8_Number_r3_ok (F : Nat) (x3 x5 x6 : Value) (K : Value → Value → Value → Value → M Value) : R8_Number_r3 F x3 x5 x6 K = R8_Number_R F 3 [(6, x6), (5, x5), (3, x3)] [3, 5, 6, 12] K := by kernel_rfl

def R8_Number_b1 (F : Nat) (E1_0 : M Value) (A1 : Value → Value → Value → M Value) (x3 x5 x6 : Value) : M Value :=
  R8_Number_r3 F x3 x5 x6 (fun x3 x5 x6 x12 => onB x12 (R8_Number_r5 F x3 x5 x6 (fun x3 x5 x6 x42 => onB x42 (R8_Number_r6 F x6 (fun x4 => ret x4)) (R8_Number_r4 F x3 x5 x6 (fun x3 x5 x6 => A1 x3 x5 x6)))) (E1_0 ))

def R8_Number_l1 (F : Nat) (E1_0 : M Value) : Nat → Value → Value → Value → M Value
  | 0, _, _, _ => fail
  | k1 + 1, x3, x5, x6 => R8_Number_b1 F E1_0 (R8_Number_l1 F E1_0 k1) x3 x5 x6

theorem R8_Number_l1_s (F : Nat) (E1_0 : M Value) (k1 : Nat) (x3 x5 x6 : Value) : R8_Number_l1 F E1_0 (k1 + 1) x3 x5 x6 = R8_Number_b1 F E1_0 (R8_Number_l1 F E1_0 k1) x3 x5 x6 := rfl

def R8_Number_r2 (F : Nat) (x3 x5 : Value) (K : Value → Value → Value → M Value) : M Value :=
  K x3 x5 (.int .i64 (0))

theorem R8_Number_r2_ok (F : Nat) (x3 x5 : Value) (K : Value → Value → Value → M Value) : R8_Number_r2 F x3 x5 K = R8_Number_R F 2 [(5, x5), (3, x3)] [3, 5, 6] K := by kernel_rfl

def R8_Number_r1 (F : Nat) (x0 x3 : Value) (K : Value → Value → M Value) : M Value :=
  bnd (R8_Points F x0) fun v8 => K x3 v8

theorem R8_Number_r1_ok (F : Nat) (x0 x3 : Value) (K : Value → Value → M Value) : R8_Number_r1 F x0 x3 K = R8_Number_R F 1 [(3, x3), (0, x0)] [3, 5] K := by kernel_rfl

def R8_Number_r0 (F : Nat) (x0 x1 : Value) (K : Value → Value → M Value) : M Value :=
  bnd (opBoxN x1) fun v3 => K x0 v3

theorem R8_Number_r0_ok (F : Nat) (x0 x1 : Value) (K : Value → Value → M Value) : R8_Number_r0 F x0 x1 K = R8_Number_R F 0 [(1, x1), (0, x0)] [0, 3] K := by kernel_rfl

def R8_Number (F : Nat) (x0 x1 : Value) : M Value :=
  R8_Number_r0 F x0 x1 (fun x0 x3 => R8_Number_r1 F x0 x3 (fun x3 x5 => R8_Number_r2 F x3 x5 (fun x3 x5 x6 => R8_Number_l1 F (R8_Number_k0 F ) F x3 x5 x6)))

def R8_Number_m (F : Nat) : List Value → M Value
  | [x0, x1] => R8_Number F x0 x1
  | _ => fail

theorem R8_Number_body : Try.f17.body = some (.seq (.region 0 (opsOf Try.f17 0) false) (.seq (.region 1 (opsOf Try.f17 1) false) (.seq (.seq (.region 2 (opsOf Try.f17 2) false) (.block 0 (.loop (.seq (.seq (.region 3 (opsOf Try.f17 3) false) (.cond (.tmp 12) .skip (.exit 0))) (.seq (.block 1 (.seq (.region 5 (opsOf Try.f17 5) true) (.cond (.tmp 42) (.seq (.region 6 (opsOf Try.f17 6) false) .ret) .skip))) (.region 4 (opsOf Try.f17 4) false)))))) (.seq (.region 7 (opsOf Try.f17 7) false) .ret)))) := by kernel_rfl

theorem R8_Number_ok (F : Nat) : Sim Try.prog TryG 17 (R8_Number_m F) := by
 have hE : EnvOK Try.prog TryG (R8_Number_env F) := (EnvOK.cons (R8_Points_ok F) EnvOK.nil)
 refine Sim.of_body (E := R8_Number_env F) Try.func17 R8_Number_body Try.call17 ?_ ?_
 · intro args hl; unfold R8_Number_m; split
   · exact absurd hl (Nat.not_lt.2 (Nat.le_of_ble_eq_true rfl))
   · rfl
 · intro args ρ h w z; unfold R8_Number_m; split
   · rename_i x0 x1; show OKc _ _ [(0, x0), (1, x1)] _ _
     refine rSeq ?_
     refine cLess [1, 0] ?_
     refine xR hE [0, 3] rfl (R8_Number_r0_ok F _ _ _) ?_
     intro x0 x3
     show OKq _ _ _ [(3, x3), (0, x0)] _
     refine rThen ?_
     refine rSeq ?_
     refine cLess [3, 0] ?_
     refine xR hE [3, 5] rfl (R8_Number_r1_ok F _ _ _) ?_
     intro x3 x5
     show OKq _ _ _ [(5, x5), (3, x3)] _
     refine rThen ?_
     refine xSeq [] (R8_Number_k0 F ) ?_ fun hj0 => ?_
     · show OKc _ _ [] _ _
       refine rSeq ?_
       refine cLess [] ?_
       refine xR hE [4] rfl (R8_Number_r7_ok F _) ?_
       intro x4
       show OKq _ _ _ [(4, x4)] _
       refine rThen ?_
       refine rRet ?_
       exact rDone (.inr rfl) rfl
     · refine rSeq ?_
       refine cLess [5, 3] ?_
       refine xR hE [3, 5, 6] rfl (R8_Number_r2_ok F _ _ _) ?_
       intro x3 x5 x6
       show OKq _ _ _ [(6, x6), (5, x5), (3, x3)] _
       refine rThen ?_
       refine rBlock ?_
       refine cLess [6, 5, 3] ?_
       refine xLoopAt [3, 5, 6] [] (fun k1 => R8_Number_l1 F (R8_Number_k0 F ) k1) F [x3, x5, x6] rfl rfl (fun _ _ _ => rfl) fun I hI1 k1 => ?_
       intro x3 x5 x6
       show OKc _ _ [(6, x6), (5, x5), (3, x3)] _ _
       refine cAs (R8_Number_l1_s F _ _ _ _ _) ?_
       refine rSeq ?_
       refine rSeq ?_
       refine cLess [6, 5, 3] ?_
       refine xR hE [3, 5, 6, 12] rfl (R8_Number_r3_ok F _ _ _ _) ?_
       intro x3 x5 x6 x12
       show OKq _ _ _ [(12, x12), (6, x6), (5, x5), (3, x3)] _
       refine rThen ?_
       refine xCond rfl rfl ?_ ?_
       · refine rSkip ?_
         refine rThen ?_
         refine rSeq ?_
         refine rBlock ?_
         refine rSeq ?_
         refine cLess [6, 5, 3] ?_
         refine xD Trymix hE [3, 5, 6, 42] rfl R8_Number_r5_good (R8_Number_r5_ok F _ _ _ _) ?_
         intro x3 x5 x6 x42
         show OKq _ _ _ [(42, x42), (6, x6), (5, x5), (3, x3)] _
         refine rThen ?_
         refine xCond rfl rfl ?_ ?_
         · refine rSeq ?_
           refine cLess [6] ?_
           refine xR hE [4] rfl (R8_Number_r6_ok F _ _) ?_
           intro x4
           show OKq _ _ _ [(4, x4)] _
           refine rThen ?_
           refine rRet ?_
           refine xBlockR ?_
           refine xThenR ?_
           refine xThenR ?_
           refine xBlockR ?_
           refine xThenR ?_
           exact rDone (.inr rfl) rfl
         · refine rSkip ?_
           refine xBlockN ?_
           refine rThen ?_
           refine cLess [6, 5, 3] ?_
           refine xR hE [3, 5, 6] rfl (R8_Number_r4_ok F _ _ _ _) ?_
           intro x3 x5 x6
           show OKq _ _ _ [(6, x6), (5, x5), (3, x3)] _
           exact qLess [6, 5, 3] (hI1 k1 x3 x5 x6)
       · refine rExit ?_
         refine xThenX ?_
         refine xThenX ?_
         refine rOut ?_
         exact qLess [] (hj0 )
   · exact rFail


/-! ### haruspex/ir.At -/

def ir_At_env (F : Nat) : Env := envOf [(27, ir_Point_m F), (52, ir_block_m F)]

noncomputable def ir_At_R (F : Nat) := rK Try.prog TryG (ir_At_env F) Try.f33
noncomputable def ir_At_D (F : Nat) := dK Try.prog TryG (ir_At_env F) Try.f33

def ir_At_r7 (F : Nat) (x4 x6 x8 : Value) (K : Value → Value → M Value) : M Value :=
  bnd (opNil x8) fun v31 => bnd (opFieldAddr 0 v31) fun v32 => bnd (opLoad v32) fun v33 => bnd (opFieldAddr 2 x6) fun v34 => bnd (opLoad v34) fun v35 => bnd (opIndexAddr 6 v33 v35) fun v36 => bnd (opLoadN 6 v36) fun v37 => bnd (opStoreN 6 x4 v37) fun _ => K x4 (.bool true)

theorem ir_At_r7_ok (F : Nat) (x4 x6 x8 : Value) (K : Value → Value → M Value) : ir_At_r7 F x4 x6 x8 K = ir_At_D F 7 [0, 1, 2, 3, 4, 5, 6, 7, 8, 9] [(8, x8), (6, x6), (4, x4)] [4, 5] K := by kernel_rfl

theorem ir_At_r7_good : goodOrder (opsOf Try.f33 7) [0, 1, 2, 3, 4, 5, 6, 7, 8, 9] = true := by kernel_rfl

def ir_At_r6 (F : Nat) (x4 : Value) (K : Value → Value → M Value) : M Value :=
  bnd (opBuild [(.int .i64 (0)), (.int .i64 (0)), (.int .i64 (0)), (.int .i64 (0)), (.int .i64 (0)), (.slice none 0 0)] []) fun v29 => bnd (opStoreN 6 x4 v29) fun _ => K x4 (.bool false)

theorem ir_At_r6_ok (F : Nat) (x4 : Value) (K : Value → Value → M Value) : ir_At_r6 F x4 K = ir_At_R F 6 [(4, x4)] [4, 5] K := by kernel_rfl

def ir_At_r5 (F : Nat) (x4 x6 x8 : Value) (K : Value → Value → Value → Value → M Value) : M Value :=
  bnd (opFieldAddr 2 x6) fun v21 => bnd (opLoad v21) fun v22 => bnd (opNil x8) fun v24 => bnd (opFieldAddr 0 v24) fun v25 => bnd (opLoad v25) fun v26 => bnd (opLen v26) fun v27 => bnd (opBin .eql v22 v27) fun v28 => K x4 x6 x8 v28

theorem ir_At_r5_ok (F : Nat) (x4 x6 x8 : Value) (K : Value → Value → Value → Value → M Value) : ir_At_r5 F x4 x6 x8 K = ir_At_D F 5 [0, 1, 2, 3, 4, 5, 6, 7] [(8, x8), (6, x6), (4, x4)] [4, 6, 8, 28] K := by kernel_rfl

theorem ir_At_r5_good : goodOrder (opsOf Try.f33 5) [0, 1, 2, 3, 4, 5, 6, 7] = true := by kernel_rfl

def ir_At_r4 (F : Nat) (x0 x4 x6 : Value) (K : Value → Value → Value → M Value) : M Value :=
  bnd (opLoadN 3 x6) fun v19 => bnd (ir_block F x0 v19) fun v20 => K x4 x6 v20

theorem ir_At_r4_ok (F : Nat) (x0 x4 x6 : Value) (K : Value → Value → Value → M Value) : ir_At_r4 F x0 x4 x6 K = ir_At_R F 4 [(6, x6), (4, x4), (0, x0)] [4, 6, 8] K := by kernel_rfl

def ir_At_r3 (F : Nat) (x4 : Value) (K : Value → Value → M Value) : M Value :=
  bnd (opBuild [(.int .i64 (0)), (.int .i64 (0)), (.int .i64 (0)), (.int .i64 (0)), (.int .i64 (0)), (.slice none 0 0)] []) fun v17 => bnd (opStoreN 6 x4 v17) fun _ => K x4 (.bool false)

theorem ir_At_r3_ok (F : Nat) (x4 : Value) (K : Value → Value → M Value) : ir_At_r3 F x4 K = ir_At_R F 3 [(4, x4)] [4, 5] K := by kernel_rfl

def ir_At_r2 (F : Nat) (x0 x4 x6 x7 : Value) (K : Value → Value → Value → Value → M Value) : M Value :=
  bnd (opNot x7) fun v16 => K x0 x4 x6 v16

theorem ir_At_r2_ok (F : Nat) (x0 x4 x6 x7 : Value) (K : Value → Value → Value → Value → M Value) : ir_At_r2 F x0 x4 x6 x7 K = ir_At_R F 2 [(7, x7), (6, x6), (4, x4), (0, x0)] [0, 4, 6, 16] K := by kernel_rfl

def ir_At_r1 (F : Nat) (x0 x1 x4 : Value) (K : Value → Value → Value → Value → M Value) : M Value :=
  bnd (ir_Point F x0 x1) fun v12 => bnd (opExtract v12 0) fun v13 => bnd (opExtract v12 1) fun v14 => bnd (opPtr [(.int .i64 (0)), (.int .i64 (0)), (.int .i64 (0))]) fun v6 => bnd (opStoreN 3 v6 v13) fun _ => K x0 x4 v6 v14

theorem ir_At_r1_ok (F : Nat) (x0 x1 x4 : Value) (K : Value → Value → Value → Value → M Value) : ir_At_r1 F x0 x1 x4 K = ir_At_R F 1 [(4, x4), (1, x1), (0, x0)] [0, 4, 6, 7] K := by kernel_rfl

def ir_At_r0 (F : Nat) (x0 x1 : Value) (K : Value → Value → Value → M Value) : M Value :=
  bnd (opPtr [(.int .i64 (0)), (.int .i64 (0)), (.int .i64 (0)), (.int .i64 (0)), (.int .i64 (0)), (.slice none 0 0)]) fun v4 => K x0 x1 v4

theorem ir_At_r0_ok (F : Nat) (x0 x1 : Value) (K : Value → Value → Value → M Value) : ir_At_r0 F x0 x1 K = ir_At_R F 0 [(1, x1), (0, x0)] [0, 1, 4] K := by kernel_rfl

def ir_At (F : Nat) (x0 x1 : Value) : M Value :=
  ir_At_r0 F x0 x1 (fun x0 x1 x4 => ir_At_r1 F x0 x1 x4 (fun x0 x4 x6 x7 => ir_At_r2 F x0 x4 x6 x7 (fun x0 x4 x6 x16 => onB x16 (ir_At_r3 F x4 (fun x4 x5 => bnd (opLoadN 6 x4) fun r0 => tupK [r0, x5])) (ir_At_r4 F x0 x4 x6 (fun x4 x6 x8 => ir_At_r5 F x4 x6 x8 (fun x4 x6 x8 x28 => onB x28 (ir_At_r6 F x4 (fun x4 x5 => bnd (opLoadN 6 x4) fun r0 => tupK [r0, x5])) (ir_At_r7 F x4 x6 x8 (fun x4 x5 => bnd (opLoadN 6 x4) fun r0 => tupK [r0, x5]))))))))

def ir_At_m (F : Nat) : List Value → M Value
  | [x0, x1] => ir_At F x0 x1
  | _ => fail

theorem ir_At_body : Try.f33.body = some (.seq (.region 0 (opsOf Try.f33 0) false) (.seq (.region 1 (opsOf Try.f33 1) false) (.seq (.seq (.region 2 (opsOf Try.f33 2) false) (.cond (.tmp 16) (.seq (.region 3 (opsOf Try.f33 3) false) .ret) .skip)) (.seq (.region 4 (opsOf Try.f33 4) false) (.seq (.seq (.region 5 (opsOf Try.f33 5) true) (.cond (.tmp 28) (.seq (.region 6 (opsOf Try.f33 6) false) .ret) .skip)) (.seq (.region 7 (opsOf Try.f33 7) true) .ret)))))) := by kernel_rfl

theorem ir_At_ok (F : Nat) : Sim Try.prog TryG 33 (ir_At_m F) := by
 have hE : EnvOK Try.prog TryG (ir_At_env F) := (EnvOK.cons (ir_Point_ok F) (EnvOK.cons (ir_block_ok F) EnvOK.nil))
 refine Sim.of_body (E := ir_At_env F) Try.func33 ir_At_body Try.call33 ?_ ?_
 · intro args hl; unfold ir_At_m; split
   · exact absurd hl (Nat.not_lt.2 (Nat.le_of_ble_eq_true rfl))
   · rfl
 · intro args ρ h w z; unfold ir_At_m; split
   · rename_i x0 x1; show OKc _ _ [(0, x0), (1, x1)] _ _
     refine rSeq ?_
     refine cLess [1, 0] ?_
     refine xR hE [0, 1, 4] rfl (ir_At_r0_ok F _ _ _) ?_
     intro x0 x1 x4
     show OKq _ _ _ [(4, x4), (1, x1), (0, x0)] _
     refine rThen ?_
     refine rSeq ?_
     refine cLess [4, 1, 0] ?_
     refine xR hE [0, 4, 6, 7] rfl (ir_At_r1_ok F _ _ _ _) ?_
     intro x0 x4 x6 x7
     show OKq _ _ _ [(7, x7), (6, x6), (4, x4), (0, x0)] _
     refine rThen ?_
     refine rSeq ?_
     refine rSeq ?_
     refine cLess [7, 6, 4, 0] ?_
     refine xR hE [0, 4, 6, 16] rfl (ir_At_r2_ok F _ _ _ _ _) ?_
     intro x0 x4 x6 x16
     show OKq _ _ _ [(16, x16), (6, x6), (4, x4), (0, x0)] _
     refine rThen ?_
     refine xCond rfl rfl ?_ ?_
     · refine rSeq ?_
       refine cLess [4] ?_
       refine xR hE [4, 5] rfl (ir_At_r3_ok F _ _) ?_
       intro x4 x5
       show OKq _ _ _ [(5, x5), (4, x4)] _
       refine rThen ?_
       refine rRet ?_
       refine xThenR ?_
       exact rDone (.inr rfl) rfl
     · refine rSkip ?_
       refine rThen ?_
       refine rSeq ?_
       refine cLess [6, 4, 0] ?_
       refine xR hE [4, 6, 8] rfl (ir_At_r4_ok F _ _ _ _) ?_
       intro x4 x6 x8
       show OKq _ _ _ [(8, x8), (6, x6), (4, x4)] _
       refine rThen ?_
       refine rSeq ?_
       refine rSeq ?_
       refine cLess [8, 6, 4] ?_
       refine xD Trymix hE [4, 6, 8, 28] rfl ir_At_r5_good (ir_At_r5_ok F _ _ _ _) ?_
       intro x4 x6 x8 x28
       show OKq _ _ _ [(28, x28), (8, x8), (6, x6), (4, x4)] _
       refine rThen ?_
       refine xCond rfl rfl ?_ ?_
       · refine rSeq ?_
         refine cLess [4] ?_
         refine xR hE [4, 5] rfl (ir_At_r6_ok F _ _) ?_
         intro x4 x5
         show OKq _ _ _ [(5, x5), (4, x4)] _
         refine rThen ?_
         refine rRet ?_
         refine xThenR ?_
         exact rDone (.inr rfl) rfl
       · refine rSkip ?_
         refine rThen ?_
         refine rSeq ?_
         refine cLess [8, 6, 4] ?_
         refine xD Trymix hE [4, 5] rfl ir_At_r7_good (ir_At_r7_ok F _ _ _ _) ?_
         intro x4 x5
         show OKq _ _ _ [(5, x5), (4, x4)] _
         refine rThen ?_
         refine rRet ?_
         exact rDone (.inr rfl) rfl
   · exact rFail


/-! ### haruspex/ir.End -/

def ir_End_env (F : Nat) : Env := envOf [(27, ir_Point_m F), (52, ir_block_m F)]

noncomputable def ir_End_R (F : Nat) := rK Try.prog TryG (ir_End_env F) Try.f35
noncomputable def ir_End_D (F : Nat) := dK Try.prog TryG (ir_End_env F) Try.f35

def ir_End_r7 (F : Nat) (x7 : Value) (K : Value → M Value) : M Value :=
  K x7

theorem ir_End_r7_ok (F : Nat) (x7 : Value) (K : Value → M Value) : ir_End_r7 F x7 K = ir_End_R F 7 [(7, x7)] [4] K := by kernel_rfl

def ir_End_r6 (F : Nat) (K : Value → M Value) : M Value :=
  K (.pointer none)

theorem ir_End_r6_ok (F : Nat) (K : Value → M Value) : ir_End_r6 F K = ir_End_R F 6 [] [4] K := by kernel_rfl

def ir_End_r5 (F : Nat) (x5 x7 : Value) (K : Value → Value → M Value) : M Value :=
  bnd (opFieldAddr 2 x5) fun v19 => bnd (opLoad v19) fun v20 => bnd (opNil x7) fun v22 => bnd (opFieldAddr 0 v22) fun v23 => bnd (opLoad v23) fun v24 => bnd (opLen v24) fun v25 => bnd (opBin .lss v20 v25) fun v26 => K x7 v26

theorem ir_End_r5_ok (F : Nat) (x5 x7 : Value) (K : Value → Value → M Value) : ir_End_r5 F x5 x7 K = ir_End_D F 5 [0, 1, 2, 3, 4, 5, 6, 7] [(7, x7), (5, x5)] [7, 26] K := by kernel_rfl

theorem ir_End_r5_good : goodOrder (opsOf Try.f35 5) [0, 1, 2, 3, 4, 5, 6, 7] = true := by kernel_rfl

def ir_End_r4 (F : Nat) (x0 x5 : Value) (K : Value → Value → M Value) : M Value :=
  bnd (opLoadN 3 x5) fun v17 => bnd (ir_block F x0 v17) fun v18 => K x5 v18

theorem ir_End_r4_ok (F : Nat) (x0 x5 : Value) (K : Value → Value → M Value) : ir_End_r4 F x0 x5 K = ir_End_R F 4 [(5, x5), (0, x0)] [5, 7] K := by kernel_rfl

def ir_End_r3 (F : Nat) (K : Value → M Value) : M Value :=
  K (.pointer none)

theorem ir_End_r3_ok (F : Nat) (K : Value → M Value) : ir_End_r3 F K = ir_End_R F 3 [] [4] K := by kernel_rfl

def ir_End_r2 (F : Nat) (x0 x5 x6 : Value) (K : Value → Value → Value → M Value) : M Value :=
  bnd (opNot x6) fun v15 => K x0 x5 v15

theorem ir_End_r2_ok (F : Nat) (x0 x5 x6 : Value) (K : Value → Value → Value → M Value) : ir_End_r2 F x0 x5 x6 K = ir_End_R F 2 [(6, x6), (5, x5), (0, x0)] [0, 5, 15] K := by kernel_rfl

def ir_End_r1 (F : Nat) (x0 x1 : Value) (K : Value → Value → Value → M Value) : M Value :=
  bnd (ir_Point F x0 x1) fun v11 => bnd (opExtract v11 0) fun v12 => bnd (opExtract v11 1) fun v13 => bnd (opPtr [(.int .i64 (0)), (.int .i64 (0)), (.int .i64 (0))]) fun v5 => bnd (opStoreN 3 v5 v12) fun _ => K x0 v5 v13

theorem ir_End_r1_ok (F : Nat) (x0 x1 : Value) (K : Value → Value → Value → M Value) : ir_End_r1 F x0 x1 K = ir_End_R F 1 [(1, x1), (0, x0)] [0, 5, 6] K := by kernel_rfl

def ir_End_r0 (F : Nat) (x0 x1 : Value) (K : Value → Value → M Value) : M Value :=
  K x0 x1

theorem ir_End_r0_ok (F : Nat) (x0 x1 : Value) (K : Value → Value → M Value) : ir_End_r0 F x0 x1 K = ir_End_R F 0 [(1, x1), (0, x0)] [0, 1] K := by kernel_rfl

def ir_End (F : Nat) (x0 x1 : Value) : M Value :=
  ir_End_r0 F x0 x1 (fun x0 x1 => ir_End_r1 F x0 x1 (fun x0 x5 x6 => ir_End_r2 F x0 x5 x6 (fun x0 x5 x15 => onB x15 (ir_End_r3 F (fun x4 => ret x4)) (ir_End_r4 F x0 x5 (fun x5 x7 => ir_End_r5 F x5 x7 (fun x7 x26 => onB x26 (ir_End_r6 F (fun x4 => ret x4)) (ir_End_r7 F x7 (fun x4 => ret x4))))))))

def ir_End_m (F : Nat) : List Value → M Value
  | [x0, x1] => ir_End F x0 x1
  | _ => fail

theorem ir_End_body : Try.f35.body = some (.seq (.region 0 (opsOf Try.f35 0) false) (.seq (.region 1 (opsOf Try.f35 1) false) (.seq (.seq (.region 2 (opsOf Try.f35 2) false) (.cond (.tmp 15) (.seq (.region 3 (opsOf Try.f35 3) false) .ret) .skip)) (.seq (.region 4 (opsOf Try.f35 4) false) (.seq (.seq (.region 5 (opsOf Try.f35 5) true) (.cond (.tmp 26) (.seq (.region 6 (opsOf Try.f35 6) false) .ret) .skip)) (.seq (.region 7 (opsOf Try.f35 7) false) .ret)))))) := by kernel_rfl

theorem ir_End_ok (F : Nat) : Sim Try.prog TryG 35 (ir_End_m F) := by
 have hE : EnvOK Try.prog TryG (ir_End_env F) := (EnvOK.cons (ir_Point_ok F) (EnvOK.cons (ir_block_ok F) EnvOK.nil))
 refine Sim.of_body (E := ir_End_env F) Try.func35 ir_End_body Try.call35 ?_ ?_
 · intro args hl; unfold ir_End_m; split
   · exact absurd hl (Nat.not_lt.2 (Nat.le_of_ble_eq_true rfl))
   · rfl
 · intro args ρ h w z; unfold ir_End_m; split
   · rename_i x0 x1; show OKc _ _ [(0, x0), (1, x1)] _ _
     refine rSeq ?_
     refine cLess [1, 0] ?_
     refine xR hE [0, 1] rfl (ir_End_r0_ok F _ _ _) ?_
     intro x0 x1
     show OKq _ _ _ [(1, x1), (0, x0)] _
     refine rThen ?_
     refine rSeq ?_
     refine cLess [1, 0] ?_
     refine xR hE [0, 5, 6] rfl (ir_End_r1_ok F _ _ _) ?_
     intro x0 x5 x6
     show OKq _ _ _ [(6, x6), (5, x5), (0, x0)] _
     refine rThen ?_
     refine rSeq ?_
     refine rSeq ?_
     refine cLess [6, 5, 0] ?_
     refine xR hE [0, 5, 15] rfl (ir_End_r2_ok F _ _ _ _) ?_
     intro x0 x5 x15
     show OKq _ _ _ [(15, x15), (5, x5), (0, x0)] _
     refine rThen ?_
     refine xCond rfl rfl ?_ ?_
     · refine rSeq ?_
       refine cLess [] ?_
       refine xR hE [4] rfl (ir_End_r3_ok F _) ?_
       intro x4
       show OKq _ _ _ [(4, x4)] _
       refine rThen ?_
       refine rRet ?_
       refine xThenR ?_
       exact rDone (.inr rfl) rfl
     · refine rSkip ?_
       refine rThen ?_
       refine rSeq ?_
       refine cLess [5, 0] ?_
       refine xR hE [5, 7] rfl (ir_End_r4_ok F _ _ _) ?_
       intro x5 x7
       show OKq _ _ _ [(7, x7), (5, x5)] _
       refine rThen ?_
       refine rSeq ?_
       refine rSeq ?_
       refine cLess [7, 5] ?_
       refine xD Trymix hE [7, 26] rfl ir_End_r5_good (ir_End_r5_ok F _ _ _) ?_
       intro x7 x26
       show OKq _ _ _ [(26, x26), (7, x7)] _
       refine rThen ?_
       refine xCond rfl rfl ?_ ?_
       · refine rSeq ?_
         refine cLess [] ?_
         refine xR hE [4] rfl (ir_End_r6_ok F _) ?_
         intro x4
         show OKq _ _ _ [(4, x4)] _
         refine rThen ?_
         refine rRet ?_
         refine xThenR ?_
         exact rDone (.inr rfl) rfl
       · refine rSkip ?_
         refine rThen ?_
         refine rSeq ?_
         refine cLess [7] ?_
         refine xR hE [4] rfl (ir_End_r7_ok F _ _) ?_
         intro x4
         show OKq _ _ _ [(4, x4)] _
         refine rThen ?_
         refine rRet ?_
         exact rDone (.inr rfl) rfl
   · exact rFail


/-! ### haruspex/haruspexref8.Methods -/

def R8_Methods_env (F : Nat) : Env := envOf [(59, R8_Impl_m F), (60, R8_eq_m F)]

noncomputable def R8_Methods_R (F : Nat) := rK Try.prog TryG (R8_Methods_env F) Try.f40
noncomputable def R8_Methods_D (F : Nat) := dK Try.prog TryG (R8_Methods_env F) Try.f40

def R8_Methods_r19 (F : Nat) (K : Value → M Value) : M Value :=
  K (.bool true)

theorem R8_Methods_r19_ok (F : Nat) (K : Value → M Value) : R8_Methods_r19 F K = R8_Methods_R F 19 [] [2] K := by kernel_rfl

def R8_Methods_k0 (F : Nat) : M Value :=
  R8_Methods_r19 F (fun x2 => ret x2)

def R8_Methods_r3 (F : Nat) (x0 x3 : Value) (K : Value → Value → M Value) : M Value :=
  bnd (opBin .add x3 (.int .i64 (1))) fun v18 => K x0 v18

theorem R8_Methods_r3_ok (F : Nat) (x0 x3 : Value) (K : Value → Value → M Value) : R8_Methods_r3 F x0 x3 K = R8_Methods_R F 3 [(3, x3), (0, x0)] [0, 3] K := by kernel_rfl

def R8_Methods_k2 (F : Nat) (A1 : Value → Value → M Value) (x0 x3 : Value) : M Value :=
  R8_Methods_r3 F x0 x3 (fun x0 x3 => A1 x0 x3)

def R8_Methods_r10 (F : Nat) (x0 x3 x4 x5 x6 : Value) (K : Value → Value → Value → Value → Value → M Value) : M Value :=
  bnd (opBin .add x6 (.int .i64 (1))) fun v56 => K x0 x3 x4 x5 v56

theorem R8_Methods_r10_ok (F : Nat) (x0 x3 x4 x5 x6 : Value) (K : Value → Value → Value → Value → Value → M Value) : R8_Methods_r10 F x0 x3 x4 x5 x6 K = R8_Methods_R F 10 [(6, x6), (5, x5), (4, x4), (3, x3), (0, x0)] [0, 3, 4, 5, 6] K := by kernel_rfl

def R8_Methods_k4 (F : Nat) (A3 : Value → Value → Value → Value → Value → M Value) (x0 x3 x4 x5 x6 : Value) : M Value :=
  R8_Methods_r10 F x0 x3 x4 x5 x6 (fun x0 x3 x4 x5 x6 => A3 x0 x3 x4 x5 x6)

def R8_Methods_r16 (F : Nat) (x0 x3 x4 x5 x6 x7 x8 x9 : Value) (K : Value → Value → Value → Value → Value → Value → Value → Value → M Value) : M Value :=
  bnd (opBin .add x9 (.int .i64 (1))) fun v118 => K x0 x3 x4 x5 x6 x7 x8 v118

theorem R8_Methods_r16_ok (F : Nat) (x0 x3 x4 x5 x6 x7 x8 x9 : Value) (K : Value → Value → Value → Value → Value → Value → Value → Value → M Value) : R8_Methods_r16 F x0 x3 x4 x5 x6 x7 x8 x9 K = R8_Methods_R F 16 [(9, x9), (8, x8), (7, x7), (6, x6), (5, x5), (4, x4), (3, x3), (0, x0)] [0, 3, 4, 5, 6, 7, 8, 9] K := by kernel_rfl

def R8_Methods_r18 (F : Nat) (K : Value → M Value) : M Value :=
  K (.bool false)

theorem R8_Methods_r18_ok (F : Nat) (K : Value → M Value) : R8_Methods_r18 F K = R8_Methods_R F 18 [] [2] K := by kernel_rfl

def R8_Methods_r17 (F : Nat) (x0 x3 x4 x5 x6 x7 x8 x9 : Value) (K : Value → Value → Value → Value → Value → Value → Value → Value → Value → M Value) : M Value :=
  bnd (opFieldAddr 0 x7) fun v119 => bnd (opLoad v119) fun v120 => bnd (opBin .add x9 (.int .i64 (1))) fun v122 => bnd (opIndexAddr 2 v120 v122) fun v123 => bnd (opLoadN 2 v123) fun v124 => bnd (opFieldAddr 0 x8) fun v125 => bnd (opLoad v125) fun v126 => bnd (opIndexAddr 2 v126 x9) fun v128 => bnd (opLoadN 2 v128) fun v129 => bnd (R8_eq F v124 v129) fun v130 => bnd (opNot v130) fun v131 => K x0 x3 x4 x5 x6 x7 x8 x9 v131

theorem R8_Methods_r17_ok (F : Nat) (x0 x3 x4 x5 x6 x7 x8 x9 : Value) (K : Value → Value → Value → Value → Value → Value → Value → Value → Value → M Value) : R8_Methods_r17 F x0 x3 x4 x5 x6 x7 x8 x9 K = R8_Methods_D F 17 [0, 1, 2, 3, 4, 5, 6, 7, 8, 9, 10, 11, 12] [(9, x9), (8, x8), (7, x7), (6, x6), (5, x5), (4, x4), (3, x3), (0, x0)] [0, 3, 4, 5, 6, 7, 8, 9, 131] K := by kernel_rfl

theorem R8_Methods_r17_good : goodOrder (opsOf Try.f40 17) [0, 1, 2, 3, 4, 5, 6, 7, 8, 9, 10, 11, 12] = true := by kernel_rfl

def R8_Methods_r15 (F : Nat) (x0 x3 x4 x5 x6 x7 x8 x9 : Value) (K : Value → Value → Value → Value → Value → Value → Value → Value → Value → M Value) : M Value :=
  bnd (opFieldAddr 0 x8) fun v113 => bnd (opLoad v113) fun v114 => bnd (opLen v114) fun v115 => bnd (opBin .lss x9 v115) fun v116 => K x0 x3 x4 x5 x6 x7 x8 x9 v116

theorem R8_Methods_r15_ok (F : Nat) (x0 x3 x4 x5 x6 x7 x8 x9 : Value) (K : Value → Value → Value → Value → Value → Value → Value → Value → Value → M Value) : R8_Methods_r15 F x0 x3 x4 x5 x6 x7 x8 x9 K = R8_Methods_R F 15 [(9, x9), (8, x8), (7, x7), (6, x6), (5, x5), (4, x4), (3, x3), (0, x0)] [0, 3, 4, 5, 6, 7, 8, 9, 116] K := by kernel_rfl

def R8_Methods_b5 (F : Nat) (E5_4 : Value → Value → Value → Value → Value → M Value) (A5 : Value → Value → Value → Value → Value → Value → Value → Value → M Value) (x0 x3 x4 x5 x6 x7 x8 x9 : Value) : M Value :=
  R8_Methods_r15 F x0 x3 x4 x5 x6 x7 x8 x9 (fun x0 x3 x4 x5 x6 x7 x8 x9 x116 => onB x116 (R8_Methods_r17 F x0 x3 x4 x5 x6 x7 x8 x9 (fun x0 x3 x4 x5 x6 x7 x8 x9 x131 => onB x131 (R8_Methods_r18 F (fun x2 => ret x2)) (R8_Methods_r16 F x0 x3 x4 x5 x6 x7 x8 x9 (fun x0 x3 x4 x5 x6 x7 x8 x9 => A5 x0 x3 x4 x5 x6 x7 x8 x9)))) (E5_4 x0 x3 x4 x5 x6))

def R8_Methods_l5 (F : Nat) (E5_4 : Value → Value → Value → Value → Value → M Value) : Nat → Value → Value → Value → Value → Value → Value → Value → Value → M Value
  | 0, _, _, _, _, _, _, _, _ => fail
  | k5 + 1, x0, x3, x4, x5, x6, x7, x8, x9 => R8_Methods_b5 F E5_4 (R8_Methods_l5 F E5_4 k5) x0 x3 x4 x5 x6 x7 x8 x9

theorem R8_Methods_l5_s (F : Nat) (E5_4 : Value → Value → Value → Value → Value → M Value) (k5 : Nat) (x0 x3 x4 x5 x6 x7 x8 x9 : Value) : R8_Methods_l5 F E5_4 (k5 + 1) x0 x3 x4 x5 x6 x7 x8 x9 = R8_Methods_b5 F E5_4 (R8_Methods_l5 F E5_4 k5) x0 x3 x4 x5 x6 x7 x8 x9 := rfl

def R8_Methods_r14 (F : Nat) (x0 x3 x4 x5 x6 x7 x8 : Value) (K : Value → Value → Value → Value → Value → Value → Value → Value → M Value) : M Value :=
  K x0 x3 x4 x5 x6 x7 x8 (.int .i64 (0))

theorem R8_Methods_r14_ok (F : Nat) (x0 x3 x4 x5 x6 x7 x8 : Value) (K : Value → Value → Value → Value → Value → Value → Value → Value → M Value) : R8_Methods_r14 F x0 x3 x4 x5 x6 x7 x8 K = R8_Methods_R F 14 [(8, x8), (7, x7), (6, x6), (5, x5), (4, x4), (3, x3), (0, x0)] [0, 3, 4, 5, 6, 7, 8, 9] K := by kernel_rfl

def R8_Methods_r13 (F : Nat) (K : Value → M Value) : M Value :=
  K (.bool false)

theorem R8_Methods_r13_ok (F : Nat) (K : Value → M Value) : R8_Methods_r13 F K = R8_Methods_R F 13 [] [2] K := by kernel_rfl

def R8_Methods_r12 (F : Nat) (x0 x3 x4 x5 x6 x7 x8 : Value) (K : Value → Value → Value → Value → Value → Value → Value → Value → M Value) : M Value :=
  bnd (opFieldAddr 0 x7) fun v85 => bnd (opLoad v85) fun v86 => bnd (opLen v86) fun v87 => bnd (opFieldAddr 0 x8) fun v88 => bnd (opLoad v88) fun v89 => bnd (opLen v89) fun v90 => bnd (opBin .add v90 (.int .i64 (1))) fun v91 => bnd (opBin .neq v87 v91) fun v92 => onB v92 (K x0 x3 x4 x5 x6 x7 x8 (.bool true)) (bnd (opFieldAddr 0 x7) fun v94 => bnd (opLoad v94) fun v95 => bnd (opIndexAddr 2 v95 (.int .i64 (0))) fun v96 => bnd (opLoadN 2 v96) fun v97 => bnd (opFieldAddr 0 x4) fun v98 => bnd (opLoad v98) fun v99 => bnd (opBuild [(.int .i64 (0)), (.int .i64 (0))] [(0, 1, false, (.int .i64 (1))), (1, 1, false, v99)]) fun v100 => bnd (R8_eq F v97 v100) fun v101 => bnd (opNot v101) fun v102 => onB v102 (K x0 x3 x4 x5 x6 x7 x8 (.bool true)) (bnd (opFieldAddr 1 x7) fun v105 => bnd (opLoadN 2 v105) fun v106 => bnd (opFieldAddr 1 x8) fun v107 => bnd (opLoadN 2 v107) fun v108 => bnd (R8_eq F v106 v108) fun v109 => bnd (opNot v109) fun v110 => K x0 x3 x4 x5 x6 x7 x8 v110))

theorem R8_Methods_r12_ok (F : Nat) (x0 x3 x4 x5 x6 x7 x8 : Value) (K : Value → Value → Value → Value → Value → Value → Value → Value → M Value) : R8_Methods_r12 F x0 x3 x4 x5 x6 x7 x8 K = R8_Methods_D F 12 [0, 1, 2, 3, 4, 5, 6, 7, 8, 9, 10, 11, 12, 13, 14, 15, 16, 17, 18, 19, 20, 21, 22, 23, 24, 25, 26] [(8, x8), (7, x7), (6, x6), (5, x5), (4, x4), (3, x3), (0, x0)] [0, 3, 4, 5, 6, 7, 8, 111] K := by kernel_rfl

theorem R8_Methods_r12_good : goodOrder (opsOf Try.f40 12) [0, 1, 2, 3, 4, 5, 6, 7, 8, 9, 10, 11, 12, 13, 14, 15, 16, 17, 18, 19, 20, 21, 22, 23, 24, 25, 26] = true := by kernel_rfl

def R8_Methods_r11 (F : Nat) (x0 x3 x4 x5 x6 : Value) (K : Value → Value → Value → Value → Value → Value → Value → M Value) : M Value :=
  bnd (opNil x0) fun v58 => bnd (opFieldAddr 1 v58) fun v59 => bnd (opLoad v59) fun v60 => bnd (opNil x0) fun v62 => bnd (opFieldAddr 4 v62) fun v63 => bnd (opLoad v63) fun v64 => bnd (opFieldAddr 2 x4) fun v65 => bnd (opLoad v65) fun v66 => bnd (opIndexAddr 1 v66 x6) fun v68 => bnd (opLoad v68) fun v69 => bnd (opIndexAddr 3 v64 v69) fun v70 => bnd (opFieldAddr 0 v70) fun v71 => bnd (opLoad v71) fun v72 => bnd (opIndexAddr 3 v60 v72) fun v73 => bnd (opLoadN 3 v73) fun v74 => bnd (opNil x0) fun v76 => bnd (opFieldAddr 1 v76) fun v77 => bnd (opLoad v77) fun v78 => bnd (opIndexAddr 1 x5 x6) fun v81 => bnd (opLoad v81) fun v82 => bnd (opIndexAddr 3 v78 v82) fun v83 => bnd (opLoadN 3 v83) fun v84 => bnd (opPtr [(.slice none 0 0), (.int .i64 (0)), (.int .i64 (0))]) fun v7 => bnd (opPtr [(.slice none 0 0), (.int .i64 (0)), (.int .i64 (0))]) fun v8 => bnd (opStoreN 3 v7 v74) fun _ => bnd (opChk false v77 v78) fun _ => bnd (opChk false v81 v82) fun _ => bnd (opChk true v83 v84) fun _ => bnd (opStoreN 3 v8 v84) fun _ => K x0 x3 x4 x5 x6 v7 v8

theorem R8_Methods_r11_ok (F : Nat) (x0 x3 x4 x5 x6 : Value) (K : Value → Value → Value → Value → Value → Value → Value → M Value) : R8_Methods_r11 F x0 x3 x4 x5 x6 K = R8_Methods_D F 11 [0, 1, 2, 3, 4, 5, 6, 7, 8, 9, 10, 11, 12, 13, 14, 15, 16, 17, 18, 19, 20, 21, 22, 23, 24, 25, 26, 27, 28, 29, 30, 31] [(6, x6), (5, x5), (4, x4), (3, x3), (0, x0)] [0, 3, 4, 5, 6, 7, 8] K := by kernel_rfl

theorem R8_Methods_r11_good : goodOrder (opsOf Try.f40 11) [0, 1, 2, 3, 4, 5, 6, 7, 8, 9, 10, 11, 12, 13, 14, 15, 16, 17, 18, 19, 20, 21, 22, 23, 24, 25, 26, 27, 28, 29, 30, 31] = true := by kernel_rfl

def R8_Methods_r9 (F : Nat) (x0 x3 x4 x5 x6 : Value) (K : Value → Value → Value → Value → Value → Value → M Value) : M Value :=
  bnd (opLen x5) fun v53 => bnd (opBin .lss x6 v53) fun v54 => K x0 x3 x4 x5 x6 v54

theorem R8_Methods_r9_ok (F : Nat) (x0 x3 x4 x5 x6 : Value) (K : Value → Value → Value → Value → Value → Value → M Value) : R8_Methods_r9 F x0 x3 x4 x5 x6 K = R8_Methods_R F 9 [(6, x6), (5, x5), (4, x4), (3, x3), (0, x0)] [0, 3, 4, 5, 6, 54] K := by kernel_rfl

def R8_Methods_b3 (F : Nat) (E3_2 : Value → Value → M Value) (A3 : Value → Value → Value → Value → Value → M Value) (x0 x3 x4 x5 x6 : Value) : M Value :=
  R8_Methods_r9 F x0 x3 x4 x5 x6 (fun x0 x3 x4 x5 x6 x54 => onB x54 (R8_Methods_r11 F x0 x3 x4 x5 x6 (fun x0 x3 x4 x5 x6 x7 x8 => R8_Methods_r12 F x0 x3 x4 x5 x6 x7 x8 (fun x0 x3 x4 x5 x6 x7 x8 x111 => onB x111 (R8_Methods_r13 F (fun x2 => ret x2)) (R8_Methods_r14 F x0 x3 x4 x5 x6 x7 x8 (fun x0 x3 x4 x5 x6 x7 x8 x9 => R8_Methods_l5 F (fun x0 x3 x4 x5 x6 => R8_Methods_k4 F A3 x0 x3 x4 x5 x6) F x0 x3 x4 x5 x6 x7 x8 x9))))) (E3_2 x0 x3))

def R8_Methods_l3 (F : Nat) (E3_2 : Value → Value → M Value) : Nat → Value → Value → Value → Value → Value → M Value
  | 0, _, _, _, _, _ => fail
  | k3 + 1, x0, x3, x4, x5, x6 => R8_Methods_b3 F E3_2 (R8_Methods_l3 F E3_2 k3) x0 x3 x4 x5 x6

theorem R8_Methods_l3_s (F : Nat) (E3_2 : Value → Value → M Value) (k3 : Nat) (x0 x3 x4 x5 x6 : Value) : R8_Methods_l3 F E3_2 (k3 + 1) x0 x3 x4 x5 x6 = R8_Methods_b3 F E3_2 (R8_Methods_l3 F E3_2 k3) x0 x3 x4 x5 x6 := rfl

def R8_Methods_r8 (F : Nat) (x0 x3 x4 x5 : Value) (K : Value → Value → Value → Value → Value → M Value) : M Value :=
  K x0 x3 x4 x5 (.int .i64 (0))

theorem R8_Methods_r8_ok (F : Nat) (x0 x3 x4 x5 : Value) (K : Value → Value → Value → Value → Value → M Value) : R8_Methods_r8 F x0 x3 x4 x5 K = R8_Methods_R F 8 [(5, x5), (4, x4), (3, x3), (0, x0)] [0, 3, 4, 5, 6] K := by kernel_rfl

def R8_Methods_r7 (F : Nat) (K : Value → M Value) : M Value :=
  K (.bool false)

theorem R8_Methods_r7_ok (F : Nat) (K : Value → M Value) : R8_Methods_r7 F K = R8_Methods_R F 7 [] [2] K := by kernel_rfl

def R8_Methods_r6 (F : Nat) (x0 x3 x4 x5 : Value) (K : Value → Value → Value → Value → Value → M Value) : M Value :=
  bnd (opFieldAddr 2 x4) fun v35 => bnd (opLoad v35) fun v36 => bnd (opLen v36) fun v37 => bnd (opLen x5) fun v39 => bnd (opBin .neq v37 v39) fun v40 => onB v40 (K x0 x3 x4 x5 (.bool true)) (bnd (opFieldAddr 0 x4) fun v43 => bnd (opLoad v43) fun v44 => bnd (opFieldAddr 1 x4) fun v45 => bnd (opLoad v45) fun v46 => bnd (R8_Impl F x0 v44 v46) fun v47 => bnd (opBin .neq v47 x3) fun v49 => K x0 x3 x4 x5 v49)

theorem R8_Methods_r6_ok (F : Nat) (x0 x3 x4 x5 : Value) (K : Value → Value → Value → Value → Value → M Value) : R8_Methods_r6 F x0 x3 x4 x5 K = R8_Methods_R F 6 [(5, x5), (4, x4), (3, x3), (0, x0)] [0, 3, 4, 5, 50] K := by kernel_rfl

def R8_Methods_r5 (F : Nat) (x0 x3 x4 : Value) (K : Value → Value → Value → Value → M Value) : M Value :=
  bnd (opNil x0) fun v27 => bnd (opFieldAddr 2 v27) fun v28 => bnd (opLoad v28) fun v29 => bnd (opFieldAddr 1 x4) fun v30 => bnd (opLoad v30) fun v31 => bnd (opIndexAddr 1 v29 v31) fun v32 => bnd (opFieldAddr 0 v32) fun v33 => bnd (opLoad v33) fun v34 => K x0 x3 x4 v34

theorem R8_Methods_r5_ok (F : Nat) (x0 x3 x4 : Value) (K : Value → Value → Value → Value → M Value) : R8_Methods_r5 F x0 x3 x4 K = R8_Methods_D F 5 [0, 1, 2, 3, 4, 5, 6, 7, 8, 9] [(4, x4), (3, x3), (0, x0)] [0, 3, 4, 5] K := by kernel_rfl

theorem R8_Methods_r5_good : goodOrder (opsOf Try.f40 5) [0, 1, 2, 3, 4, 5, 6, 7, 8, 9] = true := by kernel_rfl

def R8_Methods_r4 (F : Nat) (x0 x3 : Value) (K : Value → Value → Value → M Value) : M Value :=
  bnd (opNil x0) fun v20 => bnd (opFieldAddr 3 v20) fun v21 => bnd (opLoad v21) fun v22 => bnd (opIndexAddr 3 v22 x3) fun v24 => bnd (opLoadN 3 v24) fun v25 => bnd (opPtr [(.int .i64 (0)), (.int .i64 (0)), (.slice none 0 0)]) fun v4 => bnd (opStoreN 3 v4 v25) fun _ => K x0 x3 v4

theorem R8_Methods_r4_ok (F : Nat) (x0 x3 : Value) (K : Value → Value → Value → M Value) : R8_Methods_r4 F x0 x3 K = R8_Methods_R F 4 [(3, x3), (0, x0)] [0, 3, 4] K := by kernel_rfl

def R8_Methods_r2 (F : Nat) (x0 x3 : Value) (K : Value → Value → Value → M Value) : M Value :=
  bnd (opNil x0) fun v12 => bnd (opFieldAddr 3 v12) fun v13 => bnd (opLoad v13) fun v14 => bnd (opLen v14) fun v15 => bnd (opBin .lss x3 v15) fun v16 => K x0 x3 v16

theorem R8_Methods_r2_ok (F : Nat) (x0 x3 : Value) (K : Value → Value → Value → M Value) : R8_Methods_r2 F x0 x3 K = R8_Methods_R F 2 [(3, x3), (0, x0)] [0, 3, 16] K := by kernel_rfl

def R8_Methods_b1 (F : Nat) (E1_0 : M Value) (A1 : Value → Value → M Value) (x0 x3 : Value) : M Value :=
  R8_Methods_r2 F x0 x3 (fun x0 x3 x16 => onB x16 (R8_Methods_r4 F x0 x3 (fun x0 x3 x4 => R8_Methods_r5 F x0 x3 x4 (fun x0 x3 x4 x5 => R8_Methods_r6 F x0 x3 x4 x5 (fun x0 x3 x4 x5 x50 => onB x50 (R8_Methods_r7 F (fun x2 => ret x2)) (R8_Methods_r8 F x0 x3 x4 x5 (fun x0 x3 x4 x5 x6 => R8_Methods_l3 F (fun x0 x3 => R8_Methods_k2 F A1 x0 x3) F x0 x3 x4 x5 x6)))))) (E1_0 ))

def R8_Methods_l1 (F : Nat) (E1_0 : M Value) : Nat → Value → Value → M Value
  | 0, _, _ => fail
  | k1 + 1, x0, x3 => R8_Methods_b1 F E1_0 (R8_Methods_l1 F E1_0 k1) x0 x3

theorem R8_Methods_l1_s (F : Nat) (E1_0 : M Value) (k1 : Nat) (x0 x3 : Value) : R8_Methods_l1 F E1_0 (k1 + 1) x0 x3 = R8_Methods_b1 F E1_0 (R8_Methods_l1 F E1_0 k1) x0 x3 := rfl

def R8_Methods_r1 (F : Nat) (x0 : Value) (K : Value → Value → M Value) : M Value :=
  K x0 (.int .i64 (0))

theorem R8_Methods_r1_ok (F : Nat) (x0 : Value) (K : Value → Value → M Value) : R8_Methods_r1 F x0 K = R8_Methods_R F 1 [(0, x0)] [0, 3] K := by kernel_rfl

def R8_Methods_r0 (F : Nat) (x0 : Value) (K : Value → M Value) : M Value :=
  K x0

theorem R8_Methods_r0_ok (F : Nat) (x0 : Value) (K : Value → M Value) : R8_Methods_r0 F x0 K = R8_Methods_R F 0 [(0, x0)] [0] K := by kernel_rfl

def R8_Methods (F : Nat) (x0 : Value) : M Value :=
  R8_Methods_r0 F x0 (fun x0 => R8_Methods_r1 F x0 (fun x0 x3 => R8_Methods_l1 F (R8_Methods_k0 F ) F x0 x3))

def R8_Methods_m (F : Nat) : List Value → M Value
  | [x0] => R8_Methods F x0
  | _ => fail

theorem R8_Methods_body : Try.f40.body = some (.seq (.region 0 (opsOf Try.f40 0) false) (.seq (.seq (.region 1 (opsOf Try.f40 1) false) (.block 0 (.loop (.seq (.seq (.region 2 (opsOf Try.f40 2) false) (.cond (.tmp 16) .skip (.exit 0))) (.seq (.block 1 (.seq (.region 4 (opsOf Try.f40 4) false) (.seq (.region 5 (opsOf Try.f40 5) true) (.seq (.seq (.region 6 (opsOf Try.f40 6) false) (.cond (.tmp 50) (.seq (.region 7 (opsOf Try.f40 7) false) .ret) .skip)) (.seq (.region 8 (opsOf Try.f40 8) false) (.block 2 (.loop (.seq (.seq (.region 9 (opsOf Try.f40 9) false) (.cond (.tmp 54) .skip (.exit 2))) (.seq (.block 3 (.seq (.region 11 (opsOf Try.f40 11) true) (.seq (.seq (.region 12 (opsOf Try.f40 12) true) (.cond (.tmp 111) (.seq (.region 13 (opsOf Try.f40 13) false) .ret) .skip)) (.seq (.region 14 (opsOf Try.f40 14) false) (.block 4 (.loop (.seq (.seq (.region 15 (opsOf Try.f40 15) false) (.cond (.tmp 116) .skip (.exit 4))) (.seq (.block 5 (.seq (.region 17 (opsOf Try.f40 17) true) (.cond (.tmp 131) (.seq (.region 18 (opsOf Try.f40 18) false) .ret) .skip))) (.region 16 (opsOf Try.f40 16) false))))))))) (.region 10 (opsOf Try.f40 10) false)))))))))) (.region 3 (opsOf Try.f40 3) false)))))) (.seq (.region 19 (opsOf Try.f40 19) false) .ret))) := by kernel_rfl

theorem R8_Methods_ok (F : Nat) : Sim Try.prog TryG 40 (R8_Methods_m F) := by
 have hE : EnvOK Try.prog TryG (R8_Methods_env F) := (EnvOK.cons (R8_Impl_ok F) (EnvOK.cons (R8_eq_ok F) EnvOK.nil))
 refine Sim.of_body (E := R8_Methods_env F) Try.func40 R8_Methods_body Try.call40 ?_ ?_
 · intro args hl; unfold R8_Methods_m; split
   · exact absurd hl (Nat.not_lt.2 (Nat.le_of_ble_eq_true rfl))
   · rfl
 · intro args ρ h w z; unfold R8_Methods_m; split
   · rename_i x0; show OKc _ _ [(0, x0)] _ _
     refine rSeq ?_
     refine cLess [0] ?_
     refine xR hE [0] rfl (R8_Methods_r0_ok F _ _) ?_
     intro x0
     show OKq _ _ _ [(0, x0)] _
     refine rThen ?_
     refine xSeq [] (R8_Methods_k0 F ) ?_ fun hj0 => ?_
     · show OKc _ _ [] _ _
       refine rSeq ?_
       refine cLess [] ?_
       refine xR hE [2] rfl (R8_Methods_r19_ok F _) ?_
       intro x2
       show OKq _ _ _ [(2, x2)] _
       refine rThen ?_
       refine rRet ?_
       exact rDone (.inr rfl) rfl
     · refine rSeq ?_
       refine cLess [0] ?_
       refine xR hE [0, 3] rfl (R8_Methods_r1_ok F _ _) ?_
       intro x0 x3
       show OKq _ _ _ [(3, x3), (0, x0)] _
       refine rThen ?_
       refine rBlock ?_
       refine cLess [3, 0] ?_
       refine xLoopAt [0, 3] [] (fun k1 => R8_Methods_l1 F (R8_Methods_k0 F ) k1) F [x0, x3] rfl rfl (fun _ _ => rfl) fun I hI1 k1 => ?_
       intro x0 x3
       show OKc _ _ [(3, x3), (0, x0)] _ _
       refine cAs (R8_Methods_l1_s F _ _ _ _) ?_
       refine rSeq ?_
       refine rSeq ?_
       refine cLess [3, 0] ?_
       refine xR hE [0, 3, 16] rfl (R8_Methods_r2_ok F _ _ _) ?_
       intro x0 x3 x16
       show OKq _ _ _ [(16, x16), (3, x3), (0, x0)] _
       refine rThen ?_
       refine xCond rfl rfl ?_ ?_
       · refine rSkip ?_
         refine rThen ?_
         refine xSeq [0, 3] (R8_Methods_k2 F (R8_Methods_l1 F (R8_Methods_k0 F ) k1) ) ?_ fun hj2 => ?_
         · intro x0 x3
           show OKc _ _ [(3, x3), (0, x0)] _ _
           refine cLess [3, 0] ?_
           refine xR hE [0, 3] rfl (R8_Methods_r3_ok F _ _ _) ?_
           intro x0 x3
           show OKq _ _ _ [(3, x3), (0, x0)] _
           exact qLess [3, 0] (hI1 k1 x0 x3)
         · refine rBlock ?_
           refine rSeq ?_
           refine cLess [3, 0] ?_
           refine xR hE [0, 3, 4] rfl (R8_Methods_r4_ok F _ _ _) ?_
           intro x0 x3 x4
           show OKq _ _ _ [(4, x4), (3, x3), (0, x0)] _
           refine rThen ?_
           refine rSeq ?_
           refine cLess [4, 3, 0] ?_
           refine xD Trymix hE [0, 3, 4, 5] rfl R8_Methods_r5_good (R8_Methods_r5_ok F _ _ _ _) ?_
           intro x0 x3 x4 x5
           show OKq _ _ _ [(5, x5), (4, x4), (3, x3), (0, x0)] _
           refine rThen ?_
           refine rSeq ?_
           refine rSeq ?_
           refine cLess [5, 4, 3, 0] ?_
           refine xR hE [0, 3, 4, 5, 50] rfl (R8_Methods_r6_ok F _ _ _ _ _) ?_
           intro x0 x3 x4 x5 x50
           show OKq _ _ _ [(50, x50), (5, x5), (4, x4), (3, x3), (0, x0)] _
           refine rThen ?_
           refine xCond rfl rfl ?_ ?_
           · refine rSeq ?_
             refine cLess [] ?_
             refine xR hE [2] rfl (R8_Methods_r7_ok F _) ?_
             intro x2
             show OKq _ _ _ [(2, x2)] _
             refine rThen ?_
             refine rRet ?_
             refine xThenR ?_
             refine xBlockR ?_
             refine xThenR ?_
             refine xThenR ?_
             refine xBlockR ?_
             refine xThenR ?_
             exact rDone (.inr rfl) rfl
           · refine rSkip ?_
             refine rThen ?_
             refine rSeq ?_
             refine cLess [5, 4, 3, 0] ?_
             refine xR hE [0, 3, 4, 5, 6] rfl (R8_Methods_r8_ok F _ _ _ _ _) ?_
             intro x0 x3 x4 x5 x6
             show OKq _ _ _ [(6, x6), (5, x5), (4, x4), (3, x3), (0, x0)] _
             refine rThen ?_
             refine rBlock ?_
             refine cLess [6, 5, 4, 3, 0] ?_
             refine xLoopAt [0, 3, 4, 5, 6] [] (fun k3 => R8_Methods_l3 F (fun x0 x3 => R8_Methods_k2 F (R8_Methods_l1 F (R8_Methods_k0 F ) k1) x0 x3) k3) F [x0, x3, x4, x5, x6] rfl rfl (fun _ _ _ _ _ => rfl) fun I hI3 k3 => ?_
             intro x0 x3 x4 x5 x6
             show OKc _ _ [(6, x6), (5, x5), (4, x4), (3, x3), (0, x0)] _ _
             refine cAs (R8_Methods_l3_s F _ _ _ _ _ _ _) ?_
             refine rSeq ?_
             refine rSeq ?_
             refine cLess [6, 5, 4, 3, 0] ?_
             refine xR hE [0, 3, 4, 5, 6, 54] rfl (R8_Methods_r9_ok F _ _ _ _ _ _) ?_
             intro x0 x3 x4 x5 x6 x54
             show OKq _ _ _ [(54, x54), (6, x6), (5, x5), (4, x4), (3, x3), (0, x0)] _
             refine rThen ?_
             refine xCond rfl rfl ?_ ?_
             · refine rSkip ?_
               refine rThen ?_
               refine xSeq [0, 3, 4, 5, 6] (R8_Methods_k4 F (R8_Methods_l3 F (fun x0 x3 => R8_Methods_k2 F (R8_Methods_l1 F (R8_Methods_k0 F ) k1) x0 x3) k3) ) ?_ fun hj4 => ?_
               · intro x0 x3 x4 x5 x6
                 show OKc _ _ [(6, x6), (5, x5), (4, x4), (3, x3), (0, x0)] _ _
                 refine cLess [6, 5, 4, 3, 0] ?_
                 refine xR hE [0, 3, 4, 5, 6] rfl (R8_Methods_r10_ok F _ _ _ _ _ _) ?_
                 intro x0 x3 x4 x5 x6
                 show OKq _ _ _ [(6, x6), (5, x5), (4, x4), (3, x3), (0, x0)] _
                 exact qLess [6, 5, 4, 3, 0] (hI3 k3 x0 x3 x4 x5 x6)
               · refine rBlock ?_
                 refine rSeq ?_
                 refine cLess [6, 5, 4, 3, 0] ?_
                 refine xD Trymix hE [0, 3, 4, 5, 6, 7, 8] rfl R8_Methods_r11_good (R8_Methods_r11_ok F _ _ _ _ _ _) ?_
                 intro x0 x3 x4 x5 x6 x7 x8
                 show OKq _ _ _ [(8, x8), (7, x7), (6, x6), (5, x5), (4, x4), (3, x3), (0, x0)] _
                 refine rThen ?_
                 refine rSeq ?_
                 refine rSeq ?_
                 refine cLess [8, 7, 6, 5, 4, 3, 0] ?_
                 refine xD Trymix hE [0, 3, 4, 5, 6, 7, 8, 111] rfl R8_Methods_r12_good (R8_Methods_r12_ok F _ _ _ _ _ _ _ _) ?_
                 intro x0 x3 x4 x5 x6 x7 x8 x111
                 show OKq _ _ _ [(111, x111), (8, x8), (7, x7), (6, x6), (5, x5), (4, x4), (3, x3), (0, x0)] _
                 refine rThen ?_
                 refine xCond rfl rfl ?_ ?_
                 · refine rSeq ?_
                   refine cLess [] ?_
                   refine xR hE [2] rfl (R8_Methods_r13_ok F _) ?_
                   intro x2
                   show OKq _ _ _ [(2, x2)] _
                   refine rThen ?_
                   refine rRet ?_
                   refine xThenR ?_
                   refine xBlockR ?_
                   refine xThenR ?_
                   refine xThenR ?_
                   refine xBlockR ?_
                   refine xBlockR ?_
                   refine xThenR ?_
                   refine xThenR ?_
                   refine xBlockR ?_
                   refine xThenR ?_
                   exact rDone (.inr rfl) rfl
                 · refine rSkip ?_
                   refine rThen ?_
                   refine rSeq ?_
                   refine cLess [8, 7, 6, 5, 4, 3, 0] ?_
                   refine xR hE [0, 3, 4, 5, 6, 7, 8, 9] rfl (R8_Methods_r14_ok F _ _ _ _ _ _ _ _) ?_
                   intro x0 x3 x4 x5 x6 x7 x8 x9
                   show OKq _ _ _ [(9, x9), (8, x8), (7, x7), (6, x6), (5, x5), (4, x4), (3, x3), (0, x0)] _
                   refine rThen ?_
                   refine rBlock ?_
                   refine cLess [9, 8, 7, 6, 5, 4, 3, 0] ?_
                   refine xLoopAt [0, 3, 4, 5, 6, 7, 8, 9] [] (fun k5 => R8_Methods_l5 F (fun x0 x3 x4 x5 x6 => R8_Methods_k4 F (R8_Methods_l3 F (fun x0 x3 => R8_Methods_k2 F (R8_Methods_l1 F (R8_Methods_k0 F ) k1) x0 x3) k3) x0 x3 x4 x5 x6) k5) F [x0, x3, x4, x5, x6, x7, x8, x9] rfl rfl (fun _ _ _ _ _ _ _ _ => rfl) fun I hI5 k5 => ?_
                   intro x0 x3 x4 x5 x6 x7 x8 x9
                   show OKc _ _ [(9, x9), (8, x8), (7, x7), (6, x6), (5, x5), (4, x4), (3, x3), (0, x0)] _ _
                   refine cAs (R8_Methods_l5_s F _ _ _ _ _ _ _ _ _ _) ?_
                   refine rSeq ?_
                   refine rSeq ?_
                   refine cLess [9, 8, 7, 6, 5, 4, 3, 0] ?_
                   refine xR hE [0, 3, 4, 5, 6, 7, 8, 9, 116] rfl (R8_Methods_r15_ok F _ _ _ _ _ _ _ _ _) ?_
                   intro x0 x3 x4 x5 x6 x7 x8 x9 x116
                   show OKq _ _ _ [(116, x116), (9, x9), (8, x8), (7, x7), (6, x6), (5, x5), (4, x4), (3, x3), (0, x0)] _
                   refine rThen ?_
                   refine xCond rfl rfl ?_ ?_
                   · refine rSkip ?_
                     refine rThen ?_
                     refine rSeq ?_
                     refine rBlock ?_
                     refine rSeq ?_
                     refine cLess [9, 8, 7, 6, 5, 4, 3, 0] ?_
                     refine xD Trymix hE [0, 3, 4, 5, 6, 7, 8, 9, 131] rfl R8_Methods_r17_good (R8_Methods_r17_ok F _ _ _ _ _ _ _ _ _) ?_
                     intro x0 x3 x4 x5 x6 x7 x8 x9 x131
                     show OKq _ _ _ [(131, x131), (9, x9), (8, x8), (7, x7), (6, x6), (5, x5), (4, x4), (3, x3), (0, x0)] _
                     refine rThen ?_
                     refine xCond rfl rfl ?_ ?_
                     · refine rSeq ?_
                       refine cLess [] ?_
                       refine xR hE [2] rfl (R8_Methods_r18_ok F _) ?_
                       intro x2
                       show OKq _ _ _ [(2, x2)] _
                       refine rThen ?_
                       refine rRet ?_
                       refine xBlockR ?_
                       refine xThenR ?_
                       refine xThenR ?_
                       refine xBlockR ?_
                       refine xBlockR ?_
                       refine xThenR ?_
                       refine xThenR ?_
                       refine xBlockR ?_
                       refine xBlockR ?_
                       refine xThenR ?_
                       refine xThenR ?_
                       refine xBlockR ?_
                       refine xThenR ?_
                       exact rDone (.inr rfl) rfl
                     · refine rSkip ?_
                       refine xBlockN ?_
                       refine rThen ?_
                       refine cLess [9, 8, 7, 6, 5, 4, 3, 0] ?_
                       refine xR hE [0, 3, 4, 5, 6, 7, 8, 9] rfl (R8_Methods_r16_ok F _ _ _ _ _ _ _ _ _) ?_
                       intro x0 x3 x4 x5 x6 x7 x8 x9
                       show OKq _ _ _ [(9, x9), (8, x8), (7, x7), (6, x6), (5, x5), (4, x4), (3, x3), (0, x0)] _
                       exact qLess [9, 8, 7, 6, 5, 4, 3, 0] (hI5 k5 x0 x3 x4 x5 x6 x7 x8 x9)
                   · refine rExit ?_
                     refine xThenX ?_
                     refine xThenX ?_
                     refine rOut ?_
                     refine xBlockN ?_
                     exact qLess [6, 5, 4, 3, 0] (hj4 x0 x3 x4 x5 x6)
             · refine rExit ?_
               refine xThenX ?_
               refine xThenX ?_
               refine rOut ?_
               refine xBlockN ?_
               exact qLess [3, 0] (hj2 x0 x3)
       · refine rExit ?_
         refine xThenX ?_
         refine xThenX ?_
         refine rOut ?_
         exact qLess [] (hj0 )
   · exact rFail


/-! ### haruspex/haruspexref8.Shape -/

def R8_Shape_env (F : Nat) : Env := envOf [(38, R8_Nowhere_m F), (62, R1_Reach_m F), (63, R8_Blocks_m F)]

noncomputable def R8_Shape_R (F : Nat) := rK Try.prog TryG (R8_Shape_env F) Try.f42
noncomputable def R8_Shape_D (F : Nat) := dK Try.prog TryG (R8_Shape_env F) Try.f42

def R8_Shape_r10 (F : Nat) (x2 : Value) (K : Value → Value → M Value) : M Value :=
  bnd (R8_Nowhere F) fun v40 => bnd (opStoreN 3 x2 v40) fun _ => K x2 (.bool true)

theorem R8_Shape_r10_ok (F : Nat) (x2 : Value) (K : Value → Value → M Value) : R8_Shape_r10 F x2 K = R8_Shape_R F 10 [(2, x2)] [2, 3] K := by kernel_rfl

def R8_Shape_k0 (F : Nat) (x2 : Value) : M Value :=
  R8_Shape_r10 F x2 (fun x2 x3 => bnd (opLoadN 3 x2) fun r0 => tupK [r0, x3])

def R8_Shape_r3 (F : Nat) (x0 x2 x4 : Value) (K : Value → Value → Value → M Value) : M Value :=
  bnd (opBin .add x4 (.int .i64 (1))) fun v15 => K x0 x2 v15

theorem R8_Shape_r3_ok (F : Nat) (x0 x2 x4 : Value) (K : Value → Value → Value → M Value) : R8_Shape_r3 F x0 x2 x4 K = R8_Shape_R F 3 [(4, x4), (2, x2), (0, x0)] [0, 2, 4] K := by kernel_rfl

def R8_Shape_k2 (F : Nat) (A1 : Value → Value → Value → M Value) (x0 x2 x4 : Value) : M Value :=
  R8_Shape_r3 F x0 x2 x4 (fun x0 x2 x4 => A1 x0 x2 x4)

def R8_Shape_r7 (F : Nat) (x0 x2 x4 x5 x6 : Value) (K : Value → Value → Value → Value → Value → M Value) : M Value :=
  bnd (opBin .add x6 (.int .i64 (1))) fun v31 => K x0 x2 x4 x5 v31

theorem R8_Shape_r7_ok (F : Nat) (x0 x2 x4 x5 x6 : Value) (K : Value → Value → Value → Value → Value → M Value) : R8_Shape_r7 F x0 x2 x4 x5 x6 K = R8_Shape_R F 7 [(6, x6), (5, x5), (4, x4), (2, x2), (0, x0)] [0, 2, 4, 5, 6] K := by kernel_rfl

def R8_Shape_r9 (F : Nat) (x2 x4 x6 : Value) (K : Value → Value → M Value) : M Value :=
  bnd (opBuild [(.int .i64 (0)), (.int .i64 (0)), (.int .i64 (0))] [(0, 1, false, x4), (1, 1, false, x6)]) fun v39 => bnd (opStoreN 3 x2 v39) fun _ => K x2 (.bool false)

theorem R8_Shape_r9_ok (F : Nat) (x2 x4 x6 : Value) (K : Value → Value → M Value) : R8_Shape_r9 F x2 x4 x6 K = R8_Shape_R F 9 [(6, x6), (4, x4), (2, x2)] [2, 3] K := by kernel_rfl

def R8_Shape_r8 (F : Nat) (x0 x2 x4 x5 x6 : Value) (K : Value → Value → Value → Value → Value → Value → M Value) : M Value :=
  bnd (opIndexAddr 1 x5 x6) fun v34 => bnd (opLoad v34) fun v35 => bnd (opNot v35) fun v36 => K x0 x2 x4 x5 x6 v36

theorem R8_Shape_r8_ok (F : Nat) (x0 x2 x4 x5 x6 : Value) (K : Value → Value → Value → Value → Value → Value → M Value) : R8_Shape_r8 F x0 x2 x4 x5 x6 K = R8_Shape_R F 8 [(6, x6), (5, x5), (4, x4), (2, x2), (0, x0)] [0, 2, 4, 5, 6, 36] K := by kernel_rfl

def R8_Shape_r6 (F : Nat) (x0 x2 x4 x5 x6 : Value) (K : Value → Value → Value → Value → Value → Value → M Value) : M Value :=
  bnd (opLen x5) fun v28 => bnd (opBin .lss x6 v28) fun v29 => K x0 x2 x4 x5 x6 v29

theorem R8_Shape_r6_ok (F : Nat) (x0 x2 x4 x5 x6 : Value) (K : Value → Value → Value → Value → Value → Value → M Value) : R8_Shape_r6 F x0 x2 x4 x5 x6 K = R8_Shape_R F 6 [(6, x6), (5, x5), (4, x4), (2, x2), (0, x0)] [0, 2, 4, 5, 6, 29] K := by kernel_rfl

def R8_Shape_b3 (F : Nat) (E3_2 : Value → Value → Value → M Value) (A3 : Value → Value → Value → Value → Value → M Value) (x0 x2 x4 x5 x6 : Value) : M Value :=
  R8_Shape_r6 F x0 x2 x4 x5 x6 (fun x0 x2 x4 x5 x6 x29 => onB x29 (R8_Shape_r8 F x0 x2 x4 x5 x6 (fun x0 x2 x4 x5 x6 x36 => onB x36 (R8_Shape_r9 F x2 x4 x6 (fun x2 x3 => bnd (opLoadN 3 x2) fun r0 => tupK [r0, x3])) (R8_Shape_r7 F x0 x2 x4 x5 x6 (fun x0 x2 x4 x5 x6 => A3 x0 x2 x4 x5 x6)))) (E3_2 x0 x2 x4))

def R8_Shape_l3 (F : Nat) (E3_2 : Value → Value → Value → M Value) : Nat → Value → Value → Value → Value → Value → M Value
  | 0, _, _, _, _, _ => fail
  | k3 + 1, x0, x2, x4, x5, x6 => R8_Shape_b3 F E3_2 (R8_Shape_l3 F E3_2 k3) x0 x2 x4 x5 x6

theorem R8_Shape_l3_s (F : Nat) (E3_2 : Value → Value → Value → M Value) (k3 : Nat) (x0 x2 x4 x5 x6 : Value) : R8_Shape_l3 F E3_2 (k3 + 1) x0 x2 x4 x5 x6 = R8_Shape_b3 F E3_2 (R8_Shape_l3 F E3_2 k3) x0 x2 x4 x5 x6 := rfl

def R8_Shape_r5 (F : Nat) (x0 x2 x4 x5 : Value) (K : Value → Value → Value → Value → Value → M Value) : M Value :=
  K x0 x2 x4 x5 (.int .i64 (0))

theorem R8_Shape_r5_ok (F : Nat) (x0 x2 x4 x5 : Value) (K : Value → Value → Value → Value → Value → M Value) : R8_Shape_r5 F x0 x2 x4 x5 K = R8_Shape_R F 5 [(5, x5), (4, x4), (2, x2), (0, x0)] [0, 2, 4, 5, 6] K := by kernel_rfl

def R8_Shape_r4 (F : Nat) (x0 x2 x4 : Value) (K : Value → Value → Value → Value → M Value) : M Value :=
  bnd (opNil x0) fun v17 => bnd (opFieldAddr 4 v17) fun v18 => bnd (opLoad v18) fun v19 => bnd (opIndexAddr 3 v19 x4) fun v21 => bnd (opLoadN 3 v21) fun v22 => bnd (R8_Blocks F v22) fun v23 => bnd (opBuildSlice 1 (rep 1 [(.int .i64 (0))]) [(0, 1, false, (.int .i64 (0)))]) fun v24 => bnd (R1_Reach F v23 v24 (.int .i64 (-1))) fun v25 => K x0 x2 x4 v25

theorem R8_Shape_r4_ok (F : Nat) (x0 x2 x4 : Value) (K : Value → Value → Value → Value → M Value) : R8_Shape_r4 F x0 x2 x4 K = R8_Shape_R F 4 [(4, x4), (2, x2), (0, x0)] [0, 2, 4, 5] K := by kernel_rfl

def R8_Shape_r2 (F : Nat) (x0 x2 x4 : Value) (K : Value → Value → Value → Value → M Value) : M Value :=
  bnd (opNil x0) fun v9 => bnd (opFieldAddr 4 v9) fun v10 => bnd (opLoad v10) fun v11 => bnd (opLen v11) fun v12 => bnd (opBin .lss x4 v12) fun v13 => K x0 x2 x4 v13

theorem R8_Shape_r2_ok (F : Nat) (x0 x2 x4 : Value) (K : Value → Value → Value → Value → M Value) : R8_Shape_r2 F x0 x2 x4 K = R8_Shape_R F 2 [(4, x4), (2, x2), (0, x0)] [0, 2, 4, 13] K := by kernel_rfl

def R8_Shape_b1 (F : Nat) (E1_0 : Value → M Value) (A1 : Value → Value → Value → M Value) (x0 x2 x4 : Value) : M Value :=
  R8_Shape_r2 F x0 x2 x4 (fun x0 x2 x4 x13 => onB x13 (R8_Shape_r4 F x0 x2 x4 (fun x0 x2 x4 x5 => R8_Shape_r5 F x0 x2 x4 x5 (fun x0 x2 x4 x5 x6 => R8_Shape_l3 F (fun x0 x2 x4 => R8_Shape_k2 F A1 x0 x2 x4) F x0 x2 x4 x5 x6))) (E1_0 x2))

def R8_Shape_l1 (F : Nat) (E1_0 : Value → M Value) : Nat → Value → Value → Value → M Value
  | 0, _, _, _ => fail
  | k1 + 1, x0, x2, x4 => R8_Shape_b1 F E1_0 (R8_Shape_l1 F E1_0 k1) x0 x2 x4

theorem R8_Shape_l1_s (F : Nat) (E1_0 : Value → M Value) (k1 : Nat) (x0 x2 x4 : Value) : R8_Shape_l1 F E1_0 (k1 + 1) x0 x2 x4 = R8_Shape_b1 F E1_0 (R8_Shape_l1 F E1_0 k1) x0 x2 x4 := rfl

def R8_Shape_r1 (F : Nat) (x0 x2 : Value) (K : Value → Value → Value → M Value) : M Value :=
  K x0 x2 (.int .i64 (0))

theorem R8_Shape_r1_ok (F : Nat) (x0 x2 : Value) (K : Value → Value → Value → M Value) : R8_Shape_r1 F x0 x2 K = R8_Shape_R F 1 [(2, x2), (0, x0)] [0, 2, 4] K := by kernel_rfl

def R8_Shape_r0 (F : Nat) (x0 : Value) (K : Value → Value → M Value) : M Value :=
  bnd (opPtr [(.int .i64 (0)), (.int .i64 (0)), (.int .i64 (0))]) fun v2 => K x0 v2

theorem R8_Shape_r0_ok (F : Nat) (x0 : Value) (K : Value → Value → M Value) : R8_Shape_r0 F x0 K = R8_Shape_R F 0 [(0, x0)] [0, 2] K := by kernel_rfl

def R8_Shape (F : Nat) (x0 : Value) : M Value :=
  R8_Shape_r0 F x0 (fun x0 x2 => R8_Shape_r1 F x0 x2 (fun x0 x2 x4 => R8_Shape_l1 F (fun x2 => R8_Shape_k0 F x2) F x0 x2 x4))

def R8_Shape_m (F : Nat) : List Value → M Value
  | [x0] => R8_Shape F x0
  | _ => fail

theorem R8_Shape_body : Try.f42.body = some (.seq (.region 0 (opsOf Try.f42 0) false) (.seq (.seq (.region 1 (opsOf Try.f42 1) false) (.block 0 (.loop (.seq (.seq (.region 2 (opsOf Try.f42 2) false) (.cond (.tmp 13) .skip (.exit 0))) (.seq (.block 1 (.seq (.region 4 (opsOf Try.f42 4) false) (.seq (.region 5 (opsOf Try.f42 5) false) (.block 2 (.loop (.seq (.seq (.region 6 (opsOf Try.f42 6) false) (.cond (.tmp 29) .skip (.exit 2))) (.seq (.block 3 (.seq (.region 8 (opsOf Try.f42 8) false) (.cond (.tmp 36) (.seq (.region 9 (opsOf Try.f42 9) false) .ret) .skip))) (.region 7 (opsOf Try.f42 7) false)))))))) (.region 3 (opsOf Try.f42 3) false)))))) (.seq (.region 10 (opsOf Try.f42 10) false) .ret))) := by kernel_rfl

theorem R8_Shape_ok (F : Nat) : Sim Try.prog TryG 42 (R8_Shape_m F) := by
 have hE : EnvOK Try.prog TryG (R8_Shape_env F) := (EnvOK.cons (R8_Nowhere_ok F) (EnvOK.cons (R1_Reach_ok F) (EnvOK.cons (R8_Blocks_ok F) EnvOK.nil)))
 refine Sim.of_body (E := R8_Shape_env F) Try.func42 R8_Shape_body Try.call42 ?_ ?_
 · intro args hl; unfold R8_Shape_m; split
   · exact absurd hl (Nat.not_lt.2 (Nat.le_of_ble_eq_true rfl))
   · rfl
 · intro args ρ h w z; unfold R8_Shape_m; split
   · rename_i x0; show OKc _ _ [(0, x0)] _ _
     refine rSeq ?_
     refine cLess [0] ?_
     refine xR hE [0, 2] rfl (R8_Shape_r0_ok F _ _) ?_
     intro x0 x2
     show OKq _ _ _ [(2, x2), (0, x0)] _
     refine rThen ?_
     refine xSeq [2] (R8_Shape_k0 F ) ?_ fun hj0 => ?_
     · intro x2
       show OKc _ _ [(2, x2)] _ _
       refine rSeq ?_
       refine cLess [2] ?_
       refine xR hE [2, 3] rfl (R8_Shape_r10_ok F _ _) ?_
       intro x2 x3
       show OKq _ _ _ [(3, x3), (2, x2)] _
       refine rThen ?_
       refine rRet ?_
       exact rDone (.inr rfl) rfl
     · refine rSeq ?_
       refine cLess [2, 0] ?_
       refine xR hE [0, 2, 4] rfl (R8_Shape_r1_ok F _ _ _) ?_
       intro x0 x2 x4
       show OKq _ _ _ [(4, x4), (2, x2), (0, x0)] _
       refine rThen ?_
       refine rBlock ?_
       refine cLess [4, 2, 0] ?_
       refine xLoopAt [0, 2, 4] [] (fun k1 => R8_Shape_l1 F (fun x2 => R8_Shape_k0 F x2) k1) F [x0, x2, x4] rfl rfl (fun _ _ _ => rfl) fun I hI1 k1 => ?_
       intro x0 x2 x4
       show OKc _ _ [(4, x4), (2, x2), (0, x0)] _ _
       refine cAs (R8_Shape_l1_s F _ _ _ _ _) ?_
       refine rSeq ?_
       refine rSeq ?_
       refine cLess [4, 2, 0] ?_
       refine xR hE [0, 2, 4, 13] rfl (R8_Shape_r2_ok F _ _ _ _) ?_
       intro x0 x2 x4 x13
       show OKq _ _ _ [(13, x13), (4, x4), (2, x2), (0, x0)] _
       refine rThen ?_
       refine xCond rfl rfl ?_ ?_
       · refine rSkip ?_
         refine rThen ?_
         refine xSeq [0, 2, 4] (R8_Shape_k2 F (R8_Shape_l1 F (fun x2 => R8_Shape_k0 F x2) k1) ) ?_ fun hj2 => ?_
         · intro x0 x2 x4
           show OKc _ _ [(4, x4), (2, x2), (0, x0)] _ _
           refine cLess [4, 2, 0] ?_
           refine xR hE [0, 2, 4] rfl (R8_Shape_r3_ok F _ _ _ _) ?_
           intro x0 x2 x4
           show OKq _ _ _ [(4, x4), (2, x2), (0, x0)] _
           exact qLess [4, 2, 0] (hI1 k1 x0 x2 x4)
         · refine rBlock ?_
           refine rSeq ?_
           refine cLess [4, 2, 0] ?_
           refine xR hE [0, 2, 4, 5] rfl (R8_Shape_r4_ok F _ _ _ _) ?_
           intro x0 x2 x4 x5
           show OKq _ _ _ [(5, x5), (4, x4), (2, x2), (0, x0)] _
           refine rThen ?_
           refine rSeq ?_
           refine cLess [5, 4, 2, 0] ?_
           refine xR hE [0, 2, 4, 5, 6] rfl (R8_Shape_r5_ok F _ _ _ _ _) ?_
           intro x0 x2 x4 x5 x6
           show OKq _ _ _ [(6, x6), (5, x5), (4, x4), (2, x2), (0, x0)] _
           refine rThen ?_
           refine rBlock ?_
           refine cLess [6, 5, 4, 2, 0] ?_
           refine xLoopAt [0, 2, 4, 5, 6] [] (fun k3 => R8_Shape_l3 F (fun x0 x2 x4 => R8_Shape_k2 F (R8_Shape_l1 F (fun x2 => R8_Shape_k0 F x2) k1) x0 x2 x4) k3) F [x0, x2, x4, x5, x6] rfl rfl (fun _ _ _ _ _ => rfl) fun I hI3 k3 => ?_
           intro x0 x2 x4 x5 x6
           show OKc _ _ [(6, x6), (5, x5), (4, x4), (2, x2), (0, x0)] _ _
           refine cAs (R8_Shape_l3_s F _ _ _ _ _ _ _) ?_
           refine rSeq ?_
           refine rSeq ?_
           refine cLess [6, 5, 4, 2, 0] ?_
           refine xR hE [0, 2, 4, 5, 6, 29] rfl (R8_Shape_r6_ok F _ _ _ _ _ _) ?_
           intro x0 x2 x4 x5 x6 x29
           show OKq _ _ _ [(29, x29), (6, x6), (5, x5), (4, x4), (2, x2), (0, x0)] _
           refine rThen ?_
           refine xCond rfl rfl ?_ ?_
           · refine rSkip ?_
             refine rThen ?_
             refine rSeq ?_
             refine rBlock ?_
             refine rSeq ?_
             refine cLess [6, 5, 4, 2, 0] ?_
             refine xR hE [0, 2, 4, 5, 6, 36] rfl (R8_Shape_r8_ok F _ _ _ _ _ _) ?_
             intro x0 x2 x4 x5 x6 x36
             show OKq _ _ _ [(36, x36), (6, x6), (5, x5), (4, x4), (2, x2), (0, x0)] _
             refine rThen ?_
             refine xCond rfl rfl ?_ ?_
             · refine rSeq ?_
               refine cLess [6, 4, 2] ?_
               refine xR hE [2, 3] rfl (R8_Shape_r9_ok F _ _ _ _) ?_
               intro x2 x3
               show OKq _ _ _ [(3, x3), (2, x2)] _
               refine rThen ?_
               refine rRet ?_
               refine xBlockR ?_
               refine xThenR ?_
               refine xThenR ?_
               refine xBlockR ?_
               refine xBlockR ?_
               refine xThenR ?_
               refine xThenR ?_
               refine xBlockR ?_
               refine xThenR ?_
               exact rDone (.inr rfl) rfl
             · refine rSkip ?_
               refine xBlockN ?_
               refine rThen ?_
               refine cLess [6, 5, 4, 2, 0] ?_
               refine xR hE [0, 2, 4, 5, 6] rfl (R8_Shape_r7_ok F _ _ _ _ _ _) ?_
               intro x0 x2 x4 x5 x6
               show OKq _ _ _ [(6, x6), (5, x5), (4, x4), (2, x2), (0, x0)] _
               exact qLess [6, 5, 4, 2, 0] (hI3 k3 x0 x2 x4 x5 x6)
           · refine rExit ?_
             refine xThenX ?_
             refine xThenX ?_
             refine rOut ?_
             refine xBlockN ?_
             exact qLess [4, 2, 0] (hj2 x0 x2 x4)
       · refine rExit ?_
         refine xThenX ?_
         refine xThenX ?_
         refine rOut ?_
         exact qLess [2] (hj0 x2)
   · exact rFail


/-! ### haruspex/ir.Number -/

def ir_Number_env (F : Nat) : Env := envOf [(52, ir_block_m F)]

noncomputable def ir_Number_R (F : Nat) := rK Try.prog TryG (ir_Number_env F) Try.f47
noncomputable def ir_Number_D (F : Nat) := dK Try.prog TryG (ir_Number_env F) Try.f47

def ir_Number_r14 (F : Nat) (x5 : Value) (K : Value → M Value) : M Value :=
  K x5

theorem ir_Number_r14_ok (F : Nat) (x5 : Value) (K : Value → M Value) : ir_Number_r14 F x5 K = ir_Number_R F 14 [(5, x5)] [4] K := by kernel_rfl

def ir_Number_k0 (F : Nat) (x5 : Value) : M Value :=
  ir_Number_r14 F x5 (fun x4 => ret x4)

def ir_Number_r13 (F : Nat) (x0 x3 x5 x16 x17 : Value) (K : Value → Value → Value → Value → Value → M Value) : M Value :=
  bnd (opBin .add x17 (.int .i64 (1))) fun v59 => K x0 x3 x5 x16 v59

theorem ir_Number_r13_ok (F : Nat) (x0 x3 x5 x16 x17 : Value) (K : Value → Value → Value → Value → Value → M Value) : ir_Number_r13 F x0 x3 x5 x16 x17 K = ir_Number_R F 13 [(17, x17), (16, x16), (5, x5), (3, x3), (0, x0)] [0, 3, 5, 16, 17] K := by kernel_rfl

def ir_Number_k2 (F : Nat) (A1 : Value → Value → Value → Value → Value → M Value) (x0 x3 x5 x16 x17 : Value) : M Value :=
  ir_Number_r13 F x0 x3 x5 x16 x17 (fun x0 x3 x5 x16 x17 => A1 x0 x3 x5 x16 x17)

def ir_Number_r12 (F : Nat) (x0 x3 x5 x6 x16 x17 x28 x29 : Value) (K : Value → Value → Value → Value → Value → Value → Value → Value → M Value) : M Value :=
  bnd (opBin .add x29 (.int .i64 (1))) fun v58 => K x0 x3 x5 x6 x16 x17 x28 v58

theorem ir_Number_r12_ok (F : Nat) (x0 x3 x5 x6 x16 x17 x28 x29 : Value) (K : Value → Value → Value → Value → Value → Value → Value → Value → M Value) : ir_Number_r12 F x0 x3 x5 x6 x16 x17 x28 x29 K = ir_Number_R F 12 [(29, x29), (28, x28), (17, x17), (16, x16), (6, x6), (5, x5), (3, x3), (0, x0)] [0, 3, 5, 6, 16, 17, 28, 29] K := by kernel_rfl

def ir_Number_k4 (F : Nat) (A3 : Value → Value → Value → Value → Value → Value → Value → Value → M Value) (x0 x3 x5 x6 x16 x17 x28 x29 : Value) : M Value :=
  ir_Number_r12 F x0 x3 x5 x6 x16 x17 x28 x29 (fun x0 x3 x5 x6 x16 x17 x28 x29 => A3 x0 x3 x5 x6 x16 x17 x28 x29)

def ir_Number_r11 (F : Nat) (x0 x3 x5 x6 x7 x16 x17 x28 x29 : Value) (K : Value → Value → Value → Value → Value → Value → Value → Value → M Value) : M Value :=
  bnd (opNil x0) fun v44 => bnd (opFieldAddr 4 v44) fun v45 => bnd (opLoad v45) fun v46 => bnd (opIndexAddr 3 v46 x6) fun v48 => bnd (opFieldAddr 2 v48) fun v49 => bnd (opLoad v49) fun v50 => bnd (opIndexAddr 5 v50 x7) fun v52 => bnd (opFieldAddr 0 v52) fun v53 => bnd (opLoad v53) fun v54 => bnd (opLen v54) fun v55 => bnd (opBin .add v55 (.int .i64 (1))) fun v56 => bnd (opBin .add x5 v56) fun v57 => K x0 x3 v57 x6 x16 x17 x28 x29

theorem ir_Number_r11_ok (F : Nat) (x0 x3 x5 x6 x7 x16 x17 x28 x29 : Value) (K : Value → Value → Value → Value → Value → Value → Value → Value → M Value) : ir_Number_r11 F x0 x3 x5 x6 x7 x16 x17 x28 x29 K = ir_Number_R F 11 [(29, x29), (28, x28), (17, x17), (16, x16), (7, x7), (6, x6), (5, x5), (3, x3), (0, x0)] [0, 3, 5, 6, 16, 17, 28, 29] K := by kernel_rfl

def ir_Number_r10 (F : Nat) (x0 x3 x5 x6 x7 x16 x17 x28 x29 : Value) (K : Value → Value → Value → Value → Value → Value → Value → Value → Value → Value → M Value) : M Value :=
  bnd (opFieldAddr 0 x3) fun v33 => bnd (opLoad v33) fun v34 => bnd (opBin .lss x6 v34) fun v35 => onB v35 (K x0 x3 x5 x6 x7 x16 x17 x28 x29 (.bool true)) (bnd (opFieldAddr 1 x3) fun v38 => bnd (opLoad v38) fun v39 => bnd (opBin .lss x7 v39) fun v40 => K x0 x3 x5 x6 x7 x16 x17 x28 x29 v40)

theorem ir_Number_r10_ok (F : Nat) (x0 x3 x5 x6 x7 x16 x17 x28 x29 : Value) (K : Value → Value → Value → Value → Value → Value → Value → Value → Value → Value → M Value) : ir_Number_r10 F x0 x3 x5 x6 x7 x16 x17 x28 x29 K = ir_Number_R F 10 [(29, x29), (28, x28), (17, x17), (16, x16), (7, x7), (6, x6), (5, x5), (3, x3), (0, x0)] [0, 3, 5, 6, 7, 16, 17, 28, 29, 41] K := by kernel_rfl

def ir_Number_r9 (F : Nat) (x0 x3 x5 x6 x16 x17 x28 x29 : Value) (K : Value → Value → Value → Value → Value → Value → Value → Value → Value → M Value) : M Value :=
  K x0 x3 x5 x6 x29 x16 x17 x28 x29

theorem ir_Number_r9_ok (F : Nat) (x0 x3 x5 x6 x16 x17 x28 x29 : Value) (K : Value → Value → Value → Value → Value → Value → Value → Value → Value → M Value) : ir_Number_r9 F x0 x3 x5 x6 x16 x17 x28 x29 K = ir_Number_R F 9 [(29, x29), (28, x28), (17, x17), (16, x16), (6, x6), (5, x5), (3, x3), (0, x0)] [0, 3, 5, 6, 7, 16, 17, 28, 29] K := by kernel_rfl

def ir_Number_r8 (F : Nat) (x0 x3 x5 x6 x16 x17 x28 x29 : Value) (K : Value → Value → Value → Value → Value → Value → Value → Value → Value → M Value) : M Value :=
  bnd (opBin .lss x29 x28) fun v30 => K x0 x3 x5 x6 x16 x17 x28 x29 v30

theorem ir_Number_r8_ok (F : Nat) (x0 x3 x5 x6 x16 x17 x28 x29 : Value) (K : Value → Value → Value → Value → Value → Value → Value → Value → Value → M Value) : ir_Number_r8 F x0 x3 x5 x6 x16 x17 x28 x29 K = ir_Number_R F 8 [(29, x29), (28, x28), (17, x17), (16, x16), (6, x6), (5, x5), (3, x3), (0, x0)] [0, 3, 5, 6, 16, 17, 28, 29, 30] K := by kernel_rfl

def ir_Number_b3 (F : Nat) (E3_2 : Value → Value → Value → Value → Value → M Value) (A3 : Value → Value → Value → Value → Value → Value → Value → Value → M Value) (x0 x3 x5 x6 x16 x17 x28 x29 : Value) : M Value :=
  ir_Number_r8 F x0 x3 x5 x6 x16 x17 x28 x29 (fun x0 x3 x5 x6 x16 x17 x28 x29 x30 => onB x30 (ir_Number_r9 F x0 x3 x5 x6 x16 x17 x28 x29 (fun x0 x3 x5 x6 x7 x16 x17 x28 x29 => ir_Number_r10 F x0 x3 x5 x6 x7 x16 x17 x28 x29 (fun x0 x3 x5 x6 x7 x16 x17 x28 x29 x41 => onB x41 (ir_Number_r11 F x0 x3 x5 x6 x7 x16 x17 x28 x29 (fun x0 x3 x5 x6 x16 x17 x28 x29 => ir_Number_k4 F A3 x0 x3 x5 x6 x16 x17 x28 x29)) (ir_Number_k4 F A3 x0 x3 x5 x6 x16 x17 x28 x29)))) (E3_2 x0 x3 x5 x16 x17))

def ir_Number_l3 (F : Nat) (E3_2 : Value → Value → Value → Value → Value → M Value) : Nat → Value → Value → Value → Value → Value → Value → Value → Value → M Value
  | 0, _, _, _, _, _, _, _, _ => fail
  | k3 + 1, x0, x3, x5, x6, x16, x17, x28, x29 => ir_Number_b3 F E3_2 (ir_Number_l3 F E3_2 k3) x0 x3 x5 x6 x16 x17 x28 x29

theorem ir_Number_l3_s (F : Nat) (E3_2 : Value → Value → Value → Value → Value → M Value) (k3 : Nat) (x0 x3 x5 x6 x16 x17 x28 x29 : Value) : ir_Number_l3 F E3_2 (k3 + 1) x0 x3 x5 x6 x16 x17 x28 x29 = ir_Number_b3 F E3_2 (ir_Number_l3 F E3_2 k3) x0 x3 x5 x6 x16 x17 x28 x29 := rfl

def ir_Number_r7 (F : Nat) (x0 x3 x5 x6 x16 x17 : Value) (K : Value → Value → Value → Value → Value → Value → Value → Value → M Value) : M Value :=
  bnd (opNil x0) fun v21 => bnd (opFieldAddr 4 v21) fun v22 => bnd (opLoad v22) fun v23 => bnd (opIndexAddr 3 v23 x6) fun v25 => bnd (opFieldAddr 2 v25) fun v26 => bnd (opLoad v26) fun v27 => bnd (opLen v27) fun v28 => K x0 x3 x5 x6 x16 x17 v28 (.int .i64 (0))

theorem ir_Number_r7_ok (F : Nat) (x0 x3 x5 x6 x16 x17 : Value) (K : Value → Value → Value → Value → Value → Value → Value → Value → M Value) : ir_Number_r7 F x0 x3 x5 x6 x16 x17 K = ir_Number_R F 7 [(17, x17), (16, x16), (6, x6), (5, x5), (3, x3), (0, x0)] [0, 3, 5, 6, 16, 17, 28, 29] K := by kernel_rfl

def ir_Number_r6 (F : Nat) (x0 x3 x5 x16 x17 : Value) (K : Value → Value → Value → Value → Value → Value → M Value) : M Value :=
  K x0 x3 x5 x17 x16 x17

theorem ir_Number_r6_ok (F : Nat) (x0 x3 x5 x16 x17 : Value) (K : Value → Value → Value → Value → Value → Value → M Value) : ir_Number_r6 F x0 x3 x5 x16 x17 K = ir_Number_R F 6 [(17, x17), (16, x16), (5, x5), (3, x3), (0, x0)] [0, 3, 5, 6, 16, 17] K := by kernel_rfl

def ir_Number_r5 (F : Nat) (x0 x3 x5 x16 x17 : Value) (K : Value → Value → Value → Value → Value → Value → M Value) : M Value :=
  bnd (opBin .lss x17 x16) fun v18 => K x0 x3 x5 x16 x17 v18

theorem ir_Number_r5_ok (F : Nat) (x0 x3 x5 x16 x17 : Value) (K : Value → Value → Value → Value → Value → Value → M Value) : ir_Number_r5 F x0 x3 x5 x16 x17 K = ir_Number_R F 5 [(17, x17), (16, x16), (5, x5), (3, x3), (0, x0)] [0, 3, 5, 16, 17, 18] K := by kernel_rfl

def ir_Number_b1 (F : Nat) (E1_0 : Value → M Value) (A1 : Value → Value → Value → Value → Value → M Value) (x0 x3 x5 x16 x17 : Value) : M Value :=
  ir_Number_r5 F x0 x3 x5 x16 x17 (fun x0 x3 x5 x16 x17 x18 => onB x18 (ir_Number_r6 F x0 x3 x5 x16 x17 (fun x0 x3 x5 x6 x16 x17 => ir_Number_r7 F x0 x3 x5 x6 x16 x17 (fun x0 x3 x5 x6 x16 x17 x28 x29 => ir_Number_l3 F (fun x0 x3 x5 x16 x17 => ir_Number_k2 F A1 x0 x3 x5 x16 x17) F x0 x3 x5 x6 x16 x17 x28 x29))) (E1_0 x5))

def ir_Number_l1 (F : Nat) (E1_0 : Value → M Value) : Nat → Value → Value → Value → Value → Value → M Value
  | 0, _, _, _, _, _ => fail
  | k1 + 1, x0, x3, x5, x16, x17 => ir_Number_b1 F E1_0 (ir_Number_l1 F E1_0 k1) x0 x3 x5 x16 x17

theorem ir_Number_l1_s (F : Nat) (E1_0 : Value → M Value) (k1 : Nat) (x0 x3 x5 x16 x17 : Value) : ir_Number_l1 F E1_0 (k1 + 1) x0 x3 x5 x16 x17 = ir_Number_b1 F E1_0 (ir_Number_l1 F E1_0 k1) x0 x3 x5 x16 x17 := rfl

def ir_Number_r4 (F : Nat) (x0 x3 x5 : Value) (K : Value → Value → Value → Value → Value → M Value) : M Value :=
  bnd (opFieldAddr 0 x3) fun v14 => bnd (opLoad v14) fun v15 => bnd (opBin .add v15 (.int .i64 (1))) fun v16 => K x0 x3 x5 v16 (.int .i64 (0))

theorem ir_Number_r4_ok (F : Nat) (x0 x3 x5 : Value) (K : Value → Value → Value → Value → Value → M Value) : ir_Number_r4 F x0 x3 x5 K = ir_Number_R F 4 [(5, x5), (3, x3), (0, x0)] [0, 3, 5, 16, 17] K := by kernel_rfl

def ir_Number_r3 (F : Nat) (x0 x3 : Value) (K : Value → Value → Value → M Value) : M Value :=
  bnd (opFieldAddr 2 x3) fun v12 => bnd (opLoad v12) fun v13 => K x0 x3 v13

theorem ir_Number_r3_ok (F : Nat) (x0 x3 : Value) (K : Value → Value → Value → M Value) : ir_Number_r3 F x0 x3 K = ir_Number_R F 3 [(3, x3), (0, x0)] [0, 3, 5] K := by kernel_rfl

def ir_Number_r2 (F : Nat) (K : Value → M Value) : M Value :=
  K (.int .i64 (-1))

theorem ir_Number_r2_ok (F : Nat) (K : Value → M Value) : ir_Number_r2 F K = ir_Number_R F 2 [] [4] K := by kernel_rfl

def ir_Number_r1 (F : Nat) (x0 x3 : Value) (K : Value → Value → Value → M Value) : M Value :=
  bnd (opLoadN 3 x3) fun v9 => bnd (ir_block F x0 v9) fun v10 => bnd (opEq eqP false v10 (.pointer none)) fun v11 => K x0 x3 v11

theorem ir_Number_r1_ok (F : Nat) (x0 x3 : Value) (K : Value → Value → Value → M Value) : ir_Number_r1 F x0 x3 K = ir_Number_R F 1 [(3, x3), (0, x0)] [0, 3, 11] K := by kernel_rfl

def ir_Number_r0 (F : Nat) (x0 x1 : Value) (K : Value → Value → M Value) : M Value :=
  bnd (opBoxN x1) fun v3 => K x0 v3

theorem ir_Number_r0_ok (F : Nat) (x0 x1 : Value) (K : Value → Value → M Value) : ir_Number_r0 F x0 x1 K = ir_Number_R F 0 [(1, x1), (0, x0)] [0, 3] K := by kernel_rfl

def ir_Number (F : Nat) (x0 x1 : Value) : M Value :=
  ir_Number_r0 F x0 x1 (fun x0 x3 => ir_Number_r1 F x0 x3 (fun x0 x3 x11 => onB x11 (ir_Number_r2 F (fun x4 => ret x4)) (ir_Number_r3 F x0 x3 (fun x0 x3 x5 => ir_Number_r4 F x0 x3 x5 (fun x0 x3 x5 x16 x17 => ir_Number_l1 F (fun x5 => ir_Number_k0 F x5) F x0 x3 x5 x16 x17)))))

def ir_Number_m (F : Nat) : List Value → M Value
  | [x0, x1] => ir_Number F x0 x1
  | _ => fail

theorem ir_Number_body : Try.f47.body = some (.seq (.region 0 (opsOf Try.f47 0) false) (.seq (.seq (.region 1 (opsOf Try.f47 1) false) (.cond (.tmp 11) (.seq (.region 2 (opsOf Try.f47 2) false) .ret) .skip)) (.seq (.region 3 (opsOf Try.f47 3) false) (.seq (.seq (.region 4 (opsOf Try.f47 4) false) (.block 0 (.loop (.seq (.region 5 (opsOf Try.f47 5) false) (.seq (.cond (.tmp 18) .skip (.exit 0)) (.seq (.block 1 (.seq (.region 6 (opsOf Try.f47 6) false) (.seq (.region 7 (opsOf Try.f47 7) false) (.block 2 (.loop (.seq (.region 8 (opsOf Try.f47 8) false) (.seq (.cond (.tmp 30) .skip (.exit 2)) (.seq (.block 3 (.seq (.region 9 (opsOf Try.f47 9) false) (.seq (.region 10 (opsOf Try.f47 10) false) (.cond (.tmp 41) (.region 11 (opsOf Try.f47 11) false) .skip)))) (.region 12 (opsOf Try.f47 12) false))))))))) (.region 13 (opsOf Try.f47 13) false))))))) (.seq (.region 14 (opsOf Try.f47 14) false) .ret))))) := by kernel_rfl

theorem ir_Number_ok (F : Nat) : Sim Try.prog TryG 47 (ir_Number_m F) := by
 have hE : EnvOK Try.prog TryG (ir_Number_env F) := (EnvOK.cons (ir_block_ok F) EnvOK.nil)
 refine Sim.of_body (E := ir_Number_env F) Try.func47 ir_Number_body Try.call47 ?_ ?_
 · intro args hl; unfold ir_Number_m; split
   · exact absurd hl (Nat.not_lt.2 (Nat.le_of_ble_eq_true rfl))
   · rfl
 · intro args ρ h w z; unfold ir_Number_m; split
   · rename_i x0 x1; show OKc _ _ [(0, x0), (1, x1)] _ _
     refine rSeq ?_
     refine cLess [1, 0] ?_
     refine xR hE [0, 3] rfl (ir_Number_r0_ok F _ _ _) ?_
     intro x0 x3
     show OKq _ _ _ [(3, x3), (0, x0)] _
     refine rThen ?_
     refine rSeq ?_
     refine rSeq ?_
     refine cLess [3, 0] ?_
     refine xR hE [0, 3, 11] rfl (ir_Number_r1_ok F _ _ _) ?_
     intro x0 x3 x11
     show OKq _ _ _ [(11, x11), (3, x3), (0, x0)] _
     refine rThen ?_
     refine xCond rfl rfl ?_ ?_
     · refine rSeq ?_
       refine cLess [] ?_
       refine xR hE [4] rfl (ir_Number_r2_ok F _) ?_
       intro x4
       show OKq _ _ _ [(4, x4)] _
       refine rThen ?_
       refine rRet ?_
       refine xThenR ?_
       exact rDone (.inr rfl) rfl
     · refine rSkip ?_
       refine rThen ?_
       refine rSeq ?_
       refine cLess [3, 0] ?_
       refine xR hE [0, 3, 5] rfl (ir_Number_r3_ok F _ _ _) ?_
       intro x0 x3 x5
       show OKq _ _ _ [(5, x5), (3, x3), (0, x0)] _
       refine rThen ?_
       refine xSeq [5] (ir_Number_k0 F ) ?_ fun hj0 => ?_
       · intro x5
         show OKc _ _ [(5, x5)] _ _
         refine rSeq ?_
         refine cLess [5] ?_
         refine xR hE [4] rfl (ir_Number_r14_ok F _ _) ?_
         intro x4
         show OKq _ _ _ [(4, x4)] _
         refine rThen ?_
         refine rRet ?_
         exact rDone (.inr rfl) rfl
       · refine rSeq ?_
         refine cLess [5, 3, 0] ?_
         refine xR hE [0, 3, 5, 16, 17] rfl (ir_Number_r4_ok F _ _ _ _) ?_
         intro x0 x3 x5 x16 x17
         show OKq _ _ _ [(17, x17), (16, x16), (5, x5), (3, x3), (0, x0)] _
         refine rThen ?_
         refine rBlock ?_
         refine cLess [17, 16, 5, 3, 0] ?_
         refine xLoopAt [0, 3, 5, 16, 17] [] (fun k1 => ir_Number_l1 F (fun x5 => ir_Number_k0 F x5) k1) F [x0, x3, x5, x16, x17] rfl rfl (fun _ _ _ _ _ => rfl) fun I hI1 k1 => ?_
         intro x0 x3 x5 x16 x17
         show OKc _ _ [(17, x17), (16, x16), (5, x5), (3, x3), (0, x0)] _ _
         refine cAs (ir_Number_l1_s F _ _ _ _ _ _ _) ?_
         refine rSeq ?_
         refine cLess [17, 16, 5, 3, 0] ?_
         refine xR hE [0, 3, 5, 16, 17, 18] rfl (ir_Number_r5_ok F _ _ _ _ _ _) ?_
         intro x0 x3 x5 x16 x17 x18
         show OKq _ _ _ [(18, x18), (17, x17), (16, x16), (5, x5), (3, x3), (0, x0)] _
         refine rThen ?_
         refine rSeq ?_
         refine xCond rfl rfl ?_ ?_
         · refine rSkip ?_
           refine rThen ?_
           refine xSeq [0, 3, 5, 16, 17] (ir_Number_k2 F (ir_Number_l1 F (fun x5 => ir_Number_k0 F x5) k1) ) ?_ fun hj2 => ?_
           · intro x0 x3 x5 x16 x17
             show OKc _ _ [(17, x17), (16, x16), (5, x5), (3, x3), (0, x0)] _ _
             refine cLess [17, 16, 5, 3, 0] ?_
             refine xR hE [0, 3, 5, 16, 17] rfl (ir_Number_r13_ok F _ _ _ _ _ _) ?_
             intro x0 x3 x5 x16 x17
             show OKq _ _ _ [(17, x17), (16, x16), (5, x5), (3, x3), (0, x0)] _
             exact qLess [17, 16, 5, 3, 0] (hI1 k1 x0 x3 x5 x16 x17)
           · refine rBlock ?_
             refine rSeq ?_
             refine cLess [17, 16, 5, 3, 0] ?_
             refine xR hE [0, 3, 5, 6, 16, 17] rfl (ir_Number_r6_ok F _ _ _ _ _ _) ?_
             intro x0 x3 x5 x6 x16 x17
             show OKq _ _ _ [(17, x17), (16, x16), (6, x6), (5, x5), (3, x3), (0, x0)] _
             refine rThen ?_
             refine rSeq ?_
             refine cLess [17, 16, 6, 5, 3, 0] ?_
             refine xR hE [0, 3, 5, 6, 16, 17, 28, 29] rfl (ir_Number_r7_ok F _ _ _ _ _ _ _) ?_
             intro x0 x3 x5 x6 x16 x17 x28 x29
             show OKq _ _ _ [(29, x29), (28, x28), (17, x17), (16, x16), (6, x6), (5, x5), (3, x3), (0, x0)] _
             refine rThen ?_
             refine rBlock ?_
             refine cLess [29, 28, 17, 16, 6, 5, 3, 0] ?_
             refine xLoopAt [0, 3, 5, 6, 16, 17, 28, 29] [] (fun k3 => ir_Number_l3 F (fun x0 x3 x5 x16 x17 => ir_Number_k2 F (ir_Number_l1 F (fun x5 => ir_Number_k0 F x5) k1) x0 x3 x5 x16 x17) k3) F [x0, x3, x5, x6, x16, x17, x28, x29] rfl rfl (fun _ _ _ _ _ _ _ _ => rfl) fun I hI3 k3 => ?_
             intro x0 x3 x5 x6 x16 x17 x28 x29
             show OKc _ _ [(29, x29), (28, x28), (17, x17), (16, x16), (6, x6), (5, x5), (3, x3), (0, x0)] _ _
             refine cAs (ir_Number_l3_s F _ _ _ _ _ _ _ _ _ _) ?_
             refine rSeq ?_
             refine cLess [29, 28, 17, 16, 6, 5, 3, 0] ?_
             refine xR hE [0, 3, 5, 6, 16, 17, 28, 29, 30] rfl (ir_Number_r8_ok F _ _ _ _ _ _ _ _ _) ?_
             intro x0 x3 x5 x6 x16 x17 x28 x29 x30
             show OKq _ _ _ [(30, x30), (29, x29), (28, x28), (17, x17), (16, x16), (6, x6), (5, x5), (3, x3), (0, x0)] _
             refine rThen ?_
             refine rSeq ?_
             refine xCond rfl rfl ?_ ?_
             · refine rSkip ?_
               refine rThen ?_
               refine xSeq [0, 3, 5, 6, 16, 17, 28, 29] (ir_Number_k4 F (ir_Number_l3 F (fun x0 x3 x5 x16 x17 => ir_Number_k2 F (ir_Number_l1 F (fun x5 => ir_Number_k0 F x5) k1) x0 x3 x5 x16 x17) k3) ) ?_ fun hj4 => ?_
               · intro x0 x3 x5 x6 x16 x17 x28 x29
                 show OKc _ _ [(29, x29), (28, x28), (17, x17), (16, x16), (6, x6), (5, x5), (3, x3), (0, x0)] _ _
                 refine cLess [29, 28, 17, 16, 6, 5, 3, 0] ?_
                 refine xR hE [0, 3, 5, 6, 16, 17, 28, 29] rfl (ir_Number_r12_ok F _ _ _ _ _ _ _ _ _) ?_
                 intro x0 x3 x5 x6 x16 x17 x28 x29
                 show OKq _ _ _ [(29, x29), (28, x28), (17, x17), (16, x16), (6, x6), (5, x5), (3, x3), (0, x0)] _
                 exact qLess [29, 28, 17, 16, 6, 5, 3, 0] (hI3 k3 x0 x3 x5 x6 x16 x17 x28 x29)
               · refine rBlock ?_
                 refine rSeq ?_
                 refine cLess [29, 28, 17, 16, 6, 5, 3, 0] ?_
                 refine xR hE [0, 3, 5, 6, 7, 16, 17, 28, 29] rfl (ir_Number_r9_ok F _ _ _ _ _ _ _ _ _) ?_
                 intro x0 x3 x5 x6 x7 x16 x17 x28 x29
                 show OKq _ _ _ [(29, x29), (28, x28), (17, x17), (16, x16), (7, x7), (6, x6), (5, x5), (3, x3), (0, x0)] _
                 refine rThen ?_
                 refine rSeq ?_
                 refine cLess [29, 28, 17, 16, 7, 6, 5, 3, 0] ?_
                 refine xR hE [0, 3, 5, 6, 7, 16, 17, 28, 29, 41] rfl (ir_Number_r10_ok F _ _ _ _ _ _ _ _ _ _) ?_
                 intro x0 x3 x5 x6 x7 x16 x17 x28 x29 x41
                 show OKq _ _ _ [(41, x41), (29, x29), (28, x28), (17, x17), (16, x16), (7, x7), (6, x6), (5, x5), (3, x3), (0, x0)] _
                 refine rThen ?_
                 refine xCond rfl rfl ?_ ?_
                 · refine cLess [29, 28, 17, 16, 7, 6, 5, 3, 0] ?_
                   refine xR hE [0, 3, 5, 6, 16, 17, 28, 29] rfl (ir_Number_r11_ok F _ _ _ _ _ _ _ _ _ _) ?_
                   intro x0 x3 x5 x6 x16 x17 x28 x29
                   show OKq _ _ _ [(29, x29), (28, x28), (17, x17), (16, x16), (6, x6), (5, x5), (3, x3), (0, x0)] _
                   refine xBlockN ?_
                   exact qLess [29, 28, 17, 16, 6, 5, 3, 0] (hj4 x0 x3 x5 x6 x16 x17 x28 x29)
                 · refine rSkip ?_
                   refine xBlockN ?_
                   exact qLess [29, 28, 17, 16, 6, 5, 3, 0] (hj4 x0 x3 x5 x6 x16 x17 x28 x29)
             · refine rExit ?_
               refine xThenX ?_
               refine xThenX ?_
               refine rOut ?_
               refine xBlockN ?_
               exact qLess [17, 16, 5, 3, 0] (hj2 x0 x3 x5 x16 x17)
         · refine rExit ?_
           refine xThenX ?_
           refine xThenX ?_
           refine rOut ?_
           exact qLess [5] (hj0 x5)
   · exact rFail


/-! ### math/bits.Len -/

def bits_Len_env (F : Nat) : Env := envOf [(80, bits_Len32_m F), (81, bits_Len64_m F)]

noncomputable def bits_Len_R (F : Nat) := rK Try.prog TryG (bits_Len_env F) Try.f54
noncomputable def bits_Len_D (F : Nat) := dK Try.prog TryG (bits_Len_env F) Try.f54

def bits_Len_r2 (F : Nat) (x0 : Value) (K : Value → M Value) : M Value :=
  bnd (bits_Len64 F x0) fun v7 => K v7

theorem bits_Len_r2_ok (F : Nat) (x0 : Value) (K : Value → M Value) : bits_Len_r2 F x0 K = bits_Len_R F 2 [(0, x0)] [2] K := by kernel_rfl

def bits_Len_r1 (F : Nat) (x0 : Value) (K : Value → M Value) : M Value :=
  bnd (opConv .u32 x0) fun v4 => bnd (bits_Len32 F v4) fun v5 => K v5

theorem bits_Len_r1_ok (F : Nat) (x0 : Value) (K : Value → M Value) : bits_Len_r1 F x0 K = bits_Len_R F 1 [(0, x0)] [2] K := by kernel_rfl

def bits_Len_r0 (F : Nat) (x0 : Value) (K : Value → M Value) : M Value :=
  K x0

theorem bits_Len_r0_ok (F : Nat) (x0 : Value) (K : Value → M Value) : bits_Len_r0 F x0 K = bits_Len_R F 0 [(0, x0)] [0] K := by kernel_rfl

def bits_Len (F : Nat) (x0 : Value) : M Value :=
  bits_Len_r0 F x0 (fun x0 => onB (.bool false) (bits_Len_r1 F x0 (fun x2 => ret x2)) (bits_Len_r2 F x0 (fun x2 => ret x2)))

def bits_Len_m (F : Nat) : List Value → M Value
  | [x0] => bits_Len F x0
  | _ => fail

theorem bits_Len_body : Try.f54.body = some (.seq (.region 0 (opsOf Try.f54 0) false) (.seq (.cond (.const (.bool false)) (.seq (.region 1 (opsOf Try.f54 1) false) .ret) .skip) (.seq (.region 2 (opsOf Try.f54 2) false) .ret))) := by kernel_rfl

theorem bits_Len_ok (F : Nat) : Sim Try.prog TryG 54 (bits_Len_m F) := by
 have hE : EnvOK Try.prog TryG (bits_Len_env F) := (EnvOK.cons (bits_Len32_ok F) (EnvOK.cons (bits_Len64_ok F) EnvOK.nil))
 refine Sim.of_body (E := bits_Len_env F) Try.func54 bits_Len_body Try.call54 ?_ ?_
 · intro args hl; unfold bits_Len_m; split
   · exact absurd hl (Nat.not_lt.2 (Nat.le_of_ble_eq_true rfl))
   · rfl
 · intro args ρ h w z; unfold bits_Len_m; split
   · rename_i x0; show OKc _ _ [(0, x0)] _ _
     refine rSeq ?_
     refine cLess [0] ?_
     refine xR hE [0] rfl (bits_Len_r0_ok F _ _) ?_
     intro x0
     show OKq _ _ _ [(0, x0)] _
     refine rThen ?_
     refine rSeq ?_
     refine xCond rfl rfl ?_ ?_
     · refine rSeq ?_
       refine cLess [0] ?_
       refine xR hE [2] rfl (bits_Len_r1_ok F _ _) ?_
       intro x2
       show OKq _ _ _ [(2, x2)] _
       refine rThen ?_
       refine rRet ?_
       refine xThenR ?_
       exact rDone (.inr rfl) rfl
     · refine rSkip ?_
       refine rThen ?_
       refine rSeq ?_
       refine cLess [0] ?_
       refine xR hE [2] rfl (bits_Len_r2_ok F _ _) ?_
       intro x2
       show OKq _ _ _ [(2, x2)] _
       refine rThen ?_
       refine rRet ?_
       exact rDone (.inr rfl) rfl
   · exact rFail


/-! ### haruspex/haruspexref8.instr -/

def R8_instr_env (F : Nat) : Env := envOf [(14, R8_Def_m F), (26, R8_Uses_m F), (56, R8_in_m F)]

noncomputable def R8_instr_R (F : Nat) := rK Try.prog TryG (R8_instr_env F) Try.f57
noncomputable def R8_instr_D (F : Nat) := dK Try.prog TryG (R8_instr_env F) Try.f57

def R8_instr_r29 (F : Nat) (x5 : Value) (K : Value → M Value) : M Value :=
  bnd (opFieldAddr 4 x5) fun v191 => bnd (opLoad v191) fun v192 => bnd (opBin .eql v192 (.int .i64 (0))) fun v193 => K v193

theorem R8_instr_r29_ok (F : Nat) (x5 : Value) (K : Value → M Value) : R8_instr_r29 F x5 K = R8_instr_R F 29 [(5, x5)] [6] K := by kernel_rfl

def R8_instr_r18 (F : Nat) (K : Value → M Value) : M Value :=
  K (.bool true)

theorem R8_instr_r18_ok (F : Nat) (K : Value → M Value) : R8_instr_r18 F K = R8_instr_R F 18 [] [6] K := by kernel_rfl

def R8_instr_r22 (F : Nat) (x0 x5 x13 : Value) (K : Value → M Value) : M Value :=
  bnd (opFieldAddr 0 x13) fun v137 => bnd (opLoad v137) fun v138 => bnd (opBin .neq v138 (.int .i64 (1))) fun v139 => onB v139 (K (.bool true)) (bnd (opFieldAddr 4 x5) fun v141 => bnd (opLoad v141) fun v142 => bnd (opNil x0) fun v144 => bnd (opFieldAddr 0 v144) fun v145 => bnd (opLoad v145) fun v146 => bnd (opFieldAddr 1 x13) fun v147 => bnd (opLoad v147) fun v148 => bnd (opIndexAddr 1 v146 v148) fun v149 => bnd (opLoad v149) fun v150 => bnd (opLen v150) fun v151 => bnd (R8_in F v142 v151) fun v152 => K v152)

theorem R8_instr_r22_ok (F : Nat) (x0 x5 x13 : Value) (K : Value → M Value) : R8_instr_r22 F x0 x5 x13 K = R8_instr_D F 22 [0, 1, 2, 3, 4, 5, 6, 7, 8, 9, 10, 11, 12, 13, 14, 15, 16, 17] [(13, x13), (5, x5), (0, x0)] [6] K := by kernel_rfl

theorem R8_instr_r22_good : goodOrder (opsOf Try.f57 22) [0, 1, 2, 3, 4, 5, 6, 7, 8, 9, 10, 11, 12, 13, 14, 15, 16, 17] = true := by kernel_rfl

def R8_instr_r21 (F : Nat) (x0 x4 x5 : Value) (K : Value → Value → Value → M Value) : M Value :=
  bnd (opFieldAddr 1 x4) fun v131 => bnd (opLoad v131) fun v132 => bnd (opFieldAddr 2 x5) fun v133 => bnd (opLoad v133) fun v134 => bnd (opIndexAddr 2 v132 v134) fun v135 => bnd (opLoadN 2 v135) fun v136 => bnd (opPtr [(.int .i64 (0)), (.int .i64 (0))]) fun v13 => bnd (opStoreN 2 v13 v136) fun _ => K x0 x5 v13

theorem R8_instr_r21_ok (F : Nat) (x0 x4 x5 : Value) (K : Value → Value → Value → M Value) : R8_instr_r21 F x0 x4 x5 K = R8_instr_R F 21 [(5, x5), (4, x4), (0, x0)] [0, 5, 13] K := by kernel_rfl

def R8_instr_r25 (F : Nat) (x0 x5 : Value) (K : Value → M Value) : M Value :=
  bnd (opFieldAddr 4 x5) fun v157 => bnd (opLoad v157) fun v158 => bnd (opNil x0) fun v160 => bnd (opFieldAddr 4 v160) fun v161 => bnd (opLoad v161) fun v162 => bnd (opLen v162) fun v163 => bnd (R8_in F v158 v163) fun v164 => K v164

theorem R8_instr_r25_ok (F : Nat) (x0 x5 : Value) (K : Value → M Value) : R8_instr_r25 F x0 x5 K = R8_instr_D F 25 [0, 1, 2, 3, 4, 5, 6, 7, 8] [(5, x5), (0, x0)] [6] K := by kernel_rfl

theorem R8_instr_r25_good : goodOrder (opsOf Try.f57 25) [0, 1, 2, 3, 4, 5, 6, 7, 8] = true := by kernel_rfl

def R8_instr_r28 (F : Nat) (x0 x5 x14 : Value) (K : Value → M Value) : M Value :=
  bnd (opFieldAddr 0 x14) fun v173 => bnd (opLoad v173) fun v174 => bnd (opBin .neq v174 (.int .i64 (3))) fun v175 => onB v175 (K (.bool true)) (bnd (opFieldAddr 4 x5) fun v177 => bnd (opLoad v177) fun v178 => bnd (opNil x0) fun v180 => bnd (opFieldAddr 2 v180) fun v181 => bnd (opLoad v181) fun v182 => bnd (opFieldAddr 1 x14) fun v183 => bnd (opLoad v183) fun v184 => bnd (opIndexAddr 1 v182 v184) fun v185 => bnd (opFieldAddr 0 v185) fun v186 => bnd (opLoad v186) fun v187 => bnd (opLen v187) fun v188 => bnd (R8_in F v178 v188) fun v189 => K v189)

theorem R8_instr_r28_ok (F : Nat) (x0 x5 x14 : Value) (K : Value → M Value) : R8_instr_r28 F x0 x5 x14 K = R8_instr_D F 28 [0, 1, 2, 3, 4, 5, 6, 7, 8, 9, 10, 11, 12, 13, 14, 15, 16, 17, 18] [(14, x14), (5, x5), (0, x0)] [6] K := by kernel_rfl

theorem R8_instr_r28_good : goodOrder (opsOf Try.f57 28) [0, 1, 2, 3, 4, 5, 6, 7, 8, 9, 10, 11, 12, 13, 14, 15, 16, 17, 18] = true := by kernel_rfl

def R8_instr_r27 (F : Nat) (x0 x4 x5 : Value) (K : Value → Value → Value → M Value) : M Value :=
  bnd (opFieldAddr 1 x4) fun v167 => bnd (opLoad v167) fun v168 => bnd (opFieldAddr 2 x5) fun v169 => bnd (opLoad v169) fun v170 => bnd (opIndexAddr 2 v168 v170) fun v171 => bnd (opLoadN 2 v171) fun v172 => bnd (opPtr [(.int .i64 (0)), (.int .i64 (0))]) fun v14 => bnd (opStoreN 2 v14 v172) fun _ => K x0 x5 v14

theorem R8_instr_r27_ok (F : Nat) (x0 x4 x5 : Value) (K : Value → Value → Value → M Value) : R8_instr_r27 F x0 x4 x5 K = R8_instr_R F 27 [(5, x5), (4, x4), (0, x0)] [0, 5, 14] K := by kernel_rfl

def R8_instr_r26 (F : Nat) (x0 x4 x5 x125 : Value) (K : Value → Value → Value → Value → M Value) : M Value :=
  bnd (opBin .eql x125 (.int .i64 (14))) fun v166 => K x0 x4 x5 v166

theorem R8_instr_r26_ok (F : Nat) (x0 x4 x5 x125 : Value) (K : Value → Value → Value → Value → M Value) : R8_instr_r26 F x0 x4 x5 x125 K = R8_instr_R F 26 [(125, x125), (5, x5), (4, x4), (0, x0)] [0, 4, 5, 165] K := by kernel_rfl

def R8_instr_k0 (F : Nat) (x0 x4 x5 x125 x154 : Value) : M Value :=
  onB x154 (R8_instr_r25 F x0 x5 (fun x6 => ret x6)) (R8_instr_r26 F x0 x4 x5 x125 (fun x0 x4 x5 x165 => onB x165 (R8_instr_r27 F x0 x4 x5 (fun x0 x5 x14 => R8_instr_r28 F x0 x5 x14 (fun x6 => ret x6))) (R8_instr_r29 F x5 (fun x6 => ret x6))))

def R8_instr_r24 (F : Nat) (x0 x4 x5 x125 : Value) (K : Value → Value → Value → Value → Value → M Value) : M Value :=
  bnd (opBin .eql x125 (.int .i64 (12))) fun v156 => K x0 x4 x5 x125 v156

theorem R8_instr_r24_ok (F : Nat) (x0 x4 x5 x125 : Value) (K : Value → Value → Value → Value → Value → M Value) : R8_instr_r24 F x0 x4 x5 x125 K = R8_instr_R F 24 [(125, x125), (5, x5), (4, x4), (0, x0)] [0, 4, 5, 125, 154] K := by kernel_rfl

def R8_instr_r23 (F : Nat) (x0 x4 x5 x125 : Value) (K : Value → Value → Value → Value → Value → M Value) : M Value :=
  bnd (opBin .eql x125 (.int .i64 (10))) fun v155 => K x0 x4 x5 x125 v155

theorem R8_instr_r23_ok (F : Nat) (x0 x4 x5 x125 : Value) (K : Value → Value → Value → Value → Value → M Value) : R8_instr_r23 F x0 x4 x5 x125 K = R8_instr_R F 23 [(125, x125), (5, x5), (4, x4), (0, x0)] [0, 4, 5, 125, 154] K := by kernel_rfl

def R8_instr_k1 (F : Nat) (x0 x4 x5 x125 x128 : Value) : M Value :=
  onB x128 (R8_instr_r21 F x0 x4 x5 (fun x0 x5 x13 => R8_instr_r22 F x0 x5 x13 (fun x6 => ret x6))) (R8_instr_r23 F x0 x4 x5 x125 (fun x0 x4 x5 x125 x154 => onB x154 (R8_instr_k0 F x0 x4 x5 x125 x154) (R8_instr_r24 F x0 x4 x5 x125 (fun x0 x4 x5 x125 x154 => R8_instr_k0 F x0 x4 x5 x125 x154))))

def R8_instr_r20 (F : Nat) (x0 x4 x5 x125 : Value) (K : Value → Value → Value → Value → Value → M Value) : M Value :=
  bnd (opBin .eql x125 (.int .i64 (8))) fun v130 => K x0 x4 x5 x125 v130

theorem R8_instr_r20_ok (F : Nat) (x0 x4 x5 x125 : Value) (K : Value → Value → Value → Value → Value → M Value) : R8_instr_r20 F x0 x4 x5 x125 K = R8_instr_R F 20 [(125, x125), (5, x5), (4, x4), (0, x0)] [0, 4, 5, 125, 128] K := by kernel_rfl

def R8_instr_r19 (F : Nat) (x0 x4 x5 x125 : Value) (K : Value → Value → Value → Value → Value → M Value) : M Value :=
  bnd (opBin .eql x125 (.int .i64 (7))) fun v129 => K x0 x4 x5 x125 v129

theorem R8_instr_r19_ok (F : Nat) (x0 x4 x5 x125 : Value) (K : Value → Value → Value → Value → Value → M Value) : R8_instr_r19 F x0 x4 x5 x125 K = R8_instr_R F 19 [(125, x125), (5, x5), (4, x4), (0, x0)] [0, 4, 5, 125, 128] K := by kernel_rfl

def R8_instr_r17 (F : Nat) (x0 x4 x5 x125 : Value) (K : Value → Value → Value → Value → Value → M Value) : M Value :=
  bnd (opBin .eql x125 (.int .i64 (1))) fun v127 => K x0 x4 x5 x125 v127

theorem R8_instr_r17_ok (F : Nat) (x0 x4 x5 x125 : Value) (K : Value → Value → Value → Value → Value → M Value) : R8_instr_r17 F x0 x4 x5 x125 K = R8_instr_R F 17 [(125, x125), (5, x5), (4, x4), (0, x0)] [0, 4, 5, 125, 126] K := by kernel_rfl

def R8_instr_r16 (F : Nat) (x0 x4 x5 : Value) (K : Value → Value → Value → Value → M Value) : M Value :=
  bnd (opFieldAddr 0 x5) fun v124 => bnd (opLoad v124) fun v125 => K x0 x4 x5 v125

theorem R8_instr_r16_ok (F : Nat) (x0 x4 x5 : Value) (K : Value → Value → Value → Value → M Value) : R8_instr_r16 F x0 x4 x5 K = R8_instr_R F 16 [(5, x5), (4, x4), (0, x0)] [0, 4, 5, 125] K := by kernel_rfl

def R8_instr_r15 (F : Nat) (K : Value → M Value) : M Value :=
  K (.bool false)

theorem R8_instr_r15_ok (F : Nat) (K : Value → M Value) : R8_instr_r15 F K = R8_instr_R F 15 [] [6] K := by kernel_rfl

def R8_instr_r14 (F : Nat) (x0 x4 x5 x12 : Value) (K : Value → Value → Value → Value → M Value) : M Value :=
  bnd (opNot x12) fun v87 => onB v87 (bnd (opFieldAddr 2 x5) fun v89 => bnd (opLoad v89) fun v90 => bnd (opBin .neq v90 (.int .i64 (0))) fun v91 => onB v91 (K x0 x4 x5 (.bool true)) (bnd (opFieldAddr 0 x5) fun v94 => bnd (opLoad v94) fun v95 => bnd (opBin .neq v95 (.int .i64 (2))) fun v96 => onB v96 (bnd (opFieldAddr 0 x5) fun v98 => bnd (opLoad v98) fun v99 => bnd (opBin .neq v99 (.int .i64 (8))) fun v100 => onB v100 (bnd (opFieldAddr 3 x5) fun v103 => bnd (opLoad v103) fun v104 => bnd (opBin .neq v104 (.int .i64 (0))) fun v105 => onB v105 (K x0 x4 x5 (.bool true)) (bnd (opFieldAddr 5 x5) fun v109 => bnd (opLoad v109) fun v110 => bnd (opLen v110) fun v111 => bnd (opBin .gtr v111 (.int .i64 (0))) fun v112 => onB v112 (bnd (opFieldAddr 0 x5) fun v114 => bnd (opLoad v114) fun v115 => bnd (opBin .lss v115 (.int .i64 (12))) fun v116 => onB v116 (K x0 x4 x5 (.bool true)) (bnd (opFieldAddr 0 x5) fun v118 => bnd (opLoad v118) fun v119 => bnd (opBin .gtr v119 (.int .i64 (14))) fun v120 => K x0 x4 x5 v120)) (K x0 x4 x5 (.bool false)))) (bnd (opFieldAddr 5 x5) fun v109 => bnd (opLoad v109) fun v110 => bnd (opLen v110) fun v111 => bnd (opBin .gtr v111 (.int .i64 (0))) fun v112 => onB v112 (bnd (opFieldAddr 0 x5) fun v114 => bnd (opLoad v114) fun v115 => bnd (opBin .lss v115 (.int .i64 (12))) fun v116 => onB v116 (K x0 x4 x5 (.bool true)) (bnd (opFieldAddr 0 x5) fun v118 => bnd (opLoad v118) fun v119 => bnd (opBin .gtr v119 (.int .i64 (14))) fun v120 => K x0 x4 x5 v120)) (K x0 x4 x5 (.bool false)))) (bnd (opFieldAddr 5 x5) fun v109 => bnd (opLoad v109) fun v110 => bnd (opLen v110) fun v111 => bnd (opBin .gtr v111 (.int .i64 (0))) fun v112 => onB v112 (bnd (opFieldAddr 0 x5) fun v114 => bnd (opLoad v114) fun v115 => bnd (opBin .lss v115 (.int .i64 (12))) fun v116 => onB v116 (K x0 x4 x5 (.bool true)) (bnd (opFieldAddr 0 x5) fun v118 => bnd (opLoad v118) fun v119 => bnd (opBin .gtr v119 (.int .i64 (14))) fun v120 => K x0 x4 x5 v120)) (K x0 x4 x5 (.bool false))))) (bnd (opFieldAddr 0 x5) fun v94 => bnd (opLoad v94) fun v95 => bnd (opBin .neq v95 (.int .i64 (2))) fun v96 => onB v96 (bnd (opFieldAddr 0 x5) fun v98 => bnd (opLoad v98) fun v99 => bnd (opBin .neq v99 (.int .i64 (8))) fun v100 => onB v100 (bnd (opFieldAddr 3 x5) fun v103 => bnd (opLoad v103) fun v104 => bnd (opBin .neq v104 (.int .i64 (0))) fun v105 => onB v105 (K x0 x4 x5 (.bool true)) (bnd (opFieldAddr 5 x5) fun v109 => bnd (opLoad v109) fun v110 => bnd (opLen v110) fun v111 => bnd (opBin .gtr v111 (.int .i64 (0))) fun v112 => onB v112 (bnd (opFieldAddr 0 x5) fun v114 => bnd (opLoad v114) fun v115 => bnd (opBin .lss v115 (.int .i64 (12))) fun v116 => onB v116 (K x0 x4 x5 (.bool true)) (bnd (opFieldAddr 0 x5) fun v118 => bnd (opLoad v118) fun v119 => bnd (opBin .gtr v119 (.int .i64 (14))) fun v120 => K x0 x4 x5 v120)) (K x0 x4 x5 (.bool false)))) (bnd (opFieldAddr 5 x5) fun v109 => bnd (opLoad v109) fun v110 => bnd (opLen v110) fun v111 => bnd (opBin .gtr v111 (.int .i64 (0))) fun v112 => onB v112 (bnd (opFieldAddr 0 x5) fun v114 => bnd (opLoad v114) fun v115 => bnd (opBin .lss v115 (.int .i64 (12))) fun v116 => onB v116 (K x0 x4 x5 (.bool true)) (bnd (opFieldAddr 0 x5) fun v118 => bnd (opLoad v118) fun v119 => bnd (opBin .gtr v119 (.int .i64 (14))) fun v120 => K x0 x4 x5 v120)) (K x0 x4 x5 (.bool false)))) (bnd (opFieldAddr 5 x5) fun v109 => bnd (opLoad v109) fun v110 => bnd (opLen v110) fun v111 => bnd (opBin .gtr v111 (.int .i64 (0))) fun v112 => onB v112 (bnd (opFieldAddr 0 x5) fun v114 => bnd (opLoad v114) fun v115 => bnd (opBin .lss v115 (.int .i64 (12))) fun v116 => onB v116 (K x0 x4 x5 (.bool true)) (bnd (opFieldAddr 0 x5) fun v118 => bnd (opLoad v118) fun v119 => bnd (opBin .gtr v119 (.int .i64 (14))) fun v120 => K x0 x4 x5 v120)) (K x0 x4 x5 (.bool false))))

theorem R8_instr_r14_ok (F : Nat) (x0 x4 x5 x12 : Value) (K : Value → Value → Value → Value → M Value) : R8_instr_r14 F x0 x4 x5 x12 K = R8_instr_R F 14 [(12, x12), (5, x5), (4, x4), (0, x0)] [0, 4, 5, 123] K := by kernel_rfl

def R8_instr_r13 (F : Nat) (x0 x4 x5 : Value) (K : Value → Value → Value → Value → M Value) : M Value :=
  bnd (opFieldAddr 0 x5) fun v63 => bnd (opLoad v63) fun v64 => bnd (opBin .eql v64 (.int .i64 (2))) fun v65 => onB v65 (K x0 x4 x5 (.bool true)) (bnd (opFieldAddr 0 x5) fun v67 => bnd (opLoad v67) fun v68 => bnd (opBin .geq v68 (.int .i64 (6))) fun v69 => onB v69 (bnd (opFieldAddr 0 x5) fun v71 => bnd (opLoad v71) fun v72 => bnd (opBin .leq v72 (.int .i64 (9))) fun v73 => onB v73 (K x0 x4 x5 (.bool true)) (bnd (opFieldAddr 0 x5) fun v77 => bnd (opLoad v77) fun v78 => bnd (opBin .eql v78 (.int .i64 (11))) fun v79 => onB v79 (K x0 x4 x5 (.bool true)) (bnd (opFieldAddr 0 x5) fun v82 => bnd (opLoad v82) fun v83 => bnd (opBin .geq v83 (.int .i64 (13))) fun v84 => K x0 x4 x5 v84))) (bnd (opFieldAddr 0 x5) fun v77 => bnd (opLoad v77) fun v78 => bnd (opBin .eql v78 (.int .i64 (11))) fun v79 => onB v79 (K x0 x4 x5 (.bool true)) (bnd (opFieldAddr 0 x5) fun v82 => bnd (opLoad v82) fun v83 => bnd (opBin .geq v83 (.int .i64 (13))) fun v84 => K x0 x4 x5 v84)))

theorem R8_instr_r13_ok (F : Nat) (x0 x4 x5 : Value) (K : Value → Value → Value → Value → M Value) : R8_instr_r13 F x0 x4 x5 K = R8_instr_R F 13 [(5, x5), (4, x4), (0, x0)] [0, 4, 5, 12] K := by kernel_rfl

def R8_instr_k2 (F : Nat) (x0 x4 x5 : Value) : M Value :=
  R8_instr_r13 F x0 x4 x5 (fun x0 x4 x5 x12 => R8_instr_r14 F x0 x4 x5 x12 (fun x0 x4 x5 x123 => onB x123 (R8_instr_r15 F (fun x6 => ret x6)) (R8_instr_r16 F x0 x4 x5 (fun x0 x4 x5 x125 => R8_instr_r17 F x0 x4 x5 x125 (fun x0 x4 x5 x125 x126 => onB x126 (R8_instr_r18 F (fun x6 => ret x6)) (R8_instr_r19 F x0 x4 x5 x125 (fun x0 x4 x5 x125 x128 => onB x128 (R8_instr_k1 F x0 x4 x5 x125 x128) (R8_instr_r20 F x0 x4 x5 x125 (fun x0 x4 x5 x125 x128 => R8_instr_k1 F x0 x4 x5 x125 x128)))))))))

def R8_instr_r10 (F : Nat) (x0 x4 x5 x7 x10 x11 : Value) (K : Value → Value → Value → Value → Value → Value → M Value) : M Value :=
  bnd (opBin .add x11 (.int .i64 (1))) fun v55 => K x0 x4 x5 x7 x10 v55

theorem R8_instr_r10_ok (F : Nat) (x0 x4 x5 x7 x10 x11 : Value) (K : Value → Value → Value → Value → Value → Value → M Value) : R8_instr_r10 F x0 x4 x5 x7 x10 x11 K = R8_instr_R F 10 [(11, x11), (10, x10), (7, x7), (5, x5), (4, x4), (0, x0)] [0, 4, 5, 7, 10, 11] K := by kernel_rfl

def R8_instr_r12 (F : Nat) (K : Value → M Value) : M Value :=
  K (.bool false)

theorem R8_instr_r12_ok (F : Nat) (K : Value → M Value) : R8_instr_r12 F K = R8_instr_R F 12 [] [6] K := by kernel_rfl

def R8_instr_r11 (F : Nat) (x0 x4 x5 x7 x10 x11 : Value) (K : Value → Value → Value → Value → Value → Value → Value → M Value) : M Value :=
  bnd (opIndexAddr 1 x10 x11) fun v58 => bnd (opLoad v58) fun v59 => bnd (R8_in F v59 x7) fun v61 => bnd (opNot v61) fun v62 => K x0 x4 x5 x7 x10 x11 v62

theorem R8_instr_r11_ok (F : Nat) (x0 x4 x5 x7 x10 x11 : Value) (K : Value → Value → Value → Value → Value → Value → Value → M Value) : R8_instr_r11 F x0 x4 x5 x7 x10 x11 K = R8_instr_R F 11 [(11, x11), (10, x10), (7, x7), (5, x5), (4, x4), (0, x0)] [0, 4, 5, 7, 10, 11, 62] K := by kernel_rfl

def R8_instr_r9 (F : Nat) (x0 x4 x5 x7 x10 x11 : Value) (K : Value → Value → Value → Value → Value → Value → Value → M Value) : M Value :=
  bnd (opLen x10) fun v52 => bnd (opBin .lss x11 v52) fun v53 => K x0 x4 x5 x7 x10 x11 v53

theorem R8_instr_r9_ok (F : Nat) (x0 x4 x5 x7 x10 x11 : Value) (K : Value → Value → Value → Value → Value → Value → Value → M Value) : R8_instr_r9 F x0 x4 x5 x7 x10 x11 K = R8_instr_R F 9 [(11, x11), (10, x10), (7, x7), (5, x5), (4, x4), (0, x0)] [0, 4, 5, 7, 10, 11, 53] K := by kernel_rfl

def R8_instr_b3 (F : Nat) (E3_0 : Value → Value → Value → M Value) (A3 : Value → Value → Value → Value → Value → Value → M Value) (x0 x4 x5 x7 x10 x11 : Value) : M Value :=
  R8_instr_r9 F x0 x4 x5 x7 x10 x11 (fun x0 x4 x5 x7 x10 x11 x53 => onB x53 (R8_instr_r11 F x0 x4 x5 x7 x10 x11 (fun x0 x4 x5 x7 x10 x11 x62 => onB x62 (R8_instr_r12 F (fun x6 => ret x6)) (R8_instr_r10 F x0 x4 x5 x7 x10 x11 (fun x0 x4 x5 x7 x10 x11 => A3 x0 x4 x5 x7 x10 x11)))) (E3_0 x0 x4 x5))

def R8_instr_l3 (F : Nat) (E3_0 : Value → Value → Value → M Value) : Nat → Value → Value → Value → Value → Value → Value → M Value
  | 0, _, _, _, _, _, _ => fail
  | k3 + 1, x0, x4, x5, x7, x10, x11 => R8_instr_b3 F E3_0 (R8_instr_l3 F E3_0 k3) x0 x4 x5 x7 x10 x11

theorem R8_instr_l3_s (F : Nat) (E3_0 : Value → Value → Value → M Value) (k3 : Nat) (x0 x4 x5 x7 x10 x11 : Value) : R8_instr_l3 F E3_0 (k3 + 1) x0 x4 x5 x7 x10 x11 = R8_instr_b3 F E3_0 (R8_instr_l3 F E3_0 k3) x0 x4 x5 x7 x10 x11 := rfl

def R8_instr_r8 (F : Nat) (x0 x4 x5 x7 x10 : Value) (K : Value → Value → Value → Value → Value → Value → M Value) : M Value :=
  K x0 x4 x5 x7 x10 (.int .i64 (0))

theorem R8_instr_r8_ok (F : Nat) (x0 x4 x5 x7 x10 : Value) (K : Value → Value → Value → Value → Value → Value → M Value) : R8_instr_r8 F x0 x4 x5 x7 x10 K = R8_instr_R F 8 [(10, x10), (7, x7), (5, x5), (4, x4), (0, x0)] [0, 4, 5, 7, 10, 11] K := by kernel_rfl

def R8_instr_r7 (F : Nat) (K : Value → M Value) : M Value :=
  K (.bool false)

theorem R8_instr_r7_ok (F : Nat) (K : Value → M Value) : R8_instr_r7 F K = R8_instr_R F 7 [] [6] K := by kernel_rfl

def R8_instr_r6 (F : Nat) (x0 x4 x5 x7 x9 x10 : Value) (K : Value → Value → Value → Value → Value → Value → M Value) : M Value :=
  onB x9 (bnd (opFieldAddr 1 x5) fun v35 => bnd (opLoad v35) fun v36 => bnd (R8_in F v36 x7) fun v38 => bnd (opNot v38) fun v39 => onB v39 (K x0 x4 x5 x7 x10 (.bool true)) (bnd (opNot x9) fun v43 => onB v43 (bnd (opFieldAddr 1 x5) fun v45 => bnd (opLoad v45) fun v46 => bnd (opBin .neq v46 (.int .i64 (0))) fun v47 => K x0 x4 x5 x7 x10 v47) (K x0 x4 x5 x7 x10 (.bool false)))) (bnd (opNot x9) fun v43 => onB v43 (bnd (opFieldAddr 1 x5) fun v45 => bnd (opLoad v45) fun v46 => bnd (opBin .neq v46 (.int .i64 (0))) fun v47 => K x0 x4 x5 x7 x10 v47) (K x0 x4 x5 x7 x10 (.bool false)))

theorem R8_instr_r6_ok (F : Nat) (x0 x4 x5 x7 x9 x10 : Value) (K : Value → Value → Value → Value → Value → Value → M Value) : R8_instr_r6 F x0 x4 x5 x7 x9 x10 K = R8_instr_R F 6 [(10, x10), (9, x9), (7, x7), (5, x5), (4, x4), (0, x0)] [0, 4, 5, 7, 10, 49] K := by kernel_rfl

def R8_instr_r5 (F : Nat) (x0 x4 x5 x7 x9 : Value) (K : Value → Value → Value → Value → Value → Value → M Value) : M Value :=
  bnd (opLoadN 6 x5) fun v31 => bnd (R8_Uses F v31) fun v32 => K x0 x4 x5 x7 x9 v32

theorem R8_instr_r5_ok (F : Nat) (x0 x4 x5 x7 x9 : Value) (K : Value → Value → Value → Value → Value → Value → M Value) : R8_instr_r5 F x0 x4 x5 x7 x9 K = R8_instr_R F 5 [(9, x9), (7, x7), (5, x5), (4, x4), (0, x0)] [0, 4, 5, 7, 9, 10] K := by kernel_rfl

def R8_instr_r4 (F : Nat) (x0 x4 x5 x7 : Value) (K : Value → Value → Value → Value → Value → M Value) : M Value :=
  bnd (opLoadN 6 x5) fun v27 => bnd (R8_Def F v27) fun v28 => bnd (opExtract v28 0) fun v29 => bnd (opExtract v28 1) fun v30 => K x0 x4 x5 x7 v30

theorem R8_instr_r4_ok (F : Nat) (x0 x4 x5 x7 : Value) (K : Value → Value → Value → Value → Value → M Value) : R8_instr_r4 F x0 x4 x5 x7 K = R8_instr_R F 4 [(7, x7), (5, x5), (4, x4), (0, x0)] [0, 4, 5, 7, 9] K := by kernel_rfl

def R8_instr_r3 (F : Nat) (x0 x4 x5 : Value) (K : Value → Value → Value → Value → M Value) : M Value :=
  bnd (opFieldAddr 1 x4) fun v23 => bnd (opLoad v23) fun v24 => bnd (opLen v24) fun v25 => K x0 x4 x5 v25

theorem R8_instr_r3_ok (F : Nat) (x0 x4 x5 : Value) (K : Value → Value → Value → Value → M Value) : R8_instr_r3 F x0 x4 x5 K = R8_instr_R F 3 [(5, x5), (4, x4), (0, x0)] [0, 4, 5, 7] K := by kernel_rfl

def R8_instr_r2 (F : Nat) (K : Value → M Value) : M Value :=
  K (.bool false)

theorem R8_instr_r2_ok (F : Nat) (K : Value → M Value) : R8_instr_r2 F K = R8_instr_R F 2 [] [6] K := by kernel_rfl

def R8_instr_r1 (F : Nat) (x0 x4 x5 : Value) (K : Value → Value → Value → Value → M Value) : M Value :=
  bnd (opFieldAddr 0 x5) fun v15 => bnd (opLoad v15) fun v16 => bnd (opBin .lss v16 (.int .i64 (1))) fun v17 => onB v17 (K x0 x4 x5 (.bool true)) (bnd (opFieldAddr 0 x5) fun v19 => bnd (opLoad v19) fun v20 => bnd (opBin .gtr v20 (.int .i64 (15))) fun v21 => K x0 x4 x5 v21)

theorem R8_instr_r1_ok (F : Nat) (x0 x4 x5 : Value) (K : Value → Value → Value → Value → M Value) : R8_instr_r1 F x0 x4 x5 K = R8_instr_R F 1 [(5, x5), (4, x4), (0, x0)] [0, 4, 5, 22] K := by kernel_rfl

def R8_instr_r0 (F : Nat) (x0 x1 x2 : Value) (K : Value → Value → Value → M Value) : M Value :=
  bnd (opBoxN x1) fun v4 => bnd (opBoxN x2) fun v5 => K x0 v4 v5

theorem R8_instr_r0_ok (F : Nat) (x0 x1 x2 : Value) (K : Value → Value → Value → M Value) : R8_instr_r0 F x0 x1 x2 K = R8_instr_R F 0 [(2, x2), (1, x1), (0, x0)] [0, 4, 5] K := by kernel_rfl

def R8_instr (F : Nat) (x0 x1 x2 : Value) : M Value :=
  R8_instr_r0 F x0 x1 x2 (fun x0 x4 x5 => R8_instr_r1 F x0 x4 x5 (fun x0 x4 x5 x22 => onB x22 (R8_instr_r2 F (fun x6 => ret x6)) (R8_instr_r3 F x0 x4 x5 (fun x0 x4 x5 x7 => R8_instr_r4 F x0 x4 x5 x7 (fun x0 x4 x5 x7 x9 => R8_instr_r5 F x0 x4 x5 x7 x9 (fun x0 x4 x5 x7 x9 x10 => R8_instr_r6 F x0 x4 x5 x7 x9 x10 (fun x0 x4 x5 x7 x10 x49 => onB x49 (R8_instr_r7 F (fun x6 => ret x6)) (R8_instr_r8 F x0 x4 x5 x7 x10 (fun x0 x4 x5 x7 x10 x11 => R8_instr_l3 F (fun x0 x4 x5 => R8_instr_k2 F x0 x4 x5) F x0 x4 x5 x7 x10 x11)))))))))

def R8_instr_m (F : Nat) : List Value → M Value
  | [x0, x1, x2] => R8_instr F x0 x1 x2
  | _ => fail

theorem R8_instr_body : Try.f57.body = some (.seq (.region 0 (opsOf Try.f57 0) false) (.seq (.seq (.region 1 (opsOf Try.f57 1) false) (.cond (.tmp 22) (.seq (.region 2 (opsOf Try.f57 2) false) .ret) .skip)) (.seq (.region 3 (opsOf Try.f57 3) false) (.seq (.region 4 (opsOf Try.f57 4) false) (.seq (.region 5 (opsOf Try.f57 5) false) (.seq (.seq (.region 6 (opsOf Try.f57 6) false) (.cond (.tmp 49) (.seq (.region 7 (opsOf Try.f57 7) false) .ret) .skip)) (.seq (.seq (.region 8 (opsOf Try.f57 8) false) (.block 0 (.loop (.seq (.seq (.region 9 (opsOf Try.f57 9) false) (.cond (.tmp 53) .skip (.exit 0))) (.seq (.block 1 (.seq (.region 11 (opsOf Try.f57 11) false) (.cond (.tmp 62) (.seq (.region 12 (opsOf Try.f57 12) false) .ret) .skip))) (.region 10 (opsOf Try.f57 10) false)))))) (.seq (.region 13 (opsOf Try.f57 13) false) (.seq (.seq (.region 14 (opsOf Try.f57 14) false) (.cond (.tmp 123) (.seq (.region 15 (opsOf Try.f57 15) false) .ret) .skip)) (.seq (.seq (.region 16 (opsOf Try.f57 16) false) (.block 2 (.seq (.region 17 (opsOf Try.f57 17) false) (.cond (.tmp 126) (.seq (.region 18 (opsOf Try.f57 18) false) .ret) (.seq (.seq (.region 19 (opsOf Try.f57 19) false) (.cond (.tmp 128) .skip (.region 20 (opsOf Try.f57 20) false))) (.cond (.tmp 128) (.seq (.region 21 (opsOf Try.f57 21) false) (.seq (.region 22 (opsOf Try.f57 22) true) .ret)) (.seq (.seq (.region 23 (opsOf Try.f57 23) false) (.cond (.tmp 154) .skip (.region 24 (opsOf Try.f57 24) false))) (.cond (.tmp 154) (.seq (.region 25 (opsOf Try.f57 25) true) .ret) (.seq (.region 26 (opsOf Try.f57 26) false) (.cond (.tmp 165) (.seq (.region 27 (opsOf Try.f57 27) false) (.seq (.region 28 (opsOf Try.f57 28) true) .ret)) .skip)))))))))) (.seq (.region 29 (opsOf Try.f57 29) false) .ret))))))))))) := by kernel_rfl

theorem R8_instr_ok (F : Nat) : Sim Try.prog TryG 57 (R8_instr_m F) := by
 have hE : EnvOK Try.prog TryG (R8_instr_env F) := (EnvOK.cons (R8_Def_ok F) (EnvOK.cons (R8_Uses_ok F) (EnvOK.cons (R8_in_ok F) EnvOK.nil)))
 refine Sim.of_body (E := R8_instr_env F) Try.func57 R8_instr_body Try.call57 ?_ ?_
 · intro args hl; unfold R8_instr_m; split
   · exact absurd hl (Nat.not_lt.2 (Nat.le_of_ble_eq_true rfl))
   · rfl
 · intro args ρ h w z; unfold R8_instr_m; split
   · rename_i x0 x1 x2; show OKc _ _ [(0, x0), (1, x1), (2, x2)] _ _
     refine rSeq ?_
     refine cLess [2, 1, 0] ?_
     refine xR hE [0, 4, 5] rfl (R8_instr_r0_ok F _ _ _ _) ?_
     intro x0 x4 x5
     show OKq _ _ _ [(5, x5), (4, x4), (0, x0)] _
     refine rThen ?_
     refine rSeq ?_
     refine rSeq ?_
     refine cLess [5, 4, 0] ?_
     refine xR hE [0, 4, 5, 22] rfl (R8_instr_r1_ok F _ _ _ _) ?_
     intro x0 x4 x5 x22
     show OKq _ _ _ [(22, x22), (5, x5), (4, x4), (0, x0)] _
     refine rThen ?_
     refine xCond rfl rfl ?_ ?_
     · refine rSeq ?_
       refine cLess [] ?_
       refine xR hE [6] rfl (R8_instr_r2_ok F _) ?_
       intro x6
       show OKq _ _ _ [(6, x6)] _
       refine rThen ?_
       refine rRet ?_
       refine xThenR ?_
       exact rDone (.inr rfl) rfl
     · refine rSkip ?_
       refine rThen ?_
       refine rSeq ?_
       refine cLess [5, 4, 0] ?_
       refine xR hE [0, 4, 5, 7] rfl (R8_instr_r3_ok F _ _ _ _) ?_
       intro x0 x4 x5 x7
       show OKq _ _ _ [(7, x7), (5, x5), (4, x4), (0, x0)] _
       refine rThen ?_
       refine rSeq ?_
       refine cLess [7, 5, 4, 0] ?_
       refine xR hE [0, 4, 5, 7, 9] rfl (R8_instr_r4_ok F _ _ _ _ _) ?_
       intro x0 x4 x5 x7 x9
       show OKq _ _ _ [(9, x9), (7, x7), (5, x5), (4, x4), (0, x0)] _
       refine rThen ?_
       refine rSeq ?_
       refine cLess [9, 7, 5, 4, 0] ?_
       refine xR hE [0, 4, 5, 7, 9, 10] rfl (R8_instr_r5_ok F _ _ _ _ _ _) ?_
       intro x0 x4 x5 x7 x9 x10
       show OKq _ _ _ [(10, x10), (9, x9), (7, x7), (5, x5), (4, x4), (0, x0)] _
       refine rThen ?_
       refine rSeq ?_
       refine rSeq ?_
       refine cLess [10, 9, 7, 5, 4, 0] ?_
       refine xR hE [0, 4, 5, 7, 10, 49] rfl (R8_instr_r6_ok F _ _ _ _ _ _ _) ?_
       intro x0 x4 x5 x7 x10 x49
       show OKq _ _ _ [(49, x49), (10, x10), (7, x7), (5, x5), (4, x4), (0, x0)] _
       refine rThen ?_
       refine xCond rfl rfl ?_ ?_
       · refine rSeq ?_
         refine cLess [] ?_
         refine xR hE [6] rfl (R8_instr_r7_ok F _) ?_
         intro x6
         show OKq _ _ _ [(6, x6)] _
         refine rThen ?_
         refine rRet ?_
         refine xThenR ?_
         exact rDone (.inr rfl) rfl
       · refine rSkip ?_
         refine rThen ?_
         refine xSeq [0, 4, 5] (R8_instr_k2 F ) ?_ fun hj2 => ?_
         · intro x0 x4 x5
           show OKc _ _ [(5, x5), (4, x4), (0, x0)] _ _
           refine rSeq ?_
           refine cLess [5, 4, 0] ?_
           refine xR hE [0, 4, 5, 12] rfl (R8_instr_r13_ok F _ _ _ _) ?_
           intro x0 x4 x5 x12
           show OKq _ _ _ [(12, x12), (5, x5), (4, x4), (0, x0)] _
           refine rThen ?_
           refine rSeq ?_
           refine rSeq ?_
           refine cLess [12, 5, 4, 0] ?_
           refine xR hE [0, 4, 5, 123] rfl (R8_instr_r14_ok F _ _ _ _ _) ?_
           intro x0 x4 x5 x123
           show OKq _ _ _ [(123, x123), (5, x5), (4, x4), (0, x0)] _
           refine rThen ?_
           refine xCond rfl rfl ?_ ?_
           · refine rSeq ?_
             refine cLess [] ?_
             refine xR hE [6] rfl (R8_instr_r15_ok F _) ?_
             intro x6
             show OKq _ _ _ [(6, x6)] _
             refine rThen ?_
             refine rRet ?_
             refine xThenR ?_
             exact rDone (.inr rfl) rfl
           · refine rSkip ?_
             refine rThen ?_
             refine rSeq ?_
             refine rSeq ?_
             refine cLess [5, 4, 0] ?_
             refine xR hE [0, 4, 5, 125] rfl (R8_instr_r16_ok F _ _ _ _) ?_
             intro x0 x4 x5 x125
             show OKq _ _ _ [(125, x125), (5, x5), (4, x4), (0, x0)] _
             refine rThen ?_
             refine rBlock ?_
             refine rSeq ?_
             refine cLess [125, 5, 4, 0] ?_
             refine xR hE [0, 4, 5, 125, 126] rfl (R8_instr_r17_ok F _ _ _ _ _) ?_
             intro x0 x4 x5 x125 x126
             show OKq _ _ _ [(126, x126), (125, x125), (5, x5), (4, x4), (0, x0)] _
             refine rThen ?_
             refine xCond rfl rfl ?_ ?_
             · refine rSeq ?_
               refine cLess [] ?_
               refine xR hE [6] rfl (R8_instr_r18_ok F _) ?_
               intro x6
               show OKq _ _ _ [(6, x6)] _
               refine rThen ?_
               refine rRet ?_
               refine xBlockR ?_
               refine xThenR ?_
               exact rDone (.inr rfl) rfl
             · refine xSeq [0, 4, 5, 125, 128] (R8_instr_k1 F ) ?_ fun hj1 => ?_
               · intro x0 x4 x5 x125 x128
                 show OKc _ _ [(128, x128), (125, x125), (5, x5), (4, x4), (0, x0)] _ _
                 refine xCond rfl rfl ?_ ?_
                 · refine rSeq ?_
                   refine cLess [5, 4, 0] ?_
                   refine xR hE [0, 5, 13] rfl (R8_instr_r21_ok F _ _ _ _) ?_
                   intro x0 x5 x13
                   show OKq _ _ _ [(13, x13), (5, x5), (0, x0)] _
                   refine rThen ?_
                   refine rSeq ?_
                   refine cLess [13, 5, 0] ?_
                   refine xD Trymix hE [6] rfl R8_instr_r22_good (R8_instr_r22_ok F _ _ _ _) ?_
                   intro x6
                   show OKq _ _ _ [(6, x6)] _
                   refine rThen ?_
                   refine rRet ?_
                   refine xBlockR ?_
                   refine xThenR ?_
                   exact rDone (.inr rfl) rfl
                 · refine xSeq [0, 4, 5, 125, 154] (R8_instr_k0 F ) ?_ fun hj0 => ?_
                   · intro x0 x4 x5 x125 x154
                     show OKc _ _ [(154, x154), (125, x125), (5, x5), (4, x4), (0, x0)] _ _
                     refine xCond rfl rfl ?_ ?_
                     · refine rSeq ?_
                       refine cLess [5, 0] ?_
                       refine xD Trymix hE [6] rfl R8_instr_r25_good (R8_instr_r25_ok F _ _ _) ?_
                       intro x6
                       show OKq _ _ _ [(6, x6)] _
                       refine rThen ?_
                       refine rRet ?_
                       refine xBlockR ?_
                       refine xThenR ?_
                       exact rDone (.inr rfl) rfl
                     · refine rSeq ?_
                       refine cLess [125, 5, 4, 0] ?_
                       refine xR hE [0, 4, 5, 165] rfl (R8_instr_r26_ok F _ _ _ _ _) ?_
                       intro x0 x4 x5 x165
                       show OKq _ _ _ [(165, x165), (5, x5), (4, x4), (0, x0)] _
                       refine rThen ?_
                       refine xCond rfl rfl ?_ ?_
                       · refine rSeq ?_
                         refine cLess [5, 4, 0] ?_
                         refine xR hE [0, 5, 14] rfl (R8_instr_r27_ok F _ _ _ _) ?_
                         intro x0 x5 x14
                         show OKq _ _ _ [(14, x14), (5, x5), (0, x0)] _
                         refine rThen ?_
                         refine rSeq ?_
                         refine cLess [14, 5, 0] ?_
                         refine xD Trymix hE [6] rfl R8_instr_r28_good (R8_instr_r28_ok F _ _ _ _) ?_
                         intro x6
                         show OKq _ _ _ [(6, x6)] _
                         refine rThen ?_
                         refine rRet ?_
                         refine xBlockR ?_
                         refine xThenR ?_
                         exact rDone (.inr rfl) rfl
                       · refine rSkip ?_
                         refine xBlockN ?_
                         refine rThen ?_
                         refine rSeq ?_
                         refine cLess [5] ?_
                         refine xR hE [6] rfl (R8_instr_r29_ok F _ _) ?_
                         intro x6
                         show OKq _ _ _ [(6, x6)] _
                         refine rThen ?_
                         refine rRet ?_
                         exact rDone (.inr rfl) rfl
                   · refine rSeq ?_
                     refine cLess [125, 5, 4, 0] ?_
                     refine xR hE [0, 4, 5, 125, 154] rfl (R8_instr_r23_ok F _ _ _ _ _) ?_
                     intro x0 x4 x5 x125 x154
                     show OKq _ _ _ [(154, x154), (125, x125), (5, x5), (4, x4), (0, x0)] _
                     refine rThen ?_
                     refine xCond rfl rfl ?_ ?_
                     · refine rSkip ?_
                       exact qLess [154, 125, 5, 4, 0] (hj0 x0 x4 x5 x125 x154)
                     · refine cLess [125, 5, 4, 0] ?_
                       refine xR hE [0, 4, 5, 125, 154] rfl (R8_instr_r24_ok F _ _ _ _ _) ?_
                       intro x0 x4 x5 x125 x154
                       show OKq _ _ _ [(154, x154), (125, x125), (5, x5), (4, x4), (0, x0)] _
                       exact qLess [154, 125, 5, 4, 0] (hj0 x0 x4 x5 x125 x154)
               · refine rSeq ?_
                 refine cLess [125, 5, 4, 0] ?_
                 refine xR hE [0, 4, 5, 125, 128] rfl (R8_instr_r19_ok F _ _ _ _ _) ?_
                 intro x0 x4 x5 x125 x128
                 show OKq _ _ _ [(128, x128), (125, x125), (5, x5), (4, x4), (0, x0)] _
                 refine rThen ?_
                 refine xCond rfl rfl ?_ ?_
                 · refine rSkip ?_
                   exact qLess [128, 125, 5, 4, 0] (hj1 x0 x4 x5 x125 x128)
                 · refine cLess [125, 5, 4, 0] ?_
                   refine xR hE [0, 4, 5, 125, 128] rfl (R8_instr_r20_ok F _ _ _ _ _) ?_
                   intro x0 x4 x5 x125 x128
                   show OKq _ _ _ [(128, x128), (125, x125), (5, x5), (4, x4), (0, x0)] _
                   exact qLess [128, 125, 5, 4, 0] (hj1 x0 x4 x5 x125 x128)
         · refine rSeq ?_
           refine cLess [10, 7, 5, 4, 0] ?_
           refine xR hE [0, 4, 5, 7, 10, 11] rfl (R8_instr_r8_ok F _ _ _ _ _ _) ?_
           intro x0 x4 x5 x7 x10 x11
           show OKq _ _ _ [(11, x11), (10, x10), (7, x7), (5, x5), (4, x4), (0, x0)] _
           refine rThen ?_
           refine rBlock ?_
           refine cLess [11, 10, 7, 5, 4, 0] ?_
           refine xLoopAt [0, 4, 5, 7, 10, 11] [] (fun k3 => R8_instr_l3 F (fun x0 x4 x5 => R8_instr_k2 F x0 x4 x5) k3) F [x0, x4, x5, x7, x10, x11] rfl rfl (fun _ _ _ _ _ _ => rfl) fun I hI3 k3 => ?_
           intro x0 x4 x5 x7 x10 x11
           show OKc _ _ [(11, x11), (10, x10), (7, x7), (5, x5), (4, x4), (0, x0)] _ _
           refine cAs (R8_instr_l3_s F _ _ _ _ _ _ _ _) ?_
           refine rSeq ?_
           refine rSeq ?_
           refine cLess [11, 10, 7, 5, 4, 0] ?_
           refine xR hE [0, 4, 5, 7, 10, 11, 53] rfl (R8_instr_r9_ok F _ _ _ _ _ _ _) ?_
           intro x0 x4 x5 x7 x10 x11 x53
           show OKq _ _ _ [(53, x53), (11, x11), (10, x10), (7, x7), (5, x5), (4, x4), (0, x0)] _
           refine rThen ?_
           refine xCond rfl rfl ?_ ?_
           · refine rSkip ?_
             refine rThen ?_
             refine rSeq ?_
             refine rBlock ?_
             refine rSeq ?_
             refine cLess [11, 10, 7, 5, 4, 0] ?_
             refine xR hE [0, 4, 5, 7, 10, 11, 62] rfl (R8_instr_r11_ok F _ _ _ _ _ _ _) ?_
             intro x0 x4 x5 x7 x10 x11 x62
             show OKq _ _ _ [(62, x62), (11, x11), (10, x10), (7, x7), (5, x5), (4, x4), (0, x0)] _
             refine rThen ?_
             refine xCond rfl rfl ?_ ?_
             · refine rSeq ?_
               refine cLess [] ?_
               refine xR hE [6] rfl (R8_instr_r12_ok F _) ?_
               intro x6
               show OKq _ _ _ [(6, x6)] _
               refine rThen ?_
               refine rRet ?_
               refine xBlockR ?_
               refine xThenR ?_
               refine xThenR ?_
               refine xBlockR ?_
               refine xThenR ?_
               exact rDone (.inr rfl) rfl
             · refine rSkip ?_
               refine xBlockN ?_
               refine rThen ?_
               refine cLess [11, 10, 7, 5, 4, 0] ?_
               refine xR hE [0, 4, 5, 7, 10, 11] rfl (R8_instr_r10_ok F _ _ _ _ _ _ _) ?_
               intro x0 x4 x5 x7 x10 x11
               show OKq _ _ _ [(11, x11), (10, x10), (7, x7), (5, x5), (4, x4), (0, x0)] _
               exact qLess [11, 10, 7, 5, 4, 0] (hI3 k3 x0 x4 x5 x7 x10 x11)
           · refine rExit ?_
             refine xThenX ?_
             refine xThenX ?_
             refine rOut ?_
             exact qLess [5, 4, 0] (hj2 x0 x4 x5)
   · exact rFail


/-! ### haruspex/haruspexref8.ending -/

def R8_ending_env (F : Nat) : Env := envOf [(56, R8_in_m F)]

noncomputable def R8_ending_R (F : Nat) := rK Try.prog TryG (R8_ending_env F) Try.f58
noncomputable def R8_ending_D (F : Nat) := dK Try.prog TryG (R8_ending_env F) Try.f58

def R8_ending_r9 (F : Nat) (K : Value → M Value) : M Value :=
  K (.bool false)

theorem R8_ending_r9_ok (F : Nat) (K : Value → M Value) : R8_ending_r9 F K = R8_ending_R F 9 [] [4] K := by kernel_rfl

def R8_ending_r4 (F : Nat) (x3 x6 : Value) (K : Value → M Value) : M Value :=
  bnd (opFieldAddr 2 x3) fun v20 => bnd (opLoad v20) fun v21 => bnd (opBin .eql v21 (.int .i64 (0))) fun v22 => onB v22 (bnd (opFieldAddr 4 x3) fun v24 => bnd (opLoad v24) fun v25 => bnd (opBin .eql v25 (.int .i64 (0))) fun v26 => onB v26 (bnd (opFieldAddr 3 x3) fun v29 => bnd (opLoad v29) fun v30 => bnd (R8_in F v30 x6) fun v32 => K v32) (K (.bool false))) (K (.bool false))

theorem R8_ending_r4_ok (F : Nat) (x3 x6 : Value) (K : Value → M Value) : R8_ending_r4 F x3 x6 K = R8_ending_R F 4 [(6, x6), (3, x3)] [4] K := by kernel_rfl

def R8_ending_r6 (F : Nat) (x3 x5 x6 : Value) (K : Value → M Value) : M Value :=
  onB x5 (bnd (opFieldAddr 3 x3) fun v38 => bnd (opLoad v38) fun v39 => bnd (R8_in F v39 x6) fun v41 => onB v41 (bnd (opFieldAddr 4 x3) fun v44 => bnd (opLoad v44) fun v45 => bnd (R8_in F v45 x6) fun v47 => K v47) (K (.bool false))) (K (.bool false))

theorem R8_ending_r6_ok (F : Nat) (x3 x5 x6 : Value) (K : Value → M Value) : R8_ending_r6 F x3 x5 x6 K = R8_ending_R F 6 [(6, x6), (5, x5), (3, x3)] [4] K := by kernel_rfl

def R8_ending_r8 (F : Nat) (x3 x5 : Value) (K : Value → M Value) : M Value :=
  onB x5 (bnd (opFieldAddr 3 x3) fun v53 => bnd (opLoad v53) fun v54 => bnd (opBin .eql v54 (.int .i64 (0))) fun v55 => onB v55 (bnd (opFieldAddr 4 x3) fun v58 => bnd (opLoad v58) fun v59 => bnd (opBin .eql v59 (.int .i64 (0))) fun v60 => K v60) (K (.bool false))) (K (.bool false))

theorem R8_ending_r8_ok (F : Nat) (x3 x5 : Value) (K : Value → M Value) : R8_ending_r8 F x3 x5 K = R8_ending_R F 8 [(5, x5), (3, x3)] [4] K := by kernel_rfl

def R8_ending_r7 (F : Nat) (x3 x5 x17 : Value) (K : Value → Value → Value → M Value) : M Value :=
  bnd (opBin .eql x17 (.int .i64 (3))) fun v50 => K x3 x5 v50

theorem R8_ending_r7_ok (F : Nat) (x3 x5 x17 : Value) (K : Value → Value → Value → M Value) : R8_ending_r7 F x3 x5 x17 K = R8_ending_R F 7 [(17, x17), (5, x5), (3, x3)] [3, 5, 49] K := by kernel_rfl

def R8_ending_r5 (F : Nat) (x3 x5 x6 x17 : Value) (K : Value → Value → Value → Value → Value → M Value) : M Value :=
  bnd (opBin .eql x17 (.int .i64 (2))) fun v35 => K x3 x5 x6 x17 v35

theorem R8_ending_r5_ok (F : Nat) (x3 x5 x6 x17 : Value) (K : Value → Value → Value → Value → Value → M Value) : R8_ending_r5 F x3 x5 x6 x17 K = R8_ending_R F 5 [(17, x17), (6, x6), (5, x5), (3, x3)] [3, 5, 6, 17, 34] K := by kernel_rfl

def R8_ending_r3 (F : Nat) (x3 x5 x6 x17 : Value) (K : Value → Value → Value → Value → Value → M Value) : M Value :=
  bnd (opBin .eql x17 (.int .i64 (1))) fun v19 => K x3 x5 x6 x17 v19

theorem R8_ending_r3_ok (F : Nat) (x3 x5 x6 x17 : Value) (K : Value → Value → Value → Value → Value → M Value) : R8_ending_r3 F x3 x5 x6 x17 K = R8_ending_R F 3 [(17, x17), (6, x6), (5, x5), (3, x3)] [3, 5, 6, 17, 18] K := by kernel_rfl

def R8_ending_r2 (F : Nat) (x3 x5 x6 : Value) (K : Value → Value → Value → Value → M Value) : M Value :=
  bnd (opFieldAddr 1 x3) fun v16 => bnd (opLoad v16) fun v17 => K x3 x5 x6 v17

theorem R8_ending_r2_ok (F : Nat) (x3 x5 x6 : Value) (K : Value → Value → Value → Value → M Value) : R8_ending_r2 F x3 x5 x6 K = R8_ending_R F 2 [(6, x6), (5, x5), (3, x3)] [3, 5, 6, 17] K := by kernel_rfl

def R8_ending_r1 (F : Nat) (x2 x3 : Value) (K : Value → Value → Value → M Value) : M Value :=
  bnd (opFieldAddr 2 x3) fun v7 => bnd (opLoad v7) fun v8 => bnd (opFieldAddr 1 x2) fun v9 => bnd (opLoad v9) fun v10 => bnd (opLen v10) fun v11 => bnd (opFieldAddr 2 x2) fun v13 => bnd (opLoad v13) fun v14 => bnd (opLen v14) fun v15 => bnd (R8_in F v8 v11) fun v12 => bnd (opChk false v13 v14) fun _ => K x3 v12 v15

theorem R8_ending_r1_ok (F : Nat) (x2 x3 : Value) (K : Value → Value → Value → M Value) : R8_ending_r1 F x2 x3 K = R8_ending_D F 1 [0, 1, 2, 3, 4, 6, 7, 8, 5, 9, 10] [(3, x3), (2, x2)] [3, 5, 6] K := by kernel_rfl

theorem R8_ending_r1_good : goodOrder (opsOf Try.f58 1) [0, 1, 2, 3, 4, 6, 7, 8, 5, 9, 10] = true := by kernel_rfl

def R8_ending_r0 (F : Nat) (x0 x1 : Value) (K : Value → Value → M Value) : M Value :=
  bnd (opBoxN x0) fun v2 => bnd (opBoxN x1) fun v3 => K v2 v3

theorem R8_ending_r0_ok (F : Nat) (x0 x1 : Value) (K : Value → Value → M Value) : R8_ending_r0 F x0 x1 K = R8_ending_R F 0 [(1, x1), (0, x0)] [2, 3] K := by kernel_rfl

def R8_ending (F : Nat) (x0 x1 : Value) : M Value :=
  R8_ending_r0 F x0 x1 (fun x2 x3 => R8_ending_r1 F x2 x3 (fun x3 x5 x6 => R8_ending_r2 F x3 x5 x6 (fun x3 x5 x6 x17 => R8_ending_r3 F x3 x5 x6 x17 (fun x3 x5 x6 x17 x18 => onB x18 (R8_ending_r4 F x3 x6 (fun x4 => ret x4)) (R8_ending_r5 F x3 x5 x6 x17 (fun x3 x5 x6 x17 x34 => onB x34 (R8_ending_r6 F x3 x5 x6 (fun x4 => ret x4)) (R8_ending_r7 F x3 x5 x17 (fun x3 x5 x49 => onB x49 (R8_ending_r8 F x3 x5 (fun x4 => ret x4)) (R8_ending_r9 F (fun x4 => ret x4))))))))))

def R8_ending_m (F : Nat) : List Value → M Value
  | [x0, x1] => R8_ending F x0 x1
  | _ => fail

theorem R8_ending_body : Try.f58.body = some (.seq (.region 0 (opsOf Try.f58 0) false) (.seq (.region 1 (opsOf Try.f58 1) true) (.seq (.seq (.region 2 (opsOf Try.f58 2) false) (.block 0 (.seq (.region 3 (opsOf Try.f58 3) false) (.cond (.tmp 18) (.seq (.region 4 (opsOf Try.f58 4) false) .ret) (.seq (.region 5 (opsOf Try.f58 5) false) (.cond (.tmp 34) (.seq (.region 6 (opsOf Try.f58 6) false) .ret) (.seq (.region 7 (opsOf Try.f58 7) false) (.cond (.tmp 49) (.seq (.region 8 (opsOf Try.f58 8) false) .ret) .skip)))))))) (.seq (.region 9 (opsOf Try.f58 9) false) .ret)))) := by kernel_rfl

theorem R8_ending_ok (F : Nat) : Sim Try.prog TryG 58 (R8_ending_m F) := by
 have hE : EnvOK Try.prog TryG (R8_ending_env F) := (EnvOK.cons (R8_in_ok F) EnvOK.nil)
 refine Sim.of_body (E := R8_ending_env F) Try.func58 R8_ending_body Try.call58 ?_ ?_
 · intro args hl; unfold R8_ending_m; split
   · exact absurd hl (Nat.not_lt.2 (Nat.le_of_ble_eq_true rfl))
   · rfl
 · intro args ρ h w z; unfold R8_ending_m; split
   · rename_i x0 x1; show OKc _ _ [(0, x0), (1, x1)] _ _
     refine rSeq ?_
     refine cLess [1, 0] ?_
     refine xR hE [2, 3] rfl (R8_ending_r0_ok F _ _ _) ?_
     intro x2 x3
     show OKq _ _ _ [(3, x3), (2, x2)] _
     refine rThen ?_
     refine rSeq ?_
     refine cLess [3, 2] ?_
     refine xD Trymix hE [3, 5, 6] rfl R8_ending_r1_good (R8_ending_r1_ok F _ _ _) ?_
     intro x3 x5 x6
     show OKq _ _ _ [(6, x6), (5, x5), (3, x3)] _
     refine rThen ?_
     refine rSeq ?_
     refine rSeq ?_
     refine cLess [6, 5, 3] ?_
     refine xR hE [3, 5, 6, 17] rfl (R8_ending_r2_ok F _ _ _ _) ?_
     intro x3 x5 x6 x17
     show OKq _ _ _ [(17, x17), (6, x6), (5, x5), (3, x3)] _
     refine rThen ?_
     refine rBlock ?_
     refine rSeq ?_
     refine cLess [17, 6, 5, 3] ?_
     refine xR hE [3, 5, 6, 17, 18] rfl (R8_ending_r3_ok F _ _ _ _ _) ?_
     intro x3 x5 x6 x17 x18
     show OKq _ _ _ [(18, x18), (17, x17), (6, x6), (5, x5), (3, x3)] _
     refine rThen ?_
     refine xCond rfl rfl ?_ ?_
     · refine rSeq ?_
       refine cLess [6, 3] ?_
       refine xR hE [4] rfl (R8_ending_r4_ok F _ _ _) ?_
       intro x4
       show OKq _ _ _ [(4, x4)] _
       refine rThen ?_
       refine rRet ?_
       refine xBlockR ?_
       refine xThenR ?_
       exact rDone (.inr rfl) rfl
     · refine rSeq ?_
       refine cLess [17, 6, 5, 3] ?_
       refine xR hE [3, 5, 6, 17, 34] rfl (R8_ending_r5_ok F _ _ _ _ _) ?_
       intro x3 x5 x6 x17 x34
       show OKq _ _ _ [(34, x34), (17, x17), (6, x6), (5, x5), (3, x3)] _
       refine rThen ?_
       refine xCond rfl rfl ?_ ?_
       · refine rSeq ?_
         refine cLess [6, 5, 3] ?_
         refine xR hE [4] rfl (R8_ending_r6_ok F _ _ _ _) ?_
         intro x4
         show OKq _ _ _ [(4, x4)] _
         refine rThen ?_
         refine rRet ?_
         refine xBlockR ?_
         refine xThenR ?_
         exact rDone (.inr rfl) rfl
       · refine rSeq ?_
         refine cLess [17, 5, 3] ?_
         refine xR hE [3, 5, 49] rfl (R8_ending_r7_ok F _ _ _ _) ?_
         intro x3 x5 x49
         show OKq _ _ _ [(49, x49), (5, x5), (3, x3)] _
         refine rThen ?_
         refine xCond rfl rfl ?_ ?_
         · refine rSeq ?_
           refine cLess [5, 3] ?_
           refine xR hE [4] rfl (R8_ending_r8_ok F _ _ _) ?_
           intro x4
           show OKq _ _ _ [(4, x4)] _
           refine rThen ?_
           refine rRet ?_
           refine xBlockR ?_
           refine xThenR ?_
           exact rDone (.inr rfl) rfl
         · refine rSkip ?_
           refine xBlockN ?_
           refine rThen ?_
           refine rSeq ?_
           refine cLess [] ?_
           refine xR hE [4] rfl (R8_ending_r9_ok F _) ?_
           intro x4
           show OKq _ _ _ [(4, x4)] _
           refine rThen ?_
           refine rRet ?_
           exact rDone (.inr rfl) rfl
   · exact rFail



end Go.Fw
