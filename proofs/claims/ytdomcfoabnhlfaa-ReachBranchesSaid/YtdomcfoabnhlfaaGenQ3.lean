/-
  What functions of this seat come to, and that they do: part 3.
-/
import Derived.Test.YtdomcfoabnhlfaaGenQ2
set_option linter.unusedVariables false
set_option maxRecDepth 20000
namespace Go.Fw
open Go.Proofs

/-! ### haruspex/haruspexref8.Free -/

def R8_Free_env (F : Nat) : Env := envOf [(13, R8_Code_m F), (14, R8_Def_m F), (84, R8_Next_m F)]

noncomputable def R8_Free_R (F : Nat) := rK Try.prog TryG (R8_Free_env F) Try.f64
noncomputable def R8_Free_D (F : Nat) := dK Try.prog TryG (R8_Free_env F) Try.f64

def R8_Free_r20 (F : Nat) (K : Value → M Value) : M Value :=
  K (.bool false)

theorem R8_Free_r20_ok (F : Nat) (K : Value → M Value) : R8_Free_r20 F K = R8_Free_R F 20 [] [8] K := by kernel_rfl

def R8_Free_k0 (F : Nat) : M Value :=
  R8_Free_r20 F (fun x8 => ret x8)

def R8_Free_r16 (F : Nat) (x0 x2 x7 x9 x10 x16 x17 : Value) (K : Value → Value → Value → Value → Value → Value → Value → M Value) : M Value :=
  bnd (opBin .add x17 (.int .i64 (1))) fun v91 => K x0 x2 x7 x9 x10 x16 v91

theorem R8_Free_r16_ok (F : Nat) (x0 x2 x7 x9 x10 x16 x17 : Value) (K : Value → Value → Value → Value → Value → Value → Value → M Value) : R8_Free_r16 F x0 x2 x7 x9 x10 x16 x17 K = R8_Free_R F 16 [(17, x17), (16, x16), (10, x10), (9, x9), (7, x7), (2, x2), (0, x0)] [0, 2, 7, 9, 10, 16, 17] K := by kernel_rfl

def R8_Free_k3 (F : Nat) (A2 : Value → Value → Value → Value → Value → Value → Value → M Value) (x0 x2 x7 x9 x10 x16 x17 : Value) : M Value :=
  R8_Free_r16 F x0 x2 x7 x9 x10 x16 x17 (fun x0 x2 x7 x9 x10 x16 x17 => A2 x0 x2 x7 x9 x10 x16 x17)

def R8_Free_r19 (F : Nat) (x0 x2 x7 x9 x10 x16 x17 : Value) (K : Value → Value → Value → Value → Value → Value → Value → M Value) : M Value :=
  bnd (opIndexAddr 3 x16 x17) fun v107 => bnd (opLoadN 3 v107) fun v108 => bnd (opBuildSlice 1 (rep 1 [(.int .i64 (0)), (.int .i64 (0)), (.int .i64 (0))]) [(0, 3, true, v108)]) fun v109 => bnd (opAppend 3 24 x10 v109) fun v110 => K x0 x2 x7 x9 v110 x16 x17

theorem R8_Free_r19_ok (F : Nat) (x0 x2 x7 x9 x10 x16 x17 : Value) (K : Value → Value → Value → Value → Value → Value → Value → M Value) : R8_Free_r19 F x0 x2 x7 x9 x10 x16 x17 K = R8_Free_R F 19 [(17, x17), (16, x16), (10, x10), (9, x9), (7, x7), (2, x2), (0, x0)] [0, 2, 7, 9, 10, 16, 17] K := by kernel_rfl

def R8_Free_r18 (F : Nat) (x0 x2 x7 x9 x10 x16 x17 : Value) (K : Value → Value → Value → Value → Value → Value → Value → M Value) : M Value :=
  bnd (opIndexAddr 3 x16 x17) fun v102 => bnd (opLoadN 3 v102) fun v103 => bnd (opInsert 3 x9 v103 (.bool true)) fun _ => K x0 x2 x7 x9 x10 x16 x17

theorem R8_Free_r18_ok (F : Nat) (x0 x2 x7 x9 x10 x16 x17 : Value) (K : Value → Value → Value → Value → Value → Value → Value → M Value) : R8_Free_r18 F x0 x2 x7 x9 x10 x16 x17 K = R8_Free_R F 18 [(17, x17), (16, x16), (10, x10), (9, x9), (7, x7), (2, x2), (0, x0)] [0, 2, 7, 9, 10, 16, 17] K := by kernel_rfl

def R8_Free_r17 (F : Nat) (x0 x2 x7 x9 x10 x16 x17 : Value) (K : Value → Value → Value → Value → Value → Value → Value → Value → M Value) : M Value :=
  bnd (opIndexAddr 3 x16 x17) fun v95 => bnd (opLoadN 3 v95) fun v96 => bnd (opLookup 3 (.bool false) false x9 v96) fun v97 => bnd (opNot v97) fun v98 => K x0 x2 x7 x9 x10 x16 x17 v98

theorem R8_Free_r17_ok (F : Nat) (x0 x2 x7 x9 x10 x16 x17 : Value) (K : Value → Value → Value → Value → Value → Value → Value → Value → M Value) : R8_Free_r17 F x0 x2 x7 x9 x10 x16 x17 K = R8_Free_R F 17 [(17, x17), (16, x16), (10, x10), (9, x9), (7, x7), (2, x2), (0, x0)] [0, 2, 7, 9, 10, 16, 17, 98] K := by kernel_rfl

def R8_Free_r15 (F : Nat) (x0 x2 x7 x9 x10 x16 x17 : Value) (K : Value → Value → Value → Value → Value → Value → Value → Value → M Value) : M Value :=
  bnd (opLen x16) fun v88 => bnd (opBin .lss x17 v88) fun v89 => K x0 x2 x7 x9 x10 x16 x17 v89

theorem R8_Free_r15_ok (F : Nat) (x0 x2 x7 x9 x10 x16 x17 : Value) (K : Value → Value → Value → Value → Value → Value → Value → Value → M Value) : R8_Free_r15 F x0 x2 x7 x9 x10 x16 x17 K = R8_Free_R F 15 [(17, x17), (16, x16), (10, x10), (9, x9), (7, x7), (2, x2), (0, x0)] [0, 2, 7, 9, 10, 16, 17, 89] K := by kernel_rfl

def R8_Free_b2 (F : Nat) (E2_2 : Value → Value → Value → Value → Value → M Value) (A2 : Value → Value → Value → Value → Value → Value → Value → M Value) (x0 x2 x7 x9 x10 x16 x17 : Value) : M Value :=
  R8_Free_r15 F x0 x2 x7 x9 x10 x16 x17 (fun x0 x2 x7 x9 x10 x16 x17 x89 => onB x89 (R8_Free_r17 F x0 x2 x7 x9 x10 x16 x17 (fun x0 x2 x7 x9 x10 x16 x17 x98 => onB x98 (R8_Free_r18 F x0 x2 x7 x9 x10 x16 x17 (fun x0 x2 x7 x9 x10 x16 x17 => R8_Free_r19 F x0 x2 x7 x9 x10 x16 x17 (fun x0 x2 x7 x9 x10 x16 x17 => R8_Free_k3 F A2 x0 x2 x7 x9 x10 x16 x17))) (R8_Free_k3 F A2 x0 x2 x7 x9 x10 x16 x17))) (E2_2 x0 x2 x7 x9 x10))

def R8_Free_l2 (F : Nat) (E2_2 : Value → Value → Value → Value → Value → M Value) : Nat → Value → Value → Value → Value → Value → Value → Value → M Value
  | 0, _, _, _, _, _, _, _ => fail
  | k2 + 1, x0, x2, x7, x9, x10, x16, x17 => R8_Free_b2 F E2_2 (R8_Free_l2 F E2_2 k2) x0 x2 x7 x9 x10 x16 x17

theorem R8_Free_l2_s (F : Nat) (E2_2 : Value → Value → Value → Value → Value → M Value) (k2 : Nat) (x0 x2 x7 x9 x10 x16 x17 : Value) : R8_Free_l2 F E2_2 (k2 + 1) x0 x2 x7 x9 x10 x16 x17 = R8_Free_b2 F E2_2 (R8_Free_l2 F E2_2 k2) x0 x2 x7 x9 x10 x16 x17 := rfl

def R8_Free_r14 (F : Nat) (x0 x2 x7 x9 x10 x16 : Value) (K : Value → Value → Value → Value → Value → Value → Value → M Value) : M Value :=
  K x0 x2 x7 x9 x10 x16 (.int .i64 (0))

theorem R8_Free_r14_ok (F : Nat) (x0 x2 x7 x9 x10 x16 : Value) (K : Value → Value → Value → Value → Value → Value → Value → M Value) : R8_Free_r14 F x0 x2 x7 x9 x10 x16 K = R8_Free_R F 14 [(16, x16), (10, x10), (9, x9), (7, x7), (2, x2), (0, x0)] [0, 2, 7, 9, 10, 16, 17] K := by kernel_rfl

def R8_Free_r13 (F : Nat) (x0 x2 x7 x9 x10 x11 : Value) (K : Value → Value → Value → Value → Value → Value → M Value) : M Value :=
  bnd (opLoadN 3 x11) fun v84 => bnd (R8_Next F x0 v84) fun v85 => K x0 x2 x7 x9 x10 v85

theorem R8_Free_r13_ok (F : Nat) (x0 x2 x7 x9 x10 x11 : Value) (K : Value → Value → Value → Value → Value → Value → M Value) : R8_Free_r13 F x0 x2 x7 x9 x10 x11 K = R8_Free_R F 13 [(11, x11), (10, x10), (9, x9), (7, x7), (2, x2), (0, x0)] [0, 2, 7, 9, 10, 16] K := by kernel_rfl

def R8_Free_r12 (F : Nat) (x0 x2 x7 x9 x10 x11 x13 x14 x15 : Value) (K : Value → Value → Value → Value → Value → Value → Value → M Value) : M Value :=
  onB x13 (onB x15 (bnd (opBin .eql x14 x2) fun v81 => K x0 x2 x7 x9 x10 x11 v81) (K x0 x2 x7 x9 x10 x11 (.bool false))) (K x0 x2 x7 x9 x10 x11 (.bool false))

theorem R8_Free_r12_ok (F : Nat) (x0 x2 x7 x9 x10 x11 x13 x14 x15 : Value) (K : Value → Value → Value → Value → Value → Value → Value → M Value) : R8_Free_r12 F x0 x2 x7 x9 x10 x11 x13 x14 x15 K = R8_Free_R F 12 [(15, x15), (14, x14), (13, x13), (11, x11), (10, x10), (9, x9), (7, x7), (2, x2), (0, x0)] [0, 2, 7, 9, 10, 11, 82] K := by kernel_rfl

def R8_Free_r11 (F : Nat) (x0 x2 x7 x9 x10 x11 x12 x13 : Value) (K : Value → Value → Value → Value → Value → Value → Value → Value → Value → M Value) : M Value :=
  bnd (opLoadN 6 x12) fun v70 => bnd (R8_Def F v70) fun v71 => bnd (opExtract v71 0) fun v72 => bnd (opExtract v71 1) fun v73 => K x0 x2 x7 x9 x10 x11 x13 v72 v73

theorem R8_Free_r11_ok (F : Nat) (x0 x2 x7 x9 x10 x11 x12 x13 : Value) (K : Value → Value → Value → Value → Value → Value → Value → Value → Value → M Value) : R8_Free_r11 F x0 x2 x7 x9 x10 x11 x12 x13 K = R8_Free_R F 11 [(13, x13), (12, x12), (11, x11), (10, x10), (9, x9), (7, x7), (2, x2), (0, x0)] [0, 2, 7, 9, 10, 11, 13, 14, 15] K := by kernel_rfl

def R8_Free_r10 (F : Nat) (x0 x2 x7 x9 x10 x11 : Value) (K : Value → Value → Value → Value → Value → Value → Value → Value → M Value) : M Value :=
  bnd (opLoadN 3 x11) fun v65 => bnd (R8_Code F x0 v65) fun v66 => bnd (opExtract v66 0) fun v67 => bnd (opExtract v66 1) fun v68 => bnd (opPtr [(.int .i64 (0)), (.int .i64 (0)), (.int .i64 (0)), (.int .i64 (0)), (.int .i64 (0)), (.slice none 0 0)]) fun v12 => bnd (opStoreN 6 v12 v67) fun _ => K x0 x2 x7 x9 x10 x11 v12 v68

theorem R8_Free_r10_ok (F : Nat) (x0 x2 x7 x9 x10 x11 : Value) (K : Value → Value → Value → Value → Value → Value → Value → Value → M Value) : R8_Free_r10 F x0 x2 x7 x9 x10 x11 K = R8_Free_R F 10 [(11, x11), (10, x10), (9, x9), (7, x7), (2, x2), (0, x0)] [0, 2, 7, 9, 10, 11, 12, 13] K := by kernel_rfl

def R8_Free_r9 (F : Nat) (K : Value → M Value) : M Value :=
  K (.bool true)

theorem R8_Free_r9_ok (F : Nat) (K : Value → M Value) : R8_Free_r9 F K = R8_Free_R F 9 [] [8] K := by kernel_rfl

def R8_Free_r8 (F : Nat) (x0 x2 x7 x9 x10 x11 : Value) (K : Value → Value → Value → Value → Value → Value → Value → M Value) : M Value :=
  bnd (opFieldAddr 1 x11) fun v51 => bnd (opLoad v51) fun v52 => bnd (opFieldAddr 1 x7) fun v53 => bnd (opLoad v53) fun v54 => bnd (opBin .eql v52 v54) fun v55 => onB v55 (bnd (opFieldAddr 2 x11) fun v57 => bnd (opLoad v57) fun v58 => bnd (opFieldAddr 2 x7) fun v59 => bnd (opLoad v59) fun v60 => bnd (opBin .eql v58 v60) fun v61 => K x0 x2 x7 x9 x10 x11 v61) (K x0 x2 x7 x9 x10 x11 (.bool false))

theorem R8_Free_r8_ok (F : Nat) (x0 x2 x7 x9 x10 x11 : Value) (K : Value → Value → Value → Value → Value → Value → Value → M Value) : R8_Free_r8 F x0 x2 x7 x9 x10 x11 K = R8_Free_R F 8 [(11, x11), (10, x10), (9, x9), (7, x7), (2, x2), (0, x0)] [0, 2, 7, 9, 10, 11, 62] K := by kernel_rfl

def R8_Free_r7 (F : Nat) (x0 x2 x7 x9 x10 x11 : Value) (K : Value → Value → Value → Value → Value → Value → M Value) : M Value :=
  bnd (opSlice 3 x10 (some (.int .i64 (1))) none none) fun v50 => K x0 x2 x7 x9 v50 x11

theorem R8_Free_r7_ok (F : Nat) (x0 x2 x7 x9 x10 x11 : Value) (K : Value → Value → Value → Value → Value → Value → M Value) : R8_Free_r7 F x0 x2 x7 x9 x10 x11 K = R8_Free_R F 7 [(11, x11), (10, x10), (9, x9), (7, x7), (2, x2), (0, x0)] [0, 2, 7, 9, 10, 11] K := by kernel_rfl

def R8_Free_r6 (F : Nat) (x0 x2 x7 x9 x10 : Value) (K : Value → Value → Value → Value → Value → Value → M Value) : M Value :=
  bnd (opIndexAddr 3 x10 (.int .i64 (0))) fun v47 => bnd (opLoadN 3 v47) fun v48 => bnd (opPtr [(.int .i64 (0)), (.int .i64 (0)), (.int .i64 (0))]) fun v11 => bnd (opStoreN 3 v11 v48) fun _ => K x0 x2 x7 x9 x10 v11

theorem R8_Free_r6_ok (F : Nat) (x0 x2 x7 x9 x10 : Value) (K : Value → Value → Value → Value → Value → Value → M Value) : R8_Free_r6 F x0 x2 x7 x9 x10 K = R8_Free_R F 6 [(10, x10), (9, x9), (7, x7), (2, x2), (0, x0)] [0, 2, 7, 9, 10, 11] K := by kernel_rfl

def R8_Free_r5 (F : Nat) (x0 x2 x7 x9 x10 : Value) (K : Value → Value → Value → Value → Value → Value → M Value) : M Value :=
  bnd (opLen x10) fun v44 => bnd (opBin .gtr v44 (.int .i64 (0))) fun v45 => K x0 x2 x7 x9 x10 v45

theorem R8_Free_r5_ok (F : Nat) (x0 x2 x7 x9 x10 : Value) (K : Value → Value → Value → Value → Value → Value → M Value) : R8_Free_r5 F x0 x2 x7 x9 x10 K = R8_Free_R F 5 [(10, x10), (9, x9), (7, x7), (2, x2), (0, x0)] [0, 2, 7, 9, 10, 45] K := by kernel_rfl

def R8_Free_b1 (F : Nat) (E1_0 : M Value) (A1 : Value → Value → Value → Value → Value → M Value) (x0 x2 x7 x9 x10 : Value) : M Value :=
  R8_Free_r5 F x0 x2 x7 x9 x10 (fun x0 x2 x7 x9 x10 x45 => onB x45 (R8_Free_r6 F x0 x2 x7 x9 x10 (fun x0 x2 x7 x9 x10 x11 => R8_Free_r7 F x0 x2 x7 x9 x10 x11 (fun x0 x2 x7 x9 x10 x11 => R8_Free_r8 F x0 x2 x7 x9 x10 x11 (fun x0 x2 x7 x9 x10 x11 x62 => onB x62 (R8_Free_r9 F (fun x8 => ret x8)) (R8_Free_r10 F x0 x2 x7 x9 x10 x11 (fun x0 x2 x7 x9 x10 x11 x12 x13 => R8_Free_r11 F x0 x2 x7 x9 x10 x11 x12 x13 (fun x0 x2 x7 x9 x10 x11 x13 x14 x15 => R8_Free_r12 F x0 x2 x7 x9 x10 x11 x13 x14 x15 (fun x0 x2 x7 x9 x10 x11 x82 => onB x82 (A1 x0 x2 x7 x9 x10) (R8_Free_r13 F x0 x2 x7 x9 x10 x11 (fun x0 x2 x7 x9 x10 x16 => R8_Free_r14 F x0 x2 x7 x9 x10 x16 (fun x0 x2 x7 x9 x10 x16 x17 => R8_Free_l2 F (fun x0 x2 x7 x9 x10 => A1 x0 x2 x7 x9 x10) F x0 x2 x7 x9 x10 x16 x17))))))))))) (E1_0 ))

def R8_Free_l1 (F : Nat) (E1_0 : M Value) : Nat → Value → Value → Value → Value → Value → M Value
  | 0, _, _, _, _, _ => fail
  | k1 + 1, x0, x2, x7, x9, x10 => R8_Free_b1 F E1_0 (R8_Free_l1 F E1_0 k1) x0 x2 x7 x9 x10

theorem R8_Free_l1_s (F : Nat) (E1_0 : M Value) (k1 : Nat) (x0 x2 x7 x9 x10 : Value) : R8_Free_l1 F E1_0 (k1 + 1) x0 x2 x7 x9 x10 = R8_Free_b1 F E1_0 (R8_Free_l1 F E1_0 k1) x0 x2 x7 x9 x10 := rfl

def R8_Free_r4 (F : Nat) (x0 x1 x2 x7 x9 : Value) (K : Value → Value → Value → Value → Value → M Value) : M Value :=
  bnd (opBuild [(.int .i64 (0)), (.int .i64 (0)), (.int .i64 (0))] [(0, 1, false, x1)]) fun v41 => bnd (opBuildSlice 1 (rep 1 [(.int .i64 (0)), (.int .i64 (0)), (.int .i64 (0))]) [(0, 3, true, v41)]) fun v42 => K x0 x2 x7 x9 v42

theorem R8_Free_r4_ok (F : Nat) (x0 x1 x2 x7 x9 : Value) (K : Value → Value → Value → Value → Value → M Value) : R8_Free_r4 F x0 x1 x2 x7 x9 K = R8_Free_R F 4 [(9, x9), (7, x7), (2, x2), (1, x1), (0, x0)] [0, 2, 7, 9, 10] K := by kernel_rfl

def R8_Free_r3 (F : Nat) (x0 x1 x2 x7 : Value) (K : Value → Value → Value → Value → Value → M Value) : M Value :=
  bnd (opMakeMap 3) fun v36 => bnd (opBuild [(.int .i64 (0)), (.int .i64 (0)), (.int .i64 (0))] [(0, 1, false, x1)]) fun v38 => bnd (opInsert 3 v36 v38 (.bool true)) fun _ => K x0 x1 x2 x7 v36

theorem R8_Free_r3_ok (F : Nat) (x0 x1 x2 x7 : Value) (K : Value → Value → Value → Value → Value → M Value) : R8_Free_r3 F x0 x1 x2 x7 K = R8_Free_R F 3 [(7, x7), (2, x2), (1, x1), (0, x0)] [0, 1, 2, 7, 9] K := by kernel_rfl

def R8_Free_r2 (F : Nat) (K : Value → M Value) : M Value :=
  K (.bool false)

theorem R8_Free_r2_ok (F : Nat) (K : Value → M Value) : R8_Free_r2 F K = R8_Free_R F 2 [] [8] K := by kernel_rfl

def R8_Free_r1 (F : Nat) (x0 x1 x2 x7 : Value) (K : Value → Value → Value → Value → Value → M Value) : M Value :=
  bnd (opNil x0) fun v20 => bnd (opFieldAddr 1 v20) fun v21 => bnd (opLoad v21) fun v22 => bnd (opNil x0) fun v24 => bnd (opFieldAddr 4 v24) fun v25 => bnd (opLoad v25) fun v26 => bnd (opIndexAddr 3 v26 x1) fun v28 => bnd (opFieldAddr 0 v28) fun v29 => bnd (opLoad v29) fun v30 => bnd (opIndexAddr 3 v22 v30) fun v31 => bnd (opFieldAddr 0 v31) fun v32 => bnd (opLoad v32) fun v33 => bnd (opLen v33) fun v34 => bnd (opBin .lss x2 v34) fun v35 => K x0 x1 x2 x7 v35

theorem R8_Free_r1_ok (F : Nat) (x0 x1 x2 x7 : Value) (K : Value → Value → Value → Value → Value → M Value) : R8_Free_r1 F x0 x1 x2 x7 K = R8_Free_D F 1 [0, 1, 2, 3, 4, 5, 6, 7, 8, 9, 10, 11, 12, 13, 14, 15, 16, 17] [(7, x7), (2, x2), (1, x1), (0, x0)] [0, 1, 2, 7, 35] K := by kernel_rfl

theorem R8_Free_r1_good : goodOrder (opsOf Try.f64 1) [0, 1, 2, 3, 4, 5, 6, 7, 8, 9, 10, 11, 12, 13, 14, 15, 16, 17] = true := by kernel_rfl

def R8_Free_r0 (F : Nat) (x0 x1 x2 x3 : Value) (K : Value → Value → Value → Value → M Value) : M Value :=
  bnd (opBoxN x3) fun v7 => K x0 x1 x2 v7

theorem R8_Free_r0_ok (F : Nat) (x0 x1 x2 x3 : Value) (K : Value → Value → Value → Value → M Value) : R8_Free_r0 F x0 x1 x2 x3 K = R8_Free_R F 0 [(3, x3), (2, x2), (1, x1), (0, x0)] [0, 1, 2, 7] K := by kernel_rfl

def R8_Free (F : Nat) (x0 x1 x2 x3 : Value) : M Value :=
  R8_Free_r0 F x0 x1 x2 x3 (fun x0 x1 x2 x7 => R8_Free_r1 F x0 x1 x2 x7 (fun x0 x1 x2 x7 x35 => onB x35 (R8_Free_r2 F (fun x8 => ret x8)) (R8_Free_r3 F x0 x1 x2 x7 (fun x0 x1 x2 x7 x9 => R8_Free_r4 F x0 x1 x2 x7 x9 (fun x0 x2 x7 x9 x10 => R8_Free_l1 F (R8_Free_k0 F ) F x0 x2 x7 x9 x10)))))

def R8_Free_m (F : Nat) : List Value → M Value
  | [x0, x1, x2, x3] => R8_Free F x0 x1 x2 x3
  | _ => fail

theorem R8_Free_body : Try.f64.body = some (.seq (.region 0 (opsOf Try.f64 0) false) (.seq (.seq (.region 1 (opsOf Try.f64 1) true) (.cond (.tmp 35) (.seq (.region 2 (opsOf Try.f64 2) false) .ret) .skip)) (.seq (.region 3 (opsOf Try.f64 3) false) (.seq (.region 4 (opsOf Try.f64 4) false) (.seq (.block 0 (.loop (.seq (.seq (.region 5 (opsOf Try.f64 5) false) (.cond (.tmp 45) .skip (.exit 0))) (.block 1 (.seq (.region 6 (opsOf Try.f64 6) false) (.seq (.region 7 (opsOf Try.f64 7) false) (.seq (.seq (.region 8 (opsOf Try.f64 8) false) (.cond (.tmp 62) (.seq (.region 9 (opsOf Try.f64 9) false) .ret) .skip)) (.seq (.region 10 (opsOf Try.f64 10) false) (.seq (.region 11 (opsOf Try.f64 11) false) (.seq (.seq (.region 12 (opsOf Try.f64 12) false) (.cond (.tmp 82) (.exit 1) .skip)) (.seq (.region 13 (opsOf Try.f64 13) false) (.seq (.region 14 (opsOf Try.f64 14) false) (.block 2 (.loop (.seq (.seq (.region 15 (opsOf Try.f64 15) false) (.cond (.tmp 89) .skip (.exit 2))) (.seq (.block 3 (.seq (.region 17 (opsOf Try.f64 17) false) (.cond (.tmp 98) (.seq (.region 18 (opsOf Try.f64 18) false) (.region 19 (opsOf Try.f64 19) false)) .skip))) (.region 16 (opsOf Try.f64 16) false))))))))))))))))) (.seq (.region 20 (opsOf Try.f64 20) false) .ret)))))) := by kernel_rfl

theorem R8_Free_ok (F : Nat) : Sim Try.prog TryG 64 (R8_Free_m F) := by
 have hE : EnvOK Try.prog TryG (R8_Free_env F) := (EnvOK.cons (R8_Code_ok F) (EnvOK.cons (R8_Def_ok F) (EnvOK.cons (R8_Next_ok F) EnvOK.nil)))
 refine Sim.of_body (E := R8_Free_env F) Try.func64 R8_Free_body Try.call64 ?_ ?_
 · intro args hl; unfold R8_Free_m; split
   · exact absurd hl (Nat.not_lt.2 (Nat.le_of_ble_eq_true rfl))
   · rfl
 · intro args ρ h w z; unfold R8_Free_m; split
   · rename_i x0 x1 x2 x3; show OKc _ _ [(0, x0), (1, x1), (2, x2), (3, x3)] _ _
     refine rSeq ?_
     refine cLess [3, 2, 1, 0] ?_
     refine xR hE [0, 1, 2, 7] rfl (R8_Free_r0_ok F _ _ _ _ _) ?_
     intro x0 x1 x2 x7
     show OKq _ _ _ [(7, x7), (2, x2), (1, x1), (0, x0)] _
     refine rThen ?_
     refine rSeq ?_
     refine rSeq ?_
     refine cLess [7, 2, 1, 0] ?_
     refine xD Trymix hE [0, 1, 2, 7, 35] rfl R8_Free_r1_good (R8_Free_r1_ok F _ _ _ _ _) ?_
     intro x0 x1 x2 x7 x35
     show OKq _ _ _ [(35, x35), (7, x7), (2, x2), (1, x1), (0, x0)] _
     refine rThen ?_
     refine xCond rfl rfl ?_ ?_
     · refine rSeq ?_
       refine cLess [] ?_
       refine xR hE [8] rfl (R8_Free_r2_ok F _) ?_
       intro x8
       show OKq _ _ _ [(8, x8)] _
       refine rThen ?_
       refine rRet ?_
       refine xThenR ?_
       exact rDone (.inr rfl) rfl
     · refine rSkip ?_
       refine rThen ?_
       refine rSeq ?_
       refine cLess [7, 2, 1, 0] ?_
       refine xR hE [0, 1, 2, 7, 9] rfl (R8_Free_r3_ok F _ _ _ _ _) ?_
       intro x0 x1 x2 x7 x9
       show OKq _ _ _ [(9, x9), (7, x7), (2, x2), (1, x1), (0, x0)] _
       refine rThen ?_
       refine rSeq ?_
       refine cLess [9, 7, 2, 1, 0] ?_
       refine xR hE [0, 2, 7, 9, 10] rfl (R8_Free_r4_ok F _ _ _ _ _ _) ?_
       intro x0 x2 x7 x9 x10
       show OKq _ _ _ [(10, x10), (9, x9), (7, x7), (2, x2), (0, x0)] _
       refine rThen ?_
       refine xSeq [] (R8_Free_k0 F ) ?_ fun hj0 => ?_
       · show OKc _ _ [] _ _
         refine rSeq ?_
         refine cLess [] ?_
         refine xR hE [8] rfl (R8_Free_r20_ok F _) ?_
         intro x8
         show OKq _ _ _ [(8, x8)] _
         refine rThen ?_
         refine rRet ?_
         exact rDone (.inr rfl) rfl
       · refine rBlock ?_
         refine cLess [10, 9, 7, 2, 0] ?_
         refine xLoopAt [0, 2, 7, 9, 10] [] (fun k1 => R8_Free_l1 F (R8_Free_k0 F ) k1) F [x0, x2, x7, x9, x10] rfl rfl (fun _ _ _ _ _ => rfl) fun I hI1 k1 => ?_
         intro x0 x2 x7 x9 x10
         show OKc _ _ [(10, x10), (9, x9), (7, x7), (2, x2), (0, x0)] _ _
         refine cAs (R8_Free_l1_s F _ _ _ _ _ _ _) ?_
         refine rSeq ?_
         refine rSeq ?_
         refine cLess [10, 9, 7, 2, 0] ?_
         refine xR hE [0, 2, 7, 9, 10, 45] rfl (R8_Free_r5_ok F _ _ _ _ _ _) ?_
         intro x0 x2 x7 x9 x10 x45
         show OKq _ _ _ [(45, x45), (10, x10), (9, x9), (7, x7), (2, x2), (0, x0)] _
         refine rThen ?_
         refine xCond rfl rfl ?_ ?_
         · refine rSkip ?_
           refine rThen ?_
           refine rBlock ?_
           refine rSeq ?_
           refine cLess [10, 9, 7, 2, 0] ?_
           refine xR hE [0, 2, 7, 9, 10, 11] rfl (R8_Free_r6_ok F _ _ _ _ _ _) ?_
           intro x0 x2 x7 x9 x10 x11
           show OKq _ _ _ [(11, x11), (10, x10), (9, x9), (7, x7), (2, x2), (0, x0)] _
           refine rThen ?_
           refine rSeq ?_
           refine cLess [11, 10, 9, 7, 2, 0] ?_
           refine xR hE [0, 2, 7, 9, 10, 11] rfl (R8_Free_r7_ok F _ _ _ _ _ _ _) ?_
           intro x0 x2 x7 x9 x10 x11
           show OKq _ _ _ [(11, x11), (10, x10), (9, x9), (7, x7), (2, x2), (0, x0)] _
           refine rThen ?_
           refine rSeq ?_
           refine rSeq ?_
           refine cLess [11, 10, 9, 7, 2, 0] ?_
           refine xR hE [0, 2, 7, 9, 10, 11, 62] rfl (R8_Free_r8_ok F _ _ _ _ _ _ _) ?_
           intro x0 x2 x7 x9 x10 x11 x62
           show OKq _ _ _ [(62, x62), (11, x11), (10, x10), (9, x9), (7, x7), (2, x2), (0, x0)] _
           refine rThen ?_
           refine xCond rfl rfl ?_ ?_
           · refine rSeq ?_
             refine cLess [] ?_
             refine xR hE [8] rfl (R8_Free_r9_ok F _) ?_
             intro x8
             show OKq _ _ _ [(8, x8)] _
             refine rThen ?_
             refine rRet ?_
             refine xThenR ?_
             refine xBlockR ?_
             refine xThenR ?_
             refine xBlockR ?_
             refine xThenR ?_
             exact rDone (.inr rfl) rfl
           · refine rSkip ?_
             refine rThen ?_
             refine rSeq ?_
             refine cLess [11, 10, 9, 7, 2, 0] ?_
             refine xR hE [0, 2, 7, 9, 10, 11, 12, 13] rfl (R8_Free_r10_ok F _ _ _ _ _ _ _) ?_
             intro x0 x2 x7 x9 x10 x11 x12 x13
             show OKq _ _ _ [(13, x13), (12, x12), (11, x11), (10, x10), (9, x9), (7, x7), (2, x2), (0, x0)] _
             refine rThen ?_
             refine rSeq ?_
             refine cLess [13, 12, 11, 10, 9, 7, 2, 0] ?_
             refine xR hE [0, 2, 7, 9, 10, 11, 13, 14, 15] rfl (R8_Free_r11_ok F _ _ _ _ _ _ _ _ _) ?_
             intro x0 x2 x7 x9 x10 x11 x13 x14 x15
             show OKq _ _ _ [(15, x15), (14, x14), (13, x13), (11, x11), (10, x10), (9, x9), (7, x7), (2, x2), (0, x0)] _
             refine rThen ?_
             refine rSeq ?_
             refine rSeq ?_
             refine cLess [15, 14, 13, 11, 10, 9, 7, 2, 0] ?_
             refine xR hE [0, 2, 7, 9, 10, 11, 82] rfl (R8_Free_r12_ok F _ _ _ _ _ _ _ _ _ _) ?_
             intro x0 x2 x7 x9 x10 x11 x82
             show OKq _ _ _ [(82, x82), (11, x11), (10, x10), (9, x9), (7, x7), (2, x2), (0, x0)] _
             refine rThen ?_
             refine xCond rfl rfl ?_ ?_
             · refine rExit ?_
               refine xThenX ?_
               refine rOut ?_
               exact qLess [10, 9, 7, 2, 0] (hI1 k1 x0 x2 x7 x9 x10)
             · refine rSkip ?_
               refine rThen ?_
               refine rSeq ?_
               refine cLess [11, 10, 9, 7, 2, 0] ?_
               refine xR hE [0, 2, 7, 9, 10, 16] rfl (R8_Free_r13_ok F _ _ _ _ _ _ _) ?_
               intro x0 x2 x7 x9 x10 x16
               show OKq _ _ _ [(16, x16), (10, x10), (9, x9), (7, x7), (2, x2), (0, x0)] _
               refine rThen ?_
               refine rSeq ?_
               refine cLess [16, 10, 9, 7, 2, 0] ?_
               refine xR hE [0, 2, 7, 9, 10, 16, 17] rfl (R8_Free_r14_ok F _ _ _ _ _ _ _) ?_
               intro x0 x2 x7 x9 x10 x16 x17
               show OKq _ _ _ [(17, x17), (16, x16), (10, x10), (9, x9), (7, x7), (2, x2), (0, x0)] _
               refine rThen ?_
               refine rBlock ?_
               refine cLess [17, 16, 10, 9, 7, 2, 0] ?_
               refine xLoopAt [0, 2, 7, 9, 10, 16, 17] [] (fun k2 => R8_Free_l2 F (fun x0 x2 x7 x9 x10 => (R8_Free_l1 F (R8_Free_k0 F ) k1) x0 x2 x7 x9 x10) k2) F [x0, x2, x7, x9, x10, x16, x17] rfl rfl (fun _ _ _ _ _ _ _ => rfl) fun I hI2 k2 => ?_
               intro x0 x2 x7 x9 x10 x16 x17
               show OKc _ _ [(17, x17), (16, x16), (10, x10), (9, x9), (7, x7), (2, x2), (0, x0)] _ _
               refine cAs (R8_Free_l2_s F _ _ _ _ _ _ _ _ _) ?_
               refine rSeq ?_
               refine rSeq ?_
               refine cLess [17, 16, 10, 9, 7, 2, 0] ?_
               refine xR hE [0, 2, 7, 9, 10, 16, 17, 89] rfl (R8_Free_r15_ok F _ _ _ _ _ _ _ _) ?_
               intro x0 x2 x7 x9 x10 x16 x17 x89
               show OKq _ _ _ [(89, x89), (17, x17), (16, x16), (10, x10), (9, x9), (7, x7), (2, x2), (0, x0)] _
               refine rThen ?_
               refine xCond rfl rfl ?_ ?_
               · refine rSkip ?_
                 refine rThen ?_
                 refine xSeq [0, 2, 7, 9, 10, 16, 17] (R8_Free_k3 F (R8_Free_l2 F (fun x0 x2 x7 x9 x10 => (R8_Free_l1 F (R8_Free_k0 F ) k1) x0 x2 x7 x9 x10) k2) ) ?_ fun hj3 => ?_
                 · intro x0 x2 x7 x9 x10 x16 x17
                   show OKc _ _ [(17, x17), (16, x16), (10, x10), (9, x9), (7, x7), (2, x2), (0, x0)] _ _
                   refine cLess [17, 16, 10, 9, 7, 2, 0] ?_
                   refine xR hE [0, 2, 7, 9, 10, 16, 17] rfl (R8_Free_r16_ok F _ _ _ _ _ _ _ _) ?_
                   intro x0 x2 x7 x9 x10 x16 x17
                   show OKq _ _ _ [(17, x17), (16, x16), (10, x10), (9, x9), (7, x7), (2, x2), (0, x0)] _
                   exact qLess [17, 16, 10, 9, 7, 2, 0] (hI2 k2 x0 x2 x7 x9 x10 x16 x17)
                 · refine rBlock ?_
                   refine rSeq ?_
                   refine cLess [17, 16, 10, 9, 7, 2, 0] ?_
                   refine xR hE [0, 2, 7, 9, 10, 16, 17, 98] rfl (R8_Free_r17_ok F _ _ _ _ _ _ _ _) ?_
                   intro x0 x2 x7 x9 x10 x16 x17 x98
                   show OKq _ _ _ [(98, x98), (17, x17), (16, x16), (10, x10), (9, x9), (7, x7), (2, x2), (0, x0)] _
                   refine rThen ?_
                   refine xCond rfl rfl ?_ ?_
                   · refine rSeq ?_
                     refine cLess [17, 16, 10, 9, 7, 2, 0] ?_
                     refine xR hE [0, 2, 7, 9, 10, 16, 17] rfl (R8_Free_r18_ok F _ _ _ _ _ _ _ _) ?_
                     intro x0 x2 x7 x9 x10 x16 x17
                     show OKq _ _ _ [(17, x17), (16, x16), (10, x10), (9, x9), (7, x7), (2, x2), (0, x0)] _
                     refine rThen ?_
                     refine cLess [17, 16, 10, 9, 7, 2, 0] ?_
                     refine xR hE [0, 2, 7, 9, 10, 16, 17] rfl (R8_Free_r19_ok F _ _ _ _ _ _ _ _) ?_
                     intro x0 x2 x7 x9 x10 x16 x17
                     show OKq _ _ _ [(17, x17), (16, x16), (10, x10), (9, x9), (7, x7), (2, x2), (0, x0)] _
                     refine xBlockN ?_
                     exact qLess [17, 16, 10, 9, 7, 2, 0] (hj3 x0 x2 x7 x9 x10 x16 x17)
                   · refine rSkip ?_
                     refine xBlockN ?_
                     exact qLess [17, 16, 10, 9, 7, 2, 0] (hj3 x0 x2 x7 x9 x10 x16 x17)
               · refine rExit ?_
                 refine xThenX ?_
                 refine xThenX ?_
                 refine rOut ?_
                 refine xBlockN ?_
                 exact qLess [10, 9, 7, 2, 0] (hI1 k1 x0 x2 x7 x9 x10)
         · refine rExit ?_
           refine xThenX ?_
           refine xThenX ?_
           refine rOut ?_
           exact qLess [] (hj0 )
   · exact rFail


/-! ### cmp.Less[int] -/

def cmp_Less_env (F : Nat) : Env := envOf [(90, cmp_isNaN_m F)]

noncomputable def cmp_Less_R (F : Nat) := rK Try.prog TryG (cmp_Less_env F) Try.f77
noncomputable def cmp_Less_D (F : Nat) := dK Try.prog TryG (cmp_Less_env F) Try.f77

def cmp_Less_r1 (F : Nat) (x0 x1 : Value) (K : Value → M Value) : M Value :=
  bnd (cmp_isNaN F x0) fun v6 => onB v6 (bnd (cmp_isNaN F x1) fun v9 => bnd (opNot v9) fun v10 => onB v10 (K (.bool true)) (bnd (opBin .lss x0 x1) fun v15 => K v15)) (bnd (opBin .lss x0 x1) fun v15 => K v15)

theorem cmp_Less_r1_ok (F : Nat) (x0 x1 : Value) (K : Value → M Value) : cmp_Less_r1 F x0 x1 K = cmp_Less_R F 1 [(1, x1), (0, x0)] [4] K := by kernel_rfl

def cmp_Less_r0 (F : Nat) (x0 x1 : Value) (K : Value → Value → M Value) : M Value :=
  K x0 x1

theorem cmp_Less_r0_ok (F : Nat) (x0 x1 : Value) (K : Value → Value → M Value) : cmp_Less_r0 F x0 x1 K = cmp_Less_R F 0 [(1, x1), (0, x0)] [0, 1] K := by kernel_rfl

def cmp_Less (F : Nat) (x0 x1 : Value) : M Value :=
  cmp_Less_r0 F x0 x1 (fun x0 x1 => cmp_Less_r1 F x0 x1 (fun x4 => ret x4))

def cmp_Less_m (F : Nat) : List Value → M Value
  | [x0, x1] => cmp_Less F x0 x1
  | _ => fail

theorem cmp_Less_body : Try.f77.body = some (.seq (.region 0 (opsOf Try.f77 0) false) (.seq (.region 1 (opsOf Try.f77 1) false) .ret)) := by kernel_rfl

theorem cmp_Less_ok (F : Nat) : Sim Try.prog TryG 77 (cmp_Less_m F) := by
 have hE : EnvOK Try.prog TryG (cmp_Less_env F) := (EnvOK.cons (cmp_isNaN_ok F) EnvOK.nil)
 refine Sim.of_body (E := cmp_Less_env F) Try.func77 cmp_Less_body Try.call77 ?_ ?_
 · intro args hl; unfold cmp_Less_m; split
   · exact absurd hl (Nat.not_lt.2 (Nat.le_of_ble_eq_true rfl))
   · rfl
 · intro args ρ h w z; unfold cmp_Less_m; split
   · rename_i x0 x1; show OKc _ _ [(0, x0), (1, x1)] _ _
     refine rSeq ?_
     refine cLess [1, 0] ?_
     refine xR hE [0, 1] rfl (cmp_Less_r0_ok F _ _ _) ?_
     intro x0 x1
     show OKq _ _ _ [(1, x1), (0, x0)] _
     refine rThen ?_
     refine rSeq ?_
     refine cLess [1, 0] ?_
     refine xR hE [4] rfl (cmp_Less_r1_ok F _ _ _) ?_
     intro x4
     show OKq _ _ _ [(4, x4)] _
     refine rThen ?_
     refine rRet ?_
     exact rDone (.inr rfl) rfl
   · exact rFail


/-! ### haruspex/haruspexref8.call -/

def R8_call_env (F : Nat) : Env := envOf [(60, R8_eq_m F)]

noncomputable def R8_call_R (F : Nat) := rK Try.prog TryG (R8_call_env F) Try.f83
noncomputable def R8_call_D (F : Nat) := dK Try.prog TryG (R8_call_env F) Try.f83

def R8_call_r8 (F : Nat) (x5 x6 x7 : Value) (K : Value → M Value) : M Value :=
  bnd (opFieldAddr 1 x5) fun v40 => bnd (opLoad v40) fun v41 => bnd (opFieldAddr 1 x6) fun v42 => bnd (opLoad v42) fun v43 => bnd (opIndexAddr 2 v41 v43) fun v44 => bnd (opLoadN 2 v44) fun v45 => bnd (opFieldAddr 1 x7) fun v46 => bnd (opLoadN 2 v46) fun v47 => bnd (R8_eq F v45 v47) fun v48 => K v48

theorem R8_call_r8_ok (F : Nat) (x5 x6 x7 : Value) (K : Value → M Value) : R8_call_r8 F x5 x6 x7 K = R8_call_D F 8 [0, 1, 2, 3, 4, 5, 6, 7, 8, 9] [(7, x7), (6, x6), (5, x5)] [8] K := by kernel_rfl

theorem R8_call_r8_good : goodOrder (opsOf Try.f83 8) [0, 1, 2, 3, 4, 5, 6, 7, 8, 9] = true := by kernel_rfl

def R8_call_k0 (F : Nat) (x5 x6 x7 : Value) : M Value :=
  R8_call_r8 F x5 x6 x7 (fun x8 => ret x8)

def R8_call_r5 (F : Nat) (x5 x6 x7 x9 : Value) (K : Value → Value → Value → Value → M Value) : M Value :=
  bnd (opBin .add x9 (.int .i64 (1))) fun v23 => K x5 x6 x7 v23

theorem R8_call_r5_ok (F : Nat) (x5 x6 x7 x9 : Value) (K : Value → Value → Value → Value → M Value) : R8_call_r5 F x5 x6 x7 x9 K = R8_call_R F 5 [(9, x9), (7, x7), (6, x6), (5, x5)] [5, 6, 7, 9] K := by kernel_rfl

def R8_call_r7 (F : Nat) (K : Value → M Value) : M Value :=
  K (.bool false)

theorem R8_call_r7_ok (F : Nat) (K : Value → M Value) : R8_call_r7 F K = R8_call_R F 7 [] [8] K := by kernel_rfl

def R8_call_r6 (F : Nat) (x5 x6 x7 x9 : Value) (K : Value → Value → Value → Value → Value → M Value) : M Value :=
  bnd (opFieldAddr 1 x5) fun v24 => bnd (opLoad v24) fun v25 => bnd (opFieldAddr 5 x6) fun v26 => bnd (opLoad v26) fun v27 => bnd (opIndexAddr 1 v27 x9) fun v29 => bnd (opLoad v29) fun v30 => bnd (opIndexAddr 2 v25 v30) fun v31 => bnd (opLoadN 2 v31) fun v32 => bnd (opFieldAddr 0 x7) fun v33 => bnd (opLoad v33) fun v34 => bnd (opIndexAddr 2 v34 x9) fun v36 => bnd (opLoadN 2 v36) fun v37 => bnd (R8_eq F v32 v37) fun v38 => bnd (opNot v38) fun v39 => K x5 x6 x7 x9 v39

theorem R8_call_r6_ok (F : Nat) (x5 x6 x7 x9 : Value) (K : Value → Value → Value → Value → Value → M Value) : R8_call_r6 F x5 x6 x7 x9 K = R8_call_D F 6 [0, 1, 2, 3, 4, 5, 6, 7, 8, 9, 10, 11, 12, 13, 14, 15] [(9, x9), (7, x7), (6, x6), (5, x5)] [5, 6, 7, 9, 39] K := by kernel_rfl

theorem R8_call_r6_good : goodOrder (opsOf Try.f83 6) [0, 1, 2, 3, 4, 5, 6, 7, 8, 9, 10, 11, 12, 13, 14, 15] = true := by kernel_rfl

def R8_call_r4 (F : Nat) (x5 x6 x7 x9 : Value) (K : Value → Value → Value → Value → Value → M Value) : M Value :=
  bnd (opFieldAddr 5 x6) fun v18 => bnd (opLoad v18) fun v19 => bnd (opLen v19) fun v20 => bnd (opBin .lss x9 v20) fun v21 => K x5 x6 x7 x9 v21

theorem R8_call_r4_ok (F : Nat) (x5 x6 x7 x9 : Value) (K : Value → Value → Value → Value → Value → M Value) : R8_call_r4 F x5 x6 x7 x9 K = R8_call_R F 4 [(9, x9), (7, x7), (6, x6), (5, x5)] [5, 6, 7, 9, 21] K := by kernel_rfl

def R8_call_b1 (F : Nat) (E1_0 : Value → Value → Value → M Value) (A1 : Value → Value → Value → Value → M Value) (x5 x6 x7 x9 : Value) : M Value :=
  R8_call_r4 F x5 x6 x7 x9 (fun x5 x6 x7 x9 x21 => onB x21 (R8_call_r6 F x5 x6 x7 x9 (fun x5 x6 x7 x9 x39 => onB x39 (R8_call_r7 F (fun x8 => ret x8)) (R8_call_r5 F x5 x6 x7 x9 (fun x5 x6 x7 x9 => A1 x5 x6 x7 x9)))) (E1_0 x5 x6 x7))

def R8_call_l1 (F : Nat) (E1_0 : Value → Value → Value → M Value) : Nat → Value → Value → Value → Value → M Value
  | 0, _, _, _, _ => fail
  | k1 + 1, x5, x6, x7, x9 => R8_call_b1 F E1_0 (R8_call_l1 F E1_0 k1) x5 x6 x7 x9

theorem R8_call_l1_s (F : Nat) (E1_0 : Value → Value → Value → M Value) (k1 : Nat) (x5 x6 x7 x9 : Value) : R8_call_l1 F E1_0 (k1 + 1) x5 x6 x7 x9 = R8_call_b1 F E1_0 (R8_call_l1 F E1_0 k1) x5 x6 x7 x9 := rfl

def R8_call_r3 (F : Nat) (x5 x6 x7 : Value) (K : Value → Value → Value → Value → M Value) : M Value :=
  K x5 x6 x7 (.int .i64 (0))

theorem R8_call_r3_ok (F : Nat) (x5 x6 x7 : Value) (K : Value → Value → Value → Value → M Value) : R8_call_r3 F x5 x6 x7 K = R8_call_R F 3 [(7, x7), (6, x6), (5, x5)] [5, 6, 7, 9] K := by kernel_rfl

def R8_call_r2 (F : Nat) (K : Value → M Value) : M Value :=
  K (.bool false)

theorem R8_call_r2_ok (F : Nat) (K : Value → M Value) : R8_call_r2 F K = R8_call_R F 2 [] [8] K := by kernel_rfl

def R8_call_r1 (F : Nat) (x5 x6 x7 : Value) (K : Value → Value → Value → Value → M Value) : M Value :=
  bnd (opFieldAddr 5 x6) fun v10 => bnd (opLoad v10) fun v11 => bnd (opLen v11) fun v12 => bnd (opFieldAddr 0 x7) fun v13 => bnd (opLoad v13) fun v14 => bnd (opLen v14) fun v15 => bnd (opBin .neq v12 v15) fun v16 => K x5 x6 x7 v16

theorem R8_call_r1_ok (F : Nat) (x5 x6 x7 : Value) (K : Value → Value → Value → Value → M Value) : R8_call_r1 F x5 x6 x7 K = R8_call_R F 1 [(7, x7), (6, x6), (5, x5)] [5, 6, 7, 16] K := by kernel_rfl

def R8_call_r0 (F : Nat) (x1 x2 x3 : Value) (K : Value → Value → Value → M Value) : M Value :=
  bnd (opBoxN x1) fun v5 => bnd (opBoxN x2) fun v6 => bnd (opBoxN x3) fun v7 => K v5 v6 v7

theorem R8_call_r0_ok (F : Nat) (x1 x2 x3 : Value) (K : Value → Value → Value → M Value) : R8_call_r0 F x1 x2 x3 K = R8_call_R F 0 [(3, x3), (2, x2), (1, x1)] [5, 6, 7] K := by kernel_rfl

def R8_call (F : Nat) (x0 x1 x2 x3 : Value) : M Value :=
  R8_call_r0 F x1 x2 x3 (fun x5 x6 x7 => R8_call_r1 F x5 x6 x7 (fun x5 x6 x7 x16 => onB x16 (R8_call_r2 F (fun x8 => ret x8)) (R8_call_r3 F x5 x6 x7 (fun x5 x6 x7 x9 => R8_call_l1 F (fun x5 x6 x7 => R8_call_k0 F x5 x6 x7) F x5 x6 x7 x9))))

def R8_call_m (F : Nat) : List Value → M Value
  | [x0, x1, x2, x3] => R8_call F x0 x1 x2 x3
  | _ => fail

theorem R8_call_body : Try.f83.body = some (.seq (.region 0 (opsOf Try.f83 0) false) (.seq (.seq (.region 1 (opsOf Try.f83 1) false) (.cond (.tmp 16) (.seq (.region 2 (opsOf Try.f83 2) false) .ret) .skip)) (.seq (.seq (.region 3 (opsOf Try.f83 3) false) (.block 0 (.loop (.seq (.seq (.region 4 (opsOf Try.f83 4) false) (.cond (.tmp 21) .skip (.exit 0))) (.seq (.block 1 (.seq (.region 6 (opsOf Try.f83 6) true) (.cond (.tmp 39) (.seq (.region 7 (opsOf Try.f83 7) false) .ret) .skip))) (.region 5 (opsOf Try.f83 5) false)))))) (.seq (.region 8 (opsOf Try.f83 8) true) .ret)))) := by kernel_rfl

theorem R8_call_ok (F : Nat) : Sim Try.prog TryG 83 (R8_call_m F) := by
 have hE : EnvOK Try.prog TryG (R8_call_env F) := (EnvOK.cons (R8_eq_ok F) EnvOK.nil)
 refine Sim.of_body (E := R8_call_env F) Try.func83 R8_call_body Try.call83 ?_ ?_
 · intro args hl; unfold R8_call_m; split
   · exact absurd hl (Nat.not_lt.2 (Nat.le_of_ble_eq_true rfl))
   · rfl
 · intro args ρ h w z; unfold R8_call_m; split
   · rename_i x0 x1 x2 x3; show OKc _ _ [(0, x0), (1, x1), (2, x2), (3, x3)] _ _
     refine rSeq ?_
     refine cLess [3, 2, 1] ?_
     refine xR hE [5, 6, 7] rfl (R8_call_r0_ok F _ _ _ _) ?_
     intro x5 x6 x7
     show OKq _ _ _ [(7, x7), (6, x6), (5, x5)] _
     refine rThen ?_
     refine rSeq ?_
     refine rSeq ?_
     refine cLess [7, 6, 5] ?_
     refine xR hE [5, 6, 7, 16] rfl (R8_call_r1_ok F _ _ _ _) ?_
     intro x5 x6 x7 x16
     show OKq _ _ _ [(16, x16), (7, x7), (6, x6), (5, x5)] _
     refine rThen ?_
     refine xCond rfl rfl ?_ ?_
     · refine rSeq ?_
       refine cLess [] ?_
       refine xR hE [8] rfl (R8_call_r2_ok F _) ?_
       intro x8
       show OKq _ _ _ [(8, x8)] _
       refine rThen ?_
       refine rRet ?_
       refine xThenR ?_
       exact rDone (.inr rfl) rfl
     · refine rSkip ?_
       refine rThen ?_
       refine xSeq [5, 6, 7] (R8_call_k0 F ) ?_ fun hj0 => ?_
       · intro x5 x6 x7
         show OKc _ _ [(7, x7), (6, x6), (5, x5)] _ _
         refine rSeq ?_
         refine cLess [7, 6, 5] ?_
         refine xD Trymix hE [8] rfl R8_call_r8_good (R8_call_r8_ok F _ _ _ _) ?_
         intro x8
         show OKq _ _ _ [(8, x8)] _
         refine rThen ?_
         refine rRet ?_
         exact rDone (.inr rfl) rfl
       · refine rSeq ?_
         refine cLess [7, 6, 5] ?_
         refine xR hE [5, 6, 7, 9] rfl (R8_call_r3_ok F _ _ _ _) ?_
         intro x5 x6 x7 x9
         show OKq _ _ _ [(9, x9), (7, x7), (6, x6), (5, x5)] _
         refine rThen ?_
         refine rBlock ?_
         refine cLess [9, 7, 6, 5] ?_
         refine xLoopAt [5, 6, 7, 9] [] (fun k1 => R8_call_l1 F (fun x5 x6 x7 => R8_call_k0 F x5 x6 x7) k1) F [x5, x6, x7, x9] rfl rfl (fun _ _ _ _ => rfl) fun I hI1 k1 => ?_
         intro x5 x6 x7 x9
         show OKc _ _ [(9, x9), (7, x7), (6, x6), (5, x5)] _ _
         refine cAs (R8_call_l1_s F _ _ _ _ _ _) ?_
         refine rSeq ?_
         refine rSeq ?_
         refine cLess [9, 7, 6, 5] ?_
         refine xR hE [5, 6, 7, 9, 21] rfl (R8_call_r4_ok F _ _ _ _ _) ?_
         intro x5 x6 x7 x9 x21
         show OKq _ _ _ [(21, x21), (9, x9), (7, x7), (6, x6), (5, x5)] _
         refine rThen ?_
         refine xCond rfl rfl ?_ ?_
         · refine rSkip ?_
           refine rThen ?_
           refine rSeq ?_
           refine rBlock ?_
           refine rSeq ?_
           refine cLess [9, 7, 6, 5] ?_
           refine xD Trymix hE [5, 6, 7, 9, 39] rfl R8_call_r6_good (R8_call_r6_ok F _ _ _ _ _) ?_
           intro x5 x6 x7 x9 x39
           show OKq _ _ _ [(39, x39), (9, x9), (7, x7), (6, x6), (5, x5)] _
           refine rThen ?_
           refine xCond rfl rfl ?_ ?_
           · refine rSeq ?_
             refine cLess [] ?_
             refine xR hE [8] rfl (R8_call_r7_ok F _) ?_
             intro x8
             show OKq _ _ _ [(8, x8)] _
             refine rThen ?_
             refine rRet ?_
             refine xBlockR ?_
             refine xThenR ?_
             refine xThenR ?_
             refine xBlockR ?_
             refine xThenR ?_
             exact rDone (.inr rfl) rfl
           · refine rSkip ?_
             refine xBlockN ?_
             refine rThen ?_
             refine cLess [9, 7, 6, 5] ?_
             refine xR hE [5, 6, 7, 9] rfl (R8_call_r5_ok F _ _ _ _ _) ?_
             intro x5 x6 x7 x9
             show OKq _ _ _ [(9, x9), (7, x7), (6, x6), (5, x5)] _
             exact qLess [9, 7, 6, 5] (hI1 k1 x5 x6 x7 x9)
         · refine rExit ?_
           refine xThenX ?_
           refine xThenX ?_
           refine rOut ?_
           exact qLess [7, 6, 5] (hj0 x5 x6 x7)
   · exact rFail


/-! ### haruspex/haruspexref8.Names -/

def R8_Names_env (F : Nat) : Env := envOf [(38, R8_Nowhere_m F), (55, R8_named_m F), (56, R8_in_m F), (57, R8_instr_m F), (58, R8_ending_m F)]

noncomputable def R8_Names_R (F : Nat) := rK Try.prog TryG (R8_Names_env F) Try.f39
noncomputable def R8_Names_D (F : Nat) := dK Try.prog TryG (R8_Names_env F) Try.f39

def R8_Names_r54 (F : Nat) (x0 x2 : Value) (K : Value → Value → M Value) : M Value :=
  bnd (opNil x0) fun v322 => bnd (opFieldAddr 5 v322) fun v323 => bnd (opLoad v323) fun v324 => bnd (opNil x0) fun v326 => bnd (opFieldAddr 4 v326) fun v327 => bnd (opLoad v327) fun v328 => bnd (opLen v328) fun v329 => bnd (R8_Nowhere F) fun v320 => bnd (opChk false v323 v324) fun _ => bnd (opChk false v327 v328) fun _ => bnd (R8_in F v324 v329) fun v330 => bnd (opStoreN 3 x2 v320) fun _ => K x2 v330

theorem R8_Names_r54_ok (F : Nat) (x0 x2 : Value) (K : Value → Value → M Value) : R8_Names_r54 F x0 x2 K = R8_Names_D F 54 [1, 2, 3, 4, 5, 6, 7, 8, 9, 0, 10, 11, 12] [(2, x2), (0, x0)] [2, 3] K := by kernel_rfl

theorem R8_Names_r54_good : goodOrder (opsOf Try.f39 54) [1, 2, 3, 4, 5, 6, 7, 8, 9, 0, 10, 11, 12] = true := by kernel_rfl

def R8_Names_k0 (F : Nat) (x0 x2 : Value) : M Value :=
  R8_Names_r54 F x0 x2 (fun x2 x3 => bnd (opLoadN 3 x2) fun r0 => tupK [r0, x3])

def R8_Names_r37 (F : Nat) (x0 x2 x14 : Value) (K : Value → Value → Value → M Value) : M Value :=
  bnd (opBin .add x14 (.int .i64 (1))) fun v217 => K x0 x2 v217

theorem R8_Names_r37_ok (F : Nat) (x0 x2 x14 : Value) (K : Value → Value → Value → M Value) : R8_Names_r37 F x0 x2 x14 K = R8_Names_R F 37 [(14, x14), (2, x2), (0, x0)] [0, 2, 14] K := by kernel_rfl

def R8_Names_k2 (F : Nat) (A1 : Value → Value → Value → M Value) (x0 x2 x14 : Value) : M Value :=
  R8_Names_r37 F x0 x2 x14 (fun x0 x2 x14 => A1 x0 x2 x14)

def R8_Names_r48 (F : Nat) (x0 x2 x14 x15 x17 : Value) (K : Value → Value → Value → Value → Value → M Value) : M Value :=
  bnd (opBin .add x17 (.int .i64 (1))) fun v259 => K x0 x2 x14 x15 v259

theorem R8_Names_r48_ok (F : Nat) (x0 x2 x14 x15 x17 : Value) (K : Value → Value → Value → Value → Value → M Value) : R8_Names_r48 F x0 x2 x14 x15 x17 K = R8_Names_R F 48 [(17, x17), (15, x15), (14, x14), (2, x2), (0, x0)] [0, 2, 14, 15, 17] K := by kernel_rfl

def R8_Names_k4 (F : Nat) (A3 : Value → Value → Value → Value → Value → M Value) (x0 x2 x14 x15 x17 : Value) : M Value :=
  R8_Names_r48 F x0 x2 x14 x15 x17 (fun x0 x2 x14 x15 x17 => A3 x0 x2 x14 x15 x17)

def R8_Names_r51 (F : Nat) (x0 x2 x14 x15 x17 x18 : Value) (K : Value → Value → Value → Value → Value → Value → M Value) : M Value :=
  bnd (opBin .add x18 (.int .i64 (1))) fun v270 => K x0 x2 x14 x15 x17 v270

theorem R8_Names_r51_ok (F : Nat) (x0 x2 x14 x15 x17 x18 : Value) (K : Value → Value → Value → Value → Value → Value → M Value) : R8_Names_r51 F x0 x2 x14 x15 x17 x18 K = R8_Names_R F 51 [(18, x18), (17, x17), (15, x15), (14, x14), (2, x2), (0, x0)] [0, 2, 14, 15, 17, 18] K := by kernel_rfl

def R8_Names_r53 (F : Nat) (x2 x14 x17 x18 : Value) (K : Value → Value → M Value) : M Value :=
  bnd (opBuild [(.int .i64 (0)), (.int .i64 (0)), (.int .i64 (0))] [(0, 1, false, x14), (1, 1, false, x17), (2, 1, false, x18)]) fun v319 => bnd (opStoreN 3 x2 v319) fun _ => K x2 (.bool false)

theorem R8_Names_r53_ok (F : Nat) (x2 x14 x17 x18 : Value) (K : Value → Value → M Value) : R8_Names_r53 F x2 x14 x17 x18 K = R8_Names_R F 53 [(18, x18), (17, x17), (14, x14), (2, x2)] [2, 3] K := by kernel_rfl

def R8_Names_r52 (F : Nat) (x0 x2 x14 x15 x17 x18 : Value) (K : Value → Value → Value → Value → Value → Value → Value → M Value) : M Value :=
  bnd (opFieldAddr 2 x15) fun v272 => bnd (opLoad v272) fun v273 => bnd (opIndexAddr 5 v273 x17) fun v275 => bnd (opFieldAddr 0 v275) fun v276 => bnd (opLoad v276) fun v277 => bnd (opLen v277) fun v278 => bnd (opBin .lss x18 v278) fun v279 => onB v279 (bnd (opLoadN 3 x15) fun v282 => bnd (opFieldAddr 2 x15) fun v283 => bnd (opLoad v283) fun v284 => bnd (opIndexAddr 5 v284 x17) fun v286 => bnd (opFieldAddr 0 v286) fun v287 => bnd (opLoad v287) fun v288 => bnd (opIndexAddr 6 v288 x18) fun v290 => bnd (opLoadN 6 v290) fun v291 => bnd (R8_instr F x0 v282 v291) fun v292 => bnd (opNot v292) fun v293 => onB v293 (K x0 x2 x14 x15 x17 x18 (.bool true)) (bnd (opFieldAddr 2 x15) fun v297 => bnd (opLoad v297) fun v298 => bnd (opIndexAddr 5 v298 x17) fun v300 => bnd (opFieldAddr 0 v300) fun v301 => bnd (opLoad v301) fun v302 => bnd (opLen v302) fun v303 => bnd (opBin .eql x18 v303) fun v304 => onB v304 (bnd (opLoadN 3 x15) fun v306 => bnd (opFieldAddr 2 x15) fun v307 => bnd (opLoad v307) fun v308 => bnd (opIndexAddr 5 v308 x17) fun v310 => bnd (opLoadN 5 v310) fun v311 => bnd (R8_ending F v306 v311) fun v312 => bnd (opNot v312) fun v313 => K x0 x2 x14 x15 x17 x18 v313) (K x0 x2 x14 x15 x17 x18 (.bool false)))) (bnd (opFieldAddr 2 x15) fun v297 => bnd (opLoad v297) fun v298 => bnd (opIndexAddr 5 v298 x17) fun v300 => bnd (opFieldAddr 0 v300) fun v301 => bnd (opLoad v301) fun v302 => bnd (opLen v302) fun v303 => bnd (opBin .eql x18 v303) fun v304 => onB v304 (bnd (opLoadN 3 x15) fun v306 => bnd (opFieldAddr 2 x15) fun v307 => bnd (opLoad v307) fun v308 => bnd (opIndexAddr 5 v308 x17) fun v310 => bnd (opLoadN 5 v310) fun v311 => bnd (R8_ending F v306 v311) fun v312 => bnd (opNot v312) fun v313 => K x0 x2 x14 x15 x17 x18 v313) (K x0 x2 x14 x15 x17 x18 (.bool false)))

theorem R8_Names_r52_ok (F : Nat) (x0 x2 x14 x15 x17 x18 : Value) (K : Value → Value → Value → Value → Value → Value → Value → M Value) : R8_Names_r52 F x0 x2 x14 x15 x17 x18 K = R8_Names_D F 52 [0, 1, 2, 3, 4, 5, 6, 7, 8, 9, 10, 11, 12, 13, 14, 15, 16, 17, 18, 19, 20, 21, 22, 23, 24, 25, 26, 27, 28, 29, 30, 31, 32, 33, 34, 35, 36, 37, 38, 39, 40, 41, 42, 43, 44] [(18, x18), (17, x17), (15, x15), (14, x14), (2, x2), (0, x0)] [0, 2, 14, 15, 17, 18, 315] K := by kernel_rfl

theorem R8_Names_r52_good : goodOrder (opsOf Try.f39 52) [0, 1, 2, 3, 4, 5, 6, 7, 8, 9, 10, 11, 12, 13, 14, 15, 16, 17, 18, 19, 20, 21, 22, 23, 24, 25, 26, 27, 28, 29, 30, 31, 32, 33, 34, 35, 36, 37, 38, 39, 40, 41, 42, 43, 44] = true := by kernel_rfl

def R8_Names_r50 (F : Nat) (x0 x2 x14 x15 x17 x18 : Value) (K : Value → Value → Value → Value → Value → Value → Value → M Value) : M Value :=
  bnd (opFieldAddr 2 x15) fun v261 => bnd (opLoad v261) fun v262 => bnd (opIndexAddr 5 v262 x17) fun v264 => bnd (opFieldAddr 0 v264) fun v265 => bnd (opLoad v265) fun v266 => bnd (opLen v266) fun v267 => bnd (opBin .leq x18 v267) fun v268 => K x0 x2 x14 x15 x17 x18 v268

theorem R8_Names_r50_ok (F : Nat) (x0 x2 x14 x15 x17 x18 : Value) (K : Value → Value → Value → Value → Value → Value → Value → M Value) : R8_Names_r50 F x0 x2 x14 x15 x17 x18 K = R8_Names_R F 50 [(18, x18), (17, x17), (15, x15), (14, x14), (2, x2), (0, x0)] [0, 2, 14, 15, 17, 18, 268] K := by kernel_rfl

def R8_Names_b5 (F : Nat) (E5_22 : Value → Value → Value → Value → Value → M Value) (A5 : Value → Value → Value → Value → Value → Value → M Value) (x0 x2 x14 x15 x17 x18 : Value) : M Value :=
  R8_Names_r50 F x0 x2 x14 x15 x17 x18 (fun x0 x2 x14 x15 x17 x18 x268 => onB x268 (R8_Names_r52 F x0 x2 x14 x15 x17 x18 (fun x0 x2 x14 x15 x17 x18 x315 => onB x315 (R8_Names_r53 F x2 x14 x17 x18 (fun x2 x3 => bnd (opLoadN 3 x2) fun r0 => tupK [r0, x3])) (R8_Names_r51 F x0 x2 x14 x15 x17 x18 (fun x0 x2 x14 x15 x17 x18 => A5 x0 x2 x14 x15 x17 x18)))) (E5_22 x0 x2 x14 x15 x17))

def R8_Names_l5 (F : Nat) (E5_22 : Value → Value → Value → Value → Value → M Value) : Nat → Value → Value → Value → Value → Value → Value → M Value
  | 0, _, _, _, _, _, _ => fail
  | k5 + 1, x0, x2, x14, x15, x17, x18 => R8_Names_b5 F E5_22 (R8_Names_l5 F E5_22 k5) x0 x2 x14 x15 x17 x18

theorem R8_Names_l5_s (F : Nat) (E5_22 : Value → Value → Value → Value → Value → M Value) (k5 : Nat) (x0 x2 x14 x15 x17 x18 : Value) : R8_Names_l5 F E5_22 (k5 + 1) x0 x2 x14 x15 x17 x18 = R8_Names_b5 F E5_22 (R8_Names_l5 F E5_22 k5) x0 x2 x14 x15 x17 x18 := rfl

def R8_Names_r49 (F : Nat) (x0 x2 x14 x15 x17 : Value) (K : Value → Value → Value → Value → Value → Value → M Value) : M Value :=
  K x0 x2 x14 x15 x17 (.int .i64 (0))

theorem R8_Names_r49_ok (F : Nat) (x0 x2 x14 x15 x17 : Value) (K : Value → Value → Value → Value → Value → Value → M Value) : R8_Names_r49 F x0 x2 x14 x15 x17 K = R8_Names_R F 49 [(17, x17), (15, x15), (14, x14), (2, x2), (0, x0)] [0, 2, 14, 15, 17, 18] K := by kernel_rfl

def R8_Names_r47 (F : Nat) (x0 x2 x14 x15 x17 : Value) (K : Value → Value → Value → Value → Value → Value → M Value) : M Value :=
  bnd (opFieldAddr 2 x15) fun v254 => bnd (opLoad v254) fun v255 => bnd (opLen v255) fun v256 => bnd (opBin .lss x17 v256) fun v257 => K x0 x2 x14 x15 x17 v257

theorem R8_Names_r47_ok (F : Nat) (x0 x2 x14 x15 x17 : Value) (K : Value → Value → Value → Value → Value → Value → M Value) : R8_Names_r47 F x0 x2 x14 x15 x17 K = R8_Names_R F 47 [(17, x17), (15, x15), (14, x14), (2, x2), (0, x0)] [0, 2, 14, 15, 17, 257] K := by kernel_rfl

def R8_Names_b3 (F : Nat) (E3_20 : Value → Value → Value → M Value) (A3 : Value → Value → Value → Value → Value → M Value) (x0 x2 x14 x15 x17 : Value) : M Value :=
  R8_Names_r47 F x0 x2 x14 x15 x17 (fun x0 x2 x14 x15 x17 x257 => onB x257 (R8_Names_r49 F x0 x2 x14 x15 x17 (fun x0 x2 x14 x15 x17 x18 => R8_Names_l5 F (fun x0 x2 x14 x15 x17 => R8_Names_k4 F A3 x0 x2 x14 x15 x17) F x0 x2 x14 x15 x17 x18)) (E3_20 x0 x2 x14))

def R8_Names_l3 (F : Nat) (E3_20 : Value → Value → Value → M Value) : Nat → Value → Value → Value → Value → Value → M Value
  | 0, _, _, _, _, _ => fail
  | k3 + 1, x0, x2, x14, x15, x17 => R8_Names_b3 F E3_20 (R8_Names_l3 F E3_20 k3) x0 x2 x14 x15 x17

theorem R8_Names_l3_s (F : Nat) (E3_20 : Value → Value → Value → M Value) (k3 : Nat) (x0 x2 x14 x15 x17 : Value) : R8_Names_l3 F E3_20 (k3 + 1) x0 x2 x14 x15 x17 = R8_Names_b3 F E3_20 (R8_Names_l3 F E3_20 k3) x0 x2 x14 x15 x17 := rfl

def R8_Names_r46 (F : Nat) (x0 x2 x14 x15 : Value) (K : Value → Value → Value → Value → Value → M Value) : M Value :=
  K x0 x2 x14 x15 (.int .i64 (0))

theorem R8_Names_r46_ok (F : Nat) (x0 x2 x14 x15 : Value) (K : Value → Value → Value → Value → Value → M Value) : R8_Names_r46 F x0 x2 x14 x15 K = R8_Names_R F 46 [(15, x15), (14, x14), (2, x2), (0, x0)] [0, 2, 14, 15, 17] K := by kernel_rfl

def R8_Names_r45 (F : Nat) (x2 : Value) (K : Value → Value → M Value) : M Value :=
  bnd (R8_Nowhere F) fun v252 => bnd (opStoreN 3 x2 v252) fun _ => K x2 (.bool false)

theorem R8_Names_r45_ok (F : Nat) (x2 : Value) (K : Value → Value → M Value) : R8_Names_r45 F x2 K = R8_Names_R F 45 [(2, x2)] [2, 3] K := by kernel_rfl

def R8_Names_r44 (F : Nat) (x0 x2 x4 x14 x15 : Value) (K : Value → Value → Value → Value → Value → M Value) : M Value :=
  bnd (opNot x4) fun v251 => K x0 x2 x14 x15 v251

theorem R8_Names_r44_ok (F : Nat) (x0 x2 x4 x14 x15 : Value) (K : Value → Value → Value → Value → Value → M Value) : R8_Names_r44 F x0 x2 x4 x14 x15 K = R8_Names_R F 44 [(15, x15), (14, x14), (4, x4), (2, x2), (0, x0)] [0, 2, 14, 15, 251] K := by kernel_rfl

def R8_Names_k6 (F : Nat) (A1 : Value → Value → Value → M Value) (x0 x2 x4 x14 x15 : Value) : M Value :=
  R8_Names_r44 F x0 x2 x4 x14 x15 (fun x0 x2 x14 x15 x251 => onB x251 (R8_Names_r45 F x2 (fun x2 x3 => bnd (opLoadN 3 x2) fun r0 => tupK [r0, x3])) (R8_Names_r46 F x0 x2 x14 x15 (fun x0 x2 x14 x15 x17 => R8_Names_l3 F (fun x0 x2 x14 => R8_Names_k2 F A1 x0 x2 x14) F x0 x2 x14 x15 x17)))

def R8_Names_r42 (F : Nat) (x0 x2 x4 x14 x15 x16 : Value) (K : Value → Value → Value → Value → Value → Value → M Value) : M Value :=
  bnd (opBin .add x16 (.int .i64 (1))) fun v239 => K x0 x2 x4 x14 x15 v239

theorem R8_Names_r42_ok (F : Nat) (x0 x2 x4 x14 x15 x16 : Value) (K : Value → Value → Value → Value → Value → Value → M Value) : R8_Names_r42 F x0 x2 x4 x14 x15 x16 K = R8_Names_R F 42 [(16, x16), (15, x15), (14, x14), (4, x4), (2, x2), (0, x0)] [0, 2, 4, 14, 15, 16] K := by kernel_rfl

def R8_Names_r43 (F : Nat) (x0 x2 x4 x14 x15 x16 : Value) (K : Value → Value → Value → Value → Value → Value → M Value) : M Value :=
  onB x4 (bnd (opFieldAddr 1 x15) fun v243 => bnd (opLoad v243) fun v244 => bnd (opIndexAddr 2 v244 x16) fun v246 => bnd (opLoadN 2 v246) fun v247 => bnd (R8_named F x0 v247) fun v248 => K x0 x2 v248 x14 x15 x16) (K x0 x2 (.bool false) x14 x15 x16)

theorem R8_Names_r43_ok (F : Nat) (x0 x2 x4 x14 x15 x16 : Value) (K : Value → Value → Value → Value → Value → Value → M Value) : R8_Names_r43 F x0 x2 x4 x14 x15 x16 K = R8_Names_R F 43 [(16, x16), (15, x15), (14, x14), (4, x4), (2, x2), (0, x0)] [0, 2, 4, 14, 15, 16] K := by kernel_rfl

def R8_Names_r41 (F : Nat) (x0 x2 x4 x14 x15 x16 : Value) (K : Value → Value → Value → Value → Value → Value → Value → M Value) : M Value :=
  bnd (opFieldAddr 1 x15) fun v234 => bnd (opLoad v234) fun v235 => bnd (opLen v235) fun v236 => bnd (opBin .lss x16 v236) fun v237 => K x0 x2 x4 x14 x15 x16 v237

theorem R8_Names_r41_ok (F : Nat) (x0 x2 x4 x14 x15 x16 : Value) (K : Value → Value → Value → Value → Value → Value → Value → M Value) : R8_Names_r41 F x0 x2 x4 x14 x15 x16 K = R8_Names_R F 41 [(16, x16), (15, x15), (14, x14), (4, x4), (2, x2), (0, x0)] [0, 2, 4, 14, 15, 16, 237] K := by kernel_rfl

def R8_Names_b7 (F : Nat) (E7_18 : Value → Value → Value → Value → Value → M Value) (A7 : Value → Value → Value → Value → Value → Value → M Value) (x0 x2 x4 x14 x15 x16 : Value) : M Value :=
  R8_Names_r41 F x0 x2 x4 x14 x15 x16 (fun x0 x2 x4 x14 x15 x16 x237 => onB x237 (R8_Names_r43 F x0 x2 x4 x14 x15 x16 (fun x0 x2 x4 x14 x15 x16 => R8_Names_r42 F x0 x2 x4 x14 x15 x16 (fun x0 x2 x4 x14 x15 x16 => A7 x0 x2 x4 x14 x15 x16))) (E7_18 x0 x2 x4 x14 x15))

def R8_Names_l7 (F : Nat) (E7_18 : Value → Value → Value → Value → Value → M Value) : Nat → Value → Value → Value → Value → Value → Value → M Value
  | 0, _, _, _, _, _, _ => fail
  | k7 + 1, x0, x2, x4, x14, x15, x16 => R8_Names_b7 F E7_18 (R8_Names_l7 F E7_18 k7) x0 x2 x4 x14 x15 x16

theorem R8_Names_l7_s (F : Nat) (E7_18 : Value → Value → Value → Value → Value → M Value) (k7 : Nat) (x0 x2 x4 x14 x15 x16 : Value) : R8_Names_l7 F E7_18 (k7 + 1) x0 x2 x4 x14 x15 x16 = R8_Names_b7 F E7_18 (R8_Names_l7 F E7_18 k7) x0 x2 x4 x14 x15 x16 := rfl

def R8_Names_r40 (F : Nat) (x0 x2 x4 x14 x15 : Value) (K : Value → Value → Value → Value → Value → Value → M Value) : M Value :=
  K x0 x2 x4 x14 x15 (.int .i64 (0))

theorem R8_Names_r40_ok (F : Nat) (x0 x2 x4 x14 x15 : Value) (K : Value → Value → Value → Value → Value → Value → M Value) : R8_Names_r40 F x0 x2 x4 x14 x15 K = R8_Names_R F 40 [(15, x15), (14, x14), (4, x4), (2, x2), (0, x0)] [0, 2, 4, 14, 15, 16] K := by kernel_rfl

def R8_Names_r39 (F : Nat) (x0 x2 x14 x15 : Value) (K : Value → Value → Value → Value → Value → M Value) : M Value :=
  bnd (opFieldAddr 0 x15) fun v225 => bnd (opLoad v225) fun v226 => bnd (opNil x0) fun v228 => bnd (opFieldAddr 1 v228) fun v229 => bnd (opLoad v229) fun v230 => bnd (opLen v230) fun v231 => bnd (R8_in F v226 v231) fun v232 => K x0 x2 v232 x14 x15

theorem R8_Names_r39_ok (F : Nat) (x0 x2 x14 x15 : Value) (K : Value → Value → Value → Value → Value → M Value) : R8_Names_r39 F x0 x2 x14 x15 K = R8_Names_D F 39 [0, 1, 2, 3, 4, 5, 6, 7, 8] [(15, x15), (14, x14), (2, x2), (0, x0)] [0, 2, 4, 14, 15] K := by kernel_rfl

theorem R8_Names_r39_good : goodOrder (opsOf Try.f39 39) [0, 1, 2, 3, 4, 5, 6, 7, 8] = true := by kernel_rfl

def R8_Names_r38 (F : Nat) (x0 x2 x14 : Value) (K : Value → Value → Value → Value → M Value) : M Value :=
  bnd (opNil x0) fun v219 => bnd (opFieldAddr 4 v219) fun v220 => bnd (opLoad v220) fun v221 => bnd (opIndexAddr 3 v221 x14) fun v223 => bnd (opLoadN 3 v223) fun v224 => bnd (opPtr [(.int .i64 (0)), (.slice none 0 0), (.slice none 0 0)]) fun v15 => bnd (opStoreN 3 v15 v224) fun _ => K x0 x2 x14 v15

theorem R8_Names_r38_ok (F : Nat) (x0 x2 x14 : Value) (K : Value → Value → Value → Value → M Value) : R8_Names_r38 F x0 x2 x14 K = R8_Names_R F 38 [(14, x14), (2, x2), (0, x0)] [0, 2, 14, 15] K := by kernel_rfl

def R8_Names_r36 (F : Nat) (x0 x2 x14 : Value) (K : Value → Value → Value → Value → M Value) : M Value :=
  bnd (opNil x0) fun v211 => bnd (opFieldAddr 4 v211) fun v212 => bnd (opLoad v212) fun v213 => bnd (opLen v213) fun v214 => bnd (opBin .lss x14 v214) fun v215 => K x0 x2 x14 v215

theorem R8_Names_r36_ok (F : Nat) (x0 x2 x14 : Value) (K : Value → Value → Value → Value → M Value) : R8_Names_r36 F x0 x2 x14 K = R8_Names_R F 36 [(14, x14), (2, x2), (0, x0)] [0, 2, 14, 215] K := by kernel_rfl

def R8_Names_b1 (F : Nat) (E1_16 : Value → Value → M Value) (A1 : Value → Value → Value → M Value) (x0 x2 x14 : Value) : M Value :=
  R8_Names_r36 F x0 x2 x14 (fun x0 x2 x14 x215 => onB x215 (R8_Names_r38 F x0 x2 x14 (fun x0 x2 x14 x15 => R8_Names_r39 F x0 x2 x14 x15 (fun x0 x2 x4 x14 x15 => R8_Names_r40 F x0 x2 x4 x14 x15 (fun x0 x2 x4 x14 x15 x16 => R8_Names_l7 F (fun x0 x2 x4 x14 x15 => R8_Names_k6 F A1 x0 x2 x4 x14 x15) F x0 x2 x4 x14 x15 x16)))) (E1_16 x0 x2))

def R8_Names_l1 (F : Nat) (E1_16 : Value → Value → M Value) : Nat → Value → Value → Value → M Value
  | 0, _, _, _ => fail
  | k1 + 1, x0, x2, x14 => R8_Names_b1 F E1_16 (R8_Names_l1 F E1_16 k1) x0 x2 x14

theorem R8_Names_l1_s (F : Nat) (E1_16 : Value → Value → M Value) (k1 : Nat) (x0 x2 x14 : Value) : R8_Names_l1 F E1_16 (k1 + 1) x0 x2 x14 = R8_Names_b1 F E1_16 (R8_Names_l1 F E1_16 k1) x0 x2 x14 := rfl

def R8_Names_r35 (F : Nat) (x0 x2 : Value) (K : Value → Value → Value → M Value) : M Value :=
  K x0 x2 (.int .i64 (0))

theorem R8_Names_r35_ok (F : Nat) (x0 x2 : Value) (K : Value → Value → Value → M Value) : R8_Names_r35 F x0 x2 K = R8_Names_R F 35 [(2, x2), (0, x0)] [0, 2, 14] K := by kernel_rfl

def R8_Names_r34 (F : Nat) (x2 : Value) (K : Value → Value → M Value) : M Value :=
  bnd (R8_Nowhere F) fun v208 => bnd (opStoreN 3 x2 v208) fun _ => K x2 (.bool false)

theorem R8_Names_r34_ok (F : Nat) (x2 : Value) (K : Value → Value → M Value) : R8_Names_r34 F x2 K = R8_Names_R F 34 [(2, x2)] [2, 3] K := by kernel_rfl

def R8_Names_r33 (F : Nat) (x0 x2 x4 : Value) (K : Value → Value → Value → M Value) : M Value :=
  bnd (opNot x4) fun v207 => K x0 x2 v207

theorem R8_Names_r33_ok (F : Nat) (x0 x2 x4 : Value) (K : Value → Value → Value → M Value) : R8_Names_r33 F x0 x2 x4 K = R8_Names_R F 33 [(4, x4), (2, x2), (0, x0)] [0, 2, 207] K := by kernel_rfl

def R8_Names_k8 (F : Nat) (x0 x2 x4 : Value) : M Value :=
  R8_Names_r33 F x0 x2 x4 (fun x0 x2 x207 => onB x207 (R8_Names_r34 F x2 (fun x2 x3 => bnd (opLoadN 3 x2) fun r0 => tupK [r0, x3])) (R8_Names_r35 F x0 x2 (fun x0 x2 x14 => R8_Names_l1 F (fun x0 x2 => R8_Names_k0 F x0 x2) F x0 x2 x14)))

def R8_Names_r26 (F : Nat) (x0 x2 x4 x11 : Value) (K : Value → Value → Value → Value → M Value) : M Value :=
  bnd (opBin .add x11 (.int .i64 (1))) fun v156 => K x0 x2 x4 v156

theorem R8_Names_r26_ok (F : Nat) (x0 x2 x4 x11 : Value) (K : Value → Value → Value → Value → M Value) : R8_Names_r26 F x0 x2 x4 x11 K = R8_Names_R F 26 [(11, x11), (4, x4), (2, x2), (0, x0)] [0, 2, 4, 11] K := by kernel_rfl

def R8_Names_k10 (F : Nat) (A9 : Value → Value → Value → Value → M Value) (x0 x2 x4 x11 : Value) : M Value :=
  R8_Names_r26 F x0 x2 x4 x11 (fun x0 x2 x4 x11 => A9 x0 x2 x4 x11)

def R8_Names_r31 (F : Nat) (x0 x2 x4 x11 x12 x13 : Value) (K : Value → Value → Value → Value → Value → Value → M Value) : M Value :=
  bnd (opBin .add x13 (.int .i64 (1))) fun v191 => K x0 x2 x4 x11 x12 v191

theorem R8_Names_r31_ok (F : Nat) (x0 x2 x4 x11 x12 x13 : Value) (K : Value → Value → Value → Value → Value → Value → M Value) : R8_Names_r31 F x0 x2 x4 x11 x12 x13 K = R8_Names_R F 31 [(13, x13), (12, x12), (11, x11), (4, x4), (2, x2), (0, x0)] [0, 2, 4, 11, 12, 13] K := by kernel_rfl

def R8_Names_r32 (F : Nat) (x0 x2 x4 x11 x12 x13 : Value) (K : Value → Value → Value → Value → Value → Value → M Value) : M Value :=
  onB x4 (bnd (opFieldAddr 2 x12) fun v194 => bnd (opLoad v194) fun v195 => bnd (opIndexAddr 1 v195 x13) fun v197 => bnd (opLoad v197) fun v198 => bnd (opNil x0) fun v200 => bnd (opFieldAddr 4 v200) fun v201 => bnd (opLoad v201) fun v202 => bnd (opLen v202) fun v203 => bnd (R8_in F v198 v203) fun v204 => K x0 x2 v204 x11 x12 x13) (K x0 x2 (.bool false) x11 x12 x13)

theorem R8_Names_r32_ok (F : Nat) (x0 x2 x4 x11 x12 x13 : Value) (K : Value → Value → Value → Value → Value → Value → M Value) : R8_Names_r32 F x0 x2 x4 x11 x12 x13 K = R8_Names_D F 32 [0, 1, 2, 3, 4, 5, 6, 7, 8, 9, 10, 11, 12, 13, 14] [(13, x13), (12, x12), (11, x11), (4, x4), (2, x2), (0, x0)] [0, 2, 4, 11, 12, 13] K := by kernel_rfl

theorem R8_Names_r32_good : goodOrder (opsOf Try.f39 32) [0, 1, 2, 3, 4, 5, 6, 7, 8, 9, 10, 11, 12, 13, 14] = true := by kernel_rfl

def R8_Names_r30 (F : Nat) (x0 x2 x4 x11 x12 x13 : Value) (K : Value → Value → Value → Value → Value → Value → Value → M Value) : M Value :=
  bnd (opFieldAddr 2 x12) fun v186 => bnd (opLoad v186) fun v187 => bnd (opLen v187) fun v188 => bnd (opBin .lss x13 v188) fun v189 => K x0 x2 x4 x11 x12 x13 v189

theorem R8_Names_r30_ok (F : Nat) (x0 x2 x4 x11 x12 x13 : Value) (K : Value → Value → Value → Value → Value → Value → Value → M Value) : R8_Names_r30 F x0 x2 x4 x11 x12 x13 K = R8_Names_R F 30 [(13, x13), (12, x12), (11, x11), (4, x4), (2, x2), (0, x0)] [0, 2, 4, 11, 12, 13, 189] K := by kernel_rfl

def R8_Names_b11 (F : Nat) (E11_14 : Value → Value → Value → Value → M Value) (A11 : Value → Value → Value → Value → Value → Value → M Value) (x0 x2 x4 x11 x12 x13 : Value) : M Value :=
  R8_Names_r30 F x0 x2 x4 x11 x12 x13 (fun x0 x2 x4 x11 x12 x13 x189 => onB x189 (R8_Names_r32 F x0 x2 x4 x11 x12 x13 (fun x0 x2 x4 x11 x12 x13 => R8_Names_r31 F x0 x2 x4 x11 x12 x13 (fun x0 x2 x4 x11 x12 x13 => A11 x0 x2 x4 x11 x12 x13))) (E11_14 x0 x2 x4 x11))

def R8_Names_l11 (F : Nat) (E11_14 : Value → Value → Value → Value → M Value) : Nat → Value → Value → Value → Value → Value → Value → M Value
  | 0, _, _, _, _, _, _ => fail
  | k11 + 1, x0, x2, x4, x11, x12, x13 => R8_Names_b11 F E11_14 (R8_Names_l11 F E11_14 k11) x0 x2 x4 x11 x12 x13

theorem R8_Names_l11_s (F : Nat) (E11_14 : Value → Value → Value → Value → M Value) (k11 : Nat) (x0 x2 x4 x11 x12 x13 : Value) : R8_Names_l11 F E11_14 (k11 + 1) x0 x2 x4 x11 x12 x13 = R8_Names_b11 F E11_14 (R8_Names_l11 F E11_14 k11) x0 x2 x4 x11 x12 x13 := rfl

def R8_Names_r29 (F : Nat) (x0 x2 x4 x11 x12 : Value) (K : Value → Value → Value → Value → Value → Value → M Value) : M Value :=
  K x0 x2 x4 x11 x12 (.int .i64 (0))

theorem R8_Names_r29_ok (F : Nat) (x0 x2 x4 x11 x12 : Value) (K : Value → Value → Value → Value → Value → Value → M Value) : R8_Names_r29 F x0 x2 x4 x11 x12 K = R8_Names_R F 29 [(12, x12), (11, x11), (4, x4), (2, x2), (0, x0)] [0, 2, 4, 11, 12, 13] K := by kernel_rfl

def R8_Names_r28 (F : Nat) (x0 x2 x4 x11 x12 : Value) (K : Value → Value → Value → Value → Value → M Value) : M Value :=
  onB x4 (bnd (opFieldAddr 0 x12) fun v166 => bnd (opLoad v166) fun v167 => bnd (opNil x0) fun v169 => bnd (opFieldAddr 0 v169) fun v170 => bnd (opLoad v170) fun v171 => bnd (opLen v171) fun v172 => bnd (R8_in F v167 v172) fun v173 => onB v173 (bnd (opFieldAddr 1 x12) fun v176 => bnd (opLoad v176) fun v177 => bnd (opNil x0) fun v179 => bnd (opFieldAddr 2 v179) fun v180 => bnd (opLoad v180) fun v181 => bnd (opLen v181) fun v182 => bnd (R8_in F v177 v182) fun v183 => K x0 x2 v183 x11 x12) (K x0 x2 (.bool false) x11 x12)) (K x0 x2 (.bool false) x11 x12)

theorem R8_Names_r28_ok (F : Nat) (x0 x2 x4 x11 x12 : Value) (K : Value → Value → Value → Value → Value → M Value) : R8_Names_r28 F x0 x2 x4 x11 x12 K = R8_Names_D F 28 [0, 1, 2, 3, 4, 5, 6, 7, 8, 9, 10, 11, 12, 13, 14, 15, 16, 17, 18, 19, 20, 21] [(12, x12), (11, x11), (4, x4), (2, x2), (0, x0)] [0, 2, 4, 11, 12] K := by kernel_rfl

theorem R8_Names_r28_good : goodOrder (opsOf Try.f39 28) [0, 1, 2, 3, 4, 5, 6, 7, 8, 9, 10, 11, 12, 13, 14, 15, 16, 17, 18, 19, 20, 21] = true := by kernel_rfl

def R8_Names_r27 (F : Nat) (x0 x2 x4 x11 : Value) (K : Value → Value → Value → Value → Value → M Value) : M Value :=
  bnd (opNil x0) fun v158 => bnd (opFieldAddr 3 v158) fun v159 => bnd (opLoad v159) fun v160 => bnd (opIndexAddr 3 v160 x11) fun v162 => bnd (opLoadN 3 v162) fun v163 => bnd (opPtr [(.int .i64 (0)), (.int .i64 (0)), (.slice none 0 0)]) fun v12 => bnd (opStoreN 3 v12 v163) fun _ => K x0 x2 x4 x11 v12

theorem R8_Names_r27_ok (F : Nat) (x0 x2 x4 x11 : Value) (K : Value → Value → Value → Value → Value → M Value) : R8_Names_r27 F x0 x2 x4 x11 K = R8_Names_R F 27 [(11, x11), (4, x4), (2, x2), (0, x0)] [0, 2, 4, 11, 12] K := by kernel_rfl

def R8_Names_r25 (F : Nat) (x0 x2 x4 x11 : Value) (K : Value → Value → Value → Value → Value → M Value) : M Value :=
  bnd (opNil x0) fun v150 => bnd (opFieldAddr 3 v150) fun v151 => bnd (opLoad v151) fun v152 => bnd (opLen v152) fun v153 => bnd (opBin .lss x11 v153) fun v154 => K x0 x2 x4 x11 v154

theorem R8_Names_r25_ok (F : Nat) (x0 x2 x4 x11 : Value) (K : Value → Value → Value → Value → Value → M Value) : R8_Names_r25 F x0 x2 x4 x11 K = R8_Names_R F 25 [(11, x11), (4, x4), (2, x2), (0, x0)] [0, 2, 4, 11, 154] K := by kernel_rfl

def R8_Names_b9 (F : Nat) (E9_12 : Value → Value → Value → M Value) (A9 : Value → Value → Value → Value → M Value) (x0 x2 x4 x11 : Value) : M Value :=
  R8_Names_r25 F x0 x2 x4 x11 (fun x0 x2 x4 x11 x154 => onB x154 (R8_Names_r27 F x0 x2 x4 x11 (fun x0 x2 x4 x11 x12 => R8_Names_r28 F x0 x2 x4 x11 x12 (fun x0 x2 x4 x11 x12 => R8_Names_r29 F x0 x2 x4 x11 x12 (fun x0 x2 x4 x11 x12 x13 => R8_Names_l11 F (fun x0 x2 x4 x11 => R8_Names_k10 F A9 x0 x2 x4 x11) F x0 x2 x4 x11 x12 x13)))) (E9_12 x0 x2 x4))

def R8_Names_l9 (F : Nat) (E9_12 : Value → Value → Value → M Value) : Nat → Value → Value → Value → Value → M Value
  | 0, _, _, _, _ => fail
  | k9 + 1, x0, x2, x4, x11 => R8_Names_b9 F E9_12 (R8_Names_l9 F E9_12 k9) x0 x2 x4 x11

theorem R8_Names_l9_s (F : Nat) (E9_12 : Value → Value → Value → M Value) (k9 : Nat) (x0 x2 x4 x11 : Value) : R8_Names_l9 F E9_12 (k9 + 1) x0 x2 x4 x11 = R8_Names_b9 F E9_12 (R8_Names_l9 F E9_12 k9) x0 x2 x4 x11 := rfl

def R8_Names_r24 (F : Nat) (x0 x2 x4 : Value) (K : Value → Value → Value → Value → M Value) : M Value :=
  K x0 x2 x4 (.int .i64 (0))

theorem R8_Names_r24_ok (F : Nat) (x0 x2 x4 : Value) (K : Value → Value → Value → Value → M Value) : R8_Names_r24 F x0 x2 x4 K = R8_Names_R F 24 [(4, x4), (2, x2), (0, x0)] [0, 2, 4, 11] K := by kernel_rfl

def R8_Names_k12 (F : Nat) (x0 x2 x4 : Value) : M Value :=
  R8_Names_r24 F x0 x2 x4 (fun x0 x2 x4 x11 => R8_Names_l9 F (fun x0 x2 x4 => R8_Names_k8 F x0 x2 x4) F x0 x2 x4 x11)

def R8_Names_r19 (F : Nat) (x0 x2 x4 x9 : Value) (K : Value → Value → Value → Value → M Value) : M Value :=
  bnd (opBin .add x9 (.int .i64 (1))) fun v114 => K x0 x2 x4 v114

theorem R8_Names_r19_ok (F : Nat) (x0 x2 x4 x9 : Value) (K : Value → Value → Value → Value → M Value) : R8_Names_r19 F x0 x2 x4 x9 K = R8_Names_R F 19 [(9, x9), (4, x4), (2, x2), (0, x0)] [0, 2, 4, 9] K := by kernel_rfl

def R8_Names_k14 (F : Nat) (A13 : Value → Value → Value → Value → M Value) (x0 x2 x4 x9 : Value) : M Value :=
  R8_Names_r19 F x0 x2 x4 x9 (fun x0 x2 x4 x9 => A13 x0 x2 x4 x9)

def R8_Names_r22 (F : Nat) (x0 x2 x4 x9 x10 : Value) (K : Value → Value → Value → Value → Value → M Value) : M Value :=
  bnd (opBin .add x10 (.int .i64 (1))) fun v127 => K x0 x2 x4 x9 v127

theorem R8_Names_r22_ok (F : Nat) (x0 x2 x4 x9 x10 : Value) (K : Value → Value → Value → Value → Value → M Value) : R8_Names_r22 F x0 x2 x4 x9 x10 K = R8_Names_R F 22 [(10, x10), (9, x9), (4, x4), (2, x2), (0, x0)] [0, 2, 4, 9, 10] K := by kernel_rfl

def R8_Names_r23 (F : Nat) (x0 x2 x4 x9 x10 : Value) (K : Value → Value → Value → Value → Value → M Value) : M Value :=
  onB x4 (bnd (opNil x0) fun v131 => bnd (opFieldAddr 2 v131) fun v132 => bnd (opLoad v132) fun v133 => bnd (opIndexAddr 1 v133 x9) fun v135 => bnd (opFieldAddr 0 v135) fun v136 => bnd (opLoad v136) fun v137 => bnd (opIndexAddr 1 v137 x10) fun v139 => bnd (opLoad v139) fun v140 => bnd (opNil x0) fun v142 => bnd (opFieldAddr 1 v142) fun v143 => bnd (opLoad v143) fun v144 => bnd (opLen v144) fun v145 => bnd (R8_in F v140 v145) fun v146 => K x0 x2 v146 x9 x10) (K x0 x2 (.bool false) x9 x10)

theorem R8_Names_r23_ok (F : Nat) (x0 x2 x4 x9 x10 : Value) (K : Value → Value → Value → Value → Value → M Value) : R8_Names_r23 F x0 x2 x4 x9 x10 K = R8_Names_D F 23 [0, 1, 2, 3, 4, 5, 6, 7, 8, 9, 10, 11, 12, 13, 14, 15, 16, 17, 18, 19, 20] [(10, x10), (9, x9), (4, x4), (2, x2), (0, x0)] [0, 2, 4, 9, 10] K := by kernel_rfl

theorem R8_Names_r23_good : goodOrder (opsOf Try.f39 23) [0, 1, 2, 3, 4, 5, 6, 7, 8, 9, 10, 11, 12, 13, 14, 15, 16, 17, 18, 19, 20] = true := by kernel_rfl

def R8_Names_r21 (F : Nat) (x0 x2 x4 x9 x10 : Value) (K : Value → Value → Value → Value → Value → Value → M Value) : M Value :=
  bnd (opNil x0) fun v117 => bnd (opFieldAddr 2 v117) fun v118 => bnd (opLoad v118) fun v119 => bnd (opIndexAddr 1 v119 x9) fun v121 => bnd (opFieldAddr 0 v121) fun v122 => bnd (opLoad v122) fun v123 => bnd (opLen v123) fun v124 => bnd (opBin .lss x10 v124) fun v125 => K x0 x2 x4 x9 x10 v125

theorem R8_Names_r21_ok (F : Nat) (x0 x2 x4 x9 x10 : Value) (K : Value → Value → Value → Value → Value → Value → M Value) : R8_Names_r21 F x0 x2 x4 x9 x10 K = R8_Names_R F 21 [(10, x10), (9, x9), (4, x4), (2, x2), (0, x0)] [0, 2, 4, 9, 10, 125] K := by kernel_rfl

def R8_Names_b15 (F : Nat) (E15_10 : Value → Value → Value → Value → M Value) (A15 : Value → Value → Value → Value → Value → M Value) (x0 x2 x4 x9 x10 : Value) : M Value :=
  R8_Names_r21 F x0 x2 x4 x9 x10 (fun x0 x2 x4 x9 x10 x125 => onB x125 (R8_Names_r23 F x0 x2 x4 x9 x10 (fun x0 x2 x4 x9 x10 => R8_Names_r22 F x0 x2 x4 x9 x10 (fun x0 x2 x4 x9 x10 => A15 x0 x2 x4 x9 x10))) (E15_10 x0 x2 x4 x9))

def R8_Names_l15 (F : Nat) (E15_10 : Value → Value → Value → Value → M Value) : Nat → Value → Value → Value → Value → Value → M Value
  | 0, _, _, _, _, _ => fail
  | k15 + 1, x0, x2, x4, x9, x10 => R8_Names_b15 F E15_10 (R8_Names_l15 F E15_10 k15) x0 x2 x4 x9 x10

theorem R8_Names_l15_s (F : Nat) (E15_10 : Value → Value → Value → Value → M Value) (k15 : Nat) (x0 x2 x4 x9 x10 : Value) : R8_Names_l15 F E15_10 (k15 + 1) x0 x2 x4 x9 x10 = R8_Names_b15 F E15_10 (R8_Names_l15 F E15_10 k15) x0 x2 x4 x9 x10 := rfl

def R8_Names_r20 (F : Nat) (x0 x2 x4 x9 : Value) (K : Value → Value → Value → Value → Value → M Value) : M Value :=
  K x0 x2 x4 x9 (.int .i64 (0))

theorem R8_Names_r20_ok (F : Nat) (x0 x2 x4 x9 : Value) (K : Value → Value → Value → Value → Value → M Value) : R8_Names_r20 F x0 x2 x4 x9 K = R8_Names_R F 20 [(9, x9), (4, x4), (2, x2), (0, x0)] [0, 2, 4, 9, 10] K := by kernel_rfl

def R8_Names_r18 (F : Nat) (x0 x2 x4 x9 : Value) (K : Value → Value → Value → Value → Value → M Value) : M Value :=
  bnd (opNil x0) fun v108 => bnd (opFieldAddr 2 v108) fun v109 => bnd (opLoad v109) fun v110 => bnd (opLen v110) fun v111 => bnd (opBin .lss x9 v111) fun v112 => K x0 x2 x4 x9 v112

theorem R8_Names_r18_ok (F : Nat) (x0 x2 x4 x9 : Value) (K : Value → Value → Value → Value → Value → M Value) : R8_Names_r18 F x0 x2 x4 x9 K = R8_Names_R F 18 [(9, x9), (4, x4), (2, x2), (0, x0)] [0, 2, 4, 9, 112] K := by kernel_rfl

def R8_Names_b13 (F : Nat) (E13_8 : Value → Value → Value → M Value) (A13 : Value → Value → Value → Value → M Value) (x0 x2 x4 x9 : Value) : M Value :=
  R8_Names_r18 F x0 x2 x4 x9 (fun x0 x2 x4 x9 x112 => onB x112 (R8_Names_r20 F x0 x2 x4 x9 (fun x0 x2 x4 x9 x10 => R8_Names_l15 F (fun x0 x2 x4 x9 => R8_Names_k14 F A13 x0 x2 x4 x9) F x0 x2 x4 x9 x10)) (E13_8 x0 x2 x4))

def R8_Names_l13 (F : Nat) (E13_8 : Value → Value → Value → M Value) : Nat → Value → Value → Value → Value → M Value
  | 0, _, _, _, _ => fail
  | k13 + 1, x0, x2, x4, x9 => R8_Names_b13 F E13_8 (R8_Names_l13 F E13_8 k13) x0 x2 x4 x9

theorem R8_Names_l13_s (F : Nat) (E13_8 : Value → Value → Value → M Value) (k13 : Nat) (x0 x2 x4 x9 : Value) : R8_Names_l13 F E13_8 (k13 + 1) x0 x2 x4 x9 = R8_Names_b13 F E13_8 (R8_Names_l13 F E13_8 k13) x0 x2 x4 x9 := rfl

def R8_Names_r17 (F : Nat) (x0 x2 x4 : Value) (K : Value → Value → Value → Value → M Value) : M Value :=
  K x0 x2 x4 (.int .i64 (0))

theorem R8_Names_r17_ok (F : Nat) (x0 x2 x4 : Value) (K : Value → Value → Value → Value → M Value) : R8_Names_r17 F x0 x2 x4 K = R8_Names_R F 17 [(4, x4), (2, x2), (0, x0)] [0, 2, 4, 9] K := by kernel_rfl

def R8_Names_k16 (F : Nat) (x0 x2 x4 : Value) : M Value :=
  R8_Names_r17 F x0 x2 x4 (fun x0 x2 x4 x9 => R8_Names_l13 F (fun x0 x2 x4 => R8_Names_k12 F x0 x2 x4) F x0 x2 x4 x9)

def R8_Names_r11 (F : Nat) (x0 x2 x4 x7 : Value) (K : Value → Value → Value → Value → M Value) : M Value :=
  bnd (opBin .add x7 (.int .i64 (1))) fun v63 => K x0 x2 x4 v63

theorem R8_Names_r11_ok (F : Nat) (x0 x2 x4 x7 : Value) (K : Value → Value → Value → Value → M Value) : R8_Names_r11 F x0 x2 x4 x7 K = R8_Names_R F 11 [(7, x7), (4, x4), (2, x2), (0, x0)] [0, 2, 4, 7] K := by kernel_rfl

def R8_Names_k18 (F : Nat) (A17 : Value → Value → Value → Value → M Value) (x0 x2 x4 x7 : Value) : M Value :=
  R8_Names_r11 F x0 x2 x4 x7 (fun x0 x2 x4 x7 => A17 x0 x2 x4 x7)

def R8_Names_r16 (F : Nat) (x0 x2 x4 x7 : Value) (K : Value → Value → Value → Value → M Value) : M Value :=
  onB x4 (bnd (opNil x0) fun v97 => bnd (opFieldAddr 1 v97) fun v98 => bnd (opLoad v98) fun v99 => bnd (opIndexAddr 3 v99 x7) fun v101 => bnd (opFieldAddr 1 v101) fun v102 => bnd (opLoadN 2 v102) fun v103 => bnd (R8_named F x0 v103) fun v104 => K x0 x2 v104 x7) (K x0 x2 (.bool false) x7)

theorem R8_Names_r16_ok (F : Nat) (x0 x2 x4 x7 : Value) (K : Value → Value → Value → Value → M Value) : R8_Names_r16 F x0 x2 x4 x7 K = R8_Names_R F 16 [(7, x7), (4, x4), (2, x2), (0, x0)] [0, 2, 4, 7] K := by kernel_rfl

def R8_Names_k19 (F : Nat) (A17 : Value → Value → Value → Value → M Value) (x0 x2 x4 x7 : Value) : M Value :=
  R8_Names_r16 F x0 x2 x4 x7 (fun x0 x2 x4 x7 => R8_Names_k18 F A17 x0 x2 x4 x7)

def R8_Names_r14 (F : Nat) (x0 x2 x4 x7 x8 : Value) (K : Value → Value → Value → Value → Value → M Value) : M Value :=
  bnd (opBin .add x8 (.int .i64 (1))) fun v76 => K x0 x2 x4 x7 v76

theorem R8_Names_r14_ok (F : Nat) (x0 x2 x4 x7 x8 : Value) (K : Value → Value → Value → Value → Value → M Value) : R8_Names_r14 F x0 x2 x4 x7 x8 K = R8_Names_R F 14 [(8, x8), (7, x7), (4, x4), (2, x2), (0, x0)] [0, 2, 4, 7, 8] K := by kernel_rfl

def R8_Names_r15 (F : Nat) (x0 x2 x4 x7 x8 : Value) (K : Value → Value → Value → Value → Value → M Value) : M Value :=
  onB x4 (bnd (opNil x0) fun v81 => bnd (opFieldAddr 1 v81) fun v82 => bnd (opLoad v82) fun v83 => bnd (opIndexAddr 3 v83 x7) fun v85 => bnd (opFieldAddr 0 v85) fun v86 => bnd (opLoad v86) fun v87 => bnd (opIndexAddr 2 v87 x8) fun v89 => bnd (opLoadN 2 v89) fun v90 => bnd (R8_named F x0 v90) fun v91 => K x0 x2 v91 x7 x8) (K x0 x2 (.bool false) x7 x8)

theorem R8_Names_r15_ok (F : Nat) (x0 x2 x4 x7 x8 : Value) (K : Value → Value → Value → Value → Value → M Value) : R8_Names_r15 F x0 x2 x4 x7 x8 K = R8_Names_R F 15 [(8, x8), (7, x7), (4, x4), (2, x2), (0, x0)] [0, 2, 4, 7, 8] K := by kernel_rfl

def R8_Names_r13 (F : Nat) (x0 x2 x4 x7 x8 : Value) (K : Value → Value → Value → Value → Value → Value → M Value) : M Value :=
  bnd (opNil x0) fun v66 => bnd (opFieldAddr 1 v66) fun v67 => bnd (opLoad v67) fun v68 => bnd (opIndexAddr 3 v68 x7) fun v70 => bnd (opFieldAddr 0 v70) fun v71 => bnd (opLoad v71) fun v72 => bnd (opLen v72) fun v73 => bnd (opBin .lss x8 v73) fun v74 => K x0 x2 x4 x7 x8 v74

theorem R8_Names_r13_ok (F : Nat) (x0 x2 x4 x7 x8 : Value) (K : Value → Value → Value → Value → Value → Value → M Value) : R8_Names_r13 F x0 x2 x4 x7 x8 K = R8_Names_R F 13 [(8, x8), (7, x7), (4, x4), (2, x2), (0, x0)] [0, 2, 4, 7, 8, 74] K := by kernel_rfl

def R8_Names_b20 (F : Nat) (E20_6 : Value → Value → Value → Value → M Value) (A20 : Value → Value → Value → Value → Value → M Value) (x0 x2 x4 x7 x8 : Value) : M Value :=
  R8_Names_r13 F x0 x2 x4 x7 x8 (fun x0 x2 x4 x7 x8 x74 => onB x74 (R8_Names_r15 F x0 x2 x4 x7 x8 (fun x0 x2 x4 x7 x8 => R8_Names_r14 F x0 x2 x4 x7 x8 (fun x0 x2 x4 x7 x8 => A20 x0 x2 x4 x7 x8))) (E20_6 x0 x2 x4 x7))

def R8_Names_l20 (F : Nat) (E20_6 : Value → Value → Value → Value → M Value) : Nat → Value → Value → Value → Value → Value → M Value
  | 0, _, _, _, _, _ => fail
  | k20 + 1, x0, x2, x4, x7, x8 => R8_Names_b20 F E20_6 (R8_Names_l20 F E20_6 k20) x0 x2 x4 x7 x8

theorem R8_Names_l20_s (F : Nat) (E20_6 : Value → Value → Value → Value → M Value) (k20 : Nat) (x0 x2 x4 x7 x8 : Value) : R8_Names_l20 F E20_6 (k20 + 1) x0 x2 x4 x7 x8 = R8_Names_b20 F E20_6 (R8_Names_l20 F E20_6 k20) x0 x2 x4 x7 x8 := rfl

def R8_Names_r12 (F : Nat) (x0 x2 x4 x7 : Value) (K : Value → Value → Value → Value → Value → M Value) : M Value :=
  K x0 x2 x4 x7 (.int .i64 (0))

theorem R8_Names_r12_ok (F : Nat) (x0 x2 x4 x7 : Value) (K : Value → Value → Value → Value → Value → M Value) : R8_Names_r12 F x0 x2 x4 x7 K = R8_Names_R F 12 [(7, x7), (4, x4), (2, x2), (0, x0)] [0, 2, 4, 7, 8] K := by kernel_rfl

def R8_Names_r10 (F : Nat) (x0 x2 x4 x7 : Value) (K : Value → Value → Value → Value → Value → M Value) : M Value :=
  bnd (opNil x0) fun v57 => bnd (opFieldAddr 1 v57) fun v58 => bnd (opLoad v58) fun v59 => bnd (opLen v59) fun v60 => bnd (opBin .lss x7 v60) fun v61 => K x0 x2 x4 x7 v61

theorem R8_Names_r10_ok (F : Nat) (x0 x2 x4 x7 : Value) (K : Value → Value → Value → Value → Value → M Value) : R8_Names_r10 F x0 x2 x4 x7 K = R8_Names_R F 10 [(7, x7), (4, x4), (2, x2), (0, x0)] [0, 2, 4, 7, 61] K := by kernel_rfl

def R8_Names_b17 (F : Nat) (E17_4 : Value → Value → Value → M Value) (A17 : Value → Value → Value → Value → M Value) (x0 x2 x4 x7 : Value) : M Value :=
  R8_Names_r10 F x0 x2 x4 x7 (fun x0 x2 x4 x7 x61 => onB x61 (R8_Names_r12 F x0 x2 x4 x7 (fun x0 x2 x4 x7 x8 => R8_Names_l20 F (fun x0 x2 x4 x7 => R8_Names_k19 F A17 x0 x2 x4 x7) F x0 x2 x4 x7 x8)) (E17_4 x0 x2 x4))

def R8_Names_l17 (F : Nat) (E17_4 : Value → Value → Value → M Value) : Nat → Value → Value → Value → Value → M Value
  | 0, _, _, _, _ => fail
  | k17 + 1, x0, x2, x4, x7 => R8_Names_b17 F E17_4 (R8_Names_l17 F E17_4 k17) x0 x2 x4 x7

theorem R8_Names_l17_s (F : Nat) (E17_4 : Value → Value → Value → M Value) (k17 : Nat) (x0 x2 x4 x7 : Value) : R8_Names_l17 F E17_4 (k17 + 1) x0 x2 x4 x7 = R8_Names_b17 F E17_4 (R8_Names_l17 F E17_4 k17) x0 x2 x4 x7 := rfl

def R8_Names_r9 (F : Nat) (x0 x2 x4 : Value) (K : Value → Value → Value → Value → M Value) : M Value :=
  K x0 x2 x4 (.int .i64 (0))

theorem R8_Names_r9_ok (F : Nat) (x0 x2 x4 : Value) (K : Value → Value → Value → Value → M Value) : R8_Names_r9 F x0 x2 x4 K = R8_Names_R F 9 [(4, x4), (2, x2), (0, x0)] [0, 2, 4, 7] K := by kernel_rfl

def R8_Names_k21 (F : Nat) (x0 x2 x4 : Value) : M Value :=
  R8_Names_r9 F x0 x2 x4 (fun x0 x2 x4 x7 => R8_Names_l17 F (fun x0 x2 x4 => R8_Names_k16 F x0 x2 x4) F x0 x2 x4 x7)

def R8_Names_r4 (F : Nat) (x0 x2 x4 x5 : Value) (K : Value → Value → Value → Value → M Value) : M Value :=
  bnd (opBin .add x5 (.int .i64 (1))) fun v27 => K x0 x2 x4 v27

theorem R8_Names_r4_ok (F : Nat) (x0 x2 x4 x5 : Value) (K : Value → Value → Value → Value → M Value) : R8_Names_r4 F x0 x2 x4 x5 K = R8_Names_R F 4 [(5, x5), (4, x4), (2, x2), (0, x0)] [0, 2, 4, 5] K := by kernel_rfl

def R8_Names_k23 (F : Nat) (A22 : Value → Value → Value → Value → M Value) (x0 x2 x4 x5 : Value) : M Value :=
  R8_Names_r4 F x0 x2 x4 x5 (fun x0 x2 x4 x5 => A22 x0 x2 x4 x5)

def R8_Names_r7 (F : Nat) (x0 x2 x4 x5 x6 : Value) (K : Value → Value → Value → Value → Value → M Value) : M Value :=
  bnd (opBin .add x6 (.int .i64 (1))) fun v39 => K x0 x2 x4 x5 v39

theorem R8_Names_r7_ok (F : Nat) (x0 x2 x4 x5 x6 : Value) (K : Value → Value → Value → Value → Value → M Value) : R8_Names_r7 F x0 x2 x4 x5 x6 K = R8_Names_R F 7 [(6, x6), (5, x5), (4, x4), (2, x2), (0, x0)] [0, 2, 4, 5, 6] K := by kernel_rfl

def R8_Names_r8 (F : Nat) (x0 x2 x4 x5 x6 : Value) (K : Value → Value → Value → Value → Value → M Value) : M Value :=
  onB x4 (bnd (opNil x0) fun v44 => bnd (opFieldAddr 0 v44) fun v45 => bnd (opLoad v45) fun v46 => bnd (opIndexAddr 1 v46 x5) fun v48 => bnd (opLoad v48) fun v49 => bnd (opIndexAddr 2 v49 x6) fun v51 => bnd (opLoadN 2 v51) fun v52 => bnd (R8_named F x0 v52) fun v53 => K x0 x2 v53 x5 x6) (K x0 x2 (.bool false) x5 x6)

theorem R8_Names_r8_ok (F : Nat) (x0 x2 x4 x5 x6 : Value) (K : Value → Value → Value → Value → Value → M Value) : R8_Names_r8 F x0 x2 x4 x5 x6 K = R8_Names_R F 8 [(6, x6), (5, x5), (4, x4), (2, x2), (0, x0)] [0, 2, 4, 5, 6] K := by kernel_rfl

def R8_Names_r6 (F : Nat) (x0 x2 x4 x5 x6 : Value) (K : Value → Value → Value → Value → Value → Value → M Value) : M Value :=
  bnd (opNil x0) fun v30 => bnd (opFieldAddr 0 v30) fun v31 => bnd (opLoad v31) fun v32 => bnd (opIndexAddr 1 v32 x5) fun v34 => bnd (opLoad v34) fun v35 => bnd (opLen v35) fun v36 => bnd (opBin .lss x6 v36) fun v37 => K x0 x2 x4 x5 x6 v37

theorem R8_Names_r6_ok (F : Nat) (x0 x2 x4 x5 x6 : Value) (K : Value → Value → Value → Value → Value → Value → M Value) : R8_Names_r6 F x0 x2 x4 x5 x6 K = R8_Names_R F 6 [(6, x6), (5, x5), (4, x4), (2, x2), (0, x0)] [0, 2, 4, 5, 6, 37] K := by kernel_rfl

def R8_Names_b24 (F : Nat) (E24_2 : Value → Value → Value → Value → M Value) (A24 : Value → Value → Value → Value → Value → M Value) (x0 x2 x4 x5 x6 : Value) : M Value :=
  R8_Names_r6 F x0 x2 x4 x5 x6 (fun x0 x2 x4 x5 x6 x37 => onB x37 (R8_Names_r8 F x0 x2 x4 x5 x6 (fun x0 x2 x4 x5 x6 => R8_Names_r7 F x0 x2 x4 x5 x6 (fun x0 x2 x4 x5 x6 => A24 x0 x2 x4 x5 x6))) (E24_2 x0 x2 x4 x5))

def R8_Names_l24 (F : Nat) (E24_2 : Value → Value → Value → Value → M Value) : Nat → Value → Value → Value → Value → Value → M Value
  | 0, _, _, _, _, _ => fail
  | k24 + 1, x0, x2, x4, x5, x6 => R8_Names_b24 F E24_2 (R8_Names_l24 F E24_2 k24) x0 x2 x4 x5 x6

theorem R8_Names_l24_s (F : Nat) (E24_2 : Value → Value → Value → Value → M Value) (k24 : Nat) (x0 x2 x4 x5 x6 : Value) : R8_Names_l24 F E24_2 (k24 + 1) x0 x2 x4 x5 x6 = R8_Names_b24 F E24_2 (R8_Names_l24 F E24_2 k24) x0 x2 x4 x5 x6 := rfl

def R8_Names_r5 (F : Nat) (x0 x2 x4 x5 : Value) (K : Value → Value → Value → Value → Value → M Value) : M Value :=
  K x0 x2 x4 x5 (.int .i64 (0))

theorem R8_Names_r5_ok (F : Nat) (x0 x2 x4 x5 : Value) (K : Value → Value → Value → Value → Value → M Value) : R8_Names_r5 F x0 x2 x4 x5 K = R8_Names_R F 5 [(5, x5), (4, x4), (2, x2), (0, x0)] [0, 2, 4, 5, 6] K := by kernel_rfl

def R8_Names_r3 (F : Nat) (x0 x2 x4 x5 : Value) (K : Value → Value → Value → Value → Value → M Value) : M Value :=
  bnd (opNil x0) fun v21 => bnd (opFieldAddr 0 v21) fun v22 => bnd (opLoad v22) fun v23 => bnd (opLen v23) fun v24 => bnd (opBin .lss x5 v24) fun v25 => K x0 x2 x4 x5 v25

theorem R8_Names_r3_ok (F : Nat) (x0 x2 x4 x5 : Value) (K : Value → Value → Value → Value → Value → M Value) : R8_Names_r3 F x0 x2 x4 x5 K = R8_Names_R F 3 [(5, x5), (4, x4), (2, x2), (0, x0)] [0, 2, 4, 5, 25] K := by kernel_rfl

def R8_Names_b22 (F : Nat) (E22_0 : Value → Value → Value → M Value) (A22 : Value → Value → Value → Value → M Value) (x0 x2 x4 x5 : Value) : M Value :=
  R8_Names_r3 F x0 x2 x4 x5 (fun x0 x2 x4 x5 x25 => onB x25 (R8_Names_r5 F x0 x2 x4 x5 (fun x0 x2 x4 x5 x6 => R8_Names_l24 F (fun x0 x2 x4 x5 => R8_Names_k23 F A22 x0 x2 x4 x5) F x0 x2 x4 x5 x6)) (E22_0 x0 x2 x4))

def R8_Names_l22 (F : Nat) (E22_0 : Value → Value → Value → M Value) : Nat → Value → Value → Value → Value → M Value
  | 0, _, _, _, _ => fail
  | k22 + 1, x0, x2, x4, x5 => R8_Names_b22 F E22_0 (R8_Names_l22 F E22_0 k22) x0 x2 x4 x5

theorem R8_Names_l22_s (F : Nat) (E22_0 : Value → Value → Value → M Value) (k22 : Nat) (x0 x2 x4 x5 : Value) : R8_Names_l22 F E22_0 (k22 + 1) x0 x2 x4 x5 = R8_Names_b22 F E22_0 (R8_Names_l22 F E22_0 k22) x0 x2 x4 x5 := rfl

def R8_Names_r2 (F : Nat) (x0 x2 x4 : Value) (K : Value → Value → Value → Value → M Value) : M Value :=
  K x0 x2 x4 (.int .i64 (0))

theorem R8_Names_r2_ok (F : Nat) (x0 x2 x4 : Value) (K : Value → Value → Value → Value → M Value) : R8_Names_r2 F x0 x2 x4 K = R8_Names_R F 2 [(4, x4), (2, x2), (0, x0)] [0, 2, 4, 5] K := by kernel_rfl

def R8_Names_r1 (F : Nat) (x0 x2 : Value) (K : Value → Value → Value → M Value) : M Value :=
  K x0 x2 (.bool true)

theorem R8_Names_r1_ok (F : Nat) (x0 x2 : Value) (K : Value → Value → Value → M Value) : R8_Names_r1 F x0 x2 K = R8_Names_R F 1 [(2, x2), (0, x0)] [0, 2, 4] K := by kernel_rfl

def R8_Names_r0 (F : Nat) (x0 : Value) (K : Value → Value → M Value) : M Value :=
  bnd (opPtr [(.int .i64 (0)), (.int .i64 (0)), (.int .i64 (0))]) fun v2 => K x0 v2

theorem R8_Names_r0_ok (F : Nat) (x0 : Value) (K : Value → Value → M Value) : R8_Names_r0 F x0 K = R8_Names_R F 0 [(0, x0)] [0, 2] K := by kernel_rfl

def R8_Names (F : Nat) (x0 : Value) : M Value :=
  R8_Names_r0 F x0 (fun x0 x2 => R8_Names_r1 F x0 x2 (fun x0 x2 x4 => R8_Names_r2 F x0 x2 x4 (fun x0 x2 x4 x5 => R8_Names_l22 F (fun x0 x2 x4 => R8_Names_k21 F x0 x2 x4) F x0 x2 x4 x5)))

def R8_Names_m (F : Nat) : List Value → M Value
  | [x0] => R8_Names F x0
  | _ => fail

theorem R8_Names_body : Try.f39.body = some (.seq (.region 0 (opsOf Try.f39 0) false) (.seq (.region 1 (opsOf Try.f39 1) false) (.seq (.seq (.region 2 (opsOf Try.f39 2) false) (.block 0 (.loop (.seq (.seq (.region 3 (opsOf Try.f39 3) false) (.cond (.tmp 25) .skip (.exit 0))) (.seq (.block 1 (.seq (.region 5 (opsOf Try.f39 5) false) (.block 2 (.loop (.seq (.seq (.region 6 (opsOf Try.f39 6) false) (.cond (.tmp 37) .skip (.exit 2))) (.seq (.block 3 (.region 8 (opsOf Try.f39 8) false)) (.region 7 (opsOf Try.f39 7) false))))))) (.region 4 (opsOf Try.f39 4) false)))))) (.seq (.seq (.region 9 (opsOf Try.f39 9) false) (.block 4 (.loop (.seq (.seq (.region 10 (opsOf Try.f39 10) false) (.cond (.tmp 61) .skip (.exit 4))) (.seq (.block 5 (.seq (.seq (.region 12 (opsOf Try.f39 12) false) (.block 6 (.loop (.seq (.seq (.region 13 (opsOf Try.f39 13) false) (.cond (.tmp 74) .skip (.exit 6))) (.seq (.block 7 (.region 15 (opsOf Try.f39 15) false)) (.region 14 (opsOf Try.f39 14) false)))))) (.region 16 (opsOf Try.f39 16) false))) (.region 11 (opsOf Try.f39 11) false)))))) (.seq (.seq (.region 17 (opsOf Try.f39 17) false) (.block 8 (.loop (.seq (.seq (.region 18 (opsOf Try.f39 18) false) (.cond (.tmp 112) .skip (.exit 8))) (.seq (.block 9 (.seq (.region 20 (opsOf Try.f39 20) false) (.block 10 (.loop (.seq (.seq (.region 21 (opsOf Try.f39 21) false) (.cond (.tmp 125) .skip (.exit 10))) (.seq (.block 11 (.region 23 (opsOf Try.f39 23) true)) (.region 22 (opsOf Try.f39 22) false))))))) (.region 19 (opsOf Try.f39 19) false)))))) (.seq (.seq (.region 24 (opsOf Try.f39 24) false) (.block 12 (.loop (.seq (.seq (.region 25 (opsOf Try.f39 25) false) (.cond (.tmp 154) .skip (.exit 12))) (.seq (.block 13 (.seq (.region 27 (opsOf Try.f39 27) false) (.seq (.region 28 (opsOf Try.f39 28) true) (.seq (.region 29 (opsOf Try.f39 29) false) (.block 14 (.loop (.seq (.seq (.region 30 (opsOf Try.f39 30) false) (.cond (.tmp 189) .skip (.exit 14))) (.seq (.block 15 (.region 32 (opsOf Try.f39 32) true)) (.region 31 (opsOf Try.f39 31) false))))))))) (.region 26 (opsOf Try.f39 26) false)))))) (.seq (.seq (.region 33 (opsOf Try.f39 33) false) (.cond (.tmp 207) (.seq (.region 34 (opsOf Try.f39 34) false) .ret) .skip)) (.seq (.seq (.region 35 (opsOf Try.f39 35) false) (.block 16 (.loop (.seq (.seq (.region 36 (opsOf Try.f39 36) false) (.cond (.tmp 215) .skip (.exit 16))) (.seq (.block 17 (.seq (.region 38 (opsOf Try.f39 38) false) (.seq (.region 39 (opsOf Try.f39 39) true) (.seq (.seq (.region 40 (opsOf Try.f39 40) false) (.block 18 (.loop (.seq (.seq (.region 41 (opsOf Try.f39 41) false) (.cond (.tmp 237) .skip (.exit 18))) (.seq (.block 19 (.region 43 (opsOf Try.f39 43) false)) (.region 42 (opsOf Try.f39 42) false)))))) (.seq (.seq (.region 44 (opsOf Try.f39 44) false) (.cond (.tmp 251) (.seq (.region 45 (opsOf Try.f39 45) false) .ret) .skip)) (.seq (.region 46 (opsOf Try.f39 46) false) (.block 20 (.loop (.seq (.seq (.region 47 (opsOf Try.f39 47) false) (.cond (.tmp 257) .skip (.exit 20))) (.seq (.block 21 (.seq (.region 49 (opsOf Try.f39 49) false) (.block 22 (.loop (.seq (.seq (.region 50 (opsOf Try.f39 50) false) (.cond (.tmp 268) .skip (.exit 22))) (.seq (.block 23 (.seq (.region 52 (opsOf Try.f39 52) true) (.cond (.tmp 315) (.seq (.region 53 (opsOf Try.f39 53) false) .ret) .skip))) (.region 51 (opsOf Try.f39 51) false))))))) (.region 48 (opsOf Try.f39 48) false))))))))))) (.region 37 (opsOf Try.f39 37) false)))))) (.seq (.region 54 (opsOf Try.f39 54) true) .ret))))))))) := by kernel_rfl

theorem R8_Names_ok (F : Nat) : Sim Try.prog TryG 39 (R8_Names_m F) := by
 have hE : EnvOK Try.prog TryG (R8_Names_env F) := (EnvOK.cons (R8_Nowhere_ok F) (EnvOK.cons (R8_named_ok F) (EnvOK.cons (R8_in_ok F) (EnvOK.cons (R8_instr_ok F) (EnvOK.cons (R8_ending_ok F) EnvOK.nil)))))
 refine Sim.of_body (E := R8_Names_env F) Try.func39 R8_Names_body Try.call39 ?_ ?_
 · intro args hl; unfold R8_Names_m; split
   · exact absurd hl (Nat.not_lt.2 (Nat.le_of_ble_eq_true rfl))
   · rfl
 · intro args ρ h w z; unfold R8_Names_m; split
   · rename_i x0; show OKc _ _ [(0, x0)] _ _
     refine rSeq ?_
     refine cLess [0] ?_
     refine xR hE [0, 2] rfl (R8_Names_r0_ok F _ _) ?_
     intro x0 x2
     show OKq _ _ _ [(2, x2), (0, x0)] _
     refine rThen ?_
     refine rSeq ?_
     refine cLess [2, 0] ?_
     refine xR hE [0, 2, 4] rfl (R8_Names_r1_ok F _ _ _) ?_
     intro x0 x2 x4
     show OKq _ _ _ [(4, x4), (2, x2), (0, x0)] _
     refine rThen ?_
     refine xSeq [0, 2, 4] (R8_Names_k21 F ) ?_ fun hj21 => ?_
     · intro x0 x2 x4
       show OKc _ _ [(4, x4), (2, x2), (0, x0)] _ _
       refine xSeq [0, 2, 4] (R8_Names_k16 F ) ?_ fun hj16 => ?_
       · intro x0 x2 x4
         show OKc _ _ [(4, x4), (2, x2), (0, x0)] _ _
         refine xSeq [0, 2, 4] (R8_Names_k12 F ) ?_ fun hj12 => ?_
         · intro x0 x2 x4
           show OKc _ _ [(4, x4), (2, x2), (0, x0)] _ _
           refine xSeq [0, 2, 4] (R8_Names_k8 F ) ?_ fun hj8 => ?_
           · intro x0 x2 x4
             show OKc _ _ [(4, x4), (2, x2), (0, x0)] _ _
             refine rSeq ?_
             refine rSeq ?_
             refine cLess [4, 2, 0] ?_
             refine xR hE [0, 2, 207] rfl (R8_Names_r33_ok F _ _ _ _) ?_
             intro x0 x2 x207
             show OKq _ _ _ [(207, x207), (2, x2), (0, x0)] _
             refine rThen ?_
             refine xCond rfl rfl ?_ ?_
             · refine rSeq ?_
               refine cLess [2] ?_
               refine xR hE [2, 3] rfl (R8_Names_r34_ok F _ _) ?_
               intro x2 x3
               show OKq _ _ _ [(3, x3), (2, x2)] _
               refine rThen ?_
               refine rRet ?_
               refine xThenR ?_
               exact rDone (.inr rfl) rfl
             · refine rSkip ?_
               refine rThen ?_
               refine xSeq [0, 2] (R8_Names_k0 F ) ?_ fun hj0 => ?_
               · intro x0 x2
                 show OKc _ _ [(2, x2), (0, x0)] _ _
                 refine rSeq ?_
                 refine cLess [2, 0] ?_
                 refine xD Trymix hE [2, 3] rfl R8_Names_r54_good (R8_Names_r54_ok F _ _ _) ?_
                 intro x2 x3
                 show OKq _ _ _ [(3, x3), (2, x2)] _
                 refine rThen ?_
                 refine rRet ?_
                 exact rDone (.inr rfl) rfl
               · refine rSeq ?_
                 refine cLess [2, 0] ?_
                 refine xR hE [0, 2, 14] rfl (R8_Names_r35_ok F _ _ _) ?_
                 intro x0 x2 x14
                 show OKq _ _ _ [(14, x14), (2, x2), (0, x0)] _
                 refine rThen ?_
                 refine rBlock ?_
                 refine cLess [14, 2, 0] ?_
                 refine xLoopAt [0, 2, 14] [] (fun k1 => R8_Names_l1 F (fun x0 x2 => R8_Names_k0 F x0 x2) k1) F [x0, x2, x14] rfl rfl (fun _ _ _ => rfl) fun I hI1 k1 => ?_
                 intro x0 x2 x14
                 show OKc _ _ [(14, x14), (2, x2), (0, x0)] _ _
                 refine cAs (R8_Names_l1_s F _ _ _ _ _) ?_
                 refine rSeq ?_
                 refine rSeq ?_
                 refine cLess [14, 2, 0] ?_
                 refine xR hE [0, 2, 14, 215] rfl (R8_Names_r36_ok F _ _ _ _) ?_
                 intro x0 x2 x14 x215
                 show OKq _ _ _ [(215, x215), (14, x14), (2, x2), (0, x0)] _
                 refine rThen ?_
                 refine xCond rfl rfl ?_ ?_
                 · refine rSkip ?_
                   refine rThen ?_
                   refine xSeq [0, 2, 14] (R8_Names_k2 F (R8_Names_l1 F (fun x0 x2 => R8_Names_k0 F x0 x2) k1) ) ?_ fun hj2 => ?_
                   · intro x0 x2 x14
                     show OKc _ _ [(14, x14), (2, x2), (0, x0)] _ _
                     refine cLess [14, 2, 0] ?_
                     refine xR hE [0, 2, 14] rfl (R8_Names_r37_ok F _ _ _ _) ?_
                     intro x0 x2 x14
                     show OKq _ _ _ [(14, x14), (2, x2), (0, x0)] _
                     exact qLess [14, 2, 0] (hI1 k1 x0 x2 x14)
                   · refine rBlock ?_
                     refine rSeq ?_
                     refine cLess [14, 2, 0] ?_
                     refine xR hE [0, 2, 14, 15] rfl (R8_Names_r38_ok F _ _ _ _) ?_
                     intro x0 x2 x14 x15
                     show OKq _ _ _ [(15, x15), (14, x14), (2, x2), (0, x0)] _
                     refine rThen ?_
                     refine rSeq ?_
                     refine cLess [15, 14, 2, 0] ?_
                     refine xD Trymix hE [0, 2, 4, 14, 15] rfl R8_Names_r39_good (R8_Names_r39_ok F _ _ _ _ _) ?_
                     intro x0 x2 x4 x14 x15
                     show OKq _ _ _ [(15, x15), (14, x14), (4, x4), (2, x2), (0, x0)] _
                     refine rThen ?_
                     refine xSeq [0, 2, 4, 14, 15] (R8_Names_k6 F (R8_Names_l1 F (fun x0 x2 => R8_Names_k0 F x0 x2) k1) ) ?_ fun hj6 => ?_
                     · intro x0 x2 x4 x14 x15
                       show OKc _ _ [(15, x15), (14, x14), (4, x4), (2, x2), (0, x0)] _ _
                       refine rSeq ?_
                       refine rSeq ?_
                       refine cLess [15, 14, 4, 2, 0] ?_
                       refine xR hE [0, 2, 14, 15, 251] rfl (R8_Names_r44_ok F _ _ _ _ _ _) ?_
                       intro x0 x2 x14 x15 x251
                       show OKq _ _ _ [(251, x251), (15, x15), (14, x14), (2, x2), (0, x0)] _
                       refine rThen ?_
                       refine xCond rfl rfl ?_ ?_
                       · refine rSeq ?_
                         refine cLess [2] ?_
                         refine xR hE [2, 3] rfl (R8_Names_r45_ok F _ _) ?_
                         intro x2 x3
                         show OKq _ _ _ [(3, x3), (2, x2)] _
                         refine rThen ?_
                         refine rRet ?_
                         refine xThenR ?_
                         refine xBlockR ?_
                         refine xThenR ?_
                         refine xThenR ?_
                         refine xBlockR ?_
                         refine xThenR ?_
                         exact rDone (.inr rfl) rfl
                       · refine rSkip ?_
                         refine rThen ?_
                         refine rSeq ?_
                         refine cLess [15, 14, 2, 0] ?_
                         refine xR hE [0, 2, 14, 15, 17] rfl (R8_Names_r46_ok F _ _ _ _ _) ?_
                         intro x0 x2 x14 x15 x17
                         show OKq _ _ _ [(17, x17), (15, x15), (14, x14), (2, x2), (0, x0)] _
                         refine rThen ?_
                         refine rBlock ?_
                         refine cLess [17, 15, 14, 2, 0] ?_
                         refine xLoopAt [0, 2, 14, 15, 17] [] (fun k3 => R8_Names_l3 F (fun x0 x2 x14 => R8_Names_k2 F (R8_Names_l1 F (fun x0 x2 => R8_Names_k0 F x0 x2) k1) x0 x2 x14) k3) F [x0, x2, x14, x15, x17] rfl rfl (fun _ _ _ _ _ => rfl) fun I hI3 k3 => ?_
                         intro x0 x2 x14 x15 x17
                         show OKc _ _ [(17, x17), (15, x15), (14, x14), (2, x2), (0, x0)] _ _
                         refine cAs (R8_Names_l3_s F _ _ _ _ _ _ _) ?_
                         refine rSeq ?_
                         refine rSeq ?_
                         refine cLess [17, 15, 14, 2, 0] ?_
                         refine xR hE [0, 2, 14, 15, 17, 257] rfl (R8_Names_r47_ok F _ _ _ _ _ _) ?_
                         intro x0 x2 x14 x15 x17 x257
                         show OKq _ _ _ [(257, x257), (17, x17), (15, x15), (14, x14), (2, x2), (0, x0)] _
                         refine rThen ?_
                         refine xCond rfl rfl ?_ ?_
                         · refine rSkip ?_
                           refine rThen ?_
                           refine xSeq [0, 2, 14, 15, 17] (R8_Names_k4 F (R8_Names_l3 F (fun x0 x2 x14 => R8_Names_k2 F (R8_Names_l1 F (fun x0 x2 => R8_Names_k0 F x0 x2) k1) x0 x2 x14) k3) ) ?_ fun hj4 => ?_
                           · intro x0 x2 x14 x15 x17
                             show OKc _ _ [(17, x17), (15, x15), (14, x14), (2, x2), (0, x0)] _ _
                             refine cLess [17, 15, 14, 2, 0] ?_
                             refine xR hE [0, 2, 14, 15, 17] rfl (R8_Names_r48_ok F _ _ _ _ _ _) ?_
                             intro x0 x2 x14 x15 x17
                             show OKq _ _ _ [(17, x17), (15, x15), (14, x14), (2, x2), (0, x0)] _
                             exact qLess [17, 15, 14, 2, 0] (hI3 k3 x0 x2 x14 x15 x17)
                           · refine rBlock ?_
                             refine rSeq ?_
                             refine cLess [17, 15, 14, 2, 0] ?_
                             refine xR hE [0, 2, 14, 15, 17, 18] rfl (R8_Names_r49_ok F _ _ _ _ _ _) ?_
                             intro x0 x2 x14 x15 x17 x18
                             show OKq _ _ _ [(18, x18), (17, x17), (15, x15), (14, x14), (2, x2), (0, x0)] _
                             refine rThen ?_
                             refine rBlock ?_
                             refine cLess [18, 17, 15, 14, 2, 0] ?_
                             refine xLoopAt [0, 2, 14, 15, 17, 18] [] (fun k5 => R8_Names_l5 F (fun x0 x2 x14 x15 x17 => R8_Names_k4 F (R8_Names_l3 F (fun x0 x2 x14 => R8_Names_k2 F (R8_Names_l1 F (fun x0 x2 => R8_Names_k0 F x0 x2) k1) x0 x2 x14) k3) x0 x2 x14 x15 x17) k5) F [x0, x2, x14, x15, x17, x18] rfl rfl (fun _ _ _ _ _ _ => rfl) fun I hI5 k5 => ?_
                             intro x0 x2 x14 x15 x17 x18
                             show OKc _ _ [(18, x18), (17, x17), (15, x15), (14, x14), (2, x2), (0, x0)] _ _
                             refine cAs (R8_Names_l5_s F _ _ _ _ _ _ _ _) ?_
                             refine rSeq ?_
                             refine rSeq ?_
                             refine cLess [18, 17, 15, 14, 2, 0] ?_
                             refine xR hE [0, 2, 14, 15, 17, 18, 268] rfl (R8_Names_r50_ok F _ _ _ _ _ _ _) ?_
                             intro x0 x2 x14 x15 x17 x18 x268
                             show OKq _ _ _ [(268, x268), (18, x18), (17, x17), (15, x15), (14, x14), (2, x2), (0, x0)] _
                             refine rThen ?_
                             refine xCond rfl rfl ?_ ?_
                             · refine rSkip ?_
                               refine rThen ?_
                               refine rSeq ?_
                               refine rBlock ?_
                               refine rSeq ?_
                               refine cLess [18, 17, 15, 14, 2, 0] ?_
                               refine xD Trymix hE [0, 2, 14, 15, 17, 18, 315] rfl R8_Names_r52_good (R8_Names_r52_ok F _ _ _ _ _ _ _) ?_
                               intro x0 x2 x14 x15 x17 x18 x315
                               show OKq _ _ _ [(315, x315), (18, x18), (17, x17), (15, x15), (14, x14), (2, x2), (0, x0)] _
                               refine rThen ?_
                               refine xCond rfl rfl ?_ ?_
                               · refine rSeq ?_
                                 refine cLess [18, 17, 14, 2] ?_
                                 refine xR hE [2, 3] rfl (R8_Names_r53_ok F _ _ _ _ _) ?_
                                 intro x2 x3
                                 show OKq _ _ _ [(3, x3), (2, x2)] _
                                 refine rThen ?_
                                 refine rRet ?_
                                 refine xBlockR ?_
                                 refine xThenR ?_
                                 refine xThenR ?_
                                 refine xBlockR ?_
                                 refine xBlockR ?_
                                 refine xThenR ?_
                                 refine xThenR ?_
                                 refine xBlockR ?_
                                 refine xBlockR ?_
                                 refine xThenR ?_
                                 refine xThenR ?_
                                 refine xBlockR ?_
                                 refine xThenR ?_
                                 exact rDone (.inr rfl) rfl
                               · refine rSkip ?_
                                 refine xBlockN ?_
                                 refine rThen ?_
                                 refine cLess [18, 17, 15, 14, 2, 0] ?_
                                 refine xR hE [0, 2, 14, 15, 17, 18] rfl (R8_Names_r51_ok F _ _ _ _ _ _ _) ?_
                                 intro x0 x2 x14 x15 x17 x18
                                 show OKq _ _ _ [(18, x18), (17, x17), (15, x15), (14, x14), (2, x2), (0, x0)] _
                                 exact qLess [18, 17, 15, 14, 2, 0] (hI5 k5 x0 x2 x14 x15 x17 x18)
                             · refine rExit ?_
                               refine xThenX ?_
                               refine xThenX ?_
                               refine rOut ?_
                               refine xBlockN ?_
                               exact qLess [17, 15, 14, 2, 0] (hj4 x0 x2 x14 x15 x17)
                         · refine rExit ?_
                           refine xThenX ?_
                           refine xThenX ?_
                           refine rOut ?_
                           refine xBlockN ?_
                           exact qLess [14, 2, 0] (hj2 x0 x2 x14)
                     · refine rSeq ?_
                       refine cLess [15, 14, 4, 2, 0] ?_
                       refine xR hE [0, 2, 4, 14, 15, 16] rfl (R8_Names_r40_ok F _ _ _ _ _ _) ?_
                       intro x0 x2 x4 x14 x15 x16
                       show OKq _ _ _ [(16, x16), (15, x15), (14, x14), (4, x4), (2, x2), (0, x0)] _
                       refine rThen ?_
                       refine rBlock ?_
                       refine cLess [16, 15, 14, 4, 2, 0] ?_
                       refine xLoopAt [0, 2, 4, 14, 15, 16] [] (fun k7 => R8_Names_l7 F (fun x0 x2 x4 x14 x15 => R8_Names_k6 F (R8_Names_l1 F (fun x0 x2 => R8_Names_k0 F x0 x2) k1) x0 x2 x4 x14 x15) k7) F [x0, x2, x4, x14, x15, x16] rfl rfl (fun _ _ _ _ _ _ => rfl) fun I hI7 k7 => ?_
                       intro x0 x2 x4 x14 x15 x16
                       show OKc _ _ [(16, x16), (15, x15), (14, x14), (4, x4), (2, x2), (0, x0)] _ _
                       refine cAs (R8_Names_l7_s F _ _ _ _ _ _ _ _) ?_
                       refine rSeq ?_
                       refine rSeq ?_
                       refine cLess [16, 15, 14, 4, 2, 0] ?_
                       refine xR hE [0, 2, 4, 14, 15, 16, 237] rfl (R8_Names_r41_ok F _ _ _ _ _ _ _) ?_
                       intro x0 x2 x4 x14 x15 x16 x237
                       show OKq _ _ _ [(237, x237), (16, x16), (15, x15), (14, x14), (4, x4), (2, x2), (0, x0)] _
                       refine rThen ?_
                       refine xCond rfl rfl ?_ ?_
                       · refine rSkip ?_
                         refine rThen ?_
                         refine rSeq ?_
                         refine rBlock ?_
                         refine cLess [16, 15, 14, 4, 2, 0] ?_
                         refine xR hE [0, 2, 4, 14, 15, 16] rfl (R8_Names_r43_ok F _ _ _ _ _ _ _) ?_
                         intro x0 x2 x4 x14 x15 x16
                         show OKq _ _ _ [(16, x16), (15, x15), (14, x14), (4, x4), (2, x2), (0, x0)] _
                         refine xBlockN ?_
                         refine rThen ?_
                         refine cLess [16, 15, 14, 4, 2, 0] ?_
                         refine xR hE [0, 2, 4, 14, 15, 16] rfl (R8_Names_r42_ok F _ _ _ _ _ _ _) ?_
                         intro x0 x2 x4 x14 x15 x16
                         show OKq _ _ _ [(16, x16), (15, x15), (14, x14), (4, x4), (2, x2), (0, x0)] _
                         exact qLess [16, 15, 14, 4, 2, 0] (hI7 k7 x0 x2 x4 x14 x15 x16)
                       · refine rExit ?_
                         refine xThenX ?_
                         refine xThenX ?_
                         refine rOut ?_
                         exact qLess [15, 14, 4, 2, 0] (hj6 x0 x2 x4 x14 x15)
                 · refine rExit ?_
                   refine xThenX ?_
                   refine xThenX ?_
                   refine rOut ?_
                   exact qLess [2, 0] (hj0 x0 x2)
           · refine rSeq ?_
             refine cLess [4, 2, 0] ?_
             refine xR hE [0, 2, 4, 11] rfl (R8_Names_r24_ok F _ _ _ _) ?_
             intro x0 x2 x4 x11
             show OKq _ _ _ [(11, x11), (4, x4), (2, x2), (0, x0)] _
             refine rThen ?_
             refine rBlock ?_
             refine cLess [11, 4, 2, 0] ?_
             refine xLoopAt [0, 2, 4, 11] [] (fun k9 => R8_Names_l9 F (fun x0 x2 x4 => R8_Names_k8 F x0 x2 x4) k9) F [x0, x2, x4, x11] rfl rfl (fun _ _ _ _ => rfl) fun I hI9 k9 => ?_
             intro x0 x2 x4 x11
             show OKc _ _ [(11, x11), (4, x4), (2, x2), (0, x0)] _ _
             refine cAs (R8_Names_l9_s F _ _ _ _ _ _) ?_
             refine rSeq ?_
             refine rSeq ?_
             refine cLess [11, 4, 2, 0] ?_
             refine xR hE [0, 2, 4, 11, 154] rfl (R8_Names_r25_ok F _ _ _ _ _) ?_
             intro x0 x2 x4 x11 x154
             show OKq _ _ _ [(154, x154), (11, x11), (4, x4), (2, x2), (0, x0)] _
             refine rThen ?_
             refine xCond rfl rfl ?_ ?_
             · refine rSkip ?_
               refine rThen ?_
               refine xSeq [0, 2, 4, 11] (R8_Names_k10 F (R8_Names_l9 F (fun x0 x2 x4 => R8_Names_k8 F x0 x2 x4) k9) ) ?_ fun hj10 => ?_
               · intro x0 x2 x4 x11
                 show OKc _ _ [(11, x11), (4, x4), (2, x2), (0, x0)] _ _
                 refine cLess [11, 4, 2, 0] ?_
                 refine xR hE [0, 2, 4, 11] rfl (R8_Names_r26_ok F _ _ _ _ _) ?_
                 intro x0 x2 x4 x11
                 show OKq _ _ _ [(11, x11), (4, x4), (2, x2), (0, x0)] _
                 exact qLess [11, 4, 2, 0] (hI9 k9 x0 x2 x4 x11)
               · refine rBlock ?_
                 refine rSeq ?_
                 refine cLess [11, 4, 2, 0] ?_
                 refine xR hE [0, 2, 4, 11, 12] rfl (R8_Names_r27_ok F _ _ _ _ _) ?_
                 intro x0 x2 x4 x11 x12
                 show OKq _ _ _ [(12, x12), (11, x11), (4, x4), (2, x2), (0, x0)] _
                 refine rThen ?_
                 refine rSeq ?_
                 refine cLess [12, 11, 4, 2, 0] ?_
                 refine xD Trymix hE [0, 2, 4, 11, 12] rfl R8_Names_r28_good (R8_Names_r28_ok F _ _ _ _ _ _) ?_
                 intro x0 x2 x4 x11 x12
                 show OKq _ _ _ [(12, x12), (11, x11), (4, x4), (2, x2), (0, x0)] _
                 refine rThen ?_
                 refine rSeq ?_
                 refine cLess [12, 11, 4, 2, 0] ?_
                 refine xR hE [0, 2, 4, 11, 12, 13] rfl (R8_Names_r29_ok F _ _ _ _ _ _) ?_
                 intro x0 x2 x4 x11 x12 x13
                 show OKq _ _ _ [(13, x13), (12, x12), (11, x11), (4, x4), (2, x2), (0, x0)] _
                 refine rThen ?_
                 refine rBlock ?_
                 refine cLess [13, 12, 11, 4, 2, 0] ?_
                 refine xLoopAt [0, 2, 4, 11, 12, 13] [] (fun k11 => R8_Names_l11 F (fun x0 x2 x4 x11 => R8_Names_k10 F (R8_Names_l9 F (fun x0 x2 x4 => R8_Names_k8 F x0 x2 x4) k9) x0 x2 x4 x11) k11) F [x0, x2, x4, x11, x12, x13] rfl rfl (fun _ _ _ _ _ _ => rfl) fun I hI11 k11 => ?_
                 intro x0 x2 x4 x11 x12 x13
                 show OKc _ _ [(13, x13), (12, x12), (11, x11), (4, x4), (2, x2), (0, x0)] _ _
                 refine cAs (R8_Names_l11_s F _ _ _ _ _ _ _ _) ?_
                 refine rSeq ?_
                 refine rSeq ?_
                 refine cLess [13, 12, 11, 4, 2, 0] ?_
                 refine xR hE [0, 2, 4, 11, 12, 13, 189] rfl (R8_Names_r30_ok F _ _ _ _ _ _ _) ?_
                 intro x0 x2 x4 x11 x12 x13 x189
                 show OKq _ _ _ [(189, x189), (13, x13), (12, x12), (11, x11), (4, x4), (2, x2), (0, x0)] _
                 refine rThen ?_
                 refine xCond rfl rfl ?_ ?_
                 · refine rSkip ?_
                   refine rThen ?_
                   refine rSeq ?_
                   refine rBlock ?_
                   refine cLess [13, 12, 11, 4, 2, 0] ?_
                   refine xD Trymix hE [0, 2, 4, 11, 12, 13] rfl R8_Names_r32_good (R8_Names_r32_ok F _ _ _ _ _ _ _) ?_
                   intro x0 x2 x4 x11 x12 x13
                   show OKq _ _ _ [(13, x13), (12, x12), (11, x11), (4, x4), (2, x2), (0, x0)] _
                   refine xBlockN ?_
                   refine rThen ?_
                   refine cLess [13, 12, 11, 4, 2, 0] ?_
                   refine xR hE [0, 2, 4, 11, 12, 13] rfl (R8_Names_r31_ok F _ _ _ _ _ _ _) ?_
                   intro x0 x2 x4 x11 x12 x13
                   show OKq _ _ _ [(13, x13), (12, x12), (11, x11), (4, x4), (2, x2), (0, x0)] _
                   exact qLess [13, 12, 11, 4, 2, 0] (hI11 k11 x0 x2 x4 x11 x12 x13)
                 · refine rExit ?_
                   refine xThenX ?_
                   refine xThenX ?_
                   refine rOut ?_
                   refine xBlockN ?_
                   exact qLess [11, 4, 2, 0] (hj10 x0 x2 x4 x11)
             · refine rExit ?_
               refine xThenX ?_
               refine xThenX ?_
               refine rOut ?_
               exact qLess [4, 2, 0] (hj8 x0 x2 x4)
         · refine rSeq ?_
           refine cLess [4, 2, 0] ?_
           refine xR hE [0, 2, 4, 9] rfl (R8_Names_r17_ok F _ _ _ _) ?_
           intro x0 x2 x4 x9
           show OKq _ _ _ [(9, x9), (4, x4), (2, x2), (0, x0)] _
           refine rThen ?_
           refine rBlock ?_
           refine cLess [9, 4, 2, 0] ?_
           refine xLoopAt [0, 2, 4, 9] [] (fun k13 => R8_Names_l13 F (fun x0 x2 x4 => R8_Names_k12 F x0 x2 x4) k13) F [x0, x2, x4, x9] rfl rfl (fun _ _ _ _ => rfl) fun I hI13 k13 => ?_
           intro x0 x2 x4 x9
           show OKc _ _ [(9, x9), (4, x4), (2, x2), (0, x0)] _ _
           refine cAs (R8_Names_l13_s F _ _ _ _ _ _) ?_
           refine rSeq ?_
           refine rSeq ?_
           refine cLess [9, 4, 2, 0] ?_
           refine xR hE [0, 2, 4, 9, 112] rfl (R8_Names_r18_ok F _ _ _ _ _) ?_
           intro x0 x2 x4 x9 x112
           show OKq _ _ _ [(112, x112), (9, x9), (4, x4), (2, x2), (0, x0)] _
           refine rThen ?_
           refine xCond rfl rfl ?_ ?_
           · refine rSkip ?_
             refine rThen ?_
             refine xSeq [0, 2, 4, 9] (R8_Names_k14 F (R8_Names_l13 F (fun x0 x2 x4 => R8_Names_k12 F x0 x2 x4) k13) ) ?_ fun hj14 => ?_
             · intro x0 x2 x4 x9
               show OKc _ _ [(9, x9), (4, x4), (2, x2), (0, x0)] _ _
               refine cLess [9, 4, 2, 0] ?_
               refine xR hE [0, 2, 4, 9] rfl (R8_Names_r19_ok F _ _ _ _ _) ?_
               intro x0 x2 x4 x9
               show OKq _ _ _ [(9, x9), (4, x4), (2, x2), (0, x0)] _
               exact qLess [9, 4, 2, 0] (hI13 k13 x0 x2 x4 x9)
             · refine rBlock ?_
               refine rSeq ?_
               refine cLess [9, 4, 2, 0] ?_
               refine xR hE [0, 2, 4, 9, 10] rfl (R8_Names_r20_ok F _ _ _ _ _) ?_
               intro x0 x2 x4 x9 x10
               show OKq _ _ _ [(10, x10), (9, x9), (4, x4), (2, x2), (0, x0)] _
               refine rThen ?_
               refine rBlock ?_
               refine cLess [10, 9, 4, 2, 0] ?_
               refine xLoopAt [0, 2, 4, 9, 10] [] (fun k15 => R8_Names_l15 F (fun x0 x2 x4 x9 => R8_Names_k14 F (R8_Names_l13 F (fun x0 x2 x4 => R8_Names_k12 F x0 x2 x4) k13) x0 x2 x4 x9) k15) F [x0, x2, x4, x9, x10] rfl rfl (fun _ _ _ _ _ => rfl) fun I hI15 k15 => ?_
               intro x0 x2 x4 x9 x10
               show OKc _ _ [(10, x10), (9, x9), (4, x4), (2, x2), (0, x0)] _ _
               refine cAs (R8_Names_l15_s F _ _ _ _ _ _ _) ?_
               refine rSeq ?_
               refine rSeq ?_
               refine cLess [10, 9, 4, 2, 0] ?_
               refine xR hE [0, 2, 4, 9, 10, 125] rfl (R8_Names_r21_ok F _ _ _ _ _ _) ?_
               intro x0 x2 x4 x9 x10 x125
               show OKq _ _ _ [(125, x125), (10, x10), (9, x9), (4, x4), (2, x2), (0, x0)] _
               refine rThen ?_
               refine xCond rfl rfl ?_ ?_
               · refine rSkip ?_
                 refine rThen ?_
                 refine rSeq ?_
                 refine rBlock ?_
                 refine cLess [10, 9, 4, 2, 0] ?_
                 refine xD Trymix hE [0, 2, 4, 9, 10] rfl R8_Names_r23_good (R8_Names_r23_ok F _ _ _ _ _ _) ?_
                 intro x0 x2 x4 x9 x10
                 show OKq _ _ _ [(10, x10), (9, x9), (4, x4), (2, x2), (0, x0)] _
                 refine xBlockN ?_
                 refine rThen ?_
                 refine cLess [10, 9, 4, 2, 0] ?_
                 refine xR hE [0, 2, 4, 9, 10] rfl (R8_Names_r22_ok F _ _ _ _ _ _) ?_
                 intro x0 x2 x4 x9 x10
                 show OKq _ _ _ [(10, x10), (9, x9), (4, x4), (2, x2), (0, x0)] _
                 exact qLess [10, 9, 4, 2, 0] (hI15 k15 x0 x2 x4 x9 x10)
               · refine rExit ?_
                 refine xThenX ?_
                 refine xThenX ?_
                 refine rOut ?_
                 refine xBlockN ?_
                 exact qLess [9, 4, 2, 0] (hj14 x0 x2 x4 x9)
           · refine rExit ?_
             refine xThenX ?_
             refine xThenX ?_
             refine rOut ?_
             exact qLess [4, 2, 0] (hj12 x0 x2 x4)
       · refine rSeq ?_
         refine cLess [4, 2, 0] ?_
         refine xR hE [0, 2, 4, 7] rfl (R8_Names_r9_ok F _ _ _ _) ?_
         intro x0 x2 x4 x7
         show OKq _ _ _ [(7, x7), (4, x4), (2, x2), (0, x0)] _
         refine rThen ?_
         refine rBlock ?_
         refine cLess [7, 4, 2, 0] ?_
         refine xLoopAt [0, 2, 4, 7] [] (fun k17 => R8_Names_l17 F (fun x0 x2 x4 => R8_Names_k16 F x0 x2 x4) k17) F [x0, x2, x4, x7] rfl rfl (fun _ _ _ _ => rfl) fun I hI17 k17 => ?_
         intro x0 x2 x4 x7
         show OKc _ _ [(7, x7), (4, x4), (2, x2), (0, x0)] _ _
         refine cAs (R8_Names_l17_s F _ _ _ _ _ _) ?_
         refine rSeq ?_
         refine rSeq ?_
         refine cLess [7, 4, 2, 0] ?_
         refine xR hE [0, 2, 4, 7, 61] rfl (R8_Names_r10_ok F _ _ _ _ _) ?_
         intro x0 x2 x4 x7 x61
         show OKq _ _ _ [(61, x61), (7, x7), (4, x4), (2, x2), (0, x0)] _
         refine rThen ?_
         refine xCond rfl rfl ?_ ?_
         · refine rSkip ?_
           refine rThen ?_
           refine xSeq [0, 2, 4, 7] (R8_Names_k18 F (R8_Names_l17 F (fun x0 x2 x4 => R8_Names_k16 F x0 x2 x4) k17) ) ?_ fun hj18 => ?_
           · intro x0 x2 x4 x7
             show OKc _ _ [(7, x7), (4, x4), (2, x2), (0, x0)] _ _
             refine cLess [7, 4, 2, 0] ?_
             refine xR hE [0, 2, 4, 7] rfl (R8_Names_r11_ok F _ _ _ _ _) ?_
             intro x0 x2 x4 x7
             show OKq _ _ _ [(7, x7), (4, x4), (2, x2), (0, x0)] _
             exact qLess [7, 4, 2, 0] (hI17 k17 x0 x2 x4 x7)
           · refine rBlock ?_
             refine xSeq [0, 2, 4, 7] (R8_Names_k19 F (R8_Names_l17 F (fun x0 x2 x4 => R8_Names_k16 F x0 x2 x4) k17) ) ?_ fun hj19 => ?_
             · intro x0 x2 x4 x7
               show OKc _ _ [(7, x7), (4, x4), (2, x2), (0, x0)] _ _
               refine cLess [7, 4, 2, 0] ?_
               refine xR hE [0, 2, 4, 7] rfl (R8_Names_r16_ok F _ _ _ _ _) ?_
               intro x0 x2 x4 x7
               show OKq _ _ _ [(7, x7), (4, x4), (2, x2), (0, x0)] _
               refine xBlockN ?_
               exact qLess [7, 4, 2, 0] (hj18 x0 x2 x4 x7)
             · refine rSeq ?_
               refine cLess [7, 4, 2, 0] ?_
               refine xR hE [0, 2, 4, 7, 8] rfl (R8_Names_r12_ok F _ _ _ _ _) ?_
               intro x0 x2 x4 x7 x8
               show OKq _ _ _ [(8, x8), (7, x7), (4, x4), (2, x2), (0, x0)] _
               refine rThen ?_
               refine rBlock ?_
               refine cLess [8, 7, 4, 2, 0] ?_
               refine xLoopAt [0, 2, 4, 7, 8] [] (fun k20 => R8_Names_l20 F (fun x0 x2 x4 x7 => R8_Names_k19 F (R8_Names_l17 F (fun x0 x2 x4 => R8_Names_k16 F x0 x2 x4) k17) x0 x2 x4 x7) k20) F [x0, x2, x4, x7, x8] rfl rfl (fun _ _ _ _ _ => rfl) fun I hI20 k20 => ?_
               intro x0 x2 x4 x7 x8
               show OKc _ _ [(8, x8), (7, x7), (4, x4), (2, x2), (0, x0)] _ _
               refine cAs (R8_Names_l20_s F _ _ _ _ _ _ _) ?_
               refine rSeq ?_
               refine rSeq ?_
               refine cLess [8, 7, 4, 2, 0] ?_
               refine xR hE [0, 2, 4, 7, 8, 74] rfl (R8_Names_r13_ok F _ _ _ _ _ _) ?_
               intro x0 x2 x4 x7 x8 x74
               show OKq _ _ _ [(74, x74), (8, x8), (7, x7), (4, x4), (2, x2), (0, x0)] _
               refine rThen ?_
               refine xCond rfl rfl ?_ ?_
               · refine rSkip ?_
                 refine rThen ?_
                 refine rSeq ?_
                 refine rBlock ?_
                 refine cLess [8, 7, 4, 2, 0] ?_
                 refine xR hE [0, 2, 4, 7, 8] rfl (R8_Names_r15_ok F _ _ _ _ _ _) ?_
                 intro x0 x2 x4 x7 x8
                 show OKq _ _ _ [(8, x8), (7, x7), (4, x4), (2, x2), (0, x0)] _
                 refine xBlockN ?_
                 refine rThen ?_
                 refine cLess [8, 7, 4, 2, 0] ?_
                 refine xR hE [0, 2, 4, 7, 8] rfl (R8_Names_r14_ok F _ _ _ _ _ _) ?_
                 intro x0 x2 x4 x7 x8
                 show OKq _ _ _ [(8, x8), (7, x7), (4, x4), (2, x2), (0, x0)] _
                 exact qLess [8, 7, 4, 2, 0] (hI20 k20 x0 x2 x4 x7 x8)
               · refine rExit ?_
                 refine xThenX ?_
                 refine xThenX ?_
                 refine rOut ?_
                 exact qLess [7, 4, 2, 0] (hj19 x0 x2 x4 x7)
         · refine rExit ?_
           refine xThenX ?_
           refine xThenX ?_
           refine rOut ?_
           exact qLess [4, 2, 0] (hj16 x0 x2 x4)
     · refine rSeq ?_
       refine cLess [4, 2, 0] ?_
       refine xR hE [0, 2, 4, 5] rfl (R8_Names_r2_ok F _ _ _ _) ?_
       intro x0 x2 x4 x5
       show OKq _ _ _ [(5, x5), (4, x4), (2, x2), (0, x0)] _
       refine rThen ?_
       refine rBlock ?_
       refine cLess [5, 4, 2, 0] ?_
       refine xLoopAt [0, 2, 4, 5] [] (fun k22 => R8_Names_l22 F (fun x0 x2 x4 => R8_Names_k21 F x0 x2 x4) k22) F [x0, x2, x4, x5] rfl rfl (fun _ _ _ _ => rfl) fun I hI22 k22 => ?_
       intro x0 x2 x4 x5
       show OKc _ _ [(5, x5), (4, x4), (2, x2), (0, x0)] _ _
       refine cAs (R8_Names_l22_s F _ _ _ _ _ _) ?_
       refine rSeq ?_
       refine rSeq ?_
       refine cLess [5, 4, 2, 0] ?_
       refine xR hE [0, 2, 4, 5, 25] rfl (R8_Names_r3_ok F _ _ _ _ _) ?_
       intro x0 x2 x4 x5 x25
       show OKq _ _ _ [(25, x25), (5, x5), (4, x4), (2, x2), (0, x0)] _
       refine rThen ?_
       refine xCond rfl rfl ?_ ?_
       · refine rSkip ?_
         refine rThen ?_
         refine xSeq [0, 2, 4, 5] (R8_Names_k23 F (R8_Names_l22 F (fun x0 x2 x4 => R8_Names_k21 F x0 x2 x4) k22) ) ?_ fun hj23 => ?_
         · intro x0 x2 x4 x5
           show OKc _ _ [(5, x5), (4, x4), (2, x2), (0, x0)] _ _
           refine cLess [5, 4, 2, 0] ?_
           refine xR hE [0, 2, 4, 5] rfl (R8_Names_r4_ok F _ _ _ _ _) ?_
           intro x0 x2 x4 x5
           show OKq _ _ _ [(5, x5), (4, x4), (2, x2), (0, x0)] _
           exact qLess [5, 4, 2, 0] (hI22 k22 x0 x2 x4 x5)
         · refine rBlock ?_
           refine rSeq ?_
           refine cLess [5, 4, 2, 0] ?_
           refine xR hE [0, 2, 4, 5, 6] rfl (R8_Names_r5_ok F _ _ _ _ _) ?_
           intro x0 x2 x4 x5 x6
           show OKq _ _ _ [(6, x6), (5, x5), (4, x4), (2, x2), (0, x0)] _
           refine rThen ?_
           refine rBlock ?_
           refine cLess [6, 5, 4, 2, 0] ?_
           refine xLoopAt [0, 2, 4, 5, 6] [] (fun k24 => R8_Names_l24 F (fun x0 x2 x4 x5 => R8_Names_k23 F (R8_Names_l22 F (fun x0 x2 x4 => R8_Names_k21 F x0 x2 x4) k22) x0 x2 x4 x5) k24) F [x0, x2, x4, x5, x6] rfl rfl (fun _ _ _ _ _ => rfl) fun I hI24 k24 => ?_
           intro x0 x2 x4 x5 x6
           show OKc _ _ [(6, x6), (5, x5), (4, x4), (2, x2), (0, x0)] _ _
           refine cAs (R8_Names_l24_s F _ _ _ _ _ _ _) ?_
           refine rSeq ?_
           refine rSeq ?_
           refine cLess [6, 5, 4, 2, 0] ?_
           refine xR hE [0, 2, 4, 5, 6, 37] rfl (R8_Names_r6_ok F _ _ _ _ _ _) ?_
           intro x0 x2 x4 x5 x6 x37
           show OKq _ _ _ [(37, x37), (6, x6), (5, x5), (4, x4), (2, x2), (0, x0)] _
           refine rThen ?_
           refine xCond rfl rfl ?_ ?_
           · refine rSkip ?_
             refine rThen ?_
             refine rSeq ?_
             refine rBlock ?_
             refine cLess [6, 5, 4, 2, 0] ?_
             refine xR hE [0, 2, 4, 5, 6] rfl (R8_Names_r8_ok F _ _ _ _ _ _) ?_
             intro x0 x2 x4 x5 x6
             show OKq _ _ _ [(6, x6), (5, x5), (4, x4), (2, x2), (0, x0)] _
             refine xBlockN ?_
             refine rThen ?_
             refine cLess [6, 5, 4, 2, 0] ?_
             refine xR hE [0, 2, 4, 5, 6] rfl (R8_Names_r7_ok F _ _ _ _ _ _) ?_
             intro x0 x2 x4 x5 x6
             show OKq _ _ _ [(6, x6), (5, x5), (4, x4), (2, x2), (0, x0)] _
             exact qLess [6, 5, 4, 2, 0] (hI24 k24 x0 x2 x4 x5 x6)
           · refine rExit ?_
             refine xThenX ?_
             refine xThenX ?_
             refine rOut ?_
             refine xBlockN ?_
             exact qLess [5, 4, 2, 0] (hj23 x0 x2 x4 x5)
       · refine rExit ?_
         refine xThenX ?_
         refine xThenX ?_
         refine rOut ?_
         exact qLess [4, 2, 0] (hj21 x0 x2 x4)
   · exact rFail


/-! ### haruspex/haruspexref8.Assign -/

def R8_Assign_env (F : Nat) : Env := envOf [(10, R8_Reads_m F), (32, R8_Points_m F), (38, R8_Nowhere_m F), (64, R8_Free_m F)]

noncomputable def R8_Assign_R (F : Nat) := rK Try.prog TryG (R8_Assign_env F) Try.f43
noncomputable def R8_Assign_D (F : Nat) := dK Try.prog TryG (R8_Assign_env F) Try.f43

def R8_Assign_r11 (F : Nat) (x2 : Value) (K : Value → Value → M Value) : M Value :=
  bnd (R8_Nowhere F) fun v47 => bnd (opStoreN 3 x2 v47) fun _ => K x2 (.bool true)

theorem R8_Assign_r11_ok (F : Nat) (x2 : Value) (K : Value → Value → M Value) : R8_Assign_r11 F x2 K = R8_Assign_R F 11 [(2, x2)] [2, 3] K := by kernel_rfl

def R8_Assign_k0 (F : Nat) (x2 : Value) : M Value :=
  R8_Assign_r11 F x2 (fun x2 x3 => bnd (opLoadN 3 x2) fun r0 => tupK [r0, x3])

def R8_Assign_r4 (F : Nat) (x0 x2 x4 x5 : Value) (K : Value → Value → Value → Value → M Value) : M Value :=
  bnd (opBin .add x5 (.int .i64 (1))) fun v15 => K x0 x2 x4 v15

theorem R8_Assign_r4_ok (F : Nat) (x0 x2 x4 x5 : Value) (K : Value → Value → Value → Value → M Value) : R8_Assign_r4 F x0 x2 x4 x5 K = R8_Assign_R F 4 [(5, x5), (4, x4), (2, x2), (0, x0)] [0, 2, 4, 5] K := by kernel_rfl

def R8_Assign_k2 (F : Nat) (A1 : Value → Value → Value → Value → M Value) (x0 x2 x4 x5 : Value) : M Value :=
  R8_Assign_r4 F x0 x2 x4 x5 (fun x0 x2 x4 x5 => A1 x0 x2 x4 x5)

def R8_Assign_r8 (F : Nat) (x0 x2 x4 x5 x6 x7 : Value) (K : Value → Value → Value → Value → Value → Value → M Value) : M Value :=
  bnd (opBin .add x7 (.int .i64 (1))) fun v27 => K x0 x2 x4 x5 x6 v27

theorem R8_Assign_r8_ok (F : Nat) (x0 x2 x4 x5 x6 x7 : Value) (K : Value → Value → Value → Value → Value → Value → M Value) : R8_Assign_r8 F x0 x2 x4 x5 x6 x7 K = R8_Assign_R F 8 [(7, x7), (6, x6), (5, x5), (4, x4), (2, x2), (0, x0)] [0, 2, 4, 5, 6, 7] K := by kernel_rfl

def R8_Assign_r10 (F : Nat) (x2 x4 x5 : Value) (K : Value → Value → M Value) : M Value :=
  bnd (opIndexAddr 3 x4 x5) fun v45 => bnd (opLoadN 3 v45) fun v46 => bnd (opStoreN 3 x2 v46) fun _ => K x2 (.bool false)

theorem R8_Assign_r10_ok (F : Nat) (x2 x4 x5 : Value) (K : Value → Value → M Value) : R8_Assign_r10 F x2 x4 x5 K = R8_Assign_R F 10 [(5, x5), (4, x4), (2, x2)] [2, 3] K := by kernel_rfl

def R8_Assign_r9 (F : Nat) (x0 x2 x4 x5 x6 x7 : Value) (K : Value → Value → Value → Value → Value → Value → Value → M Value) : M Value :=
  bnd (opIndexAddr 3 x4 x5) fun v31 => bnd (opFieldAddr 0 v31) fun v32 => bnd (opLoad v32) fun v33 => bnd (opIndexAddr 1 x6 x7) fun v36 => bnd (opLoad v36) fun v37 => bnd (opIndexAddr 3 x4 x5) fun v40 => bnd (opLoadN 3 v40) fun v41 => bnd (R8_Free F x0 v33 v37 v41) fun v42 => K x0 x2 x4 x5 x6 x7 v42

theorem R8_Assign_r9_ok (F : Nat) (x0 x2 x4 x5 x6 x7 : Value) (K : Value → Value → Value → Value → Value → Value → Value → M Value) : R8_Assign_r9 F x0 x2 x4 x5 x6 x7 K = R8_Assign_D F 9 [0, 1, 2, 3, 4, 5, 6, 7, 8, 9, 10, 11, 12, 13, 14] [(7, x7), (6, x6), (5, x5), (4, x4), (2, x2), (0, x0)] [0, 2, 4, 5, 6, 7, 42] K := by kernel_rfl

theorem R8_Assign_r9_good : goodOrder (opsOf Try.f43 9) [0, 1, 2, 3, 4, 5, 6, 7, 8, 9, 10, 11, 12, 13, 14] = true := by kernel_rfl

def R8_Assign_r7 (F : Nat) (x0 x2 x4 x5 x6 x7 : Value) (K : Value → Value → Value → Value → Value → Value → Value → M Value) : M Value :=
  bnd (opLen x6) fun v24 => bnd (opBin .lss x7 v24) fun v25 => K x0 x2 x4 x5 x6 x7 v25

theorem R8_Assign_r7_ok (F : Nat) (x0 x2 x4 x5 x6 x7 : Value) (K : Value → Value → Value → Value → Value → Value → Value → M Value) : R8_Assign_r7 F x0 x2 x4 x5 x6 x7 K = R8_Assign_R F 7 [(7, x7), (6, x6), (5, x5), (4, x4), (2, x2), (0, x0)] [0, 2, 4, 5, 6, 7, 25] K := by kernel_rfl

def R8_Assign_b3 (F : Nat) (E3_2 : Value → Value → Value → Value → M Value) (A3 : Value → Value → Value → Value → Value → Value → M Value) (x0 x2 x4 x5 x6 x7 : Value) : M Value :=
  R8_Assign_r7 F x0 x2 x4 x5 x6 x7 (fun x0 x2 x4 x5 x6 x7 x25 => onB x25 (R8_Assign_r9 F x0 x2 x4 x5 x6 x7 (fun x0 x2 x4 x5 x6 x7 x42 => onB x42 (R8_Assign_r10 F x2 x4 x5 (fun x2 x3 => bnd (opLoadN 3 x2) fun r0 => tupK [r0, x3])) (R8_Assign_r8 F x0 x2 x4 x5 x6 x7 (fun x0 x2 x4 x5 x6 x7 => A3 x0 x2 x4 x5 x6 x7)))) (E3_2 x0 x2 x4 x5))

def R8_Assign_l3 (F : Nat) (E3_2 : Value → Value → Value → Value → M Value) : Nat → Value → Value → Value → Value → Value → Value → M Value
  | 0, _, _, _, _, _, _ => fail
  | k3 + 1, x0, x2, x4, x5, x6, x7 => R8_Assign_b3 F E3_2 (R8_Assign_l3 F E3_2 k3) x0 x2 x4 x5 x6 x7

theorem R8_Assign_l3_s (F : Nat) (E3_2 : Value → Value → Value → Value → M Value) (k3 : Nat) (x0 x2 x4 x5 x6 x7 : Value) : R8_Assign_l3 F E3_2 (k3 + 1) x0 x2 x4 x5 x6 x7 = R8_Assign_b3 F E3_2 (R8_Assign_l3 F E3_2 k3) x0 x2 x4 x5 x6 x7 := rfl

def R8_Assign_r6 (F : Nat) (x0 x2 x4 x5 x6 : Value) (K : Value → Value → Value → Value → Value → Value → M Value) : M Value :=
  K x0 x2 x4 x5 x6 (.int .i64 (0))

theorem R8_Assign_r6_ok (F : Nat) (x0 x2 x4 x5 x6 : Value) (K : Value → Value → Value → Value → Value → Value → M Value) : R8_Assign_r6 F x0 x2 x4 x5 x6 K = R8_Assign_R F 6 [(6, x6), (5, x5), (4, x4), (2, x2), (0, x0)] [0, 2, 4, 5, 6, 7] K := by kernel_rfl

def R8_Assign_r5 (F : Nat) (x0 x2 x4 x5 : Value) (K : Value → Value → Value → Value → Value → M Value) : M Value :=
  bnd (opIndexAddr 3 x4 x5) fun v19 => bnd (opLoadN 3 v19) fun v20 => bnd (R8_Reads F x0 v20) fun v21 => K x0 x2 x4 x5 v21

theorem R8_Assign_r5_ok (F : Nat) (x0 x2 x4 x5 : Value) (K : Value → Value → Value → Value → Value → M Value) : R8_Assign_r5 F x0 x2 x4 x5 K = R8_Assign_R F 5 [(5, x5), (4, x4), (2, x2), (0, x0)] [0, 2, 4, 5, 6] K := by kernel_rfl

def R8_Assign_r3 (F : Nat) (x0 x2 x4 x5 : Value) (K : Value → Value → Value → Value → Value → M Value) : M Value :=
  bnd (opLen x4) fun v12 => bnd (opBin .lss x5 v12) fun v13 => K x0 x2 x4 x5 v13

theorem R8_Assign_r3_ok (F : Nat) (x0 x2 x4 x5 : Value) (K : Value → Value → Value → Value → Value → M Value) : R8_Assign_r3 F x0 x2 x4 x5 K = R8_Assign_R F 3 [(5, x5), (4, x4), (2, x2), (0, x0)] [0, 2, 4, 5, 13] K := by kernel_rfl

def R8_Assign_b1 (F : Nat) (E1_0 : Value → M Value) (A1 : Value → Value → Value → Value → M Value) (x0 x2 x4 x5 : Value) : M Value :=
  R8_Assign_r3 F x0 x2 x4 x5 (fun x0 x2 x4 x5 x13 => onB x13 (R8_Assign_r5 F x0 x2 x4 x5 (fun x0 x2 x4 x5 x6 => R8_Assign_r6 F x0 x2 x4 x5 x6 (fun x0 x2 x4 x5 x6 x7 => R8_Assign_l3 F (fun x0 x2 x4 x5 => R8_Assign_k2 F A1 x0 x2 x4 x5) F x0 x2 x4 x5 x6 x7))) (E1_0 x2))

def R8_Assign_l1 (F : Nat) (E1_0 : Value → M Value) : Nat → Value → Value → Value → Value → M Value
  | 0, _, _, _, _ => fail
  | k1 + 1, x0, x2, x4, x5 => R8_Assign_b1 F E1_0 (R8_Assign_l1 F E1_0 k1) x0 x2 x4 x5

theorem R8_Assign_l1_s (F : Nat) (E1_0 : Value → M Value) (k1 : Nat) (x0 x2 x4 x5 : Value) : R8_Assign_l1 F E1_0 (k1 + 1) x0 x2 x4 x5 = R8_Assign_b1 F E1_0 (R8_Assign_l1 F E1_0 k1) x0 x2 x4 x5 := rfl

def R8_Assign_r2 (F : Nat) (x0 x2 x4 : Value) (K : Value → Value → Value → Value → M Value) : M Value :=
  K x0 x2 x4 (.int .i64 (0))

theorem R8_Assign_r2_ok (F : Nat) (x0 x2 x4 : Value) (K : Value → Value → Value → Value → M Value) : R8_Assign_r2 F x0 x2 x4 K = R8_Assign_R F 2 [(4, x4), (2, x2), (0, x0)] [0, 2, 4, 5] K := by kernel_rfl

def R8_Assign_r1 (F : Nat) (x0 x2 : Value) (K : Value → Value → Value → M Value) : M Value :=
  bnd (R8_Points F x0) fun v9 => K x0 x2 v9

theorem R8_Assign_r1_ok (F : Nat) (x0 x2 : Value) (K : Value → Value → Value → M Value) : R8_Assign_r1 F x0 x2 K = R8_Assign_R F 1 [(2, x2), (0, x0)] [0, 2, 4] K := by kernel_rfl

def R8_Assign_r0 (F : Nat) (x0 : Value) (K : Value → Value → M Value) : M Value :=
  bnd (opPtr [(.int .i64 (0)), (.int .i64 (0)), (.int .i64 (0))]) fun v2 => K x0 v2

theorem R8_Assign_r0_ok (F : Nat) (x0 : Value) (K : Value → Value → M Value) : R8_Assign_r0 F x0 K = R8_Assign_R F 0 [(0, x0)] [0, 2] K := by kernel_rfl

def R8_Assign (F : Nat) (x0 : Value) : M Value :=
  R8_Assign_r0 F x0 (fun x0 x2 => R8_Assign_r1 F x0 x2 (fun x0 x2 x4 => R8_Assign_r2 F x0 x2 x4 (fun x0 x2 x4 x5 => R8_Assign_l1 F (fun x2 => R8_Assign_k0 F x2) F x0 x2 x4 x5)))

def R8_Assign_m (F : Nat) : List Value → M Value
  | [x0] => R8_Assign F x0
  | _ => fail

theorem R8_Assign_body : Try.f43.body = some (.seq (.region 0 (opsOf Try.f43 0) false) (.seq (.region 1 (opsOf Try.f43 1) false) (.seq (.seq (.region 2 (opsOf Try.f43 2) false) (.block 0 (.loop (.seq (.seq (.region 3 (opsOf Try.f43 3) false) (.cond (.tmp 13) .skip (.exit 0))) (.seq (.block 1 (.seq (.region 5 (opsOf Try.f43 5) false) (.seq (.region 6 (opsOf Try.f43 6) false) (.block 2 (.loop (.seq (.seq (.region 7 (opsOf Try.f43 7) false) (.cond (.tmp 25) .skip (.exit 2))) (.seq (.block 3 (.seq (.region 9 (opsOf Try.f43 9) true) (.cond (.tmp 42) (.seq (.region 10 (opsOf Try.f43 10) false) .ret) .skip))) (.region 8 (opsOf Try.f43 8) false)))))))) (.region 4 (opsOf Try.f43 4) false)))))) (.seq (.region 11 (opsOf Try.f43 11) false) .ret)))) := by kernel_rfl

theorem R8_Assign_ok (F : Nat) : Sim Try.prog TryG 43 (R8_Assign_m F) := by
 have hE : EnvOK Try.prog TryG (R8_Assign_env F) := (EnvOK.cons (R8_Reads_ok F) (EnvOK.cons (R8_Points_ok F) (EnvOK.cons (R8_Nowhere_ok F) (EnvOK.cons (R8_Free_ok F) EnvOK.nil))))
 refine Sim.of_body (E := R8_Assign_env F) Try.func43 R8_Assign_body Try.call43 ?_ ?_
 · intro args hl; unfold R8_Assign_m; split
   · exact absurd hl (Nat.not_lt.2 (Nat.le_of_ble_eq_true rfl))
   · rfl
 · intro args ρ h w z; unfold R8_Assign_m; split
   · rename_i x0; show OKc _ _ [(0, x0)] _ _
     refine rSeq ?_
     refine cLess [0] ?_
     refine xR hE [0, 2] rfl (R8_Assign_r0_ok F _ _) ?_
     intro x0 x2
     show OKq _ _ _ [(2, x2), (0, x0)] _
     refine rThen ?_
     refine rSeq ?_
     refine cLess [2, 0] ?_
     refine xR hE [0, 2, 4] rfl (R8_Assign_r1_ok F _ _ _) ?_
     intro x0 x2 x4
     show OKq _ _ _ [(4, x4), (2, x2), (0, x0)] _
     refine rThen ?_
     refine xSeq [2] (R8_Assign_k0 F ) ?_ fun hj0 => ?_
     · intro x2
       show OKc _ _ [(2, x2)] _ _
       refine rSeq ?_
       refine cLess [2] ?_
       refine xR hE [2, 3] rfl (R8_Assign_r11_ok F _ _) ?_
       intro x2 x3
       show OKq _ _ _ [(3, x3), (2, x2)] _
       refine rThen ?_
       refine rRet ?_
       exact rDone (.inr rfl) rfl
     · refine rSeq ?_
       refine cLess [4, 2, 0] ?_
       refine xR hE [0, 2, 4, 5] rfl (R8_Assign_r2_ok F _ _ _ _) ?_
       intro x0 x2 x4 x5
       show OKq _ _ _ [(5, x5), (4, x4), (2, x2), (0, x0)] _
       refine rThen ?_
       refine rBlock ?_
       refine cLess [5, 4, 2, 0] ?_
       refine xLoopAt [0, 2, 4, 5] [] (fun k1 => R8_Assign_l1 F (fun x2 => R8_Assign_k0 F x2) k1) F [x0, x2, x4, x5] rfl rfl (fun _ _ _ _ => rfl) fun I hI1 k1 => ?_
       intro x0 x2 x4 x5
       show OKc _ _ [(5, x5), (4, x4), (2, x2), (0, x0)] _ _
       refine cAs (R8_Assign_l1_s F _ _ _ _ _ _) ?_
       refine rSeq ?_
       refine rSeq ?_
       refine cLess [5, 4, 2, 0] ?_
       refine xR hE [0, 2, 4, 5, 13] rfl (R8_Assign_r3_ok F _ _ _ _ _) ?_
       intro x0 x2 x4 x5 x13
       show OKq _ _ _ [(13, x13), (5, x5), (4, x4), (2, x2), (0, x0)] _
       refine rThen ?_
       refine xCond rfl rfl ?_ ?_
       · refine rSkip ?_
         refine rThen ?_
         refine xSeq [0, 2, 4, 5] (R8_Assign_k2 F (R8_Assign_l1 F (fun x2 => R8_Assign_k0 F x2) k1) ) ?_ fun hj2 => ?_
         · intro x0 x2 x4 x5
           show OKc _ _ [(5, x5), (4, x4), (2, x2), (0, x0)] _ _
           refine cLess [5, 4, 2, 0] ?_
           refine xR hE [0, 2, 4, 5] rfl (R8_Assign_r4_ok F _ _ _ _ _) ?_
           intro x0 x2 x4 x5
           show OKq _ _ _ [(5, x5), (4, x4), (2, x2), (0, x0)] _
           exact qLess [5, 4, 2, 0] (hI1 k1 x0 x2 x4 x5)
         · refine rBlock ?_
           refine rSeq ?_
           refine cLess [5, 4, 2, 0] ?_
           refine xR hE [0, 2, 4, 5, 6] rfl (R8_Assign_r5_ok F _ _ _ _ _) ?_
           intro x0 x2 x4 x5 x6
           show OKq _ _ _ [(6, x6), (5, x5), (4, x4), (2, x2), (0, x0)] _
           refine rThen ?_
           refine rSeq ?_
           refine cLess [6, 5, 4, 2, 0] ?_
           refine xR hE [0, 2, 4, 5, 6, 7] rfl (R8_Assign_r6_ok F _ _ _ _ _ _) ?_
           intro x0 x2 x4 x5 x6 x7
           show OKq _ _ _ [(7, x7), (6, x6), (5, x5), (4, x4), (2, x2), (0, x0)] _
           refine rThen ?_
           refine rBlock ?_
           refine cLess [7, 6, 5, 4, 2, 0] ?_
           refine xLoopAt [0, 2, 4, 5, 6, 7] [] (fun k3 => R8_Assign_l3 F (fun x0 x2 x4 x5 => R8_Assign_k2 F (R8_Assign_l1 F (fun x2 => R8_Assign_k0 F x2) k1) x0 x2 x4 x5) k3) F [x0, x2, x4, x5, x6, x7] rfl rfl (fun _ _ _ _ _ _ => rfl) fun I hI3 k3 => ?_
           intro x0 x2 x4 x5 x6 x7
           show OKc _ _ [(7, x7), (6, x6), (5, x5), (4, x4), (2, x2), (0, x0)] _ _
           refine cAs (R8_Assign_l3_s F _ _ _ _ _ _ _ _) ?_
           refine rSeq ?_
           refine rSeq ?_
           refine cLess [7, 6, 5, 4, 2, 0] ?_
           refine xR hE [0, 2, 4, 5, 6, 7, 25] rfl (R8_Assign_r7_ok F _ _ _ _ _ _ _) ?_
           intro x0 x2 x4 x5 x6 x7 x25
           show OKq _ _ _ [(25, x25), (7, x7), (6, x6), (5, x5), (4, x4), (2, x2), (0, x0)] _
           refine rThen ?_
           refine xCond rfl rfl ?_ ?_
           · refine rSkip ?_
             refine rThen ?_
             refine rSeq ?_
             refine rBlock ?_
             refine rSeq ?_
             refine cLess [7, 6, 5, 4, 2, 0] ?_
             refine xD Trymix hE [0, 2, 4, 5, 6, 7, 42] rfl R8_Assign_r9_good (R8_Assign_r9_ok F _ _ _ _ _ _ _) ?_
             intro x0 x2 x4 x5 x6 x7 x42
             show OKq _ _ _ [(42, x42), (7, x7), (6, x6), (5, x5), (4, x4), (2, x2), (0, x0)] _
             refine rThen ?_
             refine xCond rfl rfl ?_ ?_
             · refine rSeq ?_
               refine cLess [5, 4, 2] ?_
               refine xR hE [2, 3] rfl (R8_Assign_r10_ok F _ _ _ _) ?_
               intro x2 x3
               show OKq _ _ _ [(3, x3), (2, x2)] _
               refine rThen ?_
               refine rRet ?_
               refine xBlockR ?_
               refine xThenR ?_
               refine xThenR ?_
               refine xBlockR ?_
               refine xBlockR ?_
               refine xThenR ?_
               refine xThenR ?_
               refine xBlockR ?_
               refine xThenR ?_
               exact rDone (.inr rfl) rfl
             · refine rSkip ?_
               refine xBlockN ?_
               refine rThen ?_
               refine cLess [7, 6, 5, 4, 2, 0] ?_
               refine xR hE [0, 2, 4, 5, 6, 7] rfl (R8_Assign_r8_ok F _ _ _ _ _ _ _) ?_
               intro x0 x2 x4 x5 x6 x7
               show OKq _ _ _ [(7, x7), (6, x6), (5, x5), (4, x4), (2, x2), (0, x0)] _
               exact qLess [7, 6, 5, 4, 2, 0] (hI3 k3 x0 x2 x4 x5 x6 x7)
           · refine rExit ?_
             refine xThenX ?_
             refine xThenX ?_
             refine rOut ?_
             refine xBlockN ?_
             exact qLess [5, 4, 2, 0] (hj2 x0 x2 x4 x5)
       · refine rExit ?_
         refine xThenX ?_
         refine xThenX ?_
         refine rOut ?_
         exact qLess [2] (hj0 x2)
   · exact rFail


/-! ### haruspex/reach.Some$1 -/

def reach_Some_1_env (F : Nat) : Env := envOf [(33, ir_At_m F), (46, ir_Def_m F)]

noncomputable def reach_Some_1_R (F : Nat) := rK Try.prog TryG (reach_Some_1_env F) Try.f45
noncomputable def reach_Some_1_D (F : Nat) := dK Try.prog TryG (reach_Some_1_env F) Try.f45

def reach_Some_1_r3 (F : Nat) (x2 x6 x7 x8 : Value) (K : Value → M Value) : M Value :=
  onB x6 (onB x8 (bnd (opLoad x2) fun v26 => bnd (opBin .eql x7 v26) fun v27 => K v27) (K (.bool false))) (K (.bool false))

theorem reach_Some_1_r3_ok (F : Nat) (x2 x6 x7 x8 : Value) (K : Value → M Value) : reach_Some_1_r3 F x2 x6 x7 x8 K = reach_Some_1_R F 3 [(8, x8), (7, x7), (6, x6), (2, x2)] [4] K := by kernel_rfl

def reach_Some_1_r2 (F : Nat) (x2 x5 x6 : Value) (K : Value → Value → Value → Value → M Value) : M Value :=
  bnd (opLoadN 6 x5) fun v16 => bnd (ir_Def F v16) fun v17 => bnd (opExtract v17 0) fun v18 => bnd (opExtract v17 1) fun v19 => K x2 x6 v18 v19

theorem reach_Some_1_r2_ok (F : Nat) (x2 x5 x6 : Value) (K : Value → Value → Value → Value → M Value) : reach_Some_1_r2 F x2 x5 x6 K = reach_Some_1_R F 2 [(6, x6), (5, x5), (2, x2)] [2, 6, 7, 8] K := by kernel_rfl

def reach_Some_1_r1 (F : Nat) (x0 x1 x2 : Value) (K : Value → Value → Value → M Value) : M Value :=
  bnd (opLoad x1) fun v10 => bnd (ir_At F v10 x0) fun v12 => bnd (opExtract v12 0) fun v13 => bnd (opExtract v12 1) fun v14 => bnd (opPtr [(.int .i64 (0)), (.int .i64 (0)), (.int .i64 (0)), (.int .i64 (0)), (.int .i64 (0)), (.slice none 0 0)]) fun v5 => bnd (opStoreN 6 v5 v13) fun _ => K x2 v5 v14

theorem reach_Some_1_r1_ok (F : Nat) (x0 x1 x2 : Value) (K : Value → Value → Value → M Value) : reach_Some_1_r1 F x0 x1 x2 K = reach_Some_1_R F 1 [(2, x2), (1, x1), (0, x0)] [2, 5, 6] K := by kernel_rfl

def reach_Some_1_r0 (F : Nat) (x0 x1 x2 : Value) (K : Value → Value → Value → M Value) : M Value :=
  K x0 x1 x2

theorem reach_Some_1_r0_ok (F : Nat) (x0 x1 x2 : Value) (K : Value → Value → Value → M Value) : reach_Some_1_r0 F x0 x1 x2 K = reach_Some_1_R F 0 [(2, x2), (1, x1), (0, x0)] [0, 1, 2] K := by kernel_rfl

def reach_Some_1 (F : Nat) (x0 x1 x2 : Value) : M Value :=
  reach_Some_1_r0 F x0 x1 x2 (fun x0 x1 x2 => reach_Some_1_r1 F x0 x1 x2 (fun x2 x5 x6 => reach_Some_1_r2 F x2 x5 x6 (fun x2 x6 x7 x8 => reach_Some_1_r3 F x2 x6 x7 x8 (fun x4 => ret x4))))

def reach_Some_1_m (F : Nat) : List Value → M Value
  | [x0, x1, x2] => reach_Some_1 F x0 x1 x2
  | _ => fail

theorem reach_Some_1_body : Try.f45.body = some (.seq (.region 0 (opsOf Try.f45 0) false) (.seq (.region 1 (opsOf Try.f45 1) false) (.seq (.region 2 (opsOf Try.f45 2) false) (.seq (.region 3 (opsOf Try.f45 3) false) .ret)))) := by kernel_rfl

theorem reach_Some_1_ok (F : Nat) : Sim Try.prog TryG 45 (reach_Some_1_m F) := by
 have hE : EnvOK Try.prog TryG (reach_Some_1_env F) := (EnvOK.cons (ir_At_ok F) (EnvOK.cons (ir_Def_ok F) EnvOK.nil))
 refine Sim.of_body (E := reach_Some_1_env F) Try.func45 reach_Some_1_body Try.call45 ?_ ?_
 · intro args hl; unfold reach_Some_1_m; split
   · exact absurd hl (Nat.not_lt.2 (Nat.le_of_ble_eq_true rfl))
   · rfl
 · intro args ρ h w z; unfold reach_Some_1_m; split
   · rename_i x0 x1 x2; show OKc _ _ [(0, x0), (1, x1), (2, x2)] _ _
     refine rSeq ?_
     refine cLess [2, 1, 0] ?_
     refine xR hE [0, 1, 2] rfl (reach_Some_1_r0_ok F _ _ _ _) ?_
     intro x0 x1 x2
     show OKq _ _ _ [(2, x2), (1, x1), (0, x0)] _
     refine rThen ?_
     refine rSeq ?_
     refine cLess [2, 1, 0] ?_
     refine xR hE [2, 5, 6] rfl (reach_Some_1_r1_ok F _ _ _ _) ?_
     intro x2 x5 x6
     show OKq _ _ _ [(6, x6), (5, x5), (2, x2)] _
     refine rThen ?_
     refine rSeq ?_
     refine cLess [6, 5, 2] ?_
     refine xR hE [2, 6, 7, 8] rfl (reach_Some_1_r2_ok F _ _ _ _) ?_
     intro x2 x6 x7 x8
     show OKq _ _ _ [(8, x8), (7, x7), (6, x6), (2, x2)] _
     refine rThen ?_
     refine rSeq ?_
     refine cLess [8, 7, 6, 2] ?_
     refine xR hE [4] rfl (reach_Some_1_r3_ok F _ _ _ _ _) ?_
     intro x4
     show OKq _ _ _ [(4, x4)] _
     refine rThen ?_
     refine rRet ?_
     exact rDone (.inr rfl) rfl
   · exact rFail


/-! ### haruspex/ir.Next -/

def ir_Next_env (F : Nat) : Env := envOf [(27, ir_Point_m F), (35, ir_End_m F), (47, ir_Number_m F), (65, ir_Outs_m F)]

noncomputable def ir_Next_R (F : Nat) := rK Try.prog TryG (ir_Next_env F) Try.f48
noncomputable def ir_Next_D (F : Nat) := dK Try.prog TryG (ir_Next_env F) Try.f48

def ir_Next_r15 (F : Nat) (x8 : Value) (K : Value → M Value) : M Value :=
  K x8

theorem ir_Next_r15_ok (F : Nat) (x8 : Value) (K : Value → M Value) : ir_Next_r15 F x8 K = ir_Next_R F 15 [(8, x8)] [4] K := by kernel_rfl

def ir_Next_k0 (F : Nat) (x8 : Value) : M Value :=
  ir_Next_r15 F x8 (fun x4 => ret x4)

def ir_Next_r14 (F : Nat) (x0 x5 x8 x29 x30 x31 : Value) (K : Value → Value → Value → Value → Value → Value → M Value) : M Value :=
  bnd (opBin .add x31 (.int .i64 (1))) fun v47 => K x0 x5 x8 x29 x30 v47

theorem ir_Next_r14_ok (F : Nat) (x0 x5 x8 x29 x30 x31 : Value) (K : Value → Value → Value → Value → Value → Value → M Value) : ir_Next_r14 F x0 x5 x8 x29 x30 x31 K = ir_Next_R F 14 [(31, x31), (30, x30), (29, x29), (8, x8), (5, x5), (0, x0)] [0, 5, 8, 29, 30, 31] K := by kernel_rfl

def ir_Next_k2 (F : Nat) (A1 : Value → Value → Value → Value → Value → Value → M Value) (x0 x5 x8 x29 x30 x31 : Value) : M Value :=
  ir_Next_r14 F x0 x5 x8 x29 x30 x31 (fun x0 x5 x8 x29 x30 x31 => A1 x0 x5 x8 x29 x30 x31)

def ir_Next_r13 (F : Nat) (x0 x5 x8 x11 x29 x30 x31 : Value) (K : Value → Value → Value → Value → Value → Value → M Value) : M Value :=
  bnd (opBuildSlice 1 (rep 1 [(.int .i64 (0))]) [(0, 1, false, x11)]) fun v45 => bnd (opAppend 1 8 x8 v45) fun v46 => K x0 x5 v46 x29 x30 x31

theorem ir_Next_r13_ok (F : Nat) (x0 x5 x8 x11 x29 x30 x31 : Value) (K : Value → Value → Value → Value → Value → Value → M Value) : ir_Next_r13 F x0 x5 x8 x11 x29 x30 x31 K = ir_Next_R F 13 [(31, x31), (30, x30), (29, x29), (11, x11), (8, x8), (5, x5), (0, x0)] [0, 5, 8, 29, 30, 31] K := by kernel_rfl

def ir_Next_r12 (F : Nat) (x0 x5 x8 x11 x29 x30 x31 : Value) (K : Value → Value → Value → Value → Value → Value → Value → Value → M Value) : M Value :=
  bnd (opBin .geq x11 (.int .i64 (0))) fun v42 => K x0 x5 x8 x11 x29 x30 x31 v42

theorem ir_Next_r12_ok (F : Nat) (x0 x5 x8 x11 x29 x30 x31 : Value) (K : Value → Value → Value → Value → Value → Value → Value → Value → M Value) : ir_Next_r12 F x0 x5 x8 x11 x29 x30 x31 K = ir_Next_R F 12 [(31, x31), (30, x30), (29, x29), (11, x11), (8, x8), (5, x5), (0, x0)] [0, 5, 8, 11, 29, 30, 31, 42] K := by kernel_rfl

def ir_Next_r11 (F : Nat) (x0 x5 x8 x10 x29 x30 x31 : Value) (K : Value → Value → Value → Value → Value → Value → Value → M Value) : M Value :=
  bnd (opFieldAddr 0 x5) fun v36 => bnd (opLoad v36) fun v37 => bnd (opBuild [(.int .i64 (0)), (.int .i64 (0)), (.int .i64 (0))] [(0, 1, false, v37), (1, 1, false, x10)]) fun v39 => bnd (ir_Number F x0 v39) fun v40 => K x0 x5 x8 v40 x29 x30 x31

theorem ir_Next_r11_ok (F : Nat) (x0 x5 x8 x10 x29 x30 x31 : Value) (K : Value → Value → Value → Value → Value → Value → Value → M Value) : ir_Next_r11 F x0 x5 x8 x10 x29 x30 x31 K = ir_Next_R F 11 [(31, x31), (30, x30), (29, x29), (10, x10), (8, x8), (5, x5), (0, x0)] [0, 5, 8, 11, 29, 30, 31] K := by kernel_rfl

def ir_Next_r10 (F : Nat) (x0 x5 x8 x29 x30 x31 : Value) (K : Value → Value → Value → Value → Value → Value → Value → M Value) : M Value :=
  bnd (opIndexAddr 1 x29 x31) fun v33 => bnd (opLoad v33) fun v34 => K x0 x5 x8 v34 x29 x30 x31

theorem ir_Next_r10_ok (F : Nat) (x0 x5 x8 x29 x30 x31 : Value) (K : Value → Value → Value → Value → Value → Value → Value → M Value) : ir_Next_r10 F x0 x5 x8 x29 x30 x31 K = ir_Next_R F 10 [(31, x31), (30, x30), (29, x29), (8, x8), (5, x5), (0, x0)] [0, 5, 8, 10, 29, 30, 31] K := by kernel_rfl

def ir_Next_r9 (F : Nat) (x0 x5 x8 x29 x30 x31 : Value) (K : Value → Value → Value → Value → Value → Value → Value → M Value) : M Value :=
  bnd (opBin .lss x31 x30) fun v32 => K x0 x5 x8 x29 x30 x31 v32

theorem ir_Next_r9_ok (F : Nat) (x0 x5 x8 x29 x30 x31 : Value) (K : Value → Value → Value → Value → Value → Value → Value → M Value) : ir_Next_r9 F x0 x5 x8 x29 x30 x31 K = ir_Next_R F 9 [(31, x31), (30, x30), (29, x29), (8, x8), (5, x5), (0, x0)] [0, 5, 8, 29, 30, 31, 32] K := by kernel_rfl

def ir_Next_b1 (F : Nat) (E1_0 : Value → M Value) (A1 : Value → Value → Value → Value → Value → Value → M Value) (x0 x5 x8 x29 x30 x31 : Value) : M Value :=
  ir_Next_r9 F x0 x5 x8 x29 x30 x31 (fun x0 x5 x8 x29 x30 x31 x32 => onB x32 (ir_Next_r10 F x0 x5 x8 x29 x30 x31 (fun x0 x5 x8 x10 x29 x30 x31 => ir_Next_r11 F x0 x5 x8 x10 x29 x30 x31 (fun x0 x5 x8 x11 x29 x30 x31 => ir_Next_r12 F x0 x5 x8 x11 x29 x30 x31 (fun x0 x5 x8 x11 x29 x30 x31 x42 => onB x42 (ir_Next_r13 F x0 x5 x8 x11 x29 x30 x31 (fun x0 x5 x8 x29 x30 x31 => ir_Next_k2 F A1 x0 x5 x8 x29 x30 x31)) (ir_Next_k2 F A1 x0 x5 x8 x29 x30 x31))))) (E1_0 x8))

def ir_Next_l1 (F : Nat) (E1_0 : Value → M Value) : Nat → Value → Value → Value → Value → Value → Value → M Value
  | 0, _, _, _, _, _, _ => fail
  | k1 + 1, x0, x5, x8, x29, x30, x31 => ir_Next_b1 F E1_0 (ir_Next_l1 F E1_0 k1) x0 x5 x8 x29 x30 x31

theorem ir_Next_l1_s (F : Nat) (E1_0 : Value → M Value) (k1 : Nat) (x0 x5 x8 x29 x30 x31 : Value) : ir_Next_l1 F E1_0 (k1 + 1) x0 x5 x8 x29 x30 x31 = ir_Next_b1 F E1_0 (ir_Next_l1 F E1_0 k1) x0 x5 x8 x29 x30 x31 := rfl

def ir_Next_r8 (F : Nat) (x0 x5 x7 x8 : Value) (K : Value → Value → Value → Value → Value → Value → M Value) : M Value :=
  bnd (ir_Outs F x7) fun v29 => bnd (opLen v29) fun v30 => K x0 x5 x8 v29 v30 (.int .i64 (0))

theorem ir_Next_r8_ok (F : Nat) (x0 x5 x7 x8 : Value) (K : Value → Value → Value → Value → Value → Value → M Value) : ir_Next_r8 F x0 x5 x7 x8 K = ir_Next_R F 8 [(8, x8), (7, x7), (5, x5), (0, x0)] [0, 5, 8, 29, 30, 31] K := by kernel_rfl

def ir_Next_r7 (F : Nat) (x0 x5 x7 : Value) (K : Value → Value → Value → Value → M Value) : M Value :=
  K x0 x5 x7 (.slice none 0 0)

theorem ir_Next_r7_ok (F : Nat) (x0 x5 x7 : Value) (K : Value → Value → Value → Value → M Value) : ir_Next_r7 F x0 x5 x7 K = ir_Next_R F 7 [(7, x7), (5, x5), (0, x0)] [0, 5, 7, 8] K := by kernel_rfl

def ir_Next_r6 (F : Nat) (x1 : Value) (K : Value → M Value) : M Value :=
  bnd (opBin .add x1 (.int .i64 (1))) fun v26 => bnd (opBuildSlice 1 (rep 1 [(.int .i64 (0))]) [(0, 1, false, v26)]) fun v27 => K v27

theorem ir_Next_r6_ok (F : Nat) (x1 : Value) (K : Value → M Value) : ir_Next_r6 F x1 K = ir_Next_R F 6 [(1, x1)] [4] K := by kernel_rfl

def ir_Next_r5 (F : Nat) (x0 x1 x5 x7 : Value) (K : Value → Value → Value → Value → Value → M Value) : M Value :=
  bnd (opEq eqP false x7 (.pointer none)) fun v24 => K x0 x1 x5 x7 v24

theorem ir_Next_r5_ok (F : Nat) (x0 x1 x5 x7 : Value) (K : Value → Value → Value → Value → Value → M Value) : ir_Next_r5 F x0 x1 x5 x7 K = ir_Next_R F 5 [(7, x7), (5, x5), (1, x1), (0, x0)] [0, 1, 5, 7, 24] K := by kernel_rfl

def ir_Next_r4 (F : Nat) (x0 x1 x5 : Value) (K : Value → Value → Value → Value → M Value) : M Value :=
  bnd (ir_End F x0 x1) fun v22 => K x0 x1 x5 v22

theorem ir_Next_r4_ok (F : Nat) (x0 x1 x5 : Value) (K : Value → Value → Value → Value → M Value) : ir_Next_r4 F x0 x1 x5 K = ir_Next_R F 4 [(5, x5), (1, x1), (0, x0)] [0, 1, 5, 7] K := by kernel_rfl

def ir_Next_r3 (F : Nat) (K : Value → M Value) : M Value :=
  K (.slice none 0 0)

theorem ir_Next_r3_ok (F : Nat) (K : Value → M Value) : ir_Next_r3 F K = ir_Next_R F 3 [] [4] K := by kernel_rfl

def ir_Next_r2 (F : Nat) (x0 x1 x5 x6 : Value) (K : Value → Value → Value → Value → M Value) : M Value :=
  bnd (opNot x6) fun v19 => K x0 x1 x5 v19

theorem ir_Next_r2_ok (F : Nat) (x0 x1 x5 x6 : Value) (K : Value → Value → Value → Value → M Value) : ir_Next_r2 F x0 x1 x5 x6 K = ir_Next_R F 2 [(6, x6), (5, x5), (1, x1), (0, x0)] [0, 1, 5, 19] K := by kernel_rfl

def ir_Next_r1 (F : Nat) (x0 x1 : Value) (K : Value → Value → Value → Value → M Value) : M Value :=
  bnd (ir_Point F x0 x1) fun v15 => bnd (opExtract v15 0) fun v16 => bnd (opExtract v15 1) fun v17 => bnd (opPtr [(.int .i64 (0)), (.int .i64 (0)), (.int .i64 (0))]) fun v5 => bnd (opStoreN 3 v5 v16) fun _ => K x0 x1 v5 v17

theorem ir_Next_r1_ok (F : Nat) (x0 x1 : Value) (K : Value → Value → Value → Value → M Value) : ir_Next_r1 F x0 x1 K = ir_Next_R F 1 [(1, x1), (0, x0)] [0, 1, 5, 6] K := by kernel_rfl

def ir_Next_r0 (F : Nat) (x0 x1 : Value) (K : Value → Value → M Value) : M Value :=
  K x0 x1

theorem ir_Next_r0_ok (F : Nat) (x0 x1 : Value) (K : Value → Value → M Value) : ir_Next_r0 F x0 x1 K = ir_Next_R F 0 [(1, x1), (0, x0)] [0, 1] K := by kernel_rfl

def ir_Next (F : Nat) (x0 x1 : Value) : M Value :=
  ir_Next_r0 F x0 x1 (fun x0 x1 => ir_Next_r1 F x0 x1 (fun x0 x1 x5 x6 => ir_Next_r2 F x0 x1 x5 x6 (fun x0 x1 x5 x19 => onB x19 (ir_Next_r3 F (fun x4 => ret x4)) (ir_Next_r4 F x0 x1 x5 (fun x0 x1 x5 x7 => ir_Next_r5 F x0 x1 x5 x7 (fun x0 x1 x5 x7 x24 => onB x24 (ir_Next_r6 F x1 (fun x4 => ret x4)) (ir_Next_r7 F x0 x5 x7 (fun x0 x5 x7 x8 => ir_Next_r8 F x0 x5 x7 x8 (fun x0 x5 x8 x29 x30 x31 => ir_Next_l1 F (fun x8 => ir_Next_k0 F x8) F x0 x5 x8 x29 x30 x31)))))))))

def ir_Next_m (F : Nat) : List Value → M Value
  | [x0, x1] => ir_Next F x0 x1
  | _ => fail

theorem ir_Next_body : Try.f48.body = some (.seq (.region 0 (opsOf Try.f48 0) false) (.seq (.region 1 (opsOf Try.f48 1) false) (.seq (.seq (.region 2 (opsOf Try.f48 2) false) (.cond (.tmp 19) (.seq (.region 3 (opsOf Try.f48 3) false) .ret) .skip)) (.seq (.region 4 (opsOf Try.f48 4) false) (.seq (.seq (.region 5 (opsOf Try.f48 5) false) (.cond (.tmp 24) (.seq (.region 6 (opsOf Try.f48 6) false) .ret) .skip)) (.seq (.region 7 (opsOf Try.f48 7) false) (.seq (.seq (.region 8 (opsOf Try.f48 8) false) (.block 0 (.loop (.seq (.region 9 (opsOf Try.f48 9) false) (.seq (.cond (.tmp 32) .skip (.exit 0)) (.seq (.block 1 (.seq (.region 10 (opsOf Try.f48 10) false) (.seq (.region 11 (opsOf Try.f48 11) false) (.seq (.region 12 (opsOf Try.f48 12) false) (.cond (.tmp 42) (.region 13 (opsOf Try.f48 13) false) .skip))))) (.region 14 (opsOf Try.f48 14) false))))))) (.seq (.region 15 (opsOf Try.f48 15) false) .ret)))))))) := by kernel_rfl

theorem ir_Next_ok (F : Nat) : Sim Try.prog TryG 48 (ir_Next_m F) := by
 have hE : EnvOK Try.prog TryG (ir_Next_env F) := (EnvOK.cons (ir_Point_ok F) (EnvOK.cons (ir_End_ok F) (EnvOK.cons (ir_Number_ok F) (EnvOK.cons (ir_Outs_ok F) EnvOK.nil))))
 refine Sim.of_body (E := ir_Next_env F) Try.func48 ir_Next_body Try.call48 ?_ ?_
 · intro args hl; unfold ir_Next_m; split
   · exact absurd hl (Nat.not_lt.2 (Nat.le_of_ble_eq_true rfl))
   · rfl
 · intro args ρ h w z; unfold ir_Next_m; split
   · rename_i x0 x1; show OKc _ _ [(0, x0), (1, x1)] _ _
     refine rSeq ?_
     refine cLess [1, 0] ?_
     refine xR hE [0, 1] rfl (ir_Next_r0_ok F _ _ _) ?_
     intro x0 x1
     show OKq _ _ _ [(1, x1), (0, x0)] _
     refine rThen ?_
     refine rSeq ?_
     refine cLess [1, 0] ?_
     refine xR hE [0, 1, 5, 6] rfl (ir_Next_r1_ok F _ _ _) ?_
     intro x0 x1 x5 x6
     show OKq _ _ _ [(6, x6), (5, x5), (1, x1), (0, x0)] _
     refine rThen ?_
     refine rSeq ?_
     refine rSeq ?_
     refine cLess [6, 5, 1, 0] ?_
     refine xR hE [0, 1, 5, 19] rfl (ir_Next_r2_ok F _ _ _ _ _) ?_
     intro x0 x1 x5 x19
     show OKq _ _ _ [(19, x19), (5, x5), (1, x1), (0, x0)] _
     refine rThen ?_
     refine xCond rfl rfl ?_ ?_
     · refine rSeq ?_
       refine cLess [] ?_
       refine xR hE [4] rfl (ir_Next_r3_ok F _) ?_
       intro x4
       show OKq _ _ _ [(4, x4)] _
       refine rThen ?_
       refine rRet ?_
       refine xThenR ?_
       exact rDone (.inr rfl) rfl
     · refine rSkip ?_
       refine rThen ?_
       refine rSeq ?_
       refine cLess [5, 1, 0] ?_
       refine xR hE [0, 1, 5, 7] rfl (ir_Next_r4_ok F _ _ _ _) ?_
       intro x0 x1 x5 x7
       show OKq _ _ _ [(7, x7), (5, x5), (1, x1), (0, x0)] _
       refine rThen ?_
       refine rSeq ?_
       refine rSeq ?_
       refine cLess [7, 5, 1, 0] ?_
       refine xR hE [0, 1, 5, 7, 24] rfl (ir_Next_r5_ok F _ _ _ _ _) ?_
       intro x0 x1 x5 x7 x24
       show OKq _ _ _ [(24, x24), (7, x7), (5, x5), (1, x1), (0, x0)] _
       refine rThen ?_
       refine xCond rfl rfl ?_ ?_
       · refine rSeq ?_
         refine cLess [1] ?_
         refine xR hE [4] rfl (ir_Next_r6_ok F _ _) ?_
         intro x4
         show OKq _ _ _ [(4, x4)] _
         refine rThen ?_
         refine rRet ?_
         refine xThenR ?_
         exact rDone (.inr rfl) rfl
       · refine rSkip ?_
         refine rThen ?_
         refine rSeq ?_
         refine cLess [7, 5, 0] ?_
         refine xR hE [0, 5, 7, 8] rfl (ir_Next_r7_ok F _ _ _ _) ?_
         intro x0 x5 x7 x8
         show OKq _ _ _ [(8, x8), (7, x7), (5, x5), (0, x0)] _
         refine rThen ?_
         refine xSeq [8] (ir_Next_k0 F ) ?_ fun hj0 => ?_
         · intro x8
           show OKc _ _ [(8, x8)] _ _
           refine rSeq ?_
           refine cLess [8] ?_
           refine xR hE [4] rfl (ir_Next_r15_ok F _ _) ?_
           intro x4
           show OKq _ _ _ [(4, x4)] _
           refine rThen ?_
           refine rRet ?_
           exact rDone (.inr rfl) rfl
         · refine rSeq ?_
           refine cLess [8, 7, 5, 0] ?_
           refine xR hE [0, 5, 8, 29, 30, 31] rfl (ir_Next_r8_ok F _ _ _ _ _) ?_
           intro x0 x5 x8 x29 x30 x31
           show OKq _ _ _ [(31, x31), (30, x30), (29, x29), (8, x8), (5, x5), (0, x0)] _
           refine rThen ?_
           refine rBlock ?_
           refine cLess [31, 30, 29, 8, 5, 0] ?_
           refine xLoopAt [0, 5, 8, 29, 30, 31] [] (fun k1 => ir_Next_l1 F (fun x8 => ir_Next_k0 F x8) k1) F [x0, x5, x8, x29, x30, x31] rfl rfl (fun _ _ _ _ _ _ => rfl) fun I hI1 k1 => ?_
           intro x0 x5 x8 x29 x30 x31
           show OKc _ _ [(31, x31), (30, x30), (29, x29), (8, x8), (5, x5), (0, x0)] _ _
           refine cAs (ir_Next_l1_s F _ _ _ _ _ _ _ _) ?_
           refine rSeq ?_
           refine cLess [31, 30, 29, 8, 5, 0] ?_
           refine xR hE [0, 5, 8, 29, 30, 31, 32] rfl (ir_Next_r9_ok F _ _ _ _ _ _ _) ?_
           intro x0 x5 x8 x29 x30 x31 x32
           show OKq _ _ _ [(32, x32), (31, x31), (30, x30), (29, x29), (8, x8), (5, x5), (0, x0)] _
           refine rThen ?_
           refine rSeq ?_
           refine xCond rfl rfl ?_ ?_
           · refine rSkip ?_
             refine rThen ?_
             refine xSeq [0, 5, 8, 29, 30, 31] (ir_Next_k2 F (ir_Next_l1 F (fun x8 => ir_Next_k0 F x8) k1) ) ?_ fun hj2 => ?_
             · intro x0 x5 x8 x29 x30 x31
               show OKc _ _ [(31, x31), (30, x30), (29, x29), (8, x8), (5, x5), (0, x0)] _ _
               refine cLess [31, 30, 29, 8, 5, 0] ?_
               refine xR hE [0, 5, 8, 29, 30, 31] rfl (ir_Next_r14_ok F _ _ _ _ _ _ _) ?_
               intro x0 x5 x8 x29 x30 x31
               show OKq _ _ _ [(31, x31), (30, x30), (29, x29), (8, x8), (5, x5), (0, x0)] _
               exact qLess [31, 30, 29, 8, 5, 0] (hI1 k1 x0 x5 x8 x29 x30 x31)
             · refine rBlock ?_
               refine rSeq ?_
               refine cLess [31, 30, 29, 8, 5, 0] ?_
               refine xR hE [0, 5, 8, 10, 29, 30, 31] rfl (ir_Next_r10_ok F _ _ _ _ _ _ _) ?_
               intro x0 x5 x8 x10 x29 x30 x31
               show OKq _ _ _ [(31, x31), (30, x30), (29, x29), (10, x10), (8, x8), (5, x5), (0, x0)] _
               refine rThen ?_
               refine rSeq ?_
               refine cLess [31, 30, 29, 10, 8, 5, 0] ?_
               refine xR hE [0, 5, 8, 11, 29, 30, 31] rfl (ir_Next_r11_ok F _ _ _ _ _ _ _ _) ?_
               intro x0 x5 x8 x11 x29 x30 x31
               show OKq _ _ _ [(31, x31), (30, x30), (29, x29), (11, x11), (8, x8), (5, x5), (0, x0)] _
               refine rThen ?_
               refine rSeq ?_
               refine cLess [31, 30, 29, 11, 8, 5, 0] ?_
               refine xR hE [0, 5, 8, 11, 29, 30, 31, 42] rfl (ir_Next_r12_ok F _ _ _ _ _ _ _ _) ?_
               intro x0 x5 x8 x11 x29 x30 x31 x42
               show OKq _ _ _ [(42, x42), (31, x31), (30, x30), (29, x29), (11, x11), (8, x8), (5, x5), (0, x0)] _
               refine rThen ?_
               refine xCond rfl rfl ?_ ?_
               · refine cLess [31, 30, 29, 11, 8, 5, 0] ?_
                 refine xR hE [0, 5, 8, 29, 30, 31] rfl (ir_Next_r13_ok F _ _ _ _ _ _ _ _) ?_
                 intro x0 x5 x8 x29 x30 x31
                 show OKq _ _ _ [(31, x31), (30, x30), (29, x29), (8, x8), (5, x5), (0, x0)] _
                 refine xBlockN ?_
                 exact qLess [31, 30, 29, 8, 5, 0] (hj2 x0 x5 x8 x29 x30 x31)
               · refine rSkip ?_
                 refine xBlockN ?_
                 exact qLess [31, 30, 29, 8, 5, 0] (hj2 x0 x5 x8 x29 x30 x31)
           · refine rExit ?_
             refine xThenX ?_
             refine xThenX ?_
             refine rOut ?_
             exact qLess [8] (hj0 x8)
   · exact rFail


/-! ### haruspex/haruspexref8.Fits -/

def R8_Fits_env (F : Nat) : Env := envOf [(57, R8_instr_m F), (59, R8_Impl_m F), (60, R8_eq_m F), (82, R8_typ_m F), (83, R8_call_m F)]

noncomputable def R8_Fits_R (F : Nat) := rK Try.prog TryG (R8_Fits_env F) Try.f61
noncomputable def R8_Fits_D (F : Nat) := dK Try.prog TryG (R8_Fits_env F) Try.f61

def R8_Fits_r31 (F : Nat) (x4 x5 : Value) (K : Value → M Value) : M Value :=
  bnd (opLoadN 3 x4) fun v280 => bnd (opFieldAddr 2 x5) fun v281 => bnd (opLoad v281) fun v282 => bnd (R8_typ F v280 v282) fun v283 => bnd (opField 0 v283) fun v284 => bnd (opBin .eql v284 (.int .i64 (0))) fun v285 => K v285

theorem R8_Fits_r31_ok (F : Nat) (x4 x5 : Value) (K : Value → M Value) : R8_Fits_r31 F x4 x5 K = R8_Fits_R F 31 [(5, x5), (4, x4)] [6] K := by kernel_rfl

def R8_Fits_r6 (F : Nat) (x4 x5 : Value) (K : Value → M Value) : M Value :=
  bnd (opLoadN 3 x4) fun v17 => bnd (opFieldAddr 1 x5) fun v18 => bnd (opLoad v18) fun v19 => bnd (R8_typ F v17 v19) fun v20 => bnd (opField 0 v20) fun v21 => bnd (opBin .eql v21 (.int .i64 (0))) fun v22 => K v22

theorem R8_Fits_r6_ok (F : Nat) (x4 x5 : Value) (K : Value → M Value) : R8_Fits_r6 F x4 x5 K = R8_Fits_R F 6 [(5, x5), (4, x4)] [6] K := by kernel_rfl

def R8_Fits_r8 (F : Nat) (x4 x5 : Value) (K : Value → M Value) : M Value :=
  bnd (opLoadN 3 x4) fun v25 => bnd (opFieldAddr 1 x5) fun v26 => bnd (opLoad v26) fun v27 => bnd (R8_typ F v25 v27) fun v28 => bnd (opField 0 v28) fun v29 => bnd (opBin .eql v29 (.int .i64 (0))) fun v30 => onB v30 (bnd (opLoadN 3 x4) fun v32 => bnd (opFieldAddr 2 x5) fun v33 => bnd (opLoad v33) fun v34 => bnd (R8_typ F v32 v34) fun v35 => bnd (opField 0 v35) fun v36 => bnd (opBin .eql v36 (.int .i64 (0))) fun v37 => onB v37 (bnd (opLoadN 3 x4) fun v40 => bnd (opFieldAddr 3 x5) fun v41 => bnd (opLoad v41) fun v42 => bnd (R8_typ F v40 v42) fun v43 => bnd (opField 0 v43) fun v44 => bnd (opBin .eql v44 (.int .i64 (0))) fun v45 => K v45) (K (.bool false))) (K (.bool false))

theorem R8_Fits_r8_ok (F : Nat) (x4 x5 : Value) (K : Value → M Value) : R8_Fits_r8 F x4 x5 K = R8_Fits_R F 8 [(5, x5), (4, x4)] [6] K := by kernel_rfl

def R8_Fits_r10 (F : Nat) (x4 x5 : Value) (K : Value → M Value) : M Value :=
  bnd (opLoadN 3 x4) fun v49 => bnd (opFieldAddr 1 x5) fun v50 => bnd (opLoad v50) fun v51 => bnd (R8_typ F v49 v51) fun v52 => bnd (opField 0 v52) fun v53 => bnd (opBin .neq v53 (.int .i64 (0))) fun v54 => K v54

theorem R8_Fits_r10_ok (F : Nat) (x4 x5 : Value) (K : Value → M Value) : R8_Fits_r10 F x4 x5 K = R8_Fits_R F 10 [(5, x5), (4, x4)] [6] K := by kernel_rfl

def R8_Fits_r12 (F : Nat) (x4 x5 : Value) (K : Value → M Value) : M Value :=
  bnd (opLoadN 3 x4) fun v57 => bnd (opFieldAddr 1 x5) fun v58 => bnd (opLoad v58) fun v59 => bnd (R8_typ F v57 v59) fun v60 => bnd (opField 0 v60) fun v61 => bnd (opBin .eql v61 (.int .i64 (1))) fun v62 => K v62

theorem R8_Fits_r12_ok (F : Nat) (x4 x5 : Value) (K : Value → M Value) : R8_Fits_r12 F x4 x5 K = R8_Fits_R F 12 [(5, x5), (4, x4)] [6] K := by kernel_rfl

def R8_Fits_r14 (F : Nat) (x4 x5 : Value) (K : Value → M Value) : M Value :=
  bnd (opLoadN 3 x4) fun v65 => bnd (opFieldAddr 1 x5) fun v66 => bnd (opLoad v66) fun v67 => bnd (opLoadN 3 x4) fun v69 => bnd (opFieldAddr 2 x5) fun v70 => bnd (opLoad v70) fun v71 => bnd (R8_typ F v65 v67) fun v68 => bnd (opChk true x4 v69) fun _ => bnd (opChk false v70 v71) fun _ => bnd (R8_typ F v69 v71) fun v72 => bnd (R8_eq F v68 v72) fun v73 => K v73

theorem R8_Fits_r14_ok (F : Nat) (x4 x5 : Value) (K : Value → M Value) : R8_Fits_r14 F x4 x5 K = R8_Fits_D F 14 [0, 1, 2, 4, 5, 6, 3, 7, 8, 9] [(5, x5), (4, x4)] [6] K := by kernel_rfl

theorem R8_Fits_r14_good : goodOrder (opsOf Try.f61 14) [0, 1, 2, 4, 5, 6, 3, 7, 8, 9] = true := by kernel_rfl

def R8_Fits_r16 (F : Nat) (x0 x4 x5 : Value) (K : Value → M Value) : M Value :=
  bnd (opLoadN 3 x4) fun v76 => bnd (opFieldAddr 2 x5) fun v77 => bnd (opLoad v77) fun v78 => bnd (R8_typ F v76 v78) fun v79 => bnd (opField 0 v79) fun v80 => bnd (opBin .eql v80 (.int .i64 (1))) fun v81 => onB v81 (bnd (opNil x0) fun v84 => bnd (opFieldAddr 0 v84) fun v85 => bnd (opLoad v85) fun v86 => bnd (opLoadN 3 x4) fun v87 => bnd (opFieldAddr 2 x5) fun v88 => bnd (opLoad v88) fun v89 => bnd (opFieldAddr 4 x5) fun v94 => bnd (opLoad v94) fun v95 => bnd (opLoadN 3 x4) fun v98 => bnd (opFieldAddr 1 x5) fun v99 => bnd (opLoad v99) fun v100 => bnd (R8_typ F v87 v89) fun v90 => bnd (opChk false v85 v86) fun _ => bnd (opChk false v94 v95) fun _ => bnd (opChk true x4 v98) fun _ => bnd (opChk false v99 v100) fun _ => bnd (opField 1 v90) fun v91 => bnd (opIndexAddr 1 v86 v91) fun v92 => bnd (opLoad v92) fun v93 => bnd (opIndexAddr 2 v93 v95) fun v96 => bnd (opLoadN 2 v96) fun v97 => bnd (R8_typ F v98 v100) fun v101 => bnd (opChk false v85 v86) fun _ => bnd (opChk false v94 v95) fun _ => bnd (opChk false v92 v93) fun _ => bnd (opChk true v96 v97) fun _ => bnd (R8_eq F v97 v101) fun v102 => K v102) (K (.bool false))

theorem R8_Fits_r16_ok (F : Nat) (x0 x4 x5 : Value) (K : Value → M Value) : R8_Fits_r16 F x0 x4 x5 K = R8_Fits_D F 16 [0, 1, 2, 3, 4, 5, 6, 7, 8, 9, 10, 11, 12, 13, 18, 19, 22, 23, 24, 14, 15, 16, 17, 20, 21, 25, 26, 27, 28] [(5, x5), (4, x4), (0, x0)] [6] K := by kernel_rfl

theorem R8_Fits_r16_good : goodOrder (opsOf Try.f61 16) [0, 1, 2, 3, 4, 5, 6, 7, 8, 9, 10, 11, 12, 13, 18, 19, 22, 23, 24, 14, 15, 16, 17, 20, 21, 25, 26, 27, 28] = true := by kernel_rfl

def R8_Fits_r18 (F : Nat) (x0 x4 x5 : Value) (K : Value → M Value) : M Value :=
  bnd (opLoadN 3 x4) fun v106 => bnd (opFieldAddr 2 x5) fun v107 => bnd (opLoad v107) fun v108 => bnd (R8_typ F v106 v108) fun v109 => bnd (opField 0 v109) fun v110 => bnd (opBin .eql v110 (.int .i64 (1))) fun v111 => onB v111 (bnd (opNil x0) fun v114 => bnd (opFieldAddr 0 v114) fun v115 => bnd (opLoad v115) fun v116 => bnd (opLoadN 3 x4) fun v117 => bnd (opFieldAddr 2 x5) fun v118 => bnd (opLoad v118) fun v119 => bnd (opFieldAddr 4 x5) fun v124 => bnd (opLoad v124) fun v125 => bnd (opLoadN 3 x4) fun v128 => bnd (opFieldAddr 3 x5) fun v129 => bnd (opLoad v129) fun v130 => bnd (R8_typ F v117 v119) fun v120 => bnd (opChk false v115 v116) fun _ => bnd (opChk false v124 v125) fun _ => bnd (opChk true x4 v128) fun _ => bnd (opChk false v129 v130) fun _ => bnd (opField 1 v120) fun v121 => bnd (opIndexAddr 1 v116 v121) fun v122 => bnd (opLoad v122) fun v123 => bnd (opIndexAddr 2 v123 v125) fun v126 => bnd (opLoadN 2 v126) fun v127 => bnd (R8_typ F v128 v130) fun v131 => bnd (opChk false v115 v116) fun _ => bnd (opChk false v124 v125) fun _ => bnd (opChk false v122 v123) fun _ => bnd (opChk true v126 v127) fun _ => bnd (R8_eq F v127 v131) fun v132 => K v132) (K (.bool false))

theorem R8_Fits_r18_ok (F : Nat) (x0 x4 x5 : Value) (K : Value → M Value) : R8_Fits_r18 F x0 x4 x5 K = R8_Fits_D F 18 [0, 1, 2, 3, 4, 5, 6, 7, 8, 9, 10, 11, 12, 13, 18, 19, 22, 23, 24, 14, 15, 16, 17, 20, 21, 25, 26, 27, 28] [(5, x5), (4, x4), (0, x0)] [6] K := by kernel_rfl

theorem R8_Fits_r18_good : goodOrder (opsOf Try.f61 18) [0, 1, 2, 3, 4, 5, 6, 7, 8, 9, 10, 11, 12, 13, 18, 19, 22, 23, 24, 14, 15, 16, 17, 20, 21, 25, 26, 27, 28] = true := by kernel_rfl

def R8_Fits_r20 (F : Nat) (x4 x5 : Value) (K : Value → M Value) : M Value :=
  bnd (opLoadN 3 x4) fun v136 => bnd (opFieldAddr 2 x5) fun v137 => bnd (opLoad v137) fun v138 => bnd (R8_typ F v136 v138) fun v139 => bnd (opField 0 v139) fun v140 => bnd (opBin .eql v140 (.int .i64 (1))) fun v141 => K v141

theorem R8_Fits_r20_ok (F : Nat) (x4 x5 : Value) (K : Value → M Value) : R8_Fits_r20 F x4 x5 K = R8_Fits_R F 20 [(5, x5), (4, x4)] [6] K := by kernel_rfl

def R8_Fits_r22 (F : Nat) (x0 x4 x5 : Value) (K : Value → M Value) : M Value :=
  bnd (opLoadN 3 x4) fun v144 => bnd (opFieldAddr 1 x5) fun v145 => bnd (opLoad v145) fun v146 => bnd (R8_typ F v144 v146) fun v147 => bnd (opField 0 v147) fun v148 => bnd (opBin .eql v148 (.int .i64 (2))) fun v149 => onB v149 (bnd (opLoadN 3 x4) fun v151 => bnd (opFieldAddr 1 x5) fun v152 => bnd (opLoad v152) fun v153 => bnd (opNil x0) fun v157 => bnd (opFieldAddr 4 v157) fun v158 => bnd (opLoad v158) fun v159 => bnd (opFieldAddr 4 x5) fun v160 => bnd (opLoad v160) fun v161 => bnd (opIndexAddr 3 v159 v161) fun v162 => bnd (opFieldAddr 0 v162) fun v163 => bnd (opLoad v163) fun v164 => bnd (R8_typ F v151 v153) fun v154 => bnd (opChk false v158 v159) fun _ => bnd (opChk false v160 v161) fun _ => bnd (opChk false v163 v164) fun _ => bnd (opField 1 v154) fun v155 => bnd (opBin .eql v155 v164) fun v165 => K v165) (K (.bool false))

theorem R8_Fits_r22_ok (F : Nat) (x0 x4 x5 : Value) (K : Value → M Value) : R8_Fits_r22 F x0 x4 x5 K = R8_Fits_D F 22 [0, 1, 2, 3, 4, 5, 6, 7, 8, 9, 12, 13, 14, 15, 16, 17, 18, 19, 20, 10, 11, 21, 22, 23] [(5, x5), (4, x4), (0, x0)] [6] K := by kernel_rfl

theorem R8_Fits_r22_good : goodOrder (opsOf Try.f61 22) [0, 1, 2, 3, 4, 5, 6, 7, 8, 9, 12, 13, 14, 15, 16, 17, 18, 19, 20, 10, 11, 21, 22, 23] = true := by kernel_rfl

def R8_Fits_r24 (F : Nat) (x0 x4 x5 : Value) (K : Value → M Value) : M Value :=
  bnd (opLoadN 3 x4) fun v169 => bnd (opFieldAddr 1 x5) fun v170 => bnd (opLoad v170) fun v171 => bnd (R8_typ F v169 v171) fun v172 => bnd (opField 0 v172) fun v173 => bnd (opBin .eql v173 (.int .i64 (3))) fun v174 => onB v174 (bnd (opLoadN 3 x4) fun v176 => bnd (opFieldAddr 2 x5) fun v177 => bnd (opLoad v177) fun v178 => bnd (R8_typ F v176 v178) fun v179 => bnd (opField 0 v179) fun v180 => bnd (opBin .eql v180 (.int .i64 (1))) fun v181 => onB v181 (bnd (opLoadN 3 x4) fun v185 => bnd (opFieldAddr 2 x5) fun v186 => bnd (opLoad v186) fun v187 => bnd (opLoadN 3 x4) fun v190 => bnd (opFieldAddr 1 x5) fun v191 => bnd (opLoad v191) fun v192 => bnd (R8_typ F v185 v187) fun v188 => bnd (opChk true x4 v190) fun _ => bnd (opChk false v191 v192) fun _ => bnd (opField 1 v188) fun v189 => bnd (R8_typ F v190 v192) fun v193 => bnd (opField 1 v193) fun v194 => bnd (R8_Impl F x0 v189 v194) fun v195 => bnd (opBin .geq v195 (.int .i64 (0))) fun v196 => K v196) (K (.bool false))) (K (.bool false))

theorem R8_Fits_r24_ok (F : Nat) (x0 x4 x5 : Value) (K : Value → M Value) : R8_Fits_r24 F x0 x4 x5 K = R8_Fits_D F 24 [0, 1, 2, 3, 4, 5, 6, 7, 8, 9, 10, 11, 12, 13, 14, 15, 16, 17, 18, 21, 22, 23, 19, 20, 24, 25, 26, 27, 28, 29] [(5, x5), (4, x4), (0, x0)] [6] K := by kernel_rfl

theorem R8_Fits_r24_good : goodOrder (opsOf Try.f61 24) [0, 1, 2, 3, 4, 5, 6, 7, 8, 9, 10, 11, 12, 13, 14, 15, 16, 17, 18, 21, 22, 23, 19, 20, 24, 25, 26, 27, 28, 29] = true := by kernel_rfl

def R8_Fits_r26 (F : Nat) (x0 x4 x5 : Value) (K : Value → M Value) : M Value :=
  bnd (opLoadN 3 x4) fun v201 => bnd (opLoadN 6 x5) fun v202 => bnd (opNil x0) fun v204 => bnd (opFieldAddr 1 v204) fun v205 => bnd (opLoad v205) fun v206 => bnd (opNil x0) fun v208 => bnd (opFieldAddr 4 v208) fun v209 => bnd (opLoad v209) fun v210 => bnd (opFieldAddr 4 x5) fun v211 => bnd (opLoad v211) fun v212 => bnd (opIndexAddr 3 v210 v212) fun v213 => bnd (opFieldAddr 0 v213) fun v214 => bnd (opLoad v214) fun v215 => bnd (opIndexAddr 3 v206 v215) fun v216 => bnd (opLoadN 3 v216) fun v217 => bnd (R8_call F x0 v201 v202 v217) fun v218 => K v218

theorem R8_Fits_r26_ok (F : Nat) (x0 x4 x5 : Value) (K : Value → M Value) : R8_Fits_r26 F x0 x4 x5 K = R8_Fits_D F 26 [0, 1, 2, 3, 4, 5, 6, 7, 8, 9, 10, 11, 12, 13, 14, 15, 16, 17, 18, 19] [(5, x5), (4, x4), (0, x0)] [6] K := by kernel_rfl

theorem R8_Fits_r26_good : goodOrder (opsOf Try.f61 26) [0, 1, 2, 3, 4, 5, 6, 7, 8, 9, 10, 11, 12, 13, 14, 15, 16, 17, 18, 19] = true := by kernel_rfl

def R8_Fits_r28 (F : Nat) (x0 x4 x5 : Value) (K : Value → M Value) : M Value :=
  bnd (opLoadN 3 x4) fun v221 => bnd (opFieldAddr 2 x5) fun v222 => bnd (opLoad v222) fun v223 => bnd (R8_typ F v221 v223) fun v224 => bnd (opField 0 v224) fun v225 => bnd (opBin .eql v225 (.int .i64 (2))) fun v226 => onB v226 (bnd (opLoadN 3 x4) fun v229 => bnd (opLoadN 6 x5) fun v230 => bnd (opNil x0) fun v232 => bnd (opFieldAddr 1 v232) fun v233 => bnd (opLoad v233) fun v234 => bnd (opLoadN 3 x4) fun v235 => bnd (opFieldAddr 2 x5) fun v236 => bnd (opLoad v236) fun v237 => bnd (R8_typ F v235 v237) fun v238 => bnd (opChk true x4 v229) fun _ => bnd (opChk true x5 v230) fun _ => bnd (opChk false v233 v234) fun _ => bnd (opField 1 v238) fun v239 => bnd (opIndexAddr 3 v234 v239) fun v240 => bnd (opLoadN 3 v240) fun v241 => bnd (R8_call F x0 v229 v230 v241) fun v242 => K v242) (K (.bool false))

theorem R8_Fits_r28_ok (F : Nat) (x0 x4 x5 : Value) (K : Value → M Value) : R8_Fits_r28 F x0 x4 x5 K = R8_Fits_D F 28 [0, 1, 2, 3, 4, 5, 6, 7, 8, 9, 10, 11, 12, 13, 14, 15, 16, 17, 18, 19, 20, 21, 22, 23] [(5, x5), (4, x4), (0, x0)] [6] K := by kernel_rfl

theorem R8_Fits_r28_good : goodOrder (opsOf Try.f61 28) [0, 1, 2, 3, 4, 5, 6, 7, 8, 9, 10, 11, 12, 13, 14, 15, 16, 17, 18, 19, 20, 21, 22, 23] = true := by kernel_rfl

def R8_Fits_r30 (F : Nat) (x0 x4 x5 : Value) (K : Value → M Value) : M Value :=
  bnd (opLoadN 3 x4) fun v246 => bnd (opFieldAddr 2 x5) fun v247 => bnd (opLoad v247) fun v248 => bnd (R8_typ F v246 v248) fun v249 => bnd (opField 0 v249) fun v250 => bnd (opBin .eql v250 (.int .i64 (3))) fun v251 => onB v251 (bnd (opLoadN 3 x4) fun v254 => bnd (opLoadN 6 x5) fun v255 => bnd (opNil x0) fun v257 => bnd (opFieldAddr 1 v257) fun v258 => bnd (opLoad v258) fun v259 => bnd (opNil x0) fun v261 => bnd (opFieldAddr 2 v261) fun v262 => bnd (opLoad v262) fun v263 => bnd (opLoadN 3 x4) fun v264 => bnd (opFieldAddr 2 x5) fun v265 => bnd (opLoad v265) fun v266 => bnd (opFieldAddr 4 x5) fun v272 => bnd (opLoad v272) fun v273 => bnd (R8_typ F v264 v266) fun v267 => bnd (opChk true x4 v254) fun _ => bnd (opChk true x5 v255) fun _ => bnd (opChk false v258 v259) fun _ => bnd (opChk false v262 v263) fun _ => bnd (opChk false v272 v273) fun _ => bnd (opField 1 v267) fun v268 => bnd (opIndexAddr 1 v263 v268) fun v269 => bnd (opFieldAddr 0 v269) fun v270 => bnd (opLoad v270) fun v271 => bnd (opIndexAddr 1 v271 v273) fun v274 => bnd (opLoad v274) fun v275 => bnd (opIndexAddr 3 v259 v275) fun v276 => bnd (opLoadN 3 v276) fun v277 => bnd (R8_call F x0 v254 v255 v277) fun v278 => K v278) (K (.bool false))

theorem R8_Fits_r30_ok (F : Nat) (x0 x4 x5 : Value) (K : Value → M Value) : R8_Fits_r30 F x0 x4 x5 K = R8_Fits_D F 30 [0, 1, 2, 3, 4, 5, 6, 7, 8, 9, 10, 11, 12, 13, 14, 15, 16, 17, 18, 19, 20, 26, 27, 21, 22, 23, 24, 25, 28, 29, 30, 31, 32, 33, 34] [(5, x5), (4, x4), (0, x0)] [6] K := by kernel_rfl

theorem R8_Fits_r30_good : goodOrder (opsOf Try.f61 30) [0, 1, 2, 3, 4, 5, 6, 7, 8, 9, 10, 11, 12, 13, 14, 15, 16, 17, 18, 19, 20, 26, 27, 21, 22, 23, 24, 25, 28, 29, 30, 31, 32, 33, 34] = true := by kernel_rfl

def R8_Fits_r29 (F : Nat) (x0 x4 x5 x13 : Value) (K : Value → Value → Value → Value → M Value) : M Value :=
  bnd (opBin .eql x13 (.int .i64 (14))) fun v245 => K x0 x4 x5 v245

theorem R8_Fits_r29_ok (F : Nat) (x0 x4 x5 x13 : Value) (K : Value → Value → Value → Value → M Value) : R8_Fits_r29 F x0 x4 x5 x13 K = R8_Fits_R F 29 [(13, x13), (5, x5), (4, x4), (0, x0)] [0, 4, 5, 244] K := by kernel_rfl

def R8_Fits_r27 (F : Nat) (x0 x4 x5 x13 : Value) (K : Value → Value → Value → Value → Value → M Value) : M Value :=
  bnd (opBin .eql x13 (.int .i64 (13))) fun v220 => K x0 x4 x5 x13 v220

theorem R8_Fits_r27_ok (F : Nat) (x0 x4 x5 x13 : Value) (K : Value → Value → Value → Value → Value → M Value) : R8_Fits_r27 F x0 x4 x5 x13 K = R8_Fits_R F 27 [(13, x13), (5, x5), (4, x4), (0, x0)] [0, 4, 5, 13, 219] K := by kernel_rfl

def R8_Fits_r25 (F : Nat) (x0 x4 x5 x13 : Value) (K : Value → Value → Value → Value → Value → M Value) : M Value :=
  bnd (opBin .eql x13 (.int .i64 (12))) fun v199 => K x0 x4 x5 x13 v199

theorem R8_Fits_r25_ok (F : Nat) (x0 x4 x5 x13 : Value) (K : Value → Value → Value → Value → Value → M Value) : R8_Fits_r25 F x0 x4 x5 x13 K = R8_Fits_R F 25 [(13, x13), (5, x5), (4, x4), (0, x0)] [0, 4, 5, 13, 198] K := by kernel_rfl

def R8_Fits_r23 (F : Nat) (x0 x4 x5 x13 : Value) (K : Value → Value → Value → Value → Value → M Value) : M Value :=
  bnd (opBin .eql x13 (.int .i64 (11))) fun v168 => K x0 x4 x5 x13 v168

theorem R8_Fits_r23_ok (F : Nat) (x0 x4 x5 x13 : Value) (K : Value → Value → Value → Value → Value → M Value) : R8_Fits_r23 F x0 x4 x5 x13 K = R8_Fits_R F 23 [(13, x13), (5, x5), (4, x4), (0, x0)] [0, 4, 5, 13, 167] K := by kernel_rfl

def R8_Fits_r21 (F : Nat) (x0 x4 x5 x13 : Value) (K : Value → Value → Value → Value → Value → M Value) : M Value :=
  bnd (opBin .eql x13 (.int .i64 (10))) fun v143 => K x0 x4 x5 x13 v143

theorem R8_Fits_r21_ok (F : Nat) (x0 x4 x5 x13 : Value) (K : Value → Value → Value → Value → Value → M Value) : R8_Fits_r21 F x0 x4 x5 x13 K = R8_Fits_R F 21 [(13, x13), (5, x5), (4, x4), (0, x0)] [0, 4, 5, 13, 142] K := by kernel_rfl

def R8_Fits_r19 (F : Nat) (x0 x4 x5 x13 : Value) (K : Value → Value → Value → Value → Value → M Value) : M Value :=
  bnd (opBin .eql x13 (.int .i64 (9))) fun v135 => K x0 x4 x5 x13 v135

theorem R8_Fits_r19_ok (F : Nat) (x0 x4 x5 x13 : Value) (K : Value → Value → Value → Value → Value → M Value) : R8_Fits_r19 F x0 x4 x5 x13 K = R8_Fits_R F 19 [(13, x13), (5, x5), (4, x4), (0, x0)] [0, 4, 5, 13, 134] K := by kernel_rfl

def R8_Fits_r17 (F : Nat) (x0 x4 x5 x13 : Value) (K : Value → Value → Value → Value → Value → M Value) : M Value :=
  bnd (opBin .eql x13 (.int .i64 (8))) fun v105 => K x0 x4 x5 x13 v105

theorem R8_Fits_r17_ok (F : Nat) (x0 x4 x5 x13 : Value) (K : Value → Value → Value → Value → Value → M Value) : R8_Fits_r17 F x0 x4 x5 x13 K = R8_Fits_R F 17 [(13, x13), (5, x5), (4, x4), (0, x0)] [0, 4, 5, 13, 104] K := by kernel_rfl

def R8_Fits_r15 (F : Nat) (x0 x4 x5 x13 : Value) (K : Value → Value → Value → Value → Value → M Value) : M Value :=
  bnd (opBin .eql x13 (.int .i64 (7))) fun v75 => K x0 x4 x5 x13 v75

theorem R8_Fits_r15_ok (F : Nat) (x0 x4 x5 x13 : Value) (K : Value → Value → Value → Value → Value → M Value) : R8_Fits_r15 F x0 x4 x5 x13 K = R8_Fits_R F 15 [(13, x13), (5, x5), (4, x4), (0, x0)] [0, 4, 5, 13, 74] K := by kernel_rfl

def R8_Fits_r13 (F : Nat) (x0 x4 x5 x13 : Value) (K : Value → Value → Value → Value → Value → M Value) : M Value :=
  bnd (opBin .eql x13 (.int .i64 (6))) fun v64 => K x0 x4 x5 x13 v64

theorem R8_Fits_r13_ok (F : Nat) (x0 x4 x5 x13 : Value) (K : Value → Value → Value → Value → Value → M Value) : R8_Fits_r13 F x0 x4 x5 x13 K = R8_Fits_R F 13 [(13, x13), (5, x5), (4, x4), (0, x0)] [0, 4, 5, 13, 63] K := by kernel_rfl

def R8_Fits_r11 (F : Nat) (x0 x4 x5 x13 : Value) (K : Value → Value → Value → Value → Value → M Value) : M Value :=
  bnd (opBin .eql x13 (.int .i64 (5))) fun v56 => K x0 x4 x5 x13 v56

theorem R8_Fits_r11_ok (F : Nat) (x0 x4 x5 x13 : Value) (K : Value → Value → Value → Value → Value → M Value) : R8_Fits_r11 F x0 x4 x5 x13 K = R8_Fits_R F 11 [(13, x13), (5, x5), (4, x4), (0, x0)] [0, 4, 5, 13, 55] K := by kernel_rfl

def R8_Fits_r9 (F : Nat) (x0 x4 x5 x13 : Value) (K : Value → Value → Value → Value → Value → M Value) : M Value :=
  bnd (opBin .eql x13 (.int .i64 (4))) fun v48 => K x0 x4 x5 x13 v48

theorem R8_Fits_r9_ok (F : Nat) (x0 x4 x5 x13 : Value) (K : Value → Value → Value → Value → Value → M Value) : R8_Fits_r9 F x0 x4 x5 x13 K = R8_Fits_R F 9 [(13, x13), (5, x5), (4, x4), (0, x0)] [0, 4, 5, 13, 47] K := by kernel_rfl

def R8_Fits_r7 (F : Nat) (x0 x4 x5 x13 : Value) (K : Value → Value → Value → Value → Value → M Value) : M Value :=
  bnd (opBin .eql x13 (.int .i64 (2))) fun v24 => K x0 x4 x5 x13 v24

theorem R8_Fits_r7_ok (F : Nat) (x0 x4 x5 x13 : Value) (K : Value → Value → Value → Value → Value → M Value) : R8_Fits_r7 F x0 x4 x5 x13 K = R8_Fits_R F 7 [(13, x13), (5, x5), (4, x4), (0, x0)] [0, 4, 5, 13, 23] K := by kernel_rfl

def R8_Fits_k0 (F : Nat) (x0 x4 x5 x13 x14 : Value) : M Value :=
  onB x14 (R8_Fits_r6 F x4 x5 (fun x6 => ret x6)) (R8_Fits_r7 F x0 x4 x5 x13 (fun x0 x4 x5 x13 x23 => onB x23 (R8_Fits_r8 F x4 x5 (fun x6 => ret x6)) (R8_Fits_r9 F x0 x4 x5 x13 (fun x0 x4 x5 x13 x47 => onB x47 (R8_Fits_r10 F x4 x5 (fun x6 => ret x6)) (R8_Fits_r11 F x0 x4 x5 x13 (fun x0 x4 x5 x13 x55 => onB x55 (R8_Fits_r12 F x4 x5 (fun x6 => ret x6)) (R8_Fits_r13 F x0 x4 x5 x13 (fun x0 x4 x5 x13 x63 => onB x63 (R8_Fits_r14 F x4 x5 (fun x6 => ret x6)) (R8_Fits_r15 F x0 x4 x5 x13 (fun x0 x4 x5 x13 x74 => onB x74 (R8_Fits_r16 F x0 x4 x5 (fun x6 => ret x6)) (R8_Fits_r17 F x0 x4 x5 x13 (fun x0 x4 x5 x13 x104 => onB x104 (R8_Fits_r18 F x0 x4 x5 (fun x6 => ret x6)) (R8_Fits_r19 F x0 x4 x5 x13 (fun x0 x4 x5 x13 x134 => onB x134 (R8_Fits_r20 F x4 x5 (fun x6 => ret x6)) (R8_Fits_r21 F x0 x4 x5 x13 (fun x0 x4 x5 x13 x142 => onB x142 (R8_Fits_r22 F x0 x4 x5 (fun x6 => ret x6)) (R8_Fits_r23 F x0 x4 x5 x13 (fun x0 x4 x5 x13 x167 => onB x167 (R8_Fits_r24 F x0 x4 x5 (fun x6 => ret x6)) (R8_Fits_r25 F x0 x4 x5 x13 (fun x0 x4 x5 x13 x198 => onB x198 (R8_Fits_r26 F x0 x4 x5 (fun x6 => ret x6)) (R8_Fits_r27 F x0 x4 x5 x13 (fun x0 x4 x5 x13 x219 => onB x219 (R8_Fits_r28 F x0 x4 x5 (fun x6 => ret x6)) (R8_Fits_r29 F x0 x4 x5 x13 (fun x0 x4 x5 x244 => onB x244 (R8_Fits_r30 F x0 x4 x5 (fun x6 => ret x6)) (R8_Fits_r31 F x4 x5 (fun x6 => ret x6))))))))))))))))))))))))))

def R8_Fits_r5 (F : Nat) (x0 x4 x5 x13 : Value) (K : Value → Value → Value → Value → Value → M Value) : M Value :=
  bnd (opBin .eql x13 (.int .i64 (3))) fun v16 => K x0 x4 x5 x13 v16

theorem R8_Fits_r5_ok (F : Nat) (x0 x4 x5 x13 : Value) (K : Value → Value → Value → Value → Value → M Value) : R8_Fits_r5 F x0 x4 x5 x13 K = R8_Fits_R F 5 [(13, x13), (5, x5), (4, x4), (0, x0)] [0, 4, 5, 13, 14] K := by kernel_rfl

def R8_Fits_r4 (F : Nat) (x0 x4 x5 x13 : Value) (K : Value → Value → Value → Value → Value → M Value) : M Value :=
  bnd (opBin .eql x13 (.int .i64 (1))) fun v15 => K x0 x4 x5 x13 v15

theorem R8_Fits_r4_ok (F : Nat) (x0 x4 x5 x13 : Value) (K : Value → Value → Value → Value → Value → M Value) : R8_Fits_r4 F x0 x4 x5 x13 K = R8_Fits_R F 4 [(13, x13), (5, x5), (4, x4), (0, x0)] [0, 4, 5, 13, 14] K := by kernel_rfl

def R8_Fits_r3 (F : Nat) (x0 x4 x5 : Value) (K : Value → Value → Value → Value → M Value) : M Value :=
  bnd (opFieldAddr 0 x5) fun v12 => bnd (opLoad v12) fun v13 => K x0 x4 x5 v13

theorem R8_Fits_r3_ok (F : Nat) (x0 x4 x5 : Value) (K : Value → Value → Value → Value → M Value) : R8_Fits_r3 F x0 x4 x5 K = R8_Fits_R F 3 [(5, x5), (4, x4), (0, x0)] [0, 4, 5, 13] K := by kernel_rfl

def R8_Fits_r2 (F : Nat) (K : Value → M Value) : M Value :=
  K (.bool false)

theorem R8_Fits_r2_ok (F : Nat) (K : Value → M Value) : R8_Fits_r2 F K = R8_Fits_R F 2 [] [6] K := by kernel_rfl

def R8_Fits_r1 (F : Nat) (x0 x4 x5 : Value) (K : Value → Value → Value → Value → M Value) : M Value :=
  bnd (opLoadN 3 x4) fun v8 => bnd (opLoadN 6 x5) fun v9 => bnd (R8_instr F x0 v8 v9) fun v10 => bnd (opNot v10) fun v11 => K x0 x4 x5 v11

theorem R8_Fits_r1_ok (F : Nat) (x0 x4 x5 : Value) (K : Value → Value → Value → Value → M Value) : R8_Fits_r1 F x0 x4 x5 K = R8_Fits_R F 1 [(5, x5), (4, x4), (0, x0)] [0, 4, 5, 11] K := by kernel_rfl

def R8_Fits_r0 (F : Nat) (x0 x1 x2 : Value) (K : Value → Value → Value → M Value) : M Value :=
  bnd (opBoxN x1) fun v4 => bnd (opBoxN x2) fun v5 => K x0 v4 v5

theorem R8_Fits_r0_ok (F : Nat) (x0 x1 x2 : Value) (K : Value → Value → Value → M Value) : R8_Fits_r0 F x0 x1 x2 K = R8_Fits_R F 0 [(2, x2), (1, x1), (0, x0)] [0, 4, 5] K := by kernel_rfl

def R8_Fits (F : Nat) (x0 x1 x2 : Value) : M Value :=
  R8_Fits_r0 F x0 x1 x2 (fun x0 x4 x5 => R8_Fits_r1 F x0 x4 x5 (fun x0 x4 x5 x11 => onB x11 (R8_Fits_r2 F (fun x6 => ret x6)) (R8_Fits_r3 F x0 x4 x5 (fun x0 x4 x5 x13 => R8_Fits_r4 F x0 x4 x5 x13 (fun x0 x4 x5 x13 x14 => onB x14 (R8_Fits_k0 F x0 x4 x5 x13 x14) (R8_Fits_r5 F x0 x4 x5 x13 (fun x0 x4 x5 x13 x14 => R8_Fits_k0 F x0 x4 x5 x13 x14)))))))

def R8_Fits_m (F : Nat) : List Value → M Value
  | [x0, x1, x2] => R8_Fits F x0 x1 x2
  | _ => fail

theorem R8_Fits_body : Try.f61.body = some (.seq (.region 0 (opsOf Try.f61 0) false) (.seq (.seq (.region 1 (opsOf Try.f61 1) false) (.cond (.tmp 11) (.seq (.region 2 (opsOf Try.f61 2) false) .ret) .skip)) (.seq (.seq (.region 3 (opsOf Try.f61 3) false) (.block 0 (.seq (.seq (.region 4 (opsOf Try.f61 4) false) (.cond (.tmp 14) .skip (.region 5 (opsOf Try.f61 5) false))) (.cond (.tmp 14) (.seq (.region 6 (opsOf Try.f61 6) false) .ret) (.seq (.region 7 (opsOf Try.f61 7) false) (.cond (.tmp 23) (.seq (.region 8 (opsOf Try.f61 8) false) .ret) (.seq (.region 9 (opsOf Try.f61 9) false) (.cond (.tmp 47) (.seq (.region 10 (opsOf Try.f61 10) false) .ret) (.seq (.region 11 (opsOf Try.f61 11) false) (.cond (.tmp 55) (.seq (.region 12 (opsOf Try.f61 12) false) .ret) (.seq (.region 13 (opsOf Try.f61 13) false) (.cond (.tmp 63) (.seq (.region 14 (opsOf Try.f61 14) true) .ret) (.seq (.region 15 (opsOf Try.f61 15) false) (.cond (.tmp 74) (.seq (.region 16 (opsOf Try.f61 16) true) .ret) (.seq (.region 17 (opsOf Try.f61 17) false) (.cond (.tmp 104) (.seq (.region 18 (opsOf Try.f61 18) true) .ret) (.seq (.region 19 (opsOf Try.f61 19) false) (.cond (.tmp 134) (.seq (.region 20 (opsOf Try.f61 20) false) .ret) (.seq (.region 21 (opsOf Try.f61 21) false) (.cond (.tmp 142) (.seq (.region 22 (opsOf Try.f61 22) true) .ret) (.seq (.region 23 (opsOf Try.f61 23) false) (.cond (.tmp 167) (.seq (.region 24 (opsOf Try.f61 24) true) .ret) (.seq (.region 25 (opsOf Try.f61 25) false) (.cond (.tmp 198) (.seq (.region 26 (opsOf Try.f61 26) true) .ret) (.seq (.region 27 (opsOf Try.f61 27) false) (.cond (.tmp 219) (.seq (.region 28 (opsOf Try.f61 28) true) .ret) (.seq (.region 29 (opsOf Try.f61 29) false) (.cond (.tmp 244) (.seq (.region 30 (opsOf Try.f61 30) true) .ret) .skip)))))))))))))))))))))))))))) (.seq (.region 31 (opsOf Try.f61 31) false) .ret)))) := by kernel_rfl

theorem R8_Fits_ok (F : Nat) : Sim Try.prog TryG 61 (R8_Fits_m F) := by
 have hE : EnvOK Try.prog TryG (R8_Fits_env F) := (EnvOK.cons (R8_instr_ok F) (EnvOK.cons (R8_Impl_ok F) (EnvOK.cons (R8_eq_ok F) (EnvOK.cons (R8_typ_ok F) (EnvOK.cons (R8_call_ok F) EnvOK.nil)))))
 refine Sim.of_body (E := R8_Fits_env F) Try.func61 R8_Fits_body Try.call61 ?_ ?_
 · intro args hl; unfold R8_Fits_m; split
   · exact absurd hl (Nat.not_lt.2 (Nat.le_of_ble_eq_true rfl))
   · rfl
 · intro args ρ h w z; unfold R8_Fits_m; split
   · rename_i x0 x1 x2; show OKc _ _ [(0, x0), (1, x1), (2, x2)] _ _
     refine rSeq ?_
     refine cLess [2, 1, 0] ?_
     refine xR hE [0, 4, 5] rfl (R8_Fits_r0_ok F _ _ _ _) ?_
     intro x0 x4 x5
     show OKq _ _ _ [(5, x5), (4, x4), (0, x0)] _
     refine rThen ?_
     refine rSeq ?_
     refine rSeq ?_
     refine cLess [5, 4, 0] ?_
     refine xR hE [0, 4, 5, 11] rfl (R8_Fits_r1_ok F _ _ _ _) ?_
     intro x0 x4 x5 x11
     show OKq _ _ _ [(11, x11), (5, x5), (4, x4), (0, x0)] _
     refine rThen ?_
     refine xCond rfl rfl ?_ ?_
     · refine rSeq ?_
       refine cLess [] ?_
       refine xR hE [6] rfl (R8_Fits_r2_ok F _) ?_
       intro x6
       show OKq _ _ _ [(6, x6)] _
       refine rThen ?_
       refine rRet ?_
       refine xThenR ?_
       exact rDone (.inr rfl) rfl
     · refine rSkip ?_
       refine rThen ?_
       refine rSeq ?_
       refine rSeq ?_
       refine cLess [5, 4, 0] ?_
       refine xR hE [0, 4, 5, 13] rfl (R8_Fits_r3_ok F _ _ _ _) ?_
       intro x0 x4 x5 x13
       show OKq _ _ _ [(13, x13), (5, x5), (4, x4), (0, x0)] _
       refine rThen ?_
       refine rBlock ?_
       refine xSeq [0, 4, 5, 13, 14] (R8_Fits_k0 F ) ?_ fun hj0 => ?_
       · intro x0 x4 x5 x13 x14
         show OKc _ _ [(14, x14), (13, x13), (5, x5), (4, x4), (0, x0)] _ _
         refine xCond rfl rfl ?_ ?_
         · refine rSeq ?_
           refine cLess [5, 4] ?_
           refine xR hE [6] rfl (R8_Fits_r6_ok F _ _ _) ?_
           intro x6
           show OKq _ _ _ [(6, x6)] _
           refine rThen ?_
           refine rRet ?_
           refine xBlockR ?_
           refine xThenR ?_
           exact rDone (.inr rfl) rfl
         · refine rSeq ?_
           refine cLess [13, 5, 4, 0] ?_
           refine xR hE [0, 4, 5, 13, 23] rfl (R8_Fits_r7_ok F _ _ _ _ _) ?_
           intro x0 x4 x5 x13 x23
           show OKq _ _ _ [(23, x23), (13, x13), (5, x5), (4, x4), (0, x0)] _
           refine rThen ?_
           refine xCond rfl rfl ?_ ?_
           · refine rSeq ?_
             refine cLess [5, 4] ?_
             refine xR hE [6] rfl (R8_Fits_r8_ok F _ _ _) ?_
             intro x6
             show OKq _ _ _ [(6, x6)] _
             refine rThen ?_
             refine rRet ?_
             refine xBlockR ?_
             refine xThenR ?_
             exact rDone (.inr rfl) rfl
           · refine rSeq ?_
             refine cLess [13, 5, 4, 0] ?_
             refine xR hE [0, 4, 5, 13, 47] rfl (R8_Fits_r9_ok F _ _ _ _ _) ?_
             intro x0 x4 x5 x13 x47
             show OKq _ _ _ [(47, x47), (13, x13), (5, x5), (4, x4), (0, x0)] _
             refine rThen ?_
             refine xCond rfl rfl ?_ ?_
             · refine rSeq ?_
               refine cLess [5, 4] ?_
               refine xR hE [6] rfl (R8_Fits_r10_ok F _ _ _) ?_
               intro x6
               show OKq _ _ _ [(6, x6)] _
               refine rThen ?_
               refine rRet ?_
               refine xBlockR ?_
               refine xThenR ?_
               exact rDone (.inr rfl) rfl
             · refine rSeq ?_
               refine cLess [13, 5, 4, 0] ?_
               refine xR hE [0, 4, 5, 13, 55] rfl (R8_Fits_r11_ok F _ _ _ _ _) ?_
               intro x0 x4 x5 x13 x55
               show OKq _ _ _ [(55, x55), (13, x13), (5, x5), (4, x4), (0, x0)] _
               refine rThen ?_
               refine xCond rfl rfl ?_ ?_
               · refine rSeq ?_
                 refine cLess [5, 4] ?_
                 refine xR hE [6] rfl (R8_Fits_r12_ok F _ _ _) ?_
                 intro x6
                 show OKq _ _ _ [(6, x6)] _
                 refine rThen ?_
                 refine rRet ?_
                 refine xBlockR ?_
                 refine xThenR ?_
                 exact rDone (.inr rfl) rfl
               · refine rSeq ?_
                 refine cLess [13, 5, 4, 0] ?_
                 refine xR hE [0, 4, 5, 13, 63] rfl (R8_Fits_r13_ok F _ _ _ _ _) ?_
                 intro x0 x4 x5 x13 x63
                 show OKq _ _ _ [(63, x63), (13, x13), (5, x5), (4, x4), (0, x0)] _
                 refine rThen ?_
                 refine xCond rfl rfl ?_ ?_
                 · refine rSeq ?_
                   refine cLess [5, 4] ?_
                   refine xD Trymix hE [6] rfl R8_Fits_r14_good (R8_Fits_r14_ok F _ _ _) ?_
                   intro x6
                   show OKq _ _ _ [(6, x6)] _
                   refine rThen ?_
                   refine rRet ?_
                   refine xBlockR ?_
                   refine xThenR ?_
                   exact rDone (.inr rfl) rfl
                 · refine rSeq ?_
                   refine cLess [13, 5, 4, 0] ?_
                   refine xR hE [0, 4, 5, 13, 74] rfl (R8_Fits_r15_ok F _ _ _ _ _) ?_
                   intro x0 x4 x5 x13 x74
                   show OKq _ _ _ [(74, x74), (13, x13), (5, x5), (4, x4), (0, x0)] _
                   refine rThen ?_
                   refine xCond rfl rfl ?_ ?_
                   · refine rSeq ?_
                     refine cLess [5, 4, 0] ?_
                     refine xD Trymix hE [6] rfl R8_Fits_r16_good (R8_Fits_r16_ok F _ _ _ _) ?_
                     intro x6
                     show OKq _ _ _ [(6, x6)] _
                     refine rThen ?_
                     refine rRet ?_
                     refine xBlockR ?_
                     refine xThenR ?_
                     exact rDone (.inr rfl) rfl
                   · refine rSeq ?_
                     refine cLess [13, 5, 4, 0] ?_
                     refine xR hE [0, 4, 5, 13, 104] rfl (R8_Fits_r17_ok F _ _ _ _ _) ?_
                     intro x0 x4 x5 x13 x104
                     show OKq _ _ _ [(104, x104), (13, x13), (5, x5), (4, x4), (0, x0)] _
                     refine rThen ?_
                     refine xCond rfl rfl ?_ ?_
                     · refine rSeq ?_
                       refine cLess [5, 4, 0] ?_
                       refine xD Trymix hE [6] rfl R8_Fits_r18_good (R8_Fits_r18_ok F _ _ _ _) ?_
                       intro x6
                       show OKq _ _ _ [(6, x6)] _
                       refine rThen ?_
                       refine rRet ?_
                       refine xBlockR ?_
                       refine xThenR ?_
                       exact rDone (.inr rfl) rfl
                     · refine rSeq ?_
                       refine cLess [13, 5, 4, 0] ?_
                       refine xR hE [0, 4, 5, 13, 134] rfl (R8_Fits_r19_ok F _ _ _ _ _) ?_
                       intro x0 x4 x5 x13 x134
                       show OKq _ _ _ [(134, x134), (13, x13), (5, x5), (4, x4), (0, x0)] _
                       refine rThen ?_
                       refine xCond rfl rfl ?_ ?_
                       · refine rSeq ?_
                         refine cLess [5, 4] ?_
                         refine xR hE [6] rfl (R8_Fits_r20_ok F _ _ _) ?_
                         intro x6
                         show OKq _ _ _ [(6, x6)] _
                         refine rThen ?_
                         refine rRet ?_
                         refine xBlockR ?_
                         refine xThenR ?_
                         exact rDone (.inr rfl) rfl
                       · refine rSeq ?_
                         refine cLess [13, 5, 4, 0] ?_
                         refine xR hE [0, 4, 5, 13, 142] rfl (R8_Fits_r21_ok F _ _ _ _ _) ?_
                         intro x0 x4 x5 x13 x142
                         show OKq _ _ _ [(142, x142), (13, x13), (5, x5), (4, x4), (0, x0)] _
                         refine rThen ?_
                         refine xCond rfl rfl ?_ ?_
                         · refine rSeq ?_
                           refine cLess [5, 4, 0] ?_
                           refine xD Trymix hE [6] rfl R8_Fits_r22_good (R8_Fits_r22_ok F _ _ _ _) ?_
                           intro x6
                           show OKq _ _ _ [(6, x6)] _
                           refine rThen ?_
                           refine rRet ?_
                           refine xBlockR ?_
                           refine xThenR ?_
                           exact rDone (.inr rfl) rfl
                         · refine rSeq ?_
                           refine cLess [13, 5, 4, 0] ?_
                           refine xR hE [0, 4, 5, 13, 167] rfl (R8_Fits_r23_ok F _ _ _ _ _) ?_
                           intro x0 x4 x5 x13 x167
                           show OKq _ _ _ [(167, x167), (13, x13), (5, x5), (4, x4), (0, x0)] _
                           refine rThen ?_
                           refine xCond rfl rfl ?_ ?_
                           · refine rSeq ?_
                             refine cLess [5, 4, 0] ?_
                             refine xD Trymix hE [6] rfl R8_Fits_r24_good (R8_Fits_r24_ok F _ _ _ _) ?_
                             intro x6
                             show OKq _ _ _ [(6, x6)] _
                             refine rThen ?_
                             refine rRet ?_
                             refine xBlockR ?_
                             refine xThenR ?_
                             exact rDone (.inr rfl) rfl
                           · refine rSeq ?_
                             refine cLess [13, 5, 4, 0] ?_
                             refine xR hE [0, 4, 5, 13, 198] rfl (R8_Fits_r25_ok F _ _ _ _ _) ?_
                             intro x0 x4 x5 x13 x198
                             show OKq _ _ _ [(198, x198), (13, x13), (5, x5), (4, x4), (0, x0)] _
                             refine rThen ?_
                             refine xCond rfl rfl ?_ ?_
                             · refine rSeq ?_
                               refine cLess [5, 4, 0] ?_
                               refine xD Trymix hE [6] rfl R8_Fits_r26_good (R8_Fits_r26_ok F _ _ _ _) ?_
                               intro x6
                               show OKq _ _ _ [(6, x6)] _
                               refine rThen ?_
                               refine rRet ?_
                               refine xBlockR ?_
                               refine xThenR ?_
                               exact rDone (.inr rfl) rfl
                             · refine rSeq ?_
                               refine cLess [13, 5, 4, 0] ?_
                               refine xR hE [0, 4, 5, 13, 219] rfl (R8_Fits_r27_ok F _ _ _ _ _) ?_
                               intro x0 x4 x5 x13 x219
                               show OKq _ _ _ [(219, x219), (13, x13), (5, x5), (4, x4), (0, x0)] _
                               refine rThen ?_
                               refine xCond rfl rfl ?_ ?_
                               · refine rSeq ?_
                                 refine cLess [5, 4, 0] ?_
                                 refine xD Trymix hE [6] rfl R8_Fits_r28_good (R8_Fits_r28_ok F _ _ _ _) ?_
                                 intro x6
                                 show OKq _ _ _ [(6, x6)] _
                                 refine rThen ?_
                                 refine rRet ?_
                                 refine xBlockR ?_
                                 refine xThenR ?_
                                 exact rDone (.inr rfl) rfl
                               · refine rSeq ?_
                                 refine cLess [13, 5, 4, 0] ?_
                                 refine xR hE [0, 4, 5, 244] rfl (R8_Fits_r29_ok F _ _ _ _ _) ?_
                                 intro x0 x4 x5 x244
                                 show OKq _ _ _ [(244, x244), (5, x5), (4, x4), (0, x0)] _
                                 refine rThen ?_
                                 refine xCond rfl rfl ?_ ?_
                                 · refine rSeq ?_
                                   refine cLess [5, 4, 0] ?_
                                   refine xD Trymix hE [6] rfl R8_Fits_r30_good (R8_Fits_r30_ok F _ _ _ _) ?_
                                   intro x6
                                   show OKq _ _ _ [(6, x6)] _
                                   refine rThen ?_
                                   refine rRet ?_
                                   refine xBlockR ?_
                                   refine xThenR ?_
                                   exact rDone (.inr rfl) rfl
                                 · refine rSkip ?_
                                   refine xBlockN ?_
                                   refine rThen ?_
                                   refine rSeq ?_
                                   refine cLess [5, 4] ?_
                                   refine xR hE [6] rfl (R8_Fits_r31_ok F _ _ _) ?_
                                   intro x6
                                   show OKq _ _ _ [(6, x6)] _
                                   refine rThen ?_
                                   refine rRet ?_
                                   exact rDone (.inr rfl) rfl
       · refine rSeq ?_
         refine cLess [13, 5, 4, 0] ?_
         refine xR hE [0, 4, 5, 13, 14] rfl (R8_Fits_r4_ok F _ _ _ _ _) ?_
         intro x0 x4 x5 x13 x14
         show OKq _ _ _ [(14, x14), (13, x13), (5, x5), (4, x4), (0, x0)] _
         refine rThen ?_
         refine xCond rfl rfl ?_ ?_
         · refine rSkip ?_
           exact qLess [14, 13, 5, 4, 0] (hj0 x0 x4 x5 x13 x14)
         · refine cLess [13, 5, 4, 0] ?_
           refine xR hE [0, 4, 5, 13, 14] rfl (R8_Fits_r5_ok F _ _ _ _ _) ?_
           intro x0 x4 x5 x13 x14
           show OKq _ _ _ [(14, x14), (13, x13), (5, x5), (4, x4), (0, x0)] _
           exact qLess [14, 13, 5, 4, 0] (hj0 x0 x4 x5 x13 x14)
   · exact rFail


/-! ### slices.insertionSortOrdered[int] -/

def slices_insertionSortOrdered_env (F : Nat) : Env := envOf [(77, cmp_Less_m F)]

noncomputable def slices_insertionSortOrdered_R (F : Nat) := rK Try.prog TryG (slices_insertionSortOrdered_env F) Try.f71
noncomputable def slices_insertionSortOrdered_D (F : Nat) := dK Try.prog TryG (slices_insertionSortOrdered_env F) Try.f71

def slices_insertionSortOrdered_r2 (F : Nat) (x0 x1 x2 x6 : Value) (K : Value → Value → Value → Value → M Value) : M Value :=
  bnd (opBin .add x6 (.int .i64 (1))) fun v14 => K x0 x1 x2 v14

theorem slices_insertionSortOrdered_r2_ok (F : Nat) (x0 x1 x2 x6 : Value) (K : Value → Value → Value → Value → M Value) : slices_insertionSortOrdered_r2 F x0 x1 x2 x6 K = slices_insertionSortOrdered_R F 2 [(6, x6), (2, x2), (1, x1), (0, x0)] [0, 1, 2, 6] K := by kernel_rfl

def slices_insertionSortOrdered_k1 (F : Nat) (A0 : Value → Value → Value → Value → M Value) (x0 x1 x2 x6 : Value) : M Value :=
  slices_insertionSortOrdered_r2 F x0 x1 x2 x6 (fun x0 x1 x2 x6 => A0 x0 x1 x2 x6)

def slices_insertionSortOrdered_r5 (F : Nat) (x0 x1 x2 x6 x7 : Value) (K : Value → Value → Value → Value → Value → M Value) : M Value :=
  bnd (opBin .sub x7 (.int .i64 (1))) fun v32 => K x0 x1 x2 x6 v32

theorem slices_insertionSortOrdered_r5_ok (F : Nat) (x0 x1 x2 x6 x7 : Value) (K : Value → Value → Value → Value → Value → M Value) : slices_insertionSortOrdered_r5 F x0 x1 x2 x6 x7 K = slices_insertionSortOrdered_R F 5 [(7, x7), (6, x6), (2, x2), (1, x1), (0, x0)] [0, 1, 2, 6, 7] K := by kernel_rfl

def slices_insertionSortOrdered_r6 (F : Nat) (x0 x1 x2 x6 x7 : Value) (K : Value → Value → Value → Value → Value → M Value) : M Value :=
  bnd (opBin .sub x7 (.int .i64 (1))) fun v37 => bnd (opBin .sub x7 (.int .i64 (1))) fun v40 => bnd (opIndexAddr 1 x0 v40) fun v41 => bnd (opLoad v41) fun v42 => bnd (opIndexAddr 1 x0 x7) fun v45 => bnd (opLoad v45) fun v46 => bnd (opIndexAddr 1 x0 x7) fun v47 => bnd (opStore v47 v42) fun _ => bnd (opIndexAddr 1 x0 v37) fun v48 => bnd (opStore v48 v46) fun _ => K x0 x1 x2 x6 x7

theorem slices_insertionSortOrdered_r6_ok (F : Nat) (x0 x1 x2 x6 x7 : Value) (K : Value → Value → Value → Value → Value → M Value) : slices_insertionSortOrdered_r6 F x0 x1 x2 x6 x7 K = slices_insertionSortOrdered_D F 6 [0, 1, 2, 3, 4, 5, 6, 7, 8, 9, 10, 11, 12, 13, 14, 15, 16, 17] [(7, x7), (6, x6), (2, x2), (1, x1), (0, x0)] [0, 1, 2, 6, 7] K := by kernel_rfl

theorem slices_insertionSortOrdered_r6_good : goodOrder (opsOf Try.f71 6) [0, 1, 2, 3, 4, 5, 6, 7, 8, 9, 10, 11, 12, 13, 14, 15, 16, 17] = true := by kernel_rfl

def slices_insertionSortOrdered_r4 (F : Nat) (x0 x1 x2 x6 x7 : Value) (K : Value → Value → Value → Value → Value → Value → M Value) : M Value :=
  bnd (opBin .gtr x7 x1) fun v18 => onB v18 (bnd (opIndexAddr 1 x0 x7) fun v22 => bnd (opLoad v22) fun v23 => bnd (opBin .sub x7 (.int .i64 (1))) fun v26 => bnd (opIndexAddr 1 x0 v26) fun v27 => bnd (opLoad v27) fun v28 => bnd (cmp_Less F v23 v28) fun v29 => K x0 x1 x2 x6 x7 v29) (K x0 x1 x2 x6 x7 (.bool false))

theorem slices_insertionSortOrdered_r4_ok (F : Nat) (x0 x1 x2 x6 x7 : Value) (K : Value → Value → Value → Value → Value → Value → M Value) : slices_insertionSortOrdered_r4 F x0 x1 x2 x6 x7 K = slices_insertionSortOrdered_D F 4 [0, 1, 2, 3, 4, 5, 6, 7, 8, 9, 10, 11, 12, 13, 14] [(7, x7), (6, x6), (2, x2), (1, x1), (0, x0)] [0, 1, 2, 6, 7, 30] K := by kernel_rfl

theorem slices_insertionSortOrdered_r4_good : goodOrder (opsOf Try.f71 4) [0, 1, 2, 3, 4, 5, 6, 7, 8, 9, 10, 11, 12, 13, 14] = true := by kernel_rfl

def slices_insertionSortOrdered_b2 (F : Nat) (E2_2 : Value → Value → Value → Value → M Value) (A2 : Value → Value → Value → Value → Value → M Value) (x0 x1 x2 x6 x7 : Value) : M Value :=
  slices_insertionSortOrdered_r4 F x0 x1 x2 x6 x7 (fun x0 x1 x2 x6 x7 x30 => onB x30 (slices_insertionSortOrdered_r6 F x0 x1 x2 x6 x7 (fun x0 x1 x2 x6 x7 => slices_insertionSortOrdered_r5 F x0 x1 x2 x6 x7 (fun x0 x1 x2 x6 x7 => A2 x0 x1 x2 x6 x7))) (E2_2 x0 x1 x2 x6))

def slices_insertionSortOrdered_l2 (F : Nat) (E2_2 : Value → Value → Value → Value → M Value) : Nat → Value → Value → Value → Value → Value → M Value
  | 0, _, _, _, _, _ => fail
  | k2 + 1, x0, x1, x2, x6, x7 => slices_insertionSortOrdered_b2 F E2_2 (slices_insertionSortOrdered_l2 F E2_2 k2) x0 x1 x2 x6 x7

theorem slices_insertionSortOrdered_l2_s (F : Nat) (E2_2 : Value → Value → Value → Value → M Value) (k2 : Nat) (x0 x1 x2 x6 x7 : Value) : slices_insertionSortOrdered_l2 F E2_2 (k2 + 1) x0 x1 x2 x6 x7 = slices_insertionSortOrdered_b2 F E2_2 (slices_insertionSortOrdered_l2 F E2_2 k2) x0 x1 x2 x6 x7 := rfl

def slices_insertionSortOrdered_r3 (F : Nat) (x0 x1 x2 x6 : Value) (K : Value → Value → Value → Value → Value → M Value) : M Value :=
  K x0 x1 x2 x6 x6

theorem slices_insertionSortOrdered_r3_ok (F : Nat) (x0 x1 x2 x6 : Value) (K : Value → Value → Value → Value → Value → M Value) : slices_insertionSortOrdered_r3 F x0 x1 x2 x6 K = slices_insertionSortOrdered_R F 3 [(6, x6), (2, x2), (1, x1), (0, x0)] [0, 1, 2, 6, 7] K := by kernel_rfl

def slices_insertionSortOrdered_r1 (F : Nat) (x0 x1 x2 x6 : Value) (K : Value → Value → Value → Value → Value → M Value) : M Value :=
  bnd (opBin .lss x6 x2) fun v12 => K x0 x1 x2 x6 v12

theorem slices_insertionSortOrdered_r1_ok (F : Nat) (x0 x1 x2 x6 : Value) (K : Value → Value → Value → Value → Value → M Value) : slices_insertionSortOrdered_r1 F x0 x1 x2 x6 K = slices_insertionSortOrdered_R F 1 [(6, x6), (2, x2), (1, x1), (0, x0)] [0, 1, 2, 6, 12] K := by kernel_rfl

def slices_insertionSortOrdered_b0 (F : Nat) (E0_0 : M Value) (A0 : Value → Value → Value → Value → M Value) (x0 x1 x2 x6 : Value) : M Value :=
  slices_insertionSortOrdered_r1 F x0 x1 x2 x6 (fun x0 x1 x2 x6 x12 => onB x12 (slices_insertionSortOrdered_r3 F x0 x1 x2 x6 (fun x0 x1 x2 x6 x7 => slices_insertionSortOrdered_l2 F (fun x0 x1 x2 x6 => slices_insertionSortOrdered_k1 F A0 x0 x1 x2 x6) F x0 x1 x2 x6 x7)) (E0_0 ))

def slices_insertionSortOrdered_l0 (F : Nat) (E0_0 : M Value) : Nat → Value → Value → Value → Value → M Value
  | 0, _, _, _, _ => fail
  | k0 + 1, x0, x1, x2, x6 => slices_insertionSortOrdered_b0 F E0_0 (slices_insertionSortOrdered_l0 F E0_0 k0) x0 x1 x2 x6

theorem slices_insertionSortOrdered_l0_s (F : Nat) (E0_0 : M Value) (k0 : Nat) (x0 x1 x2 x6 : Value) : slices_insertionSortOrdered_l0 F E0_0 (k0 + 1) x0 x1 x2 x6 = slices_insertionSortOrdered_b0 F E0_0 (slices_insertionSortOrdered_l0 F E0_0 k0) x0 x1 x2 x6 := rfl

def slices_insertionSortOrdered_r0 (F : Nat) (x0 x1 x2 : Value) (K : Value → Value → Value → Value → M Value) : M Value :=
  bnd (opBin .add x1 (.int .i64 (1))) fun v9 => K x0 x1 x2 v9

theorem slices_insertionSortOrdered_r0_ok (F : Nat) (x0 x1 x2 : Value) (K : Value → Value → Value → Value → M Value) : slices_insertionSortOrdered_r0 F x0 x1 x2 K = slices_insertionSortOrdered_R F 0 [(2, x2), (1, x1), (0, x0)] [0, 1, 2, 6] K := by kernel_rfl

def slices_insertionSortOrdered (F : Nat) (x0 x1 x2 : Value) : M Value :=
  slices_insertionSortOrdered_r0 F x0 x1 x2 (fun x0 x1 x2 x6 => slices_insertionSortOrdered_l0 F (tupK []) F x0 x1 x2 x6)

def slices_insertionSortOrdered_m (F : Nat) : List Value → M Value
  | [x0, x1, x2] => slices_insertionSortOrdered F x0 x1 x2
  | _ => fail

theorem slices_insertionSortOrdered_body : Try.f71.body = some (.seq (.region 0 (opsOf Try.f71 0) false) (.block 0 (.loop (.seq (.seq (.region 1 (opsOf Try.f71 1) false) (.cond (.tmp 12) .skip (.exit 0))) (.seq (.block 1 (.seq (.region 3 (opsOf Try.f71 3) false) (.block 2 (.loop (.seq (.seq (.region 4 (opsOf Try.f71 4) true) (.cond (.tmp 30) .skip (.exit 2))) (.seq (.block 3 (.region 6 (opsOf Try.f71 6) true)) (.region 5 (opsOf Try.f71 5) false))))))) (.region 2 (opsOf Try.f71 2) false)))))) := by kernel_rfl

theorem slices_insertionSortOrdered_ok (F : Nat) : Sim Try.prog TryG 71 (slices_insertionSortOrdered_m F) := by
 have hE : EnvOK Try.prog TryG (slices_insertionSortOrdered_env F) := (EnvOK.cons (cmp_Less_ok F) EnvOK.nil)
 refine Sim.of_body (E := slices_insertionSortOrdered_env F) Try.func71 slices_insertionSortOrdered_body Try.call71 ?_ ?_
 · intro args hl; unfold slices_insertionSortOrdered_m; split
   · exact absurd hl (Nat.not_lt.2 (Nat.le_of_ble_eq_true rfl))
   · rfl
 · intro args ρ h w z; unfold slices_insertionSortOrdered_m; split
   · rename_i x0 x1 x2; show OKc _ _ [(0, x0), (1, x1), (2, x2)] _ _
     refine rSeq ?_
     refine cLess [2, 1, 0] ?_
     refine xR hE [0, 1, 2, 6] rfl (slices_insertionSortOrdered_r0_ok F _ _ _ _) ?_
     intro x0 x1 x2 x6
     show OKq _ _ _ [(6, x6), (2, x2), (1, x1), (0, x0)] _
     refine rThen ?_
     refine rBlock ?_
     refine cLess [6, 2, 1, 0] ?_
     refine xLoopAt [0, 1, 2, 6] [] (fun k0 => slices_insertionSortOrdered_l0 F (tupK []) k0) F [x0, x1, x2, x6] rfl rfl (fun _ _ _ _ => rfl) fun I hI0 k0 => ?_
     intro x0 x1 x2 x6
     show OKc _ _ [(6, x6), (2, x2), (1, x1), (0, x0)] _ _
     refine cAs (slices_insertionSortOrdered_l0_s F _ _ _ _ _ _) ?_
     refine rSeq ?_
     refine rSeq ?_
     refine cLess [6, 2, 1, 0] ?_
     refine xR hE [0, 1, 2, 6, 12] rfl (slices_insertionSortOrdered_r1_ok F _ _ _ _ _) ?_
     intro x0 x1 x2 x6 x12
     show OKq _ _ _ [(12, x12), (6, x6), (2, x2), (1, x1), (0, x0)] _
     refine rThen ?_
     refine xCond rfl rfl ?_ ?_
     · refine rSkip ?_
       refine rThen ?_
       refine xSeq [0, 1, 2, 6] (slices_insertionSortOrdered_k1 F (slices_insertionSortOrdered_l0 F (tupK []) k0) ) ?_ fun hj1 => ?_
       · intro x0 x1 x2 x6
         show OKc _ _ [(6, x6), (2, x2), (1, x1), (0, x0)] _ _
         refine cLess [6, 2, 1, 0] ?_
         refine xR hE [0, 1, 2, 6] rfl (slices_insertionSortOrdered_r2_ok F _ _ _ _ _) ?_
         intro x0 x1 x2 x6
         show OKq _ _ _ [(6, x6), (2, x2), (1, x1), (0, x0)] _
         exact qLess [6, 2, 1, 0] (hI0 k0 x0 x1 x2 x6)
       · refine rBlock ?_
         refine rSeq ?_
         refine cLess [6, 2, 1, 0] ?_
         refine xR hE [0, 1, 2, 6, 7] rfl (slices_insertionSortOrdered_r3_ok F _ _ _ _ _) ?_
         intro x0 x1 x2 x6 x7
         show OKq _ _ _ [(7, x7), (6, x6), (2, x2), (1, x1), (0, x0)] _
         refine rThen ?_
         refine rBlock ?_
         refine cLess [7, 6, 2, 1, 0] ?_
         refine xLoopAt [0, 1, 2, 6, 7] [] (fun k2 => slices_insertionSortOrdered_l2 F (fun x0 x1 x2 x6 => slices_insertionSortOrdered_k1 F (slices_insertionSortOrdered_l0 F (tupK []) k0) x0 x1 x2 x6) k2) F [x0, x1, x2, x6, x7] rfl rfl (fun _ _ _ _ _ => rfl) fun I hI2 k2 => ?_
         intro x0 x1 x2 x6 x7
         show OKc _ _ [(7, x7), (6, x6), (2, x2), (1, x1), (0, x0)] _ _
         refine cAs (slices_insertionSortOrdered_l2_s F _ _ _ _ _ _ _) ?_
         refine rSeq ?_
         refine rSeq ?_
         refine cLess [7, 6, 2, 1, 0] ?_
         refine xD Trymix hE [0, 1, 2, 6, 7, 30] rfl slices_insertionSortOrdered_r4_good (slices_insertionSortOrdered_r4_ok F _ _ _ _ _ _) ?_
         intro x0 x1 x2 x6 x7 x30
         show OKq _ _ _ [(30, x30), (7, x7), (6, x6), (2, x2), (1, x1), (0, x0)] _
         refine rThen ?_
         refine xCond rfl rfl ?_ ?_
         · refine rSkip ?_
           refine rThen ?_
           refine rSeq ?_
           refine rBlock ?_
           refine cLess [7, 6, 2, 1, 0] ?_
           refine xD Trymix hE [0, 1, 2, 6, 7] rfl slices_insertionSortOrdered_r6_good (slices_insertionSortOrdered_r6_ok F _ _ _ _ _ _) ?_
           intro x0 x1 x2 x6 x7
           show OKq _ _ _ [(7, x7), (6, x6), (2, x2), (1, x1), (0, x0)] _
           refine xBlockN ?_
           refine rThen ?_
           refine cLess [7, 6, 2, 1, 0] ?_
           refine xR hE [0, 1, 2, 6, 7] rfl (slices_insertionSortOrdered_r5_ok F _ _ _ _ _ _) ?_
           intro x0 x1 x2 x6 x7
           show OKq _ _ _ [(7, x7), (6, x6), (2, x2), (1, x1), (0, x0)] _
           exact qLess [7, 6, 2, 1, 0] (hI2 k2 x0 x1 x2 x6 x7)
         · refine rExit ?_
           refine xThenX ?_
           refine xThenX ?_
           refine rOut ?_
           refine xBlockN ?_
           exact qLess [6, 2, 1, 0] (hj1 x0 x1 x2 x6)
     · refine rExit ?_
       refine xThenX ?_
       refine xThenX ?_
       refine rOut ?_
       exact rDone (.inl rfl) rfl
   · exact rFail


/-! ### haruspex/reach.Of -/

def reach_Of_env (F : Nat) : Env := envOf [(47, ir_Number_m F), (48, ir_Next_m F)]

noncomputable def reach_Of_R (F : Nat) := rK Try.prog TryG (reach_Of_env F) Try.f29
noncomputable def reach_Of_D (F : Nat) := dK Try.prog TryG (reach_Of_env F) Try.f29

def reach_Of_r21 (F : Nat) (x6 : Value) (K : Value → M Value) : M Value :=
  K x6

theorem reach_Of_r21_ok (F : Nat) (x6 : Value) (K : Value → M Value) : reach_Of_r21 F x6 K = reach_Of_R F 21 [(6, x6)] [4] K := by kernel_rfl

def reach_Of_k0 (F : Nat) (x6 : Value) : M Value :=
  reach_Of_r21 F x6 (fun x4 => ret x4)

def reach_Of_r20 (F : Nat) (x0 x5 x6 x47 x48 : Value) (K : Value → Value → Value → Value → Value → M Value) : M Value :=
  bnd (opBin .add x48 (.int .i64 (1))) fun v84 => K x0 x5 x6 x47 v84

theorem reach_Of_r20_ok (F : Nat) (x0 x5 x6 x47 x48 : Value) (K : Value → Value → Value → Value → Value → M Value) : reach_Of_r20 F x0 x5 x6 x47 x48 K = reach_Of_R F 20 [(48, x48), (47, x47), (6, x6), (5, x5), (0, x0)] [0, 5, 6, 47, 48] K := by kernel_rfl

def reach_Of_k2 (F : Nat) (A1 : Value → Value → Value → Value → Value → M Value) (x0 x5 x6 x47 x48 : Value) : M Value :=
  reach_Of_r20 F x0 x5 x6 x47 x48 (fun x0 x5 x6 x47 x48 => A1 x0 x5 x6 x47 x48)

def reach_Of_r19 (F : Nat) (x0 x5 x6 x10 x47 x48 x55 x56 x57 : Value) (K : Value → Value → Value → Value → Value → Value → Value → Value → Value → M Value) : M Value :=
  bnd (opBin .add x57 (.int .i64 (1))) fun v83 => K x0 x5 x6 x10 x47 x48 x55 x56 v83

theorem reach_Of_r19_ok (F : Nat) (x0 x5 x6 x10 x47 x48 x55 x56 x57 : Value) (K : Value → Value → Value → Value → Value → Value → Value → Value → Value → M Value) : reach_Of_r19 F x0 x5 x6 x10 x47 x48 x55 x56 x57 K = reach_Of_R F 19 [(57, x57), (56, x56), (55, x55), (48, x48), (47, x47), (10, x10), (6, x6), (5, x5), (0, x0)] [0, 5, 6, 10, 47, 48, 55, 56, 57] K := by kernel_rfl

def reach_Of_r18 (F : Nat) (x0 x5 x6 x10 x12 x47 x48 x55 x56 x57 : Value) (K : Value → Value → Value → Value → Value → Value → Value → Value → Value → M Value) : M Value :=
  bnd (opNil x6) fun v62 => bnd (opFieldAddr 1 v62) fun v63 => bnd (opLoad v63) fun v64 => bnd (opBin .sub x12 x5) fun v67 => bnd (opNil x6) fun v69 => bnd (opFieldAddr 1 v69) fun v70 => bnd (opLoad v70) fun v71 => bnd (opBin .sub x12 x5) fun v74 => bnd (opIndexAddr 1 v71 v74) fun v75 => bnd (opLoad v75) fun v76 => bnd (opBin .add x5 x10) fun v79 => bnd (opBuildSlice 1 (rep 1 [(.int .i64 (0))]) [(0, 1, false, v79)]) fun v80 => bnd (opAppend 1 8 v76 v80) fun v81 => bnd (opChk false v63 v64) fun _ => bnd (opIndexAddr 1 v64 v67) fun v82 => bnd (opStore v82 v81) fun _ => K x0 x5 x6 x10 x47 x48 x55 x56 x57

theorem reach_Of_r18_ok (F : Nat) (x0 x5 x6 x10 x12 x47 x48 x55 x56 x57 : Value) (K : Value → Value → Value → Value → Value → Value → Value → Value → Value → M Value) : reach_Of_r18 F x0 x5 x6 x10 x12 x47 x48 x55 x56 x57 K = reach_Of_D F 18 [0, 1, 2, 3, 4, 5, 6, 7, 8, 9, 10, 11, 12, 13, 14, 15, 16, 17, 18, 19, 20, 21, 22] [(57, x57), (56, x56), (55, x55), (48, x48), (47, x47), (12, x12), (10, x10), (6, x6), (5, x5), (0, x0)] [0, 5, 6, 10, 47, 48, 55, 56, 57] K := by kernel_rfl

theorem reach_Of_r18_good : goodOrder (opsOf Try.f29 18) [0, 1, 2, 3, 4, 5, 6, 7, 8, 9, 10, 11, 12, 13, 14, 15, 16, 17, 18, 19, 20, 21, 22] = true := by kernel_rfl

def reach_Of_r17 (F : Nat) (x0 x5 x6 x10 x47 x48 x55 x56 x57 : Value) (K : Value → Value → Value → Value → Value → Value → Value → Value → Value → Value → M Value) : M Value :=
  bnd (opIndexAddr 1 x55 x57) fun v59 => bnd (opLoad v59) fun v60 => K x0 x5 x6 x10 v60 x47 x48 x55 x56 x57

theorem reach_Of_r17_ok (F : Nat) (x0 x5 x6 x10 x47 x48 x55 x56 x57 : Value) (K : Value → Value → Value → Value → Value → Value → Value → Value → Value → Value → M Value) : reach_Of_r17 F x0 x5 x6 x10 x47 x48 x55 x56 x57 K = reach_Of_R F 17 [(57, x57), (56, x56), (55, x55), (48, x48), (47, x47), (10, x10), (6, x6), (5, x5), (0, x0)] [0, 5, 6, 10, 12, 47, 48, 55, 56, 57] K := by kernel_rfl

def reach_Of_r16 (F : Nat) (x0 x5 x6 x10 x47 x48 x55 x56 x57 : Value) (K : Value → Value → Value → Value → Value → Value → Value → Value → Value → Value → M Value) : M Value :=
  bnd (opBin .lss x57 x56) fun v58 => K x0 x5 x6 x10 x47 x48 x55 x56 x57 v58

theorem reach_Of_r16_ok (F : Nat) (x0 x5 x6 x10 x47 x48 x55 x56 x57 : Value) (K : Value → Value → Value → Value → Value → Value → Value → Value → Value → Value → M Value) : reach_Of_r16 F x0 x5 x6 x10 x47 x48 x55 x56 x57 K = reach_Of_R F 16 [(57, x57), (56, x56), (55, x55), (48, x48), (47, x47), (10, x10), (6, x6), (5, x5), (0, x0)] [0, 5, 6, 10, 47, 48, 55, 56, 57, 58] K := by kernel_rfl

def reach_Of_b3 (F : Nat) (E3_4 : Value → Value → Value → Value → Value → M Value) (A3 : Value → Value → Value → Value → Value → Value → Value → Value → Value → M Value) (x0 x5 x6 x10 x47 x48 x55 x56 x57 : Value) : M Value :=
  reach_Of_r16 F x0 x5 x6 x10 x47 x48 x55 x56 x57 (fun x0 x5 x6 x10 x47 x48 x55 x56 x57 x58 => onB x58 (reach_Of_r17 F x0 x5 x6 x10 x47 x48 x55 x56 x57 (fun x0 x5 x6 x10 x12 x47 x48 x55 x56 x57 => reach_Of_r18 F x0 x5 x6 x10 x12 x47 x48 x55 x56 x57 (fun x0 x5 x6 x10 x47 x48 x55 x56 x57 => reach_Of_r19 F x0 x5 x6 x10 x47 x48 x55 x56 x57 (fun x0 x5 x6 x10 x47 x48 x55 x56 x57 => A3 x0 x5 x6 x10 x47 x48 x55 x56 x57)))) (E3_4 x0 x5 x6 x47 x48))

def reach_Of_l3 (F : Nat) (E3_4 : Value → Value → Value → Value → Value → M Value) : Nat → Value → Value → Value → Value → Value → Value → Value → Value → Value → M Value
  | 0, _, _, _, _, _, _, _, _, _ => fail
  | k3 + 1, x0, x5, x6, x10, x47, x48, x55, x56, x57 => reach_Of_b3 F E3_4 (reach_Of_l3 F E3_4 k3) x0 x5 x6 x10 x47 x48 x55 x56 x57

theorem reach_Of_l3_s (F : Nat) (E3_4 : Value → Value → Value → Value → Value → M Value) (k3 : Nat) (x0 x5 x6 x10 x47 x48 x55 x56 x57 : Value) : reach_Of_l3 F E3_4 (k3 + 1) x0 x5 x6 x10 x47 x48 x55 x56 x57 = reach_Of_b3 F E3_4 (reach_Of_l3 F E3_4 k3) x0 x5 x6 x10 x47 x48 x55 x56 x57 := rfl

def reach_Of_r15 (F : Nat) (x0 x5 x6 x10 x47 x48 : Value) (K : Value → Value → Value → Value → Value → Value → Value → Value → Value → M Value) : M Value :=
  bnd (opBin .add x5 x10) fun v54 => bnd (ir_Next F x0 v54) fun v55 => bnd (opLen v55) fun v56 => K x0 x5 x6 x10 x47 x48 v55 v56 (.int .i64 (0))

theorem reach_Of_r15_ok (F : Nat) (x0 x5 x6 x10 x47 x48 : Value) (K : Value → Value → Value → Value → Value → Value → Value → Value → Value → M Value) : reach_Of_r15 F x0 x5 x6 x10 x47 x48 K = reach_Of_R F 15 [(48, x48), (47, x47), (10, x10), (6, x6), (5, x5), (0, x0)] [0, 5, 6, 10, 47, 48, 55, 56, 57] K := by kernel_rfl

def reach_Of_r14 (F : Nat) (x0 x5 x6 x47 x48 : Value) (K : Value → Value → Value → Value → Value → Value → M Value) : M Value :=
  K x0 x5 x6 x48 x47 x48

theorem reach_Of_r14_ok (F : Nat) (x0 x5 x6 x47 x48 : Value) (K : Value → Value → Value → Value → Value → Value → M Value) : reach_Of_r14 F x0 x5 x6 x47 x48 K = reach_Of_R F 14 [(48, x48), (47, x47), (6, x6), (5, x5), (0, x0)] [0, 5, 6, 10, 47, 48] K := by kernel_rfl

def reach_Of_r13 (F : Nat) (x0 x5 x6 x47 x48 : Value) (K : Value → Value → Value → Value → Value → Value → M Value) : M Value :=
  bnd (opBin .lss x48 x47) fun v49 => K x0 x5 x6 x47 x48 v49

theorem reach_Of_r13_ok (F : Nat) (x0 x5 x6 x47 x48 : Value) (K : Value → Value → Value → Value → Value → Value → M Value) : reach_Of_r13 F x0 x5 x6 x47 x48 K = reach_Of_R F 13 [(48, x48), (47, x47), (6, x6), (5, x5), (0, x0)] [0, 5, 6, 47, 48, 49] K := by kernel_rfl

def reach_Of_b1 (F : Nat) (E1_2 : Value → M Value) (A1 : Value → Value → Value → Value → Value → M Value) (x0 x5 x6 x47 x48 : Value) : M Value :=
  reach_Of_r13 F x0 x5 x6 x47 x48 (fun x0 x5 x6 x47 x48 x49 => onB x49 (reach_Of_r14 F x0 x5 x6 x47 x48 (fun x0 x5 x6 x10 x47 x48 => reach_Of_r15 F x0 x5 x6 x10 x47 x48 (fun x0 x5 x6 x10 x47 x48 x55 x56 x57 => reach_Of_l3 F (fun x0 x5 x6 x47 x48 => reach_Of_k2 F A1 x0 x5 x6 x47 x48) F x0 x5 x6 x10 x47 x48 x55 x56 x57))) (E1_2 x6))

def reach_Of_l1 (F : Nat) (E1_2 : Value → M Value) : Nat → Value → Value → Value → Value → Value → M Value
  | 0, _, _, _, _, _ => fail
  | k1 + 1, x0, x5, x6, x47, x48 => reach_Of_b1 F E1_2 (reach_Of_l1 F E1_2 k1) x0 x5 x6 x47 x48

theorem reach_Of_l1_s (F : Nat) (E1_2 : Value → M Value) (k1 : Nat) (x0 x5 x6 x47 x48 : Value) : reach_Of_l1 F E1_2 (k1 + 1) x0 x5 x6 x47 x48 = reach_Of_b1 F E1_2 (reach_Of_l1 F E1_2 k1) x0 x5 x6 x47 x48 := rfl

def reach_Of_r12 (F : Nat) (x0 x5 x6 x7 : Value) (K : Value → Value → Value → Value → Value → M Value) : M Value :=
  K x0 x5 x6 x7 (.int .i64 (0))

theorem reach_Of_r12_ok (F : Nat) (x0 x5 x6 x7 : Value) (K : Value → Value → Value → Value → Value → M Value) : reach_Of_r12 F x0 x5 x6 x7 K = reach_Of_R F 12 [(7, x7), (6, x6), (5, x5), (0, x0)] [0, 5, 6, 47, 48] K := by kernel_rfl

def reach_Of_r11 (F : Nat) (x0 x5 x6 x7 : Value) (K : Value → Value → Value → Value → M Value) : M Value :=
  bnd (opMake 24 [(.slice none 0 0)] x7 x7) fun v44 => bnd (opNil x6) fun v45 => bnd (opFieldAddr 1 v45) fun v46 => bnd (opStore v46 v44) fun _ => K x0 x5 x6 x7

theorem reach_Of_r11_ok (F : Nat) (x0 x5 x6 x7 : Value) (K : Value → Value → Value → Value → M Value) : reach_Of_r11 F x0 x5 x6 x7 K = reach_Of_R F 11 [(7, x7), (6, x6), (5, x5), (0, x0)] [0, 5, 6, 7] K := by kernel_rfl

def reach_Of_k4 (F : Nat) (x0 x5 x6 x7 : Value) : M Value :=
  reach_Of_r11 F x0 x5 x6 x7 (fun x0 x5 x6 x7 => reach_Of_r12 F x0 x5 x6 x7 (fun x0 x5 x6 x47 x48 => reach_Of_l1 F (fun x6 => reach_Of_k0 F x6) F x0 x5 x6 x47 x48))

def reach_Of_r10 (F : Nat) (x0 x5 x6 x7 x29 x30 x31 : Value) (K : Value → Value → Value → Value → Value → Value → Value → M Value) : M Value :=
  bnd (opBin .add x31 (.int .i64 (1))) fun v41 => K x0 x5 x6 x7 x29 x30 v41

theorem reach_Of_r10_ok (F : Nat) (x0 x5 x6 x7 x29 x30 x31 : Value) (K : Value → Value → Value → Value → Value → Value → Value → M Value) : reach_Of_r10 F x0 x5 x6 x7 x29 x30 x31 K = reach_Of_R F 10 [(31, x31), (30, x30), (29, x29), (7, x7), (6, x6), (5, x5), (0, x0)] [0, 5, 6, 7, 29, 30, 31] K := by kernel_rfl

def reach_Of_r9 (F : Nat) (x0 x5 x6 x7 x9 x29 x30 x31 : Value) (K : Value → Value → Value → Value → Value → Value → Value → M Value) : M Value :=
  bnd (opFieldAddr 0 x9) fun v36 => bnd (opLoad v36) fun v37 => bnd (opLen v37) fun v38 => bnd (opBin .add v38 (.int .i64 (1))) fun v39 => bnd (opBin .add x7 v39) fun v40 => K x0 x5 x6 v40 x29 x30 x31

theorem reach_Of_r9_ok (F : Nat) (x0 x5 x6 x7 x9 x29 x30 x31 : Value) (K : Value → Value → Value → Value → Value → Value → Value → M Value) : reach_Of_r9 F x0 x5 x6 x7 x9 x29 x30 x31 K = reach_Of_R F 9 [(31, x31), (30, x30), (29, x29), (9, x9), (7, x7), (6, x6), (5, x5), (0, x0)] [0, 5, 6, 7, 29, 30, 31] K := by kernel_rfl

def reach_Of_r8 (F : Nat) (x0 x5 x6 x7 x29 x30 x31 : Value) (K : Value → Value → Value → Value → Value → Value → Value → Value → M Value) : M Value :=
  bnd (opIndexAddr 5 x29 x31) fun v33 => bnd (opLoadN 5 v33) fun v34 => bnd (opPtr [(.slice none 0 0), (.int .i64 (0)), (.int .i64 (0)), (.int .i64 (0)), (.int .i64 (0))]) fun v9 => bnd (opStoreN 5 v9 v34) fun _ => K x0 x5 x6 x7 v9 x29 x30 x31

theorem reach_Of_r8_ok (F : Nat) (x0 x5 x6 x7 x29 x30 x31 : Value) (K : Value → Value → Value → Value → Value → Value → Value → Value → M Value) : reach_Of_r8 F x0 x5 x6 x7 x29 x30 x31 K = reach_Of_R F 8 [(31, x31), (30, x30), (29, x29), (7, x7), (6, x6), (5, x5), (0, x0)] [0, 5, 6, 7, 9, 29, 30, 31] K := by kernel_rfl

def reach_Of_r7 (F : Nat) (x0 x5 x6 x7 x29 x30 x31 : Value) (K : Value → Value → Value → Value → Value → Value → Value → Value → M Value) : M Value :=
  bnd (opBin .lss x31 x30) fun v32 => K x0 x5 x6 x7 x29 x30 x31 v32

theorem reach_Of_r7_ok (F : Nat) (x0 x5 x6 x7 x29 x30 x31 : Value) (K : Value → Value → Value → Value → Value → Value → Value → Value → M Value) : reach_Of_r7 F x0 x5 x6 x7 x29 x30 x31 K = reach_Of_R F 7 [(31, x31), (30, x30), (29, x29), (7, x7), (6, x6), (5, x5), (0, x0)] [0, 5, 6, 7, 29, 30, 31, 32] K := by kernel_rfl

def reach_Of_b5 (F : Nat) (E5_0 : Value → Value → Value → Value → M Value) (A5 : Value → Value → Value → Value → Value → Value → Value → M Value) (x0 x5 x6 x7 x29 x30 x31 : Value) : M Value :=
  reach_Of_r7 F x0 x5 x6 x7 x29 x30 x31 (fun x0 x5 x6 x7 x29 x30 x31 x32 => onB x32 (reach_Of_r8 F x0 x5 x6 x7 x29 x30 x31 (fun x0 x5 x6 x7 x9 x29 x30 x31 => reach_Of_r9 F x0 x5 x6 x7 x9 x29 x30 x31 (fun x0 x5 x6 x7 x29 x30 x31 => reach_Of_r10 F x0 x5 x6 x7 x29 x30 x31 (fun x0 x5 x6 x7 x29 x30 x31 => A5 x0 x5 x6 x7 x29 x30 x31)))) (E5_0 x0 x5 x6 x7))

def reach_Of_l5 (F : Nat) (E5_0 : Value → Value → Value → Value → M Value) : Nat → Value → Value → Value → Value → Value → Value → Value → M Value
  | 0, _, _, _, _, _, _, _ => fail
  | k5 + 1, x0, x5, x6, x7, x29, x30, x31 => reach_Of_b5 F E5_0 (reach_Of_l5 F E5_0 k5) x0 x5 x6 x7 x29 x30 x31

theorem reach_Of_l5_s (F : Nat) (E5_0 : Value → Value → Value → Value → M Value) (k5 : Nat) (x0 x5 x6 x7 x29 x30 x31 : Value) : reach_Of_l5 F E5_0 (k5 + 1) x0 x5 x6 x7 x29 x30 x31 = reach_Of_b5 F E5_0 (reach_Of_l5 F E5_0 k5) x0 x5 x6 x7 x29 x30 x31 := rfl

def reach_Of_r6 (F : Nat) (x0 x1 x5 x6 x7 : Value) (K : Value → Value → Value → Value → Value → Value → Value → M Value) : M Value :=
  bnd (opNil x0) fun v23 => bnd (opFieldAddr 4 v23) fun v24 => bnd (opLoad v24) fun v25 => bnd (opIndexAddr 3 v25 x1) fun v27 => bnd (opFieldAddr 2 v27) fun v28 => bnd (opLoad v28) fun v29 => bnd (opLen v29) fun v30 => K x0 x5 x6 x7 v29 v30 (.int .i64 (0))

theorem reach_Of_r6_ok (F : Nat) (x0 x1 x5 x6 x7 : Value) (K : Value → Value → Value → Value → Value → Value → Value → M Value) : reach_Of_r6 F x0 x1 x5 x6 x7 K = reach_Of_R F 6 [(7, x7), (6, x6), (5, x5), (1, x1), (0, x0)] [0, 5, 6, 7, 29, 30, 31] K := by kernel_rfl

def reach_Of_r5 (F : Nat) (x0 x1 x5 x6 : Value) (K : Value → Value → Value → Value → Value → M Value) : M Value :=
  K x0 x1 x5 x6 (.int .i64 (0))

theorem reach_Of_r5_ok (F : Nat) (x0 x1 x5 x6 : Value) (K : Value → Value → Value → Value → Value → M Value) : reach_Of_r5 F x0 x1 x5 x6 K = reach_Of_R F 5 [(6, x6), (5, x5), (1, x1), (0, x0)] [0, 1, 5, 6, 7] K := by kernel_rfl

def reach_Of_r4 (F : Nat) (x0 x1 x5 : Value) (K : Value → Value → Value → Value → M Value) : M Value :=
  bnd (opBuild [(.int .i64 (0)), (.slice none 0 0)] [(0, 1, false, x5)]) fun v20 => bnd (opBoxN v20) fun v21 => K x0 x1 x5 v21

theorem reach_Of_r4_ok (F : Nat) (x0 x1 x5 : Value) (K : Value → Value → Value → Value → M Value) : reach_Of_r4 F x0 x1 x5 K = reach_Of_R F 4 [(5, x5), (1, x1), (0, x0)] [0, 1, 5, 6] K := by kernel_rfl

def reach_Of_r3 (F : Nat) (K : Value → M Value) : M Value :=
  K (.pointer none)

theorem reach_Of_r3_ok (F : Nat) (K : Value → M Value) : reach_Of_r3 F K = reach_Of_R F 3 [] [4] K := by kernel_rfl

def reach_Of_r2 (F : Nat) (x0 x1 x5 : Value) (K : Value → Value → Value → Value → M Value) : M Value :=
  bnd (opBin .lss x5 (.int .i64 (0))) fun v18 => K x0 x1 x5 v18

theorem reach_Of_r2_ok (F : Nat) (x0 x1 x5 : Value) (K : Value → Value → Value → Value → M Value) : reach_Of_r2 F x0 x1 x5 K = reach_Of_R F 2 [(5, x5), (1, x1), (0, x0)] [0, 1, 5, 18] K := by kernel_rfl

def reach_Of_r1 (F : Nat) (x0 x1 : Value) (K : Value → Value → Value → M Value) : M Value :=
  bnd (opBuild [(.int .i64 (0)), (.int .i64 (0)), (.int .i64 (0))] [(0, 1, false, x1)]) fun v15 => bnd (ir_Number F x0 v15) fun v16 => K x0 x1 v16

theorem reach_Of_r1_ok (F : Nat) (x0 x1 : Value) (K : Value → Value → Value → M Value) : reach_Of_r1 F x0 x1 K = reach_Of_R F 1 [(1, x1), (0, x0)] [0, 1, 5] K := by kernel_rfl

def reach_Of_r0 (F : Nat) (x0 x1 : Value) (K : Value → Value → M Value) : M Value :=
  K x0 x1

theorem reach_Of_r0_ok (F : Nat) (x0 x1 : Value) (K : Value → Value → M Value) : reach_Of_r0 F x0 x1 K = reach_Of_R F 0 [(1, x1), (0, x0)] [0, 1] K := by kernel_rfl

def reach_Of (F : Nat) (x0 x1 : Value) : M Value :=
  reach_Of_r0 F x0 x1 (fun x0 x1 => reach_Of_r1 F x0 x1 (fun x0 x1 x5 => reach_Of_r2 F x0 x1 x5 (fun x0 x1 x5 x18 => onB x18 (reach_Of_r3 F (fun x4 => ret x4)) (reach_Of_r4 F x0 x1 x5 (fun x0 x1 x5 x6 => reach_Of_r5 F x0 x1 x5 x6 (fun x0 x1 x5 x6 x7 => reach_Of_r6 F x0 x1 x5 x6 x7 (fun x0 x5 x6 x7 x29 x30 x31 => reach_Of_l5 F (fun x0 x5 x6 x7 => reach_Of_k4 F x0 x5 x6 x7) F x0 x5 x6 x7 x29 x30 x31)))))))

def reach_Of_m (F : Nat) : List Value → M Value
  | [x0, x1] => reach_Of F x0 x1
  | _ => fail

theorem reach_Of_body : Try.f29.body = some (.seq (.region 0 (opsOf Try.f29 0) false) (.seq (.region 1 (opsOf Try.f29 1) false) (.seq (.seq (.region 2 (opsOf Try.f29 2) false) (.cond (.tmp 18) (.seq (.region 3 (opsOf Try.f29 3) false) .ret) .skip)) (.seq (.region 4 (opsOf Try.f29 4) false) (.seq (.region 5 (opsOf Try.f29 5) false) (.seq (.seq (.region 6 (opsOf Try.f29 6) false) (.block 0 (.loop (.seq (.region 7 (opsOf Try.f29 7) false) (.seq (.cond (.tmp 32) .skip (.exit 0)) (.seq (.block 1 (.seq (.region 8 (opsOf Try.f29 8) false) (.region 9 (opsOf Try.f29 9) false))) (.region 10 (opsOf Try.f29 10) false))))))) (.seq (.region 11 (opsOf Try.f29 11) false) (.seq (.seq (.region 12 (opsOf Try.f29 12) false) (.block 2 (.loop (.seq (.region 13 (opsOf Try.f29 13) false) (.seq (.cond (.tmp 49) .skip (.exit 2)) (.seq (.block 3 (.seq (.region 14 (opsOf Try.f29 14) false) (.seq (.region 15 (opsOf Try.f29 15) false) (.block 4 (.loop (.seq (.region 16 (opsOf Try.f29 16) false) (.seq (.cond (.tmp 58) .skip (.exit 4)) (.seq (.block 5 (.seq (.region 17 (opsOf Try.f29 17) false) (.region 18 (opsOf Try.f29 18) true))) (.region 19 (opsOf Try.f29 19) false))))))))) (.region 20 (opsOf Try.f29 20) false))))))) (.seq (.region 21 (opsOf Try.f29 21) false) .ret))))))))) := by kernel_rfl

theorem reach_Of_ok (F : Nat) : Sim Try.prog TryG 29 (reach_Of_m F) := by
 have hE : EnvOK Try.prog TryG (reach_Of_env F) := (EnvOK.cons (ir_Number_ok F) (EnvOK.cons (ir_Next_ok F) EnvOK.nil))
 refine Sim.of_body (E := reach_Of_env F) Try.func29 reach_Of_body Try.call29 ?_ ?_
 · intro args hl; unfold reach_Of_m; split
   · exact absurd hl (Nat.not_lt.2 (Nat.le_of_ble_eq_true rfl))
   · rfl
 · intro args ρ h w z; unfold reach_Of_m; split
   · rename_i x0 x1; show OKc _ _ [(0, x0), (1, x1)] _ _
     refine rSeq ?_
     refine cLess [1, 0] ?_
     refine xR hE [0, 1] rfl (reach_Of_r0_ok F _ _ _) ?_
     intro x0 x1
     show OKq _ _ _ [(1, x1), (0, x0)] _
     refine rThen ?_
     refine rSeq ?_
     refine cLess [1, 0] ?_
     refine xR hE [0, 1, 5] rfl (reach_Of_r1_ok F _ _ _) ?_
     intro x0 x1 x5
     show OKq _ _ _ [(5, x5), (1, x1), (0, x0)] _
     refine rThen ?_
     refine rSeq ?_
     refine rSeq ?_
     refine cLess [5, 1, 0] ?_
     refine xR hE [0, 1, 5, 18] rfl (reach_Of_r2_ok F _ _ _ _) ?_
     intro x0 x1 x5 x18
     show OKq _ _ _ [(18, x18), (5, x5), (1, x1), (0, x0)] _
     refine rThen ?_
     refine xCond rfl rfl ?_ ?_
     · refine rSeq ?_
       refine cLess [] ?_
       refine xR hE [4] rfl (reach_Of_r3_ok F _) ?_
       intro x4
       show OKq _ _ _ [(4, x4)] _
       refine rThen ?_
       refine rRet ?_
       refine xThenR ?_
       exact rDone (.inr rfl) rfl
     · refine rSkip ?_
       refine rThen ?_
       refine rSeq ?_
       refine cLess [5, 1, 0] ?_
       refine xR hE [0, 1, 5, 6] rfl (reach_Of_r4_ok F _ _ _ _) ?_
       intro x0 x1 x5 x6
       show OKq _ _ _ [(6, x6), (5, x5), (1, x1), (0, x0)] _
       refine rThen ?_
       refine rSeq ?_
       refine cLess [6, 5, 1, 0] ?_
       refine xR hE [0, 1, 5, 6, 7] rfl (reach_Of_r5_ok F _ _ _ _ _) ?_
       intro x0 x1 x5 x6 x7
       show OKq _ _ _ [(7, x7), (6, x6), (5, x5), (1, x1), (0, x0)] _
       refine rThen ?_
       refine xSeq [0, 5, 6, 7] (reach_Of_k4 F ) ?_ fun hj4 => ?_
       · intro x0 x5 x6 x7
         show OKc _ _ [(7, x7), (6, x6), (5, x5), (0, x0)] _ _
         refine rSeq ?_
         refine cLess [7, 6, 5, 0] ?_
         refine xR hE [0, 5, 6, 7] rfl (reach_Of_r11_ok F _ _ _ _ _) ?_
         intro x0 x5 x6 x7
         show OKq _ _ _ [(7, x7), (6, x6), (5, x5), (0, x0)] _
         refine rThen ?_
         refine xSeq [6] (reach_Of_k0 F ) ?_ fun hj0 => ?_
         · intro x6
           show OKc _ _ [(6, x6)] _ _
           refine rSeq ?_
           refine cLess [6] ?_
           refine xR hE [4] rfl (reach_Of_r21_ok F _ _) ?_
           intro x4
           show OKq _ _ _ [(4, x4)] _
           refine rThen ?_
           refine rRet ?_
           exact rDone (.inr rfl) rfl
         · refine rSeq ?_
           refine cLess [7, 6, 5, 0] ?_
           refine xR hE [0, 5, 6, 47, 48] rfl (reach_Of_r12_ok F _ _ _ _ _) ?_
           intro x0 x5 x6 x47 x48
           show OKq _ _ _ [(48, x48), (47, x47), (6, x6), (5, x5), (0, x0)] _
           refine rThen ?_
           refine rBlock ?_
           refine cLess [48, 47, 6, 5, 0] ?_
           refine xLoopAt [0, 5, 6, 47, 48] [] (fun k1 => reach_Of_l1 F (fun x6 => reach_Of_k0 F x6) k1) F [x0, x5, x6, x47, x48] rfl rfl (fun _ _ _ _ _ => rfl) fun I hI1 k1 => ?_
           intro x0 x5 x6 x47 x48
           show OKc _ _ [(48, x48), (47, x47), (6, x6), (5, x5), (0, x0)] _ _
           refine cAs (reach_Of_l1_s F _ _ _ _ _ _ _) ?_
           refine rSeq ?_
           refine cLess [48, 47, 6, 5, 0] ?_
           refine xR hE [0, 5, 6, 47, 48, 49] rfl (reach_Of_r13_ok F _ _ _ _ _ _) ?_
           intro x0 x5 x6 x47 x48 x49
           show OKq _ _ _ [(49, x49), (48, x48), (47, x47), (6, x6), (5, x5), (0, x0)] _
           refine rThen ?_
           refine rSeq ?_
           refine xCond rfl rfl ?_ ?_
           · refine rSkip ?_
             refine rThen ?_
             refine xSeq [0, 5, 6, 47, 48] (reach_Of_k2 F (reach_Of_l1 F (fun x6 => reach_Of_k0 F x6) k1) ) ?_ fun hj2 => ?_
             · intro x0 x5 x6 x47 x48
               show OKc _ _ [(48, x48), (47, x47), (6, x6), (5, x5), (0, x0)] _ _
               refine cLess [48, 47, 6, 5, 0] ?_
               refine xR hE [0, 5, 6, 47, 48] rfl (reach_Of_r20_ok F _ _ _ _ _ _) ?_
               intro x0 x5 x6 x47 x48
               show OKq _ _ _ [(48, x48), (47, x47), (6, x6), (5, x5), (0, x0)] _
               exact qLess [48, 47, 6, 5, 0] (hI1 k1 x0 x5 x6 x47 x48)
             · refine rBlock ?_
               refine rSeq ?_
               refine cLess [48, 47, 6, 5, 0] ?_
               refine xR hE [0, 5, 6, 10, 47, 48] rfl (reach_Of_r14_ok F _ _ _ _ _ _) ?_
               intro x0 x5 x6 x10 x47 x48
               show OKq _ _ _ [(48, x48), (47, x47), (10, x10), (6, x6), (5, x5), (0, x0)] _
               refine rThen ?_
               refine rSeq ?_
               refine cLess [48, 47, 10, 6, 5, 0] ?_
               refine xR hE [0, 5, 6, 10, 47, 48, 55, 56, 57] rfl (reach_Of_r15_ok F _ _ _ _ _ _ _) ?_
               intro x0 x5 x6 x10 x47 x48 x55 x56 x57
               show OKq _ _ _ [(57, x57), (56, x56), (55, x55), (48, x48), (47, x47), (10, x10), (6, x6), (5, x5), (0, x0)] _
               refine rThen ?_
               refine rBlock ?_
               refine cLess [57, 56, 55, 48, 47, 10, 6, 5, 0] ?_
               refine xLoopAt [0, 5, 6, 10, 47, 48, 55, 56, 57] [] (fun k3 => reach_Of_l3 F (fun x0 x5 x6 x47 x48 => reach_Of_k2 F (reach_Of_l1 F (fun x6 => reach_Of_k0 F x6) k1) x0 x5 x6 x47 x48) k3) F [x0, x5, x6, x10, x47, x48, x55, x56, x57] rfl rfl (fun _ _ _ _ _ _ _ _ _ => rfl) fun I hI3 k3 => ?_
               intro x0 x5 x6 x10 x47 x48 x55 x56 x57
               show OKc _ _ [(57, x57), (56, x56), (55, x55), (48, x48), (47, x47), (10, x10), (6, x6), (5, x5), (0, x0)] _ _
               refine cAs (reach_Of_l3_s F _ _ _ _ _ _ _ _ _ _ _) ?_
               refine rSeq ?_
               refine cLess [57, 56, 55, 48, 47, 10, 6, 5, 0] ?_
               refine xR hE [0, 5, 6, 10, 47, 48, 55, 56, 57, 58] rfl (reach_Of_r16_ok F _ _ _ _ _ _ _ _ _ _) ?_
               intro x0 x5 x6 x10 x47 x48 x55 x56 x57 x58
               show OKq _ _ _ [(58, x58), (57, x57), (56, x56), (55, x55), (48, x48), (47, x47), (10, x10), (6, x6), (5, x5), (0, x0)] _
               refine rThen ?_
               refine rSeq ?_
               refine xCond rfl rfl ?_ ?_
               · refine rSkip ?_
                 refine rThen ?_
                 refine rSeq ?_
                 refine rBlock ?_
                 refine rSeq ?_
                 refine cLess [57, 56, 55, 48, 47, 10, 6, 5, 0] ?_
                 refine xR hE [0, 5, 6, 10, 12, 47, 48, 55, 56, 57] rfl (reach_Of_r17_ok F _ _ _ _ _ _ _ _ _ _) ?_
                 intro x0 x5 x6 x10 x12 x47 x48 x55 x56 x57
                 show OKq _ _ _ [(57, x57), (56, x56), (55, x55), (48, x48), (47, x47), (12, x12), (10, x10), (6, x6), (5, x5), (0, x0)] _
                 refine rThen ?_
                 refine cLess [57, 56, 55, 48, 47, 12, 10, 6, 5, 0] ?_
                 refine xD Trymix hE [0, 5, 6, 10, 47, 48, 55, 56, 57] rfl reach_Of_r18_good (reach_Of_r18_ok F _ _ _ _ _ _ _ _ _ _ _) ?_
                 intro x0 x5 x6 x10 x47 x48 x55 x56 x57
                 show OKq _ _ _ [(57, x57), (56, x56), (55, x55), (48, x48), (47, x47), (10, x10), (6, x6), (5, x5), (0, x0)] _
                 refine xBlockN ?_
                 refine rThen ?_
                 refine cLess [57, 56, 55, 48, 47, 10, 6, 5, 0] ?_
                 refine xR hE [0, 5, 6, 10, 47, 48, 55, 56, 57] rfl (reach_Of_r19_ok F _ _ _ _ _ _ _ _ _ _) ?_
                 intro x0 x5 x6 x10 x47 x48 x55 x56 x57
                 show OKq _ _ _ [(57, x57), (56, x56), (55, x55), (48, x48), (47, x47), (10, x10), (6, x6), (5, x5), (0, x0)] _
                 exact qLess [57, 56, 55, 48, 47, 10, 6, 5, 0] (hI3 k3 x0 x5 x6 x10 x47 x48 x55 x56 x57)
               · refine rExit ?_
                 refine xThenX ?_
                 refine xThenX ?_
                 refine rOut ?_
                 refine xBlockN ?_
                 exact qLess [48, 47, 6, 5, 0] (hj2 x0 x5 x6 x47 x48)
           · refine rExit ?_
             refine xThenX ?_
             refine xThenX ?_
             refine rOut ?_
             exact qLess [6] (hj0 x6)
       · refine rSeq ?_
         refine cLess [7, 6, 5, 1, 0] ?_
         refine xR hE [0, 5, 6, 7, 29, 30, 31] rfl (reach_Of_r6_ok F _ _ _ _ _ _) ?_
         intro x0 x5 x6 x7 x29 x30 x31
         show OKq _ _ _ [(31, x31), (30, x30), (29, x29), (7, x7), (6, x6), (5, x5), (0, x0)] _
         refine rThen ?_
         refine rBlock ?_
         refine cLess [31, 30, 29, 7, 6, 5, 0] ?_
         refine xLoopAt [0, 5, 6, 7, 29, 30, 31] [] (fun k5 => reach_Of_l5 F (fun x0 x5 x6 x7 => reach_Of_k4 F x0 x5 x6 x7) k5) F [x0, x5, x6, x7, x29, x30, x31] rfl rfl (fun _ _ _ _ _ _ _ => rfl) fun I hI5 k5 => ?_
         intro x0 x5 x6 x7 x29 x30 x31
         show OKc _ _ [(31, x31), (30, x30), (29, x29), (7, x7), (6, x6), (5, x5), (0, x0)] _ _
         refine cAs (reach_Of_l5_s F _ _ _ _ _ _ _ _ _) ?_
         refine rSeq ?_
         refine cLess [31, 30, 29, 7, 6, 5, 0] ?_
         refine xR hE [0, 5, 6, 7, 29, 30, 31, 32] rfl (reach_Of_r7_ok F _ _ _ _ _ _ _ _) ?_
         intro x0 x5 x6 x7 x29 x30 x31 x32
         show OKq _ _ _ [(32, x32), (31, x31), (30, x30), (29, x29), (7, x7), (6, x6), (5, x5), (0, x0)] _
         refine rThen ?_
         refine rSeq ?_
         refine xCond rfl rfl ?_ ?_
         · refine rSkip ?_
           refine rThen ?_
           refine rSeq ?_
           refine rBlock ?_
           refine rSeq ?_
           refine cLess [31, 30, 29, 7, 6, 5, 0] ?_
           refine xR hE [0, 5, 6, 7, 9, 29, 30, 31] rfl (reach_Of_r8_ok F _ _ _ _ _ _ _ _) ?_
           intro x0 x5 x6 x7 x9 x29 x30 x31
           show OKq _ _ _ [(31, x31), (30, x30), (29, x29), (9, x9), (7, x7), (6, x6), (5, x5), (0, x0)] _
           refine rThen ?_
           refine cLess [31, 30, 29, 9, 7, 6, 5, 0] ?_
           refine xR hE [0, 5, 6, 7, 29, 30, 31] rfl (reach_Of_r9_ok F _ _ _ _ _ _ _ _ _) ?_
           intro x0 x5 x6 x7 x29 x30 x31
           show OKq _ _ _ [(31, x31), (30, x30), (29, x29), (7, x7), (6, x6), (5, x5), (0, x0)] _
           refine xBlockN ?_
           refine rThen ?_
           refine cLess [31, 30, 29, 7, 6, 5, 0] ?_
           refine xR hE [0, 5, 6, 7, 29, 30, 31] rfl (reach_Of_r10_ok F _ _ _ _ _ _ _ _) ?_
           intro x0 x5 x6 x7 x29 x30 x31
           show OKq _ _ _ [(31, x31), (30, x30), (29, x29), (7, x7), (6, x6), (5, x5), (0, x0)] _
           exact qLess [31, 30, 29, 7, 6, 5, 0] (hI5 k5 x0 x5 x6 x7 x29 x30 x31)
         · refine rExit ?_
           refine xThenX ?_
           refine xThenX ?_
           refine rOut ?_
           exact qLess [7, 6, 5, 0] (hj4 x0 x5 x6 x7)
   · exact rFail



end Go.Fw
