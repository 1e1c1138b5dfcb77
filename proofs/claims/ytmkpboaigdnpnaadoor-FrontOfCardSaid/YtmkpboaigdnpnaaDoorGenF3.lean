/-
  What functions of this seat come to, and that they do: part 3.
-/
import Derived.Test.YtmkpboaigdnpnaaDoorGenF2
set_option linter.unusedVariables false
set_option maxRecDepth 20000
namespace Go.Fw
open Go.Proofs

/-! ### haruspex/haruspexlaw7.FrontClosed -/

def L7_FrontClosed_env (F : Nat) : Env := envOf [(8, L7_begun_m F), (9, L5_Made_m F), (10, front_Of_m F), (13, bitset_Set_All_m F), (16, front_Closure_m F), (17, bitset_Of_m F), (24, bitset_Set_In_m F), (25, bitset_Set_Join_m F)]

noncomputable def L7_FrontClosed_R (F : Nat) := rK Tryd.prog TrydG (L7_FrontClosed_env F) Tryd.f6
noncomputable def L7_FrontClosed_D (F : Nat) := dK Tryd.prog TrydG (L7_FrontClosed_env F) Tryd.f6

def L7_FrontClosed_r27 (F : Nat) (K : Value → M Value) : M Value :=
  K (.bool true)

theorem L7_FrontClosed_r27_ok (F : Nat) (K : Value → M Value) : L7_FrontClosed_r27 F K = L7_FrontClosed_R F 27 [] [8] K := by kernel_rfl

def L7_FrontClosed_k0 (F : Nat) : M Value :=
  L7_FrontClosed_r27 F (fun x8 => ret x8)

def L7_FrontClosed_r24 (F : Nat) (x11 x16 x19 x20 : Value) (K : Value → Value → Value → Value → M Value) : M Value :=
  bnd (opBin .add x20 (.int .i64 (1))) fun v116 => K x11 x16 x19 v116

theorem L7_FrontClosed_r24_ok (F : Nat) (x11 x16 x19 x20 : Value) (K : Value → Value → Value → Value → M Value) : L7_FrontClosed_r24 F x11 x16 x19 x20 K = L7_FrontClosed_R F 24 [(20, x20), (19, x19), (16, x16), (11, x11)] [11, 16, 19, 20] K := by kernel_rfl

def L7_FrontClosed_r26 (F : Nat) (K : Value → M Value) : M Value :=
  K (.bool false)

theorem L7_FrontClosed_r26_ok (F : Nat) (K : Value → M Value) : L7_FrontClosed_r26 F K = L7_FrontClosed_R F 26 [] [8] K := by kernel_rfl

def L7_FrontClosed_r25 (F : Nat) (x11 x16 x19 x20 : Value) (K : Value → Value → Value → Value → Value → M Value) : M Value :=
  bnd (opIndexAddr 1 x19 x20) fun v120 => bnd (opLoad v120) fun v121 => bnd (opIndexAddr 1 x11 v121) fun v122 => bnd (opLoad v122) fun v123 => bnd (bitset_Set_In F v123 x16) fun v125 => bnd (opNot v125) fun v126 => K x11 x16 x19 x20 v126

theorem L7_FrontClosed_r25_ok (F : Nat) (x11 x16 x19 x20 : Value) (K : Value → Value → Value → Value → Value → M Value) : L7_FrontClosed_r25 F x11 x16 x19 x20 K = L7_FrontClosed_R F 25 [(20, x20), (19, x19), (16, x16), (11, x11)] [11, 16, 19, 20, 126] K := by kernel_rfl

def L7_FrontClosed_r23 (F : Nat) (x11 x16 x19 x20 : Value) (K : Value → Value → Value → Value → Value → M Value) : M Value :=
  bnd (opLen x19) fun v113 => bnd (opBin .lss x20 v113) fun v114 => K x11 x16 x19 x20 v114

theorem L7_FrontClosed_r23_ok (F : Nat) (x11 x16 x19 x20 : Value) (K : Value → Value → Value → Value → Value → M Value) : L7_FrontClosed_r23 F x11 x16 x19 x20 K = L7_FrontClosed_R F 23 [(20, x20), (19, x19), (16, x16), (11, x11)] [11, 16, 19, 20, 114] K := by kernel_rfl

def L7_FrontClosed_b1 (F : Nat) (E1_4 : M Value) (A1 : Value → Value → Value → Value → M Value) (x11 x16 x19 x20 : Value) : M Value :=
  L7_FrontClosed_r23 F x11 x16 x19 x20 (fun x11 x16 x19 x20 x114 => onB x114 (L7_FrontClosed_r25 F x11 x16 x19 x20 (fun x11 x16 x19 x20 x126 => onB x126 (L7_FrontClosed_r26 F (fun x8 => ret x8)) (L7_FrontClosed_r24 F x11 x16 x19 x20 (fun x11 x16 x19 x20 => A1 x11 x16 x19 x20)))) (E1_4 ))

def L7_FrontClosed_l1 (F : Nat) (E1_4 : M Value) : Nat → Value → Value → Value → Value → M Value
  | 0, _, _, _, _ => fail
  | k1 + 1, x11, x16, x19, x20 => L7_FrontClosed_b1 F E1_4 (L7_FrontClosed_l1 F E1_4 k1) x11 x16 x19 x20

theorem L7_FrontClosed_l1_s (F : Nat) (E1_4 : M Value) (k1 : Nat) (x11 x16 x19 x20 : Value) : L7_FrontClosed_l1 F E1_4 (k1 + 1) x11 x16 x19 x20 = L7_FrontClosed_b1 F E1_4 (L7_FrontClosed_l1 F E1_4 k1) x11 x16 x19 x20 := rfl

def L7_FrontClosed_r22 (F : Nat) (x11 x16 x19 : Value) (K : Value → Value → Value → Value → M Value) : M Value :=
  K x11 x16 x19 (.int .i64 (0))

theorem L7_FrontClosed_r22_ok (F : Nat) (x11 x16 x19 : Value) (K : Value → Value → Value → Value → M Value) : L7_FrontClosed_r22 F x11 x16 x19 K = L7_FrontClosed_R F 22 [(19, x19), (16, x16), (11, x11)] [11, 16, 19, 20] K := by kernel_rfl

def L7_FrontClosed_r21 (F : Nat) (x11 x16 x18 : Value) (K : Value → Value → Value → M Value) : M Value :=
  bnd (bitset_Set_All F x18) fun v110 => K x11 x16 v110

theorem L7_FrontClosed_r21_ok (F : Nat) (x11 x16 x18 : Value) (K : Value → Value → Value → M Value) : L7_FrontClosed_r21 F x11 x16 x18 K = L7_FrontClosed_R F 21 [(18, x18), (16, x16), (11, x11)] [11, 16, 19] K := by kernel_rfl

def L7_FrontClosed_r20 (F : Nat) (x11 x16 x18 : Value) (K : Value → Value → Value → M Value) : M Value :=
  bnd (bitset_Set_Join F x18 x16) fun v108 => K x11 x16 x18

theorem L7_FrontClosed_r20_ok (F : Nat) (x11 x16 x18 : Value) (K : Value → Value → Value → M Value) : L7_FrontClosed_r20 F x11 x16 x18 K = L7_FrontClosed_R F 20 [(18, x18), (16, x16), (11, x11)] [11, 16, 18] K := by kernel_rfl

def L7_FrontClosed_r19 (F : Nat) (x11 x12 x16 : Value) (K : Value → Value → Value → M Value) : M Value :=
  bnd (bitset_Of F x12) fun v105 => K x11 x16 v105

theorem L7_FrontClosed_r19_ok (F : Nat) (x11 x12 x16 : Value) (K : Value → Value → Value → M Value) : L7_FrontClosed_r19 F x11 x12 x16 K = L7_FrontClosed_R F 19 [(16, x16), (12, x12), (11, x11)] [11, 16, 18] K := by kernel_rfl

def L7_FrontClosed_r18 (F : Nat) (K : Value → M Value) : M Value :=
  K (.bool false)

theorem L7_FrontClosed_r18_ok (F : Nat) (K : Value → M Value) : L7_FrontClosed_r18 F K = L7_FrontClosed_R F 18 [] [8] K := by kernel_rfl

def L7_FrontClosed_r17 (F : Nat) (x11 x12 x16 x17 : Value) (K : Value → Value → Value → Value → M Value) : M Value :=
  bnd (bitset_Set_In F x16 x17) fun v94 => bnd (opNot v94) fun v95 => onB v95 (K x11 x12 x16 (.bool true)) (bnd (front_Closure F x11 x16) fun v99 => bnd (bitset_Set_In F v99 x16) fun v101 => bnd (opNot v101) fun v102 => K x11 x12 x16 v102)

theorem L7_FrontClosed_r17_ok (F : Nat) (x11 x12 x16 x17 : Value) (K : Value → Value → Value → Value → M Value) : L7_FrontClosed_r17 F x11 x12 x16 x17 K = L7_FrontClosed_R F 17 [(17, x17), (16, x16), (12, x12), (11, x11)] [11, 12, 16, 103] K := by kernel_rfl

def L7_FrontClosed_r16 (F : Nat) (x11 x12 x13 : Value) (K : Value → Value → Value → Value → M Value) : M Value :=
  bnd (bitset_Of F x12) fun v86 => bnd (front_Closure F x11 v86) fun v87 => bnd (bitset_Of F x13) fun v90 => bnd (front_Closure F x11 v90) fun v91 => K x11 x12 v87 v91

theorem L7_FrontClosed_r16_ok (F : Nat) (x11 x12 x13 : Value) (K : Value → Value → Value → Value → M Value) : L7_FrontClosed_r16 F x11 x12 x13 K = L7_FrontClosed_R F 16 [(13, x13), (12, x12), (11, x11)] [11, 12, 16, 17] K := by kernel_rfl

def L7_FrontClosed_k2 (F : Nat) (x11 x12 x13 : Value) : M Value :=
  L7_FrontClosed_r16 F x11 x12 x13 (fun x11 x12 x16 x17 => L7_FrontClosed_r17 F x11 x12 x16 x17 (fun x11 x12 x16 x103 => onB x103 (L7_FrontClosed_r18 F (fun x8 => ret x8)) (L7_FrontClosed_r19 F x11 x12 x16 (fun x11 x16 x18 => L7_FrontClosed_r20 F x11 x16 x18 (fun x11 x16 x18 => L7_FrontClosed_r21 F x11 x16 x18 (fun x11 x16 x19 => L7_FrontClosed_r22 F x11 x16 x19 (fun x11 x16 x19 x20 => L7_FrontClosed_l1 F (L7_FrontClosed_k0 F ) F x11 x16 x19 x20)))))))

def L7_FrontClosed_r14 (F : Nat) (x3 x10 x11 x12 x13 x15 : Value) (K : Value → Value → Value → Value → Value → Value → M Value) : M Value :=
  bnd (opBin .add x15 (.int .i64 (1))) fun v67 => K x3 x10 x11 x12 x13 v67

theorem L7_FrontClosed_r14_ok (F : Nat) (x3 x10 x11 x12 x13 x15 : Value) (K : Value → Value → Value → Value → Value → Value → M Value) : L7_FrontClosed_r14 F x3 x10 x11 x12 x13 x15 K = L7_FrontClosed_R F 14 [(15, x15), (13, x13), (12, x12), (11, x11), (10, x10), (3, x3)] [3, 10, 11, 12, 13, 15] K := by kernel_rfl

def L7_FrontClosed_r15 (F : Nat) (x3 x10 x11 x12 x13 x15 : Value) (K : Value → Value → Value → Value → Value → Value → M Value) : M Value :=
  bnd (opIndexAddr 1 x3 x15) fun v71 => bnd (opLoad v71) fun v72 => bnd (opFieldAddr 0 x10) fun v73 => bnd (opLoad v73) fun v74 => bnd (opBin .rem v72 v74) fun v75 => bnd (opFieldAddr 0 x10) fun v76 => bnd (opLoad v76) fun v77 => bnd (opBin .add v75 v77) fun v78 => bnd (opFieldAddr 0 x10) fun v79 => bnd (opLoad v79) fun v80 => bnd (opBin .rem v78 v80) fun v81 => bnd (opBuildSlice 1 (rep 1 [(.int .i64 (0))]) [(0, 1, false, v81)]) fun v82 => bnd (opAppend 1 8 x13 v82) fun v83 => K x3 x10 x11 x12 v83 x15

theorem L7_FrontClosed_r15_ok (F : Nat) (x3 x10 x11 x12 x13 x15 : Value) (K : Value → Value → Value → Value → Value → Value → M Value) : L7_FrontClosed_r15 F x3 x10 x11 x12 x13 x15 K = L7_FrontClosed_D F 15 [0, 1, 2, 3, 4, 5, 6, 7, 8, 9, 10, 11, 12, 13, 14, 15, 16] [(15, x15), (13, x13), (12, x12), (11, x11), (10, x10), (3, x3)] [3, 10, 11, 12, 13, 15] K := by kernel_rfl

theorem L7_FrontClosed_r15_good : goodOrder (opsOf Tryd.f6 15) [0, 1, 2, 3, 4, 5, 6, 7, 8, 9, 10, 11, 12, 13, 14, 15, 16] = true := by kernel_rfl

def L7_FrontClosed_r13 (F : Nat) (x3 x10 x11 x12 x13 x15 : Value) (K : Value → Value → Value → Value → Value → Value → Value → M Value) : M Value :=
  bnd (opLen x3) fun v60 => bnd (opBin .lss x15 v60) fun v61 => onB v61 (bnd (opBin .lss x15 (.int .i64 (8))) fun v64 => K x3 x10 x11 x12 x13 x15 v64) (K x3 x10 x11 x12 x13 x15 (.bool false))

theorem L7_FrontClosed_r13_ok (F : Nat) (x3 x10 x11 x12 x13 x15 : Value) (K : Value → Value → Value → Value → Value → Value → Value → M Value) : L7_FrontClosed_r13 F x3 x10 x11 x12 x13 x15 K = L7_FrontClosed_R F 13 [(15, x15), (13, x13), (12, x12), (11, x11), (10, x10), (3, x3)] [3, 10, 11, 12, 13, 15, 65] K := by kernel_rfl

def L7_FrontClosed_b3 (F : Nat) (E3_2 : Value → Value → Value → M Value) (A3 : Value → Value → Value → Value → Value → Value → M Value) (x3 x10 x11 x12 x13 x15 : Value) : M Value :=
  L7_FrontClosed_r13 F x3 x10 x11 x12 x13 x15 (fun x3 x10 x11 x12 x13 x15 x65 => onB x65 (L7_FrontClosed_r15 F x3 x10 x11 x12 x13 x15 (fun x3 x10 x11 x12 x13 x15 => L7_FrontClosed_r14 F x3 x10 x11 x12 x13 x15 (fun x3 x10 x11 x12 x13 x15 => A3 x3 x10 x11 x12 x13 x15))) (E3_2 x11 x12 x13))

def L7_FrontClosed_l3 (F : Nat) (E3_2 : Value → Value → Value → M Value) : Nat → Value → Value → Value → Value → Value → Value → M Value
  | 0, _, _, _, _, _, _ => fail
  | k3 + 1, x3, x10, x11, x12, x13, x15 => L7_FrontClosed_b3 F E3_2 (L7_FrontClosed_l3 F E3_2 k3) x3 x10 x11 x12 x13 x15

theorem L7_FrontClosed_l3_s (F : Nat) (E3_2 : Value → Value → Value → M Value) (k3 : Nat) (x3 x10 x11 x12 x13 x15 : Value) : L7_FrontClosed_l3 F E3_2 (k3 + 1) x3 x10 x11 x12 x13 x15 = L7_FrontClosed_b3 F E3_2 (L7_FrontClosed_l3 F E3_2 k3) x3 x10 x11 x12 x13 x15 := rfl

def L7_FrontClosed_r12 (F : Nat) (x3 x10 x11 x12 x13 : Value) (K : Value → Value → Value → Value → Value → Value → M Value) : M Value :=
  K x3 x10 x11 x12 x13 (.int .i64 (0))

theorem L7_FrontClosed_r12_ok (F : Nat) (x3 x10 x11 x12 x13 : Value) (K : Value → Value → Value → Value → Value → Value → M Value) : L7_FrontClosed_r12 F x3 x10 x11 x12 x13 K = L7_FrontClosed_R F 12 [(13, x13), (12, x12), (11, x11), (10, x10), (3, x3)] [3, 10, 11, 12, 13, 15] K := by kernel_rfl

def L7_FrontClosed_r11 (F : Nat) (x3 x10 x11 x12 x13 : Value) (K : Value → Value → Value → Value → Value → M Value) : M Value :=
  bnd (opAppend 1 8 x13 x12) fun v57 => K x3 x10 x11 x12 v57

theorem L7_FrontClosed_r11_ok (F : Nat) (x3 x10 x11 x12 x13 : Value) (K : Value → Value → Value → Value → Value → M Value) : L7_FrontClosed_r11 F x3 x10 x11 x12 x13 K = L7_FrontClosed_R F 11 [(13, x13), (12, x12), (11, x11), (10, x10), (3, x3)] [3, 10, 11, 12, 13] K := by kernel_rfl

def L7_FrontClosed_k4 (F : Nat) (x3 x10 x11 x12 x13 : Value) : M Value :=
  L7_FrontClosed_r11 F x3 x10 x11 x12 x13 (fun x3 x10 x11 x12 x13 => L7_FrontClosed_r12 F x3 x10 x11 x12 x13 (fun x3 x10 x11 x12 x13 x15 => L7_FrontClosed_l3 F (fun x11 x12 x13 => L7_FrontClosed_k2 F x11 x12 x13) F x3 x10 x11 x12 x13 x15))

def L7_FrontClosed_r9 (F : Nat) (x2 x3 x10 x11 x12 x13 x14 : Value) (K : Value → Value → Value → Value → Value → Value → Value → M Value) : M Value :=
  bnd (opBin .add x14 (.int .i64 (1))) fun v38 => K x2 x3 x10 x11 x12 x13 v38

theorem L7_FrontClosed_r9_ok (F : Nat) (x2 x3 x10 x11 x12 x13 x14 : Value) (K : Value → Value → Value → Value → Value → Value → Value → M Value) : L7_FrontClosed_r9 F x2 x3 x10 x11 x12 x13 x14 K = L7_FrontClosed_R F 9 [(14, x14), (13, x13), (12, x12), (11, x11), (10, x10), (3, x3), (2, x2)] [2, 3, 10, 11, 12, 13, 14] K := by kernel_rfl

def L7_FrontClosed_r10 (F : Nat) (x2 x3 x10 x11 x12 x13 x14 : Value) (K : Value → Value → Value → Value → Value → Value → Value → M Value) : M Value :=
  bnd (opIndexAddr 1 x2 x14) fun v42 => bnd (opLoad v42) fun v43 => bnd (opFieldAddr 0 x10) fun v44 => bnd (opLoad v44) fun v45 => bnd (opBin .rem v43 v45) fun v46 => bnd (opFieldAddr 0 x10) fun v47 => bnd (opLoad v47) fun v48 => bnd (opBin .add v46 v48) fun v49 => bnd (opFieldAddr 0 x10) fun v50 => bnd (opLoad v50) fun v51 => bnd (opBin .rem v49 v51) fun v52 => bnd (opBuildSlice 1 (rep 1 [(.int .i64 (0))]) [(0, 1, false, v52)]) fun v53 => bnd (opAppend 1 8 x12 v53) fun v54 => K x2 x3 x10 x11 v54 x13 x14

theorem L7_FrontClosed_r10_ok (F : Nat) (x2 x3 x10 x11 x12 x13 x14 : Value) (K : Value → Value → Value → Value → Value → Value → Value → M Value) : L7_FrontClosed_r10 F x2 x3 x10 x11 x12 x13 x14 K = L7_FrontClosed_D F 10 [0, 1, 2, 3, 4, 5, 6, 7, 8, 9, 10, 11, 12, 13, 14, 15, 16] [(14, x14), (13, x13), (12, x12), (11, x11), (10, x10), (3, x3), (2, x2)] [2, 3, 10, 11, 12, 13, 14] K := by kernel_rfl

theorem L7_FrontClosed_r10_good : goodOrder (opsOf Tryd.f6 10) [0, 1, 2, 3, 4, 5, 6, 7, 8, 9, 10, 11, 12, 13, 14, 15, 16] = true := by kernel_rfl

def L7_FrontClosed_r8 (F : Nat) (x2 x3 x10 x11 x12 x13 x14 : Value) (K : Value → Value → Value → Value → Value → Value → Value → Value → M Value) : M Value :=
  bnd (opLen x2) fun v31 => bnd (opBin .lss x14 v31) fun v32 => onB v32 (bnd (opBin .lss x14 (.int .i64 (8))) fun v35 => K x2 x3 x10 x11 x12 x13 x14 v35) (K x2 x3 x10 x11 x12 x13 x14 (.bool false))

theorem L7_FrontClosed_r8_ok (F : Nat) (x2 x3 x10 x11 x12 x13 x14 : Value) (K : Value → Value → Value → Value → Value → Value → Value → Value → M Value) : L7_FrontClosed_r8 F x2 x3 x10 x11 x12 x13 x14 K = L7_FrontClosed_R F 8 [(14, x14), (13, x13), (12, x12), (11, x11), (10, x10), (3, x3), (2, x2)] [2, 3, 10, 11, 12, 13, 14, 36] K := by kernel_rfl

def L7_FrontClosed_b5 (F : Nat) (E5_0 : Value → Value → Value → Value → Value → M Value) (A5 : Value → Value → Value → Value → Value → Value → Value → M Value) (x2 x3 x10 x11 x12 x13 x14 : Value) : M Value :=
  L7_FrontClosed_r8 F x2 x3 x10 x11 x12 x13 x14 (fun x2 x3 x10 x11 x12 x13 x14 x36 => onB x36 (L7_FrontClosed_r10 F x2 x3 x10 x11 x12 x13 x14 (fun x2 x3 x10 x11 x12 x13 x14 => L7_FrontClosed_r9 F x2 x3 x10 x11 x12 x13 x14 (fun x2 x3 x10 x11 x12 x13 x14 => A5 x2 x3 x10 x11 x12 x13 x14))) (E5_0 x3 x10 x11 x12 x13))

def L7_FrontClosed_l5 (F : Nat) (E5_0 : Value → Value → Value → Value → Value → M Value) : Nat → Value → Value → Value → Value → Value → Value → Value → M Value
  | 0, _, _, _, _, _, _, _ => fail
  | k5 + 1, x2, x3, x10, x11, x12, x13, x14 => L7_FrontClosed_b5 F E5_0 (L7_FrontClosed_l5 F E5_0 k5) x2 x3 x10 x11 x12 x13 x14

theorem L7_FrontClosed_l5_s (F : Nat) (E5_0 : Value → Value → Value → Value → Value → M Value) (k5 : Nat) (x2 x3 x10 x11 x12 x13 x14 : Value) : L7_FrontClosed_l5 F E5_0 (k5 + 1) x2 x3 x10 x11 x12 x13 x14 = L7_FrontClosed_b5 F E5_0 (L7_FrontClosed_l5 F E5_0 k5) x2 x3 x10 x11 x12 x13 x14 := rfl

def L7_FrontClosed_r7 (F : Nat) (x2 x3 x10 x11 x12 x13 : Value) (K : Value → Value → Value → Value → Value → Value → Value → M Value) : M Value :=
  K x2 x3 x10 x11 x12 x13 (.int .i64 (0))

theorem L7_FrontClosed_r7_ok (F : Nat) (x2 x3 x10 x11 x12 x13 : Value) (K : Value → Value → Value → Value → Value → Value → Value → M Value) : L7_FrontClosed_r7 F x2 x3 x10 x11 x12 x13 K = L7_FrontClosed_R F 7 [(13, x13), (12, x12), (11, x11), (10, x10), (3, x3), (2, x2)] [2, 3, 10, 11, 12, 13, 14] K := by kernel_rfl

def L7_FrontClosed_r6 (F : Nat) (x2 x3 x10 x11 : Value) (K : Value → Value → Value → Value → Value → Value → M Value) : M Value :=
  K x2 x3 x10 x11 (.slice none 0 0) (.slice none 0 0)

theorem L7_FrontClosed_r6_ok (F : Nat) (x2 x3 x10 x11 : Value) (K : Value → Value → Value → Value → Value → Value → M Value) : L7_FrontClosed_r6 F x2 x3 x10 x11 K = L7_FrontClosed_R F 6 [(11, x11), (10, x10), (3, x3), (2, x2)] [2, 3, 10, 11, 12, 13] K := by kernel_rfl

def L7_FrontClosed_r5 (F : Nat) (x2 x3 x10 : Value) (K : Value → Value → Value → Value → M Value) : M Value :=
  bnd (opLoadN 2 x10) fun v27 => bnd (front_Of F v27 (.int .i64 (0))) fun v28 => K x2 x3 x10 v28

theorem L7_FrontClosed_r5_ok (F : Nat) (x2 x3 x10 : Value) (K : Value → Value → Value → Value → M Value) : L7_FrontClosed_r5 F x2 x3 x10 K = L7_FrontClosed_R F 5 [(10, x10), (3, x3), (2, x2)] [2, 3, 10, 11] K := by kernel_rfl

def L7_FrontClosed_r4 (F : Nat) (x0 x1 x2 x3 : Value) (K : Value → Value → Value → M Value) : M Value :=
  bnd (L5_Made F x0 x1) fun v26 => bnd (opPtr [(.int .i64 (0)), (.slice none 0 0)]) fun v10 => bnd (opStoreN 2 v10 v26) fun _ => K x2 x3 v10

theorem L7_FrontClosed_r4_ok (F : Nat) (x0 x1 x2 x3 : Value) (K : Value → Value → Value → M Value) : L7_FrontClosed_r4 F x0 x1 x2 x3 K = L7_FrontClosed_R F 4 [(3, x3), (2, x2), (1, x1), (0, x0)] [2, 3, 10] K := by kernel_rfl

def L7_FrontClosed_r3 (F : Nat) (K : Value → M Value) : M Value :=
  K (.bool false)

theorem L7_FrontClosed_r3_ok (F : Nat) (K : Value → M Value) : L7_FrontClosed_r3 F K = L7_FrontClosed_R F 3 [] [8] K := by kernel_rfl

def L7_FrontClosed_r2 (F : Nat) (x0 x1 x2 x3 x9 : Value) (K : Value → Value → Value → Value → Value → M Value) : M Value :=
  bnd (opNot x9) fun v23 => K x0 x1 x2 x3 v23

theorem L7_FrontClosed_r2_ok (F : Nat) (x0 x1 x2 x3 x9 : Value) (K : Value → Value → Value → Value → Value → M Value) : L7_FrontClosed_r2 F x0 x1 x2 x3 x9 K = L7_FrontClosed_R F 2 [(9, x9), (3, x3), (2, x2), (1, x1), (0, x0)] [0, 1, 2, 3, 23] K := by kernel_rfl

def L7_FrontClosed_r1 (F : Nat) (x0 x1 x2 x3 : Value) (K : Value → Value → Value → Value → Value → M Value) : M Value :=
  bnd (L7_begun F) fun v21 => K x0 x1 x2 x3 v21

theorem L7_FrontClosed_r1_ok (F : Nat) (x0 x1 x2 x3 : Value) (K : Value → Value → Value → Value → Value → M Value) : L7_FrontClosed_r1 F x0 x1 x2 x3 K = L7_FrontClosed_R F 1 [(3, x3), (2, x2), (1, x1), (0, x0)] [0, 1, 2, 3, 9] K := by kernel_rfl

def L7_FrontClosed_r0 (F : Nat) (x0 x1 x2 x3 : Value) (K : Value → Value → Value → Value → M Value) : M Value :=
  K x0 x1 x2 x3

theorem L7_FrontClosed_r0_ok (F : Nat) (x0 x1 x2 x3 : Value) (K : Value → Value → Value → Value → M Value) : L7_FrontClosed_r0 F x0 x1 x2 x3 K = L7_FrontClosed_R F 0 [(3, x3), (2, x2), (1, x1), (0, x0)] [0, 1, 2, 3] K := by kernel_rfl

def L7_FrontClosed (F : Nat) (x0 x1 x2 x3 : Value) : M Value :=
  L7_FrontClosed_r0 F x0 x1 x2 x3 (fun x0 x1 x2 x3 => L7_FrontClosed_r1 F x0 x1 x2 x3 (fun x0 x1 x2 x3 x9 => L7_FrontClosed_r2 F x0 x1 x2 x3 x9 (fun x0 x1 x2 x3 x23 => onB x23 (L7_FrontClosed_r3 F (fun x8 => ret x8)) (L7_FrontClosed_r4 F x0 x1 x2 x3 (fun x2 x3 x10 => L7_FrontClosed_r5 F x2 x3 x10 (fun x2 x3 x10 x11 => L7_FrontClosed_r6 F x2 x3 x10 x11 (fun x2 x3 x10 x11 x12 x13 => L7_FrontClosed_r7 F x2 x3 x10 x11 x12 x13 (fun x2 x3 x10 x11 x12 x13 x14 => L7_FrontClosed_l5 F (fun x3 x10 x11 x12 x13 => L7_FrontClosed_k4 F x3 x10 x11 x12 x13) F x2 x3 x10 x11 x12 x13 x14))))))))

def L7_FrontClosed_m (F : Nat) : List Value → M Value
  | [x0, x1, x2, x3] => L7_FrontClosed F x0 x1 x2 x3
  | _ => fail

theorem L7_FrontClosed_body : Tryd.f6.body = some (.seq (.region 0 (opsOf Tryd.f6 0) false) (.seq (.region 1 (opsOf Tryd.f6 1) false) (.seq (.seq (.region 2 (opsOf Tryd.f6 2) false) (.cond (.tmp 23) (.seq (.region 3 (opsOf Tryd.f6 3) false) .ret) .skip)) (.seq (.region 4 (opsOf Tryd.f6 4) false) (.seq (.region 5 (opsOf Tryd.f6 5) false) (.seq (.region 6 (opsOf Tryd.f6 6) false) (.seq (.seq (.region 7 (opsOf Tryd.f6 7) false) (.block 0 (.loop (.seq (.seq (.region 8 (opsOf Tryd.f6 8) false) (.cond (.tmp 36) .skip (.exit 0))) (.seq (.block 1 (.region 10 (opsOf Tryd.f6 10) true)) (.region 9 (opsOf Tryd.f6 9) false)))))) (.seq (.region 11 (opsOf Tryd.f6 11) false) (.seq (.seq (.region 12 (opsOf Tryd.f6 12) false) (.block 2 (.loop (.seq (.seq (.region 13 (opsOf Tryd.f6 13) false) (.cond (.tmp 65) .skip (.exit 2))) (.seq (.block 3 (.region 15 (opsOf Tryd.f6 15) true)) (.region 14 (opsOf Tryd.f6 14) false)))))) (.seq (.region 16 (opsOf Tryd.f6 16) false) (.seq (.seq (.region 17 (opsOf Tryd.f6 17) false) (.cond (.tmp 103) (.seq (.region 18 (opsOf Tryd.f6 18) false) .ret) .skip)) (.seq (.region 19 (opsOf Tryd.f6 19) false) (.seq (.region 20 (opsOf Tryd.f6 20) false) (.seq (.region 21 (opsOf Tryd.f6 21) false) (.seq (.seq (.region 22 (opsOf Tryd.f6 22) false) (.block 4 (.loop (.seq (.seq (.region 23 (opsOf Tryd.f6 23) false) (.cond (.tmp 114) .skip (.exit 4))) (.seq (.block 5 (.seq (.region 25 (opsOf Tryd.f6 25) false) (.cond (.tmp 126) (.seq (.region 26 (opsOf Tryd.f6 26) false) .ret) .skip))) (.region 24 (opsOf Tryd.f6 24) false)))))) (.seq (.region 27 (opsOf Tryd.f6 27) false) .ret)))))))))))))))) := by kernel_rfl

theorem L7_FrontClosed_ok (F : Nat) : Sim Tryd.prog TrydG 6 (L7_FrontClosed_m F) := by
 have hE : EnvOK Tryd.prog TrydG (L7_FrontClosed_env F) := (EnvOK.cons (L7_begun_ok F) (EnvOK.cons (L5_Made_ok F) (EnvOK.cons (front_Of_ok F) (EnvOK.cons (bitset_Set_All_ok F) (EnvOK.cons (front_Closure_ok F) (EnvOK.cons (bitset_Of_ok F) (EnvOK.cons (bitset_Set_In_ok F) (EnvOK.cons (bitset_Set_Join_ok F) EnvOK.nil))))))))
 refine Sim.of_body (E := L7_FrontClosed_env F) Tryd.func6 L7_FrontClosed_body Tryd.call6 ?_ ?_
 · intro args hl; unfold L7_FrontClosed_m; split
   · exact absurd hl (Nat.not_lt.2 (Nat.le_of_ble_eq_true rfl))
   · rfl
 · intro args ρ h w z; unfold L7_FrontClosed_m; split
   · rename_i x0 x1 x2 x3; show OKc _ _ [(0, x0), (1, x1), (2, x2), (3, x3)] _ _
     refine rSeq ?_
     refine cLess [3, 2, 1, 0] ?_
     refine xR hE [0, 1, 2, 3] rfl (L7_FrontClosed_r0_ok F _ _ _ _ _) ?_
     intro x0 x1 x2 x3
     show OKq _ _ _ [(3, x3), (2, x2), (1, x1), (0, x0)] _
     refine rThen ?_
     refine rSeq ?_
     refine cLess [3, 2, 1, 0] ?_
     refine xR hE [0, 1, 2, 3, 9] rfl (L7_FrontClosed_r1_ok F _ _ _ _ _) ?_
     intro x0 x1 x2 x3 x9
     show OKq _ _ _ [(9, x9), (3, x3), (2, x2), (1, x1), (0, x0)] _
     refine rThen ?_
     refine rSeq ?_
     refine rSeq ?_
     refine cLess [9, 3, 2, 1, 0] ?_
     refine xR hE [0, 1, 2, 3, 23] rfl (L7_FrontClosed_r2_ok F _ _ _ _ _ _) ?_
     intro x0 x1 x2 x3 x23
     show OKq _ _ _ [(23, x23), (3, x3), (2, x2), (1, x1), (0, x0)] _
     refine rThen ?_
     refine xCond rfl rfl ?_ ?_
     · refine rSeq ?_
       refine cLess [] ?_
       refine xR hE [8] rfl (L7_FrontClosed_r3_ok F _) ?_
       intro x8
       show OKq _ _ _ [(8, x8)] _
       refine rThen ?_
       refine rRet ?_
       refine xThenR ?_
       exact rDone (.inr rfl) rfl
     · refine rSkip ?_
       refine rThen ?_
       refine rSeq ?_
       refine cLess [3, 2, 1, 0] ?_
       refine xR hE [2, 3, 10] rfl (L7_FrontClosed_r4_ok F _ _ _ _ _) ?_
       intro x2 x3 x10
       show OKq _ _ _ [(10, x10), (3, x3), (2, x2)] _
       refine rThen ?_
       refine rSeq ?_
       refine cLess [10, 3, 2] ?_
       refine xR hE [2, 3, 10, 11] rfl (L7_FrontClosed_r5_ok F _ _ _ _) ?_
       intro x2 x3 x10 x11
       show OKq _ _ _ [(11, x11), (10, x10), (3, x3), (2, x2)] _
       refine rThen ?_
       refine rSeq ?_
       refine cLess [11, 10, 3, 2] ?_
       refine xR hE [2, 3, 10, 11, 12, 13] rfl (L7_FrontClosed_r6_ok F _ _ _ _ _) ?_
       intro x2 x3 x10 x11 x12 x13
       show OKq _ _ _ [(13, x13), (12, x12), (11, x11), (10, x10), (3, x3), (2, x2)] _
       refine rThen ?_
       refine xSeq [3, 10, 11, 12, 13] (L7_FrontClosed_k4 F ) ?_ fun hj4 => ?_
       · intro x3 x10 x11 x12 x13
         show OKc _ _ [(13, x13), (12, x12), (11, x11), (10, x10), (3, x3)] _ _
         refine rSeq ?_
         refine cLess [13, 12, 11, 10, 3] ?_
         refine xR hE [3, 10, 11, 12, 13] rfl (L7_FrontClosed_r11_ok F _ _ _ _ _ _) ?_
         intro x3 x10 x11 x12 x13
         show OKq _ _ _ [(13, x13), (12, x12), (11, x11), (10, x10), (3, x3)] _
         refine rThen ?_
         refine xSeq [11, 12, 13] (L7_FrontClosed_k2 F ) ?_ fun hj2 => ?_
         · intro x11 x12 x13
           show OKc _ _ [(13, x13), (12, x12), (11, x11)] _ _
           refine rSeq ?_
           refine cLess [13, 12, 11] ?_
           refine xR hE [11, 12, 16, 17] rfl (L7_FrontClosed_r16_ok F _ _ _ _) ?_
           intro x11 x12 x16 x17
           show OKq _ _ _ [(17, x17), (16, x16), (12, x12), (11, x11)] _
           refine rThen ?_
           refine rSeq ?_
           refine rSeq ?_
           refine cLess [17, 16, 12, 11] ?_
           refine xR hE [11, 12, 16, 103] rfl (L7_FrontClosed_r17_ok F _ _ _ _ _) ?_
           intro x11 x12 x16 x103
           show OKq _ _ _ [(103, x103), (16, x16), (12, x12), (11, x11)] _
           refine rThen ?_
           refine xCond rfl rfl ?_ ?_
           · refine rSeq ?_
             refine cLess [] ?_
             refine xR hE [8] rfl (L7_FrontClosed_r18_ok F _) ?_
             intro x8
             show OKq _ _ _ [(8, x8)] _
             refine rThen ?_
             refine rRet ?_
             refine xThenR ?_
             exact rDone (.inr rfl) rfl
           · refine rSkip ?_
             refine rThen ?_
             refine rSeq ?_
             refine cLess [16, 12, 11] ?_
             refine xR hE [11, 16, 18] rfl (L7_FrontClosed_r19_ok F _ _ _ _) ?_
             intro x11 x16 x18
             show OKq _ _ _ [(18, x18), (16, x16), (11, x11)] _
             refine rThen ?_
             refine rSeq ?_
             refine cLess [18, 16, 11] ?_
             refine xR hE [11, 16, 18] rfl (L7_FrontClosed_r20_ok F _ _ _ _) ?_
             intro x11 x16 x18
             show OKq _ _ _ [(18, x18), (16, x16), (11, x11)] _
             refine rThen ?_
             refine rSeq ?_
             refine cLess [18, 16, 11] ?_
             refine xR hE [11, 16, 19] rfl (L7_FrontClosed_r21_ok F _ _ _ _) ?_
             intro x11 x16 x19
             show OKq _ _ _ [(19, x19), (16, x16), (11, x11)] _
             refine rThen ?_
             refine xSeq [] (L7_FrontClosed_k0 F ) ?_ fun hj0 => ?_
             · show OKc _ _ [] _ _
               refine rSeq ?_
               refine cLess [] ?_
               refine xR hE [8] rfl (L7_FrontClosed_r27_ok F _) ?_
               intro x8
               show OKq _ _ _ [(8, x8)] _
               refine rThen ?_
               refine rRet ?_
               exact rDone (.inr rfl) rfl
             · refine rSeq ?_
               refine cLess [19, 16, 11] ?_
               refine xR hE [11, 16, 19, 20] rfl (L7_FrontClosed_r22_ok F _ _ _ _) ?_
               intro x11 x16 x19 x20
               show OKq _ _ _ [(20, x20), (19, x19), (16, x16), (11, x11)] _
               refine rThen ?_
               refine rBlock ?_
               refine cLess [20, 19, 16, 11] ?_
               refine xLoopAt [11, 16, 19, 20] [] (fun k1 => L7_FrontClosed_l1 F (L7_FrontClosed_k0 F ) k1) F [x11, x16, x19, x20] rfl rfl (fun _ _ _ _ => rfl) fun I hI1 k1 => ?_
               intro x11 x16 x19 x20
               show OKc _ _ [(20, x20), (19, x19), (16, x16), (11, x11)] _ _
               refine cAs (L7_FrontClosed_l1_s F _ _ _ _ _ _) ?_
               refine rSeq ?_
               refine rSeq ?_
               refine cLess [20, 19, 16, 11] ?_
               refine xR hE [11, 16, 19, 20, 114] rfl (L7_FrontClosed_r23_ok F _ _ _ _ _) ?_
               intro x11 x16 x19 x20 x114
               show OKq _ _ _ [(114, x114), (20, x20), (19, x19), (16, x16), (11, x11)] _
               refine rThen ?_
               refine xCond rfl rfl ?_ ?_
               · refine rSkip ?_
                 refine rThen ?_
                 refine rSeq ?_
                 refine rBlock ?_
                 refine rSeq ?_
                 refine cLess [20, 19, 16, 11] ?_
                 refine xR hE [11, 16, 19, 20, 126] rfl (L7_FrontClosed_r25_ok F _ _ _ _ _) ?_
                 intro x11 x16 x19 x20 x126
                 show OKq _ _ _ [(126, x126), (20, x20), (19, x19), (16, x16), (11, x11)] _
                 refine rThen ?_
                 refine xCond rfl rfl ?_ ?_
                 · refine rSeq ?_
                   refine cLess [] ?_
                   refine xR hE [8] rfl (L7_FrontClosed_r26_ok F _) ?_
                   intro x8
                   show OKq _ _ _ [(8, x8)] _
                   refine rThen ?_
                   refine rRet ?_
                   refine xBlockR ?_
                   refine xThenR ?_
                   refine xThenR ?_
                   refine xBlockR ?_
                   refine xThenR ?_
                   exact rDone (.inr rfl) rfl
                 · refine rSkip ?_
                   refine xBlockN ?_
                   refine rThen ?_
                   refine cLess [20, 19, 16, 11] ?_
                   refine xR hE [11, 16, 19, 20] rfl (L7_FrontClosed_r24_ok F _ _ _ _ _) ?_
                   intro x11 x16 x19 x20
                   show OKq _ _ _ [(20, x20), (19, x19), (16, x16), (11, x11)] _
                   exact qLess [20, 19, 16, 11] (hI1 k1 x11 x16 x19 x20)
               · refine rExit ?_
                 refine xThenX ?_
                 refine xThenX ?_
                 refine rOut ?_
                 exact qLess [] (hj0 )
         · refine rSeq ?_
           refine cLess [13, 12, 11, 10, 3] ?_
           refine xR hE [3, 10, 11, 12, 13, 15] rfl (L7_FrontClosed_r12_ok F _ _ _ _ _ _) ?_
           intro x3 x10 x11 x12 x13 x15
           show OKq _ _ _ [(15, x15), (13, x13), (12, x12), (11, x11), (10, x10), (3, x3)] _
           refine rThen ?_
           refine rBlock ?_
           refine cLess [15, 13, 12, 11, 10, 3] ?_
           refine xLoopAt [3, 10, 11, 12, 13, 15] [] (fun k3 => L7_FrontClosed_l3 F (fun x11 x12 x13 => L7_FrontClosed_k2 F x11 x12 x13) k3) F [x3, x10, x11, x12, x13, x15] rfl rfl (fun _ _ _ _ _ _ => rfl) fun I hI3 k3 => ?_
           intro x3 x10 x11 x12 x13 x15
           show OKc _ _ [(15, x15), (13, x13), (12, x12), (11, x11), (10, x10), (3, x3)] _ _
           refine cAs (L7_FrontClosed_l3_s F _ _ _ _ _ _ _ _) ?_
           refine rSeq ?_
           refine rSeq ?_
           refine cLess [15, 13, 12, 11, 10, 3] ?_
           refine xR hE [3, 10, 11, 12, 13, 15, 65] rfl (L7_FrontClosed_r13_ok F _ _ _ _ _ _ _) ?_
           intro x3 x10 x11 x12 x13 x15 x65
           show OKq _ _ _ [(65, x65), (15, x15), (13, x13), (12, x12), (11, x11), (10, x10), (3, x3)] _
           refine rThen ?_
           refine xCond rfl rfl ?_ ?_
           · refine rSkip ?_
             refine rThen ?_
             refine rSeq ?_
             refine rBlock ?_
             refine cLess [15, 13, 12, 11, 10, 3] ?_
             refine xD Trydmix hE [3, 10, 11, 12, 13, 15] rfl L7_FrontClosed_r15_good (L7_FrontClosed_r15_ok F _ _ _ _ _ _ _) ?_
             intro x3 x10 x11 x12 x13 x15
             show OKq _ _ _ [(15, x15), (13, x13), (12, x12), (11, x11), (10, x10), (3, x3)] _
             refine xBlockN ?_
             refine rThen ?_
             refine cLess [15, 13, 12, 11, 10, 3] ?_
             refine xR hE [3, 10, 11, 12, 13, 15] rfl (L7_FrontClosed_r14_ok F _ _ _ _ _ _ _) ?_
             intro x3 x10 x11 x12 x13 x15
             show OKq _ _ _ [(15, x15), (13, x13), (12, x12), (11, x11), (10, x10), (3, x3)] _
             exact qLess [15, 13, 12, 11, 10, 3] (hI3 k3 x3 x10 x11 x12 x13 x15)
           · refine rExit ?_
             refine xThenX ?_
             refine xThenX ?_
             refine rOut ?_
             exact qLess [13, 12, 11] (hj2 x11 x12 x13)
       · refine rSeq ?_
         refine cLess [13, 12, 11, 10, 3, 2] ?_
         refine xR hE [2, 3, 10, 11, 12, 13, 14] rfl (L7_FrontClosed_r7_ok F _ _ _ _ _ _ _) ?_
         intro x2 x3 x10 x11 x12 x13 x14
         show OKq _ _ _ [(14, x14), (13, x13), (12, x12), (11, x11), (10, x10), (3, x3), (2, x2)] _
         refine rThen ?_
         refine rBlock ?_
         refine cLess [14, 13, 12, 11, 10, 3, 2] ?_
         refine xLoopAt [2, 3, 10, 11, 12, 13, 14] [] (fun k5 => L7_FrontClosed_l5 F (fun x3 x10 x11 x12 x13 => L7_FrontClosed_k4 F x3 x10 x11 x12 x13) k5) F [x2, x3, x10, x11, x12, x13, x14] rfl rfl (fun _ _ _ _ _ _ _ => rfl) fun I hI5 k5 => ?_
         intro x2 x3 x10 x11 x12 x13 x14
         show OKc _ _ [(14, x14), (13, x13), (12, x12), (11, x11), (10, x10), (3, x3), (2, x2)] _ _
         refine cAs (L7_FrontClosed_l5_s F _ _ _ _ _ _ _ _ _) ?_
         refine rSeq ?_
         refine rSeq ?_
         refine cLess [14, 13, 12, 11, 10, 3, 2] ?_
         refine xR hE [2, 3, 10, 11, 12, 13, 14, 36] rfl (L7_FrontClosed_r8_ok F _ _ _ _ _ _ _ _) ?_
         intro x2 x3 x10 x11 x12 x13 x14 x36
         show OKq _ _ _ [(36, x36), (14, x14), (13, x13), (12, x12), (11, x11), (10, x10), (3, x3), (2, x2)] _
         refine rThen ?_
         refine xCond rfl rfl ?_ ?_
         · refine rSkip ?_
           refine rThen ?_
           refine rSeq ?_
           refine rBlock ?_
           refine cLess [14, 13, 12, 11, 10, 3, 2] ?_
           refine xD Trydmix hE [2, 3, 10, 11, 12, 13, 14] rfl L7_FrontClosed_r10_good (L7_FrontClosed_r10_ok F _ _ _ _ _ _ _ _) ?_
           intro x2 x3 x10 x11 x12 x13 x14
           show OKq _ _ _ [(14, x14), (13, x13), (12, x12), (11, x11), (10, x10), (3, x3), (2, x2)] _
           refine xBlockN ?_
           refine rThen ?_
           refine cLess [14, 13, 12, 11, 10, 3, 2] ?_
           refine xR hE [2, 3, 10, 11, 12, 13, 14] rfl (L7_FrontClosed_r9_ok F _ _ _ _ _ _ _ _) ?_
           intro x2 x3 x10 x11 x12 x13 x14
           show OKq _ _ _ [(14, x14), (13, x13), (12, x12), (11, x11), (10, x10), (3, x3), (2, x2)] _
           exact qLess [14, 13, 12, 11, 10, 3, 2] (hI5 k5 x2 x3 x10 x11 x12 x13 x14)
         · refine rExit ?_
           refine xThenX ?_
           refine xThenX ?_
           refine rOut ?_
           exact qLess [13, 12, 11, 10, 3] (hj4 x3 x10 x11 x12 x13)
   · exact rFail


/-! ### haruspex/haruspexlaw7.FrontLine -/

def L7_FrontLine_env (F : Nat) : Env := envOf [(8, L7_begun_m F), (10, front_Of_m F), (20, bitset_Set_Has_m F), (26, bitset_Set_Len_m F)]

noncomputable def L7_FrontLine_R (F : Nat) := rK Tryd.prog TrydG (L7_FrontLine_env F) Tryd.f7
noncomputable def L7_FrontLine_D (F : Nat) := dK Tryd.prog TrydG (L7_FrontLine_env F) Tryd.f7

def L7_FrontLine_r19 (F : Nat) (x0 x8 : Value) (K : Value → M Value) : M Value :=
  bnd (opLen x8) fun v80 => bnd (opBin .eql v80 x0) fun v82 => K v82

theorem L7_FrontLine_r19_ok (F : Nat) (x0 x8 : Value) (K : Value → M Value) : L7_FrontLine_r19 F x0 x8 K = L7_FrontLine_R F 19 [(8, x8), (0, x0)] [4] K := by kernel_rfl

def L7_FrontLine_k0 (F : Nat) (x0 x8 : Value) : M Value :=
  L7_FrontLine_r19 F x0 x8 (fun x4 => ret x4)

def L7_FrontLine_r16 (F : Nat) (x0 x1 x8 x9 : Value) (K : Value → Value → Value → Value → M Value) : M Value :=
  bnd (opBin .add x9 (.int .i64 (1))) fun v49 => K x0 x1 x8 v49

theorem L7_FrontLine_r16_ok (F : Nat) (x0 x1 x8 x9 : Value) (K : Value → Value → Value → Value → M Value) : L7_FrontLine_r16 F x0 x1 x8 x9 K = L7_FrontLine_R F 16 [(9, x9), (8, x8), (1, x1), (0, x0)] [0, 1, 8, 9] K := by kernel_rfl

def L7_FrontLine_r18 (F : Nat) (K : Value → M Value) : M Value :=
  K (.bool false)

theorem L7_FrontLine_r18_ok (F : Nat) (K : Value → M Value) : L7_FrontLine_r18 F K = L7_FrontLine_R F 18 [] [4] K := by kernel_rfl

def L7_FrontLine_r17 (F : Nat) (x0 x1 x8 x9 : Value) (K : Value → Value → Value → Value → Value → M Value) : M Value :=
  onB x1 (bnd (opIndexAddr 1 x8 x9) fun v54 => bnd (opLoad v54) fun v55 => bnd (bitset_Set_Len F v55) fun v56 => bnd (opBin .neq v56 (.int .i64 (1))) fun v57 => onB v57 (K x0 x1 x8 x9 (.bool true)) (bnd (opIndexAddr 1 x8 x9) fun v61 => bnd (opLoad v61) fun v62 => bnd (bitset_Set_Has F v62 (.int .i64 (0))) fun v63 => bnd (opNot v63) fun v64 => onB v64 (K x0 x1 x8 x9 (.bool true)) (bnd (opNot x1) fun v69 => onB v69 (bnd (opIndexAddr 1 x8 x9) fun v73 => bnd (opLoad v73) fun v74 => bnd (bitset_Set_Len F v74) fun v75 => bnd (opBin .neq v75 (.int .i64 (0))) fun v76 => K x0 x1 x8 x9 v76) (K x0 x1 x8 x9 (.bool false))))) (bnd (opNot x1) fun v69 => onB v69 (bnd (opIndexAddr 1 x8 x9) fun v73 => bnd (opLoad v73) fun v74 => bnd (bitset_Set_Len F v74) fun v75 => bnd (opBin .neq v75 (.int .i64 (0))) fun v76 => K x0 x1 x8 x9 v76) (K x0 x1 x8 x9 (.bool false)))

theorem L7_FrontLine_r17_ok (F : Nat) (x0 x1 x8 x9 : Value) (K : Value → Value → Value → Value → Value → M Value) : L7_FrontLine_r17 F x0 x1 x8 x9 K = L7_FrontLine_R F 17 [(9, x9), (8, x8), (1, x1), (0, x0)] [0, 1, 8, 9, 78] K := by kernel_rfl

def L7_FrontLine_r15 (F : Nat) (x0 x1 x8 x9 : Value) (K : Value → Value → Value → Value → Value → M Value) : M Value :=
  bnd (opBin .lss x9 x0) fun v47 => K x0 x1 x8 x9 v47

theorem L7_FrontLine_r15_ok (F : Nat) (x0 x1 x8 x9 : Value) (K : Value → Value → Value → Value → Value → M Value) : L7_FrontLine_r15 F x0 x1 x8 x9 K = L7_FrontLine_R F 15 [(9, x9), (8, x8), (1, x1), (0, x0)] [0, 1, 8, 9, 47] K := by kernel_rfl

def L7_FrontLine_b1 (F : Nat) (E1_2 : Value → Value → M Value) (A1 : Value → Value → Value → Value → M Value) (x0 x1 x8 x9 : Value) : M Value :=
  L7_FrontLine_r15 F x0 x1 x8 x9 (fun x0 x1 x8 x9 x47 => onB x47 (L7_FrontLine_r17 F x0 x1 x8 x9 (fun x0 x1 x8 x9 x78 => onB x78 (L7_FrontLine_r18 F (fun x4 => ret x4)) (L7_FrontLine_r16 F x0 x1 x8 x9 (fun x0 x1 x8 x9 => A1 x0 x1 x8 x9)))) (E1_2 x0 x8))

def L7_FrontLine_l1 (F : Nat) (E1_2 : Value → Value → M Value) : Nat → Value → Value → Value → Value → M Value
  | 0, _, _, _, _ => fail
  | k1 + 1, x0, x1, x8, x9 => L7_FrontLine_b1 F E1_2 (L7_FrontLine_l1 F E1_2 k1) x0 x1 x8 x9

theorem L7_FrontLine_l1_s (F : Nat) (E1_2 : Value → Value → M Value) (k1 : Nat) (x0 x1 x8 x9 : Value) : L7_FrontLine_l1 F E1_2 (k1 + 1) x0 x1 x8 x9 = L7_FrontLine_b1 F E1_2 (L7_FrontLine_l1 F E1_2 k1) x0 x1 x8 x9 := rfl

def L7_FrontLine_r14 (F : Nat) (x0 x1 x8 : Value) (K : Value → Value → Value → Value → M Value) : M Value :=
  K x0 x1 x8 (.int .i64 (0))

theorem L7_FrontLine_r14_ok (F : Nat) (x0 x1 x8 : Value) (K : Value → Value → Value → Value → M Value) : L7_FrontLine_r14 F x0 x1 x8 K = L7_FrontLine_R F 14 [(8, x8), (1, x1), (0, x0)] [0, 1, 8, 9] K := by kernel_rfl

def L7_FrontLine_r13 (F : Nat) (x0 x1 x6 : Value) (K : Value → Value → Value → M Value) : M Value :=
  bnd (opLoadN 2 x6) fun v43 => bnd (front_Of F v43 (.int .i64 (0))) fun v44 => K x0 x1 v44

theorem L7_FrontLine_r13_ok (F : Nat) (x0 x1 x6 : Value) (K : Value → Value → Value → M Value) : L7_FrontLine_r13 F x0 x1 x6 K = L7_FrontLine_R F 13 [(6, x6), (1, x1), (0, x0)] [0, 1, 8] K := by kernel_rfl

def L7_FrontLine_k2 (F : Nat) (x0 x1 x6 : Value) : M Value :=
  L7_FrontLine_r13 F x0 x1 x6 (fun x0 x1 x8 => L7_FrontLine_r14 F x0 x1 x8 (fun x0 x1 x8 x9 => L7_FrontLine_l1 F (fun x0 x8 => L7_FrontLine_k0 F x0 x8) F x0 x1 x8 x9))

def L7_FrontLine_r12 (F : Nat) (x0 x1 x6 : Value) (K : Value → Value → Value → M Value) : M Value :=
  bnd (opFieldAddr 1 x6) fun v37 => bnd (opLoad v37) fun v38 => bnd (opBin .sub x0 (.int .i64 (1))) fun v40 => bnd (opBuildSlice 1 (rep 1 [(.int .i64 (0))]) [(0, 1, false, (.int .i64 (0)))]) fun v41 => bnd (opIndexAddr 1 v38 v40) fun v42 => bnd (opStore v42 v41) fun _ => K x0 x1 x6

theorem L7_FrontLine_r12_ok (F : Nat) (x0 x1 x6 : Value) (K : Value → Value → Value → M Value) : L7_FrontLine_r12 F x0 x1 x6 K = L7_FrontLine_R F 12 [(6, x6), (1, x1), (0, x0)] [0, 1, 6] K := by kernel_rfl

def L7_FrontLine_r11 (F : Nat) (x0 x1 x6 : Value) (K : Value → Value → Value → Value → M Value) : M Value :=
  K x0 x1 x6 x1

theorem L7_FrontLine_r11_ok (F : Nat) (x0 x1 x6 : Value) (K : Value → Value → Value → Value → M Value) : L7_FrontLine_r11 F x0 x1 x6 K = L7_FrontLine_R F 11 [(6, x6), (1, x1), (0, x0)] [0, 1, 6, 36] K := by kernel_rfl

def L7_FrontLine_k3 (F : Nat) (x0 x1 x6 : Value) : M Value :=
  L7_FrontLine_r11 F x0 x1 x6 (fun x0 x1 x6 x36 => onB x36 (L7_FrontLine_r12 F x0 x1 x6 (fun x0 x1 x6 => L7_FrontLine_k2 F x0 x1 x6)) (L7_FrontLine_k2 F x0 x1 x6))

def L7_FrontLine_r9 (F : Nat) (x0 x1 x6 x7 : Value) (K : Value → Value → Value → Value → M Value) : M Value :=
  bnd (opBin .add x7 (.int .i64 (1))) fun v28 => K x0 x1 x6 v28

theorem L7_FrontLine_r9_ok (F : Nat) (x0 x1 x6 x7 : Value) (K : Value → Value → Value → Value → M Value) : L7_FrontLine_r9 F x0 x1 x6 x7 K = L7_FrontLine_R F 9 [(7, x7), (6, x6), (1, x1), (0, x0)] [0, 1, 6, 7] K := by kernel_rfl

def L7_FrontLine_r10 (F : Nat) (x0 x1 x6 x7 : Value) (K : Value → Value → Value → Value → M Value) : M Value :=
  bnd (opFieldAddr 1 x6) fun v29 => bnd (opLoad v29) fun v30 => bnd (opBin .add x7 (.int .i64 (1))) fun v33 => bnd (opBuildSlice 1 (rep 1 [(.int .i64 (0))]) [(0, 1, false, v33)]) fun v34 => bnd (opIndexAddr 1 v30 x7) fun v35 => bnd (opStore v35 v34) fun _ => K x0 x1 x6 x7

theorem L7_FrontLine_r10_ok (F : Nat) (x0 x1 x6 x7 : Value) (K : Value → Value → Value → Value → M Value) : L7_FrontLine_r10 F x0 x1 x6 x7 K = L7_FrontLine_R F 10 [(7, x7), (6, x6), (1, x1), (0, x0)] [0, 1, 6, 7] K := by kernel_rfl

def L7_FrontLine_r8 (F : Nat) (x0 x1 x6 x7 : Value) (K : Value → Value → Value → Value → Value → M Value) : M Value :=
  bnd (opBin .add x7 (.int .i64 (1))) fun v24 => bnd (opBin .lss v24 x0) fun v26 => K x0 x1 x6 x7 v26

theorem L7_FrontLine_r8_ok (F : Nat) (x0 x1 x6 x7 : Value) (K : Value → Value → Value → Value → Value → M Value) : L7_FrontLine_r8 F x0 x1 x6 x7 K = L7_FrontLine_R F 8 [(7, x7), (6, x6), (1, x1), (0, x0)] [0, 1, 6, 7, 26] K := by kernel_rfl

def L7_FrontLine_b4 (F : Nat) (E4_0 : Value → Value → Value → M Value) (A4 : Value → Value → Value → Value → M Value) (x0 x1 x6 x7 : Value) : M Value :=
  L7_FrontLine_r8 F x0 x1 x6 x7 (fun x0 x1 x6 x7 x26 => onB x26 (L7_FrontLine_r10 F x0 x1 x6 x7 (fun x0 x1 x6 x7 => L7_FrontLine_r9 F x0 x1 x6 x7 (fun x0 x1 x6 x7 => A4 x0 x1 x6 x7))) (E4_0 x0 x1 x6))

def L7_FrontLine_l4 (F : Nat) (E4_0 : Value → Value → Value → M Value) : Nat → Value → Value → Value → Value → M Value
  | 0, _, _, _, _ => fail
  | k4 + 1, x0, x1, x6, x7 => L7_FrontLine_b4 F E4_0 (L7_FrontLine_l4 F E4_0 k4) x0 x1 x6 x7

theorem L7_FrontLine_l4_s (F : Nat) (E4_0 : Value → Value → Value → M Value) (k4 : Nat) (x0 x1 x6 x7 : Value) : L7_FrontLine_l4 F E4_0 (k4 + 1) x0 x1 x6 x7 = L7_FrontLine_b4 F E4_0 (L7_FrontLine_l4 F E4_0 k4) x0 x1 x6 x7 := rfl

def L7_FrontLine_r7 (F : Nat) (x0 x1 x6 : Value) (K : Value → Value → Value → Value → M Value) : M Value :=
  K x0 x1 x6 (.int .i64 (0))

theorem L7_FrontLine_r7_ok (F : Nat) (x0 x1 x6 : Value) (K : Value → Value → Value → Value → M Value) : L7_FrontLine_r7 F x0 x1 x6 K = L7_FrontLine_R F 7 [(6, x6), (1, x1), (0, x0)] [0, 1, 6, 7] K := by kernel_rfl

def L7_FrontLine_r6 (F : Nat) (x0 x1 : Value) (K : Value → Value → Value → M Value) : M Value :=
  bnd (opMake 24 [(.slice none 0 0)] x0 x0) fun v21 => bnd (opBuild [(.int .i64 (0)), (.slice none 0 0)] [(0, 1, false, x0), (1, 1, false, v21)]) fun v22 => bnd (opPtr [(.int .i64 (0)), (.slice none 0 0)]) fun v6 => bnd (opStoreN 2 v6 v22) fun _ => K x0 x1 v6

theorem L7_FrontLine_r6_ok (F : Nat) (x0 x1 : Value) (K : Value → Value → Value → M Value) : L7_FrontLine_r6 F x0 x1 K = L7_FrontLine_R F 6 [(1, x1), (0, x0)] [0, 1, 6] K := by kernel_rfl

def L7_FrontLine_r5 (F : Nat) (K : Value → M Value) : M Value :=
  K (.bool true)

theorem L7_FrontLine_r5_ok (F : Nat) (K : Value → M Value) : L7_FrontLine_r5 F K = L7_FrontLine_R F 5 [] [4] K := by kernel_rfl

def L7_FrontLine_r4 (F : Nat) (x0 x1 : Value) (K : Value → Value → Value → M Value) : M Value :=
  bnd (opBin .lss x0 (.int .i64 (1))) fun v14 => onB v14 (K x0 x1 (.bool true)) (bnd (opBin .gtr x0 (.int .i64 (60))) fun v17 => K x0 x1 v17)

theorem L7_FrontLine_r4_ok (F : Nat) (x0 x1 : Value) (K : Value → Value → Value → M Value) : L7_FrontLine_r4 F x0 x1 K = L7_FrontLine_R F 4 [(1, x1), (0, x0)] [0, 1, 18] K := by kernel_rfl

def L7_FrontLine_r3 (F : Nat) (K : Value → M Value) : M Value :=
  K (.bool false)

theorem L7_FrontLine_r3_ok (F : Nat) (K : Value → M Value) : L7_FrontLine_r3 F K = L7_FrontLine_R F 3 [] [4] K := by kernel_rfl

def L7_FrontLine_r2 (F : Nat) (x0 x1 x5 : Value) (K : Value → Value → Value → M Value) : M Value :=
  bnd (opNot x5) fun v12 => K x0 x1 v12

theorem L7_FrontLine_r2_ok (F : Nat) (x0 x1 x5 : Value) (K : Value → Value → Value → M Value) : L7_FrontLine_r2 F x0 x1 x5 K = L7_FrontLine_R F 2 [(5, x5), (1, x1), (0, x0)] [0, 1, 12] K := by kernel_rfl

def L7_FrontLine_r1 (F : Nat) (x0 x1 : Value) (K : Value → Value → Value → M Value) : M Value :=
  bnd (L7_begun F) fun v10 => K x0 x1 v10

theorem L7_FrontLine_r1_ok (F : Nat) (x0 x1 : Value) (K : Value → Value → Value → M Value) : L7_FrontLine_r1 F x0 x1 K = L7_FrontLine_R F 1 [(1, x1), (0, x0)] [0, 1, 5] K := by kernel_rfl

def L7_FrontLine_r0 (F : Nat) (x0 x1 : Value) (K : Value → Value → M Value) : M Value :=
  K x0 x1

theorem L7_FrontLine_r0_ok (F : Nat) (x0 x1 : Value) (K : Value → Value → M Value) : L7_FrontLine_r0 F x0 x1 K = L7_FrontLine_R F 0 [(1, x1), (0, x0)] [0, 1] K := by kernel_rfl

def L7_FrontLine (F : Nat) (x0 x1 : Value) : M Value :=
  L7_FrontLine_r0 F x0 x1 (fun x0 x1 => L7_FrontLine_r1 F x0 x1 (fun x0 x1 x5 => L7_FrontLine_r2 F x0 x1 x5 (fun x0 x1 x12 => onB x12 (L7_FrontLine_r3 F (fun x4 => ret x4)) (L7_FrontLine_r4 F x0 x1 (fun x0 x1 x18 => onB x18 (L7_FrontLine_r5 F (fun x4 => ret x4)) (L7_FrontLine_r6 F x0 x1 (fun x0 x1 x6 => L7_FrontLine_r7 F x0 x1 x6 (fun x0 x1 x6 x7 => L7_FrontLine_l4 F (fun x0 x1 x6 => L7_FrontLine_k3 F x0 x1 x6) F x0 x1 x6 x7))))))))

def L7_FrontLine_m (F : Nat) : List Value → M Value
  | [x0, x1] => L7_FrontLine F x0 x1
  | _ => fail

theorem L7_FrontLine_body : Tryd.f7.body = some (.seq (.region 0 (opsOf Tryd.f7 0) false) (.seq (.region 1 (opsOf Tryd.f7 1) false) (.seq (.seq (.region 2 (opsOf Tryd.f7 2) false) (.cond (.tmp 12) (.seq (.region 3 (opsOf Tryd.f7 3) false) .ret) .skip)) (.seq (.seq (.region 4 (opsOf Tryd.f7 4) false) (.cond (.tmp 18) (.seq (.region 5 (opsOf Tryd.f7 5) false) .ret) .skip)) (.seq (.region 6 (opsOf Tryd.f7 6) false) (.seq (.seq (.region 7 (opsOf Tryd.f7 7) false) (.block 0 (.loop (.seq (.seq (.region 8 (opsOf Tryd.f7 8) false) (.cond (.tmp 26) .skip (.exit 0))) (.seq (.block 1 (.region 10 (opsOf Tryd.f7 10) false)) (.region 9 (opsOf Tryd.f7 9) false)))))) (.seq (.seq (.region 11 (opsOf Tryd.f7 11) false) (.cond (.tmp 36) (.region 12 (opsOf Tryd.f7 12) false) .skip)) (.seq (.region 13 (opsOf Tryd.f7 13) false) (.seq (.seq (.region 14 (opsOf Tryd.f7 14) false) (.block 2 (.loop (.seq (.seq (.region 15 (opsOf Tryd.f7 15) false) (.cond (.tmp 47) .skip (.exit 2))) (.seq (.block 3 (.seq (.region 17 (opsOf Tryd.f7 17) false) (.cond (.tmp 78) (.seq (.region 18 (opsOf Tryd.f7 18) false) .ret) .skip))) (.region 16 (opsOf Tryd.f7 16) false)))))) (.seq (.region 19 (opsOf Tryd.f7 19) false) .ret)))))))))) := by kernel_rfl

theorem L7_FrontLine_ok (F : Nat) : Sim Tryd.prog TrydG 7 (L7_FrontLine_m F) := by
 have hE : EnvOK Tryd.prog TrydG (L7_FrontLine_env F) := (EnvOK.cons (L7_begun_ok F) (EnvOK.cons (front_Of_ok F) (EnvOK.cons (bitset_Set_Has_ok F) (EnvOK.cons (bitset_Set_Len_ok F) EnvOK.nil))))
 refine Sim.of_body (E := L7_FrontLine_env F) Tryd.func7 L7_FrontLine_body Tryd.call7 ?_ ?_
 · intro args hl; unfold L7_FrontLine_m; split
   · exact absurd hl (Nat.not_lt.2 (Nat.le_of_ble_eq_true rfl))
   · rfl
 · intro args ρ h w z; unfold L7_FrontLine_m; split
   · rename_i x0 x1; show OKc _ _ [(0, x0), (1, x1)] _ _
     refine rSeq ?_
     refine cLess [1, 0] ?_
     refine xR hE [0, 1] rfl (L7_FrontLine_r0_ok F _ _ _) ?_
     intro x0 x1
     show OKq _ _ _ [(1, x1), (0, x0)] _
     refine rThen ?_
     refine rSeq ?_
     refine cLess [1, 0] ?_
     refine xR hE [0, 1, 5] rfl (L7_FrontLine_r1_ok F _ _ _) ?_
     intro x0 x1 x5
     show OKq _ _ _ [(5, x5), (1, x1), (0, x0)] _
     refine rThen ?_
     refine rSeq ?_
     refine rSeq ?_
     refine cLess [5, 1, 0] ?_
     refine xR hE [0, 1, 12] rfl (L7_FrontLine_r2_ok F _ _ _ _) ?_
     intro x0 x1 x12
     show OKq _ _ _ [(12, x12), (1, x1), (0, x0)] _
     refine rThen ?_
     refine xCond rfl rfl ?_ ?_
     · refine rSeq ?_
       refine cLess [] ?_
       refine xR hE [4] rfl (L7_FrontLine_r3_ok F _) ?_
       intro x4
       show OKq _ _ _ [(4, x4)] _
       refine rThen ?_
       refine rRet ?_
       refine xThenR ?_
       exact rDone (.inr rfl) rfl
     · refine rSkip ?_
       refine rThen ?_
       refine rSeq ?_
       refine rSeq ?_
       refine cLess [1, 0] ?_
       refine xR hE [0, 1, 18] rfl (L7_FrontLine_r4_ok F _ _ _) ?_
       intro x0 x1 x18
       show OKq _ _ _ [(18, x18), (1, x1), (0, x0)] _
       refine rThen ?_
       refine xCond rfl rfl ?_ ?_
       · refine rSeq ?_
         refine cLess [] ?_
         refine xR hE [4] rfl (L7_FrontLine_r5_ok F _) ?_
         intro x4
         show OKq _ _ _ [(4, x4)] _
         refine rThen ?_
         refine rRet ?_
         refine xThenR ?_
         exact rDone (.inr rfl) rfl
       · refine rSkip ?_
         refine rThen ?_
         refine rSeq ?_
         refine cLess [1, 0] ?_
         refine xR hE [0, 1, 6] rfl (L7_FrontLine_r6_ok F _ _ _) ?_
         intro x0 x1 x6
         show OKq _ _ _ [(6, x6), (1, x1), (0, x0)] _
         refine rThen ?_
         refine xSeq [0, 1, 6] (L7_FrontLine_k3 F ) ?_ fun hj3 => ?_
         · intro x0 x1 x6
           show OKc _ _ [(6, x6), (1, x1), (0, x0)] _ _
           refine xSeq [0, 1, 6] (L7_FrontLine_k2 F ) ?_ fun hj2 => ?_
           · intro x0 x1 x6
             show OKc _ _ [(6, x6), (1, x1), (0, x0)] _ _
             refine rSeq ?_
             refine cLess [6, 1, 0] ?_
             refine xR hE [0, 1, 8] rfl (L7_FrontLine_r13_ok F _ _ _ _) ?_
             intro x0 x1 x8
             show OKq _ _ _ [(8, x8), (1, x1), (0, x0)] _
             refine rThen ?_
             refine xSeq [0, 8] (L7_FrontLine_k0 F ) ?_ fun hj0 => ?_
             · intro x0 x8
               show OKc _ _ [(8, x8), (0, x0)] _ _
               refine rSeq ?_
               refine cLess [8, 0] ?_
               refine xR hE [4] rfl (L7_FrontLine_r19_ok F _ _ _) ?_
               intro x4
               show OKq _ _ _ [(4, x4)] _
               refine rThen ?_
               refine rRet ?_
               exact rDone (.inr rfl) rfl
             · refine rSeq ?_
               refine cLess [8, 1, 0] ?_
               refine xR hE [0, 1, 8, 9] rfl (L7_FrontLine_r14_ok F _ _ _ _) ?_
               intro x0 x1 x8 x9
               show OKq _ _ _ [(9, x9), (8, x8), (1, x1), (0, x0)] _
               refine rThen ?_
               refine rBlock ?_
               refine cLess [9, 8, 1, 0] ?_
               refine xLoopAt [0, 1, 8, 9] [] (fun k1 => L7_FrontLine_l1 F (fun x0 x8 => L7_FrontLine_k0 F x0 x8) k1) F [x0, x1, x8, x9] rfl rfl (fun _ _ _ _ => rfl) fun I hI1 k1 => ?_
               intro x0 x1 x8 x9
               show OKc _ _ [(9, x9), (8, x8), (1, x1), (0, x0)] _ _
               refine cAs (L7_FrontLine_l1_s F _ _ _ _ _ _) ?_
               refine rSeq ?_
               refine rSeq ?_
               refine cLess [9, 8, 1, 0] ?_
               refine xR hE [0, 1, 8, 9, 47] rfl (L7_FrontLine_r15_ok F _ _ _ _ _) ?_
               intro x0 x1 x8 x9 x47
               show OKq _ _ _ [(47, x47), (9, x9), (8, x8), (1, x1), (0, x0)] _
               refine rThen ?_
               refine xCond rfl rfl ?_ ?_
               · refine rSkip ?_
                 refine rThen ?_
                 refine rSeq ?_
                 refine rBlock ?_
                 refine rSeq ?_
                 refine cLess [9, 8, 1, 0] ?_
                 refine xR hE [0, 1, 8, 9, 78] rfl (L7_FrontLine_r17_ok F _ _ _ _ _) ?_
                 intro x0 x1 x8 x9 x78
                 show OKq _ _ _ [(78, x78), (9, x9), (8, x8), (1, x1), (0, x0)] _
                 refine rThen ?_
                 refine xCond rfl rfl ?_ ?_
                 · refine rSeq ?_
                   refine cLess [] ?_
                   refine xR hE [4] rfl (L7_FrontLine_r18_ok F _) ?_
                   intro x4
                   show OKq _ _ _ [(4, x4)] _
                   refine rThen ?_
                   refine rRet ?_
                   refine xBlockR ?_
                   refine xThenR ?_
                   refine xThenR ?_
                   refine xBlockR ?_
                   refine xThenR ?_
                   exact rDone (.inr rfl) rfl
                 · refine rSkip ?_
                   refine xBlockN ?_
                   refine rThen ?_
                   refine cLess [9, 8, 1, 0] ?_
                   refine xR hE [0, 1, 8, 9] rfl (L7_FrontLine_r16_ok F _ _ _ _ _) ?_
                   intro x0 x1 x8 x9
                   show OKq _ _ _ [(9, x9), (8, x8), (1, x1), (0, x0)] _
                   exact qLess [9, 8, 1, 0] (hI1 k1 x0 x1 x8 x9)
               · refine rExit ?_
                 refine xThenX ?_
                 refine xThenX ?_
                 refine rOut ?_
                 exact qLess [8, 0] (hj0 x0 x8)
           · refine rSeq ?_
             refine cLess [6, 1, 0] ?_
             refine xR hE [0, 1, 6, 36] rfl (L7_FrontLine_r11_ok F _ _ _ _) ?_
             intro x0 x1 x6 x36
             show OKq _ _ _ [(36, x36), (6, x6), (1, x1), (0, x0)] _
             refine rThen ?_
             refine xCond rfl rfl ?_ ?_
             · refine cLess [6, 1, 0] ?_
               refine xR hE [0, 1, 6] rfl (L7_FrontLine_r12_ok F _ _ _ _) ?_
               intro x0 x1 x6
               show OKq _ _ _ [(6, x6), (1, x1), (0, x0)] _
               exact qLess [6, 1, 0] (hj2 x0 x1 x6)
             · refine rSkip ?_
               exact qLess [6, 1, 0] (hj2 x0 x1 x6)
         · refine rSeq ?_
           refine cLess [6, 1, 0] ?_
           refine xR hE [0, 1, 6, 7] rfl (L7_FrontLine_r7_ok F _ _ _ _) ?_
           intro x0 x1 x6 x7
           show OKq _ _ _ [(7, x7), (6, x6), (1, x1), (0, x0)] _
           refine rThen ?_
           refine rBlock ?_
           refine cLess [7, 6, 1, 0] ?_
           refine xLoopAt [0, 1, 6, 7] [] (fun k4 => L7_FrontLine_l4 F (fun x0 x1 x6 => L7_FrontLine_k3 F x0 x1 x6) k4) F [x0, x1, x6, x7] rfl rfl (fun _ _ _ _ => rfl) fun I hI4 k4 => ?_
           intro x0 x1 x6 x7
           show OKc _ _ [(7, x7), (6, x6), (1, x1), (0, x0)] _ _
           refine cAs (L7_FrontLine_l4_s F _ _ _ _ _ _) ?_
           refine rSeq ?_
           refine rSeq ?_
           refine cLess [7, 6, 1, 0] ?_
           refine xR hE [0, 1, 6, 7, 26] rfl (L7_FrontLine_r8_ok F _ _ _ _ _) ?_
           intro x0 x1 x6 x7 x26
           show OKq _ _ _ [(26, x26), (7, x7), (6, x6), (1, x1), (0, x0)] _
           refine rThen ?_
           refine xCond rfl rfl ?_ ?_
           · refine rSkip ?_
             refine rThen ?_
             refine rSeq ?_
             refine rBlock ?_
             refine cLess [7, 6, 1, 0] ?_
             refine xR hE [0, 1, 6, 7] rfl (L7_FrontLine_r10_ok F _ _ _ _ _) ?_
             intro x0 x1 x6 x7
             show OKq _ _ _ [(7, x7), (6, x6), (1, x1), (0, x0)] _
             refine xBlockN ?_
             refine rThen ?_
             refine cLess [7, 6, 1, 0] ?_
             refine xR hE [0, 1, 6, 7] rfl (L7_FrontLine_r9_ok F _ _ _ _ _) ?_
             intro x0 x1 x6 x7
             show OKq _ _ _ [(7, x7), (6, x6), (1, x1), (0, x0)] _
             exact qLess [7, 6, 1, 0] (hI4 k4 x0 x1 x6 x7)
           · refine rExit ?_
             refine xThenX ?_
             refine xThenX ?_
             refine rOut ?_
             exact qLess [6, 1, 0] (hj3 x0 x1 x6)
   · exact rFail


end Go.Fw
