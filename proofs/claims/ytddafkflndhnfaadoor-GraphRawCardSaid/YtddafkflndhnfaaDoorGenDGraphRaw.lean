/-
  What this law comes to.
-/
import Derived.Test.YtddafkflndhnfaaDoorGenD
set_option linter.unusedVariables false
set_option maxRecDepth 20000
namespace Go.Fw
open Go.Proofs

/-! ### haruspex/haruspexlaw5.GraphRaw -/

def L5_GraphRaw_env (F : Nat) : Env := envOf [(16, L5_begun_m F), (18, R1_Eq_m F), (19, graph_Reach_m F), (23, graph_Loops_m F), (26, graph_Parts_m F), (28, graph_Order_m F), (30, graph_Path_m F), (31, R1_Path_m F), (32, graph_Turn_m F), (39, R1_May_m F), (40, graph_May_m F), (41, bitset_Set_Len_m F)]

noncomputable def L5_GraphRaw_R (F : Nat) := rK Tryd.prog TrydG (L5_GraphRaw_env F) Tryd.f13
noncomputable def L5_GraphRaw_D (F : Nat) := dK Tryd.prog TrydG (L5_GraphRaw_env F) Tryd.f13

def L5_GraphRaw_r21 (F : Nat) (x2 x3 x13 x15 : Value) (K : Value → M Value) : M Value :=
  bnd (opFieldAddr 0 x15) fun v65 => bnd (opLoad v65) fun v66 => bnd (opBin .eql v66 (.int .i64 (0))) fun v67 => onB v67 (bnd (opFieldAddr 1 x15) fun v69 => bnd (opLoad v69) fun v70 => bnd (opLen v70) fun v71 => bnd (opBin .eql v71 (.int .i64 (0))) fun v72 => onB v72 (bnd (opLoadN 2 x13) fun v75 => bnd (opBuildSlice 1 (rep 1 [(.int .i64 (0))]) [(0, 1, false, x2)]) fun v77 => bnd (graph_Reach F v75 v77) fun v78 => bnd (bitset_Set_Len F v78) fun v79 => bnd (opBin .eql v79 (.int .i64 (0))) fun v80 => onB v80 (bnd (opLoadN 2 x13) fun v83 => bnd (graph_Parts F v83) fun v84 => bnd (opLen v84) fun v85 => bnd (opBin .eql v85 (.int .i64 (0))) fun v86 => onB v86 (bnd (opLoadN 2 x13) fun v89 => bnd (graph_Order F v89 x2) fun v91 => bnd (opLen v91) fun v92 => bnd (opBin .eql v92 (.int .i64 (0))) fun v93 => onB v93 (bnd (opLoadN 2 x13) fun v96 => bnd (graph_Path F v96 x2 x3) fun v99 => bnd (opLen v99) fun v100 => bnd (opBin .eql v100 (.int .i64 (0))) fun v101 => onB v101 (bnd (opLoadN 2 x13) fun v104 => bnd (graph_Loops F v104) fun v105 => bnd (bitset_Set_Len F v105) fun v106 => bnd (opBin .eql v106 (.int .i64 (0))) fun v107 => K v107) (K (.bool false))) (K (.bool false))) (K (.bool false))) (K (.bool false))) (K (.bool false))) (K (.bool false))

theorem L5_GraphRaw_r21_ok (F : Nat) (x2 x3 x13 x15 : Value) (K : Value → M Value) : L5_GraphRaw_r21 F x2 x3 x13 x15 K = L5_GraphRaw_R F 21 [(15, x15), (13, x13), (3, x3), (2, x2)] [8] K := by kernel_rfl

def L5_GraphRaw_r20 (F : Nat) (x2 x3 x13 : Value) (K : Value → Value → Value → Value → M Value) : M Value :=
  bnd (opLoadN 2 x13) fun v63 => bnd (graph_Turn F v63) fun v64 => bnd (opPtr [(.int .i64 (0)), (.slice none 0 0)]) fun v15 => bnd (opStoreN 2 v15 v64) fun _ => K x2 x3 x13 v15

theorem L5_GraphRaw_r20_ok (F : Nat) (x2 x3 x13 : Value) (K : Value → Value → Value → Value → M Value) : L5_GraphRaw_r20 F x2 x3 x13 K = L5_GraphRaw_R F 20 [(13, x13), (3, x3), (2, x2)] [2, 3, 13, 15] K := by kernel_rfl

def L5_GraphRaw_r19 (F : Nat) (x2 x3 x10 x13 : Value) (K : Value → M Value) : M Value :=
  bnd (opLoadN 2 x13) fun v54 => bnd (graph_Path F v54 x2 x3) fun v57 => bnd (R1_Path F x10 x2 x3) fun v61 => bnd (R1_Eq F v57 v61) fun v62 => K v62

theorem L5_GraphRaw_r19_ok (F : Nat) (x2 x3 x10 x13 : Value) (K : Value → M Value) : L5_GraphRaw_r19 F x2 x3 x10 x13 K = L5_GraphRaw_R F 19 [(13, x13), (10, x10), (3, x3), (2, x2)] [8] K := by kernel_rfl

def L5_GraphRaw_r18 (F : Nat) (x2 x3 x10 x13 x14 : Value) (K : Value → Value → Value → Value → Value → M Value) : M Value :=
  K x2 x3 x10 x13 x14

theorem L5_GraphRaw_r18_ok (F : Nat) (x2 x3 x10 x13 x14 : Value) (K : Value → Value → Value → Value → Value → M Value) : L5_GraphRaw_r18 F x2 x3 x10 x13 x14 K = L5_GraphRaw_R F 18 [(14, x14), (13, x13), (10, x10), (3, x3), (2, x2)] [2, 3, 10, 13, 53] K := by kernel_rfl

def L5_GraphRaw_r17 (F : Nat) (K : Value → M Value) : M Value :=
  K (.bool false)

theorem L5_GraphRaw_r17_ok (F : Nat) (K : Value → M Value) : L5_GraphRaw_r17 F K = L5_GraphRaw_R F 17 [] [8] K := by kernel_rfl

def L5_GraphRaw_r16 (F : Nat) (x2 x3 x10 x13 x14 : Value) (K : Value → Value → Value → Value → Value → Value → M Value) : M Value :=
  bnd (opLoadN 2 x13) fun v49 => bnd (graph_May F v49) fun v50 => bnd (opEq eqB true v50 x14) fun v52 => K x2 x3 x10 x13 x14 v52

theorem L5_GraphRaw_r16_ok (F : Nat) (x2 x3 x10 x13 x14 : Value) (K : Value → Value → Value → Value → Value → Value → M Value) : L5_GraphRaw_r16 F x2 x3 x10 x13 x14 K = L5_GraphRaw_R F 16 [(14, x14), (13, x13), (10, x10), (3, x3), (2, x2)] [2, 3, 10, 13, 14, 52] K := by kernel_rfl

def L5_GraphRaw_r15 (F : Nat) (x0 x2 x3 x10 x13 : Value) (K : Value → Value → Value → Value → Value → M Value) : M Value :=
  bnd (R1_May F x0 x10) fun v48 => K x2 x3 x10 x13 v48

theorem L5_GraphRaw_r15_ok (F : Nat) (x0 x2 x3 x10 x13 : Value) (K : Value → Value → Value → Value → Value → M Value) : L5_GraphRaw_r15 F x0 x2 x3 x10 x13 K = L5_GraphRaw_R F 15 [(13, x13), (10, x10), (3, x3), (2, x2), (0, x0)] [2, 3, 10, 13, 14] K := by kernel_rfl

def L5_GraphRaw_r14 (F : Nat) (x0 x2 x3 x10 : Value) (K : Value → Value → Value → Value → Value → M Value) : M Value :=
  bnd (opBuild [(.int .i64 (0)), (.slice none 0 0)] [(0, 1, false, x0), (1, 1, false, x10)]) fun v45 => bnd (opPtr [(.int .i64 (0)), (.slice none 0 0)]) fun v13 => bnd (opStoreN 2 v13 v45) fun _ => K x0 x2 x3 x10 v13

theorem L5_GraphRaw_r14_ok (F : Nat) (x0 x2 x3 x10 : Value) (K : Value → Value → Value → Value → Value → M Value) : L5_GraphRaw_r14 F x0 x2 x3 x10 K = L5_GraphRaw_R F 14 [(10, x10), (3, x3), (2, x2), (0, x0)] [0, 2, 3, 10, 13] K := by kernel_rfl

def L5_GraphRaw_k0 (F : Nat) (x0 x2 x3 x10 : Value) : M Value :=
  L5_GraphRaw_r14 F x0 x2 x3 x10 (fun x0 x2 x3 x10 x13 => L5_GraphRaw_r15 F x0 x2 x3 x10 x13 (fun x2 x3 x10 x13 x14 => L5_GraphRaw_r16 F x2 x3 x10 x13 x14 (fun x2 x3 x10 x13 x14 x52 => onB x52 (L5_GraphRaw_r17 F (fun x8 => ret x8)) (L5_GraphRaw_r18 F x2 x3 x10 x13 x14 (fun x2 x3 x10 x13 x53 => onB x53 (L5_GraphRaw_r19 F x2 x3 x10 x13 (fun x8 => ret x8)) (L5_GraphRaw_r20 F x2 x3 x13 (fun x2 x3 x13 x15 => L5_GraphRaw_r21 F x2 x3 x13 x15 (fun x8 => ret x8))))))))

def L5_GraphRaw_r9 (F : Nat) (x0 x1 x2 x3 x10 x11 : Value) (K : Value → Value → Value → Value → Value → Value → M Value) : M Value :=
  bnd (opBin .add x11 (.int .i64 (1))) fun v29 => K x0 x1 x2 x3 x10 v29

theorem L5_GraphRaw_r9_ok (F : Nat) (x0 x1 x2 x3 x10 x11 : Value) (K : Value → Value → Value → Value → Value → Value → M Value) : L5_GraphRaw_r9 F x0 x1 x2 x3 x10 x11 K = L5_GraphRaw_R F 9 [(11, x11), (10, x10), (3, x3), (2, x2), (1, x1), (0, x0)] [0, 1, 2, 3, 10, 11] K := by kernel_rfl

def L5_GraphRaw_r13 (F : Nat) (x0 x1 x2 x3 x10 x11 x12 : Value) (K : Value → Value → Value → Value → Value → Value → M Value) : M Value :=
  bnd (opBuildSlice 1 (rep 1 [(.slice none 0 0)]) [(0, 1, false, x12)]) fun v41 => bnd (opAppend 1 24 x10 v41) fun v42 => K x0 x1 x2 x3 v42 x11

theorem L5_GraphRaw_r13_ok (F : Nat) (x0 x1 x2 x3 x10 x11 x12 : Value) (K : Value → Value → Value → Value → Value → Value → M Value) : L5_GraphRaw_r13 F x0 x1 x2 x3 x10 x11 x12 K = L5_GraphRaw_R F 13 [(12, x12), (11, x11), (10, x10), (3, x3), (2, x2), (1, x1), (0, x0)] [0, 1, 2, 3, 10, 11] K := by kernel_rfl

def L5_GraphRaw_k2 (F : Nat) (A1 : Value → Value → Value → Value → Value → Value → M Value) (x0 x1 x2 x3 x10 x11 x12 : Value) : M Value :=
  L5_GraphRaw_r13 F x0 x1 x2 x3 x10 x11 x12 (fun x0 x1 x2 x3 x10 x11 => L5_GraphRaw_r9 F x0 x1 x2 x3 x10 x11 (fun x0 x1 x2 x3 x10 x11 => A1 x0 x1 x2 x3 x10 x11))

def L5_GraphRaw_r12 (F : Nat) (x0 x1 x2 x3 x10 x11 x12 : Value) (K : Value → Value → Value → Value → Value → Value → Value → M Value) : M Value :=
  bnd (opSlice 1 x12 none (some (.int .i64 (20))) none) fun v38 => K x0 x1 x2 x3 x10 x11 v38

theorem L5_GraphRaw_r12_ok (F : Nat) (x0 x1 x2 x3 x10 x11 x12 : Value) (K : Value → Value → Value → Value → Value → Value → Value → M Value) : L5_GraphRaw_r12 F x0 x1 x2 x3 x10 x11 x12 K = L5_GraphRaw_R F 12 [(12, x12), (11, x11), (10, x10), (3, x3), (2, x2), (1, x1), (0, x0)] [0, 1, 2, 3, 10, 11, 12] K := by kernel_rfl

def L5_GraphRaw_r11 (F : Nat) (x0 x1 x2 x3 x10 x11 x12 : Value) (K : Value → Value → Value → Value → Value → Value → Value → Value → M Value) : M Value :=
  bnd (opLen x12) fun v35 => bnd (opBin .gtr v35 (.int .i64 (20))) fun v36 => K x0 x1 x2 x3 x10 x11 x12 v36

theorem L5_GraphRaw_r11_ok (F : Nat) (x0 x1 x2 x3 x10 x11 x12 : Value) (K : Value → Value → Value → Value → Value → Value → Value → Value → M Value) : L5_GraphRaw_r11 F x0 x1 x2 x3 x10 x11 x12 K = L5_GraphRaw_R F 11 [(12, x12), (11, x11), (10, x10), (3, x3), (2, x2), (1, x1), (0, x0)] [0, 1, 2, 3, 10, 11, 12, 36] K := by kernel_rfl

def L5_GraphRaw_r10 (F : Nat) (x0 x1 x2 x3 x10 x11 : Value) (K : Value → Value → Value → Value → Value → Value → Value → M Value) : M Value :=
  bnd (opIndexAddr 1 x1 x11) fun v32 => bnd (opLoad v32) fun v33 => K x0 x1 x2 x3 x10 x11 v33

theorem L5_GraphRaw_r10_ok (F : Nat) (x0 x1 x2 x3 x10 x11 : Value) (K : Value → Value → Value → Value → Value → Value → Value → M Value) : L5_GraphRaw_r10 F x0 x1 x2 x3 x10 x11 K = L5_GraphRaw_R F 10 [(11, x11), (10, x10), (3, x3), (2, x2), (1, x1), (0, x0)] [0, 1, 2, 3, 10, 11, 12] K := by kernel_rfl

def L5_GraphRaw_r8 (F : Nat) (x0 x1 x2 x3 x10 x11 : Value) (K : Value → Value → Value → Value → Value → Value → Value → M Value) : M Value :=
  bnd (opLen x1) fun v26 => bnd (opBin .lss x11 v26) fun v27 => K x0 x1 x2 x3 x10 x11 v27

theorem L5_GraphRaw_r8_ok (F : Nat) (x0 x1 x2 x3 x10 x11 : Value) (K : Value → Value → Value → Value → Value → Value → Value → M Value) : L5_GraphRaw_r8 F x0 x1 x2 x3 x10 x11 K = L5_GraphRaw_R F 8 [(11, x11), (10, x10), (3, x3), (2, x2), (1, x1), (0, x0)] [0, 1, 2, 3, 10, 11, 27] K := by kernel_rfl

def L5_GraphRaw_b1 (F : Nat) (E1_0 : Value → Value → Value → Value → M Value) (A1 : Value → Value → Value → Value → Value → Value → M Value) (x0 x1 x2 x3 x10 x11 : Value) : M Value :=
  L5_GraphRaw_r8 F x0 x1 x2 x3 x10 x11 (fun x0 x1 x2 x3 x10 x11 x27 => onB x27 (L5_GraphRaw_r10 F x0 x1 x2 x3 x10 x11 (fun x0 x1 x2 x3 x10 x11 x12 => L5_GraphRaw_r11 F x0 x1 x2 x3 x10 x11 x12 (fun x0 x1 x2 x3 x10 x11 x12 x36 => onB x36 (L5_GraphRaw_r12 F x0 x1 x2 x3 x10 x11 x12 (fun x0 x1 x2 x3 x10 x11 x12 => L5_GraphRaw_k2 F A1 x0 x1 x2 x3 x10 x11 x12)) (L5_GraphRaw_k2 F A1 x0 x1 x2 x3 x10 x11 x12)))) (E1_0 x0 x2 x3 x10))

def L5_GraphRaw_l1 (F : Nat) (E1_0 : Value → Value → Value → Value → M Value) : Nat → Value → Value → Value → Value → Value → Value → M Value
  | 0, _, _, _, _, _, _ => fail
  | k1 + 1, x0, x1, x2, x3, x10, x11 => L5_GraphRaw_b1 F E1_0 (L5_GraphRaw_l1 F E1_0 k1) x0 x1 x2 x3 x10 x11

theorem L5_GraphRaw_l1_s (F : Nat) (E1_0 : Value → Value → Value → Value → M Value) (k1 : Nat) (x0 x1 x2 x3 x10 x11 : Value) : L5_GraphRaw_l1 F E1_0 (k1 + 1) x0 x1 x2 x3 x10 x11 = L5_GraphRaw_b1 F E1_0 (L5_GraphRaw_l1 F E1_0 k1) x0 x1 x2 x3 x10 x11 := rfl

def L5_GraphRaw_r7 (F : Nat) (x0 x1 x2 x3 x10 : Value) (K : Value → Value → Value → Value → Value → Value → M Value) : M Value :=
  K x0 x1 x2 x3 x10 (.int .i64 (0))

theorem L5_GraphRaw_r7_ok (F : Nat) (x0 x1 x2 x3 x10 : Value) (K : Value → Value → Value → Value → Value → Value → M Value) : L5_GraphRaw_r7 F x0 x1 x2 x3 x10 K = L5_GraphRaw_R F 7 [(10, x10), (3, x3), (2, x2), (1, x1), (0, x0)] [0, 1, 2, 3, 10, 11] K := by kernel_rfl

def L5_GraphRaw_r6 (F : Nat) (x0 x1 x2 x3 : Value) (K : Value → Value → Value → Value → Value → M Value) : M Value :=
  K x0 x1 x2 x3 (.slice none 0 0)

theorem L5_GraphRaw_r6_ok (F : Nat) (x0 x1 x2 x3 : Value) (K : Value → Value → Value → Value → Value → M Value) : L5_GraphRaw_r6 F x0 x1 x2 x3 K = L5_GraphRaw_R F 6 [(3, x3), (2, x2), (1, x1), (0, x0)] [0, 1, 2, 3, 10] K := by kernel_rfl

def L5_GraphRaw_k3 (F : Nat) (x0 x1 x2 x3 : Value) : M Value :=
  L5_GraphRaw_r6 F x0 x1 x2 x3 (fun x0 x1 x2 x3 x10 => L5_GraphRaw_r7 F x0 x1 x2 x3 x10 (fun x0 x1 x2 x3 x10 x11 => L5_GraphRaw_l1 F (fun x0 x2 x3 x10 => L5_GraphRaw_k0 F x0 x2 x3 x10) F x0 x1 x2 x3 x10 x11))

def L5_GraphRaw_r5 (F : Nat) (x0 x1 x2 x3 : Value) (K : Value → Value → Value → Value → M Value) : M Value :=
  bnd (opSlice 1 x1 none (some (.int .i64 (20))) none) fun v23 => K x0 v23 x2 x3

theorem L5_GraphRaw_r5_ok (F : Nat) (x0 x1 x2 x3 : Value) (K : Value → Value → Value → Value → M Value) : L5_GraphRaw_r5 F x0 x1 x2 x3 K = L5_GraphRaw_R F 5 [(3, x3), (2, x2), (1, x1), (0, x0)] [0, 1, 2, 3] K := by kernel_rfl

def L5_GraphRaw_r4 (F : Nat) (x0 x1 x2 x3 : Value) (K : Value → Value → Value → Value → Value → M Value) : M Value :=
  bnd (opLen x1) fun v20 => bnd (opBin .gtr v20 (.int .i64 (20))) fun v21 => K x0 x1 x2 x3 v21

theorem L5_GraphRaw_r4_ok (F : Nat) (x0 x1 x2 x3 : Value) (K : Value → Value → Value → Value → Value → M Value) : L5_GraphRaw_r4 F x0 x1 x2 x3 K = L5_GraphRaw_R F 4 [(3, x3), (2, x2), (1, x1), (0, x0)] [0, 1, 2, 3, 21] K := by kernel_rfl

def L5_GraphRaw_r3 (F : Nat) (K : Value → M Value) : M Value :=
  K (.bool false)

theorem L5_GraphRaw_r3_ok (F : Nat) (K : Value → M Value) : L5_GraphRaw_r3 F K = L5_GraphRaw_R F 3 [] [8] K := by kernel_rfl

def L5_GraphRaw_r2 (F : Nat) (x0 x1 x2 x3 x9 : Value) (K : Value → Value → Value → Value → Value → M Value) : M Value :=
  bnd (opNot x9) fun v18 => K x0 x1 x2 x3 v18

theorem L5_GraphRaw_r2_ok (F : Nat) (x0 x1 x2 x3 x9 : Value) (K : Value → Value → Value → Value → Value → M Value) : L5_GraphRaw_r2 F x0 x1 x2 x3 x9 K = L5_GraphRaw_R F 2 [(9, x9), (3, x3), (2, x2), (1, x1), (0, x0)] [0, 1, 2, 3, 18] K := by kernel_rfl

def L5_GraphRaw_r1 (F : Nat) (x0 x1 x2 x3 : Value) (K : Value → Value → Value → Value → Value → M Value) : M Value :=
  bnd (L5_begun F) fun v16 => K x0 x1 x2 x3 v16

theorem L5_GraphRaw_r1_ok (F : Nat) (x0 x1 x2 x3 : Value) (K : Value → Value → Value → Value → Value → M Value) : L5_GraphRaw_r1 F x0 x1 x2 x3 K = L5_GraphRaw_R F 1 [(3, x3), (2, x2), (1, x1), (0, x0)] [0, 1, 2, 3, 9] K := by kernel_rfl

def L5_GraphRaw_r0 (F : Nat) (x0 x1 x2 x3 : Value) (K : Value → Value → Value → Value → M Value) : M Value :=
  K x0 x1 x2 x3

theorem L5_GraphRaw_r0_ok (F : Nat) (x0 x1 x2 x3 : Value) (K : Value → Value → Value → Value → M Value) : L5_GraphRaw_r0 F x0 x1 x2 x3 K = L5_GraphRaw_R F 0 [(3, x3), (2, x2), (1, x1), (0, x0)] [0, 1, 2, 3] K := by kernel_rfl

def L5_GraphRaw (F : Nat) (x0 x1 x2 x3 : Value) : M Value :=
  L5_GraphRaw_r0 F x0 x1 x2 x3 (fun x0 x1 x2 x3 => L5_GraphRaw_r1 F x0 x1 x2 x3 (fun x0 x1 x2 x3 x9 => L5_GraphRaw_r2 F x0 x1 x2 x3 x9 (fun x0 x1 x2 x3 x18 => onB x18 (L5_GraphRaw_r3 F (fun x8 => ret x8)) (L5_GraphRaw_r4 F x0 x1 x2 x3 (fun x0 x1 x2 x3 x21 => onB x21 (L5_GraphRaw_r5 F x0 x1 x2 x3 (fun x0 x1 x2 x3 => L5_GraphRaw_k3 F x0 x1 x2 x3)) (L5_GraphRaw_k3 F x0 x1 x2 x3))))))

def L5_GraphRaw_m (F : Nat) : List Value → M Value
  | [x0, x1, x2, x3] => L5_GraphRaw F x0 x1 x2 x3
  | _ => fail

theorem L5_GraphRaw_body : Tryd.f13.body = some (.seq (.region 0 (opsOf Tryd.f13 0) false) (.seq (.region 1 (opsOf Tryd.f13 1) false) (.seq (.seq (.region 2 (opsOf Tryd.f13 2) false) (.cond (.tmp 18) (.seq (.region 3 (opsOf Tryd.f13 3) false) .ret) .skip)) (.seq (.seq (.region 4 (opsOf Tryd.f13 4) false) (.cond (.tmp 21) (.region 5 (opsOf Tryd.f13 5) false) .skip)) (.seq (.region 6 (opsOf Tryd.f13 6) false) (.seq (.seq (.region 7 (opsOf Tryd.f13 7) false) (.block 0 (.loop (.seq (.seq (.region 8 (opsOf Tryd.f13 8) false) (.cond (.tmp 27) .skip (.exit 0))) (.seq (.block 1 (.seq (.region 10 (opsOf Tryd.f13 10) false) (.seq (.seq (.region 11 (opsOf Tryd.f13 11) false) (.cond (.tmp 36) (.region 12 (opsOf Tryd.f13 12) false) .skip)) (.region 13 (opsOf Tryd.f13 13) false)))) (.region 9 (opsOf Tryd.f13 9) false)))))) (.seq (.region 14 (opsOf Tryd.f13 14) false) (.seq (.region 15 (opsOf Tryd.f13 15) false) (.seq (.seq (.region 16 (opsOf Tryd.f13 16) false) (.cond (.tmp 52) (.seq (.region 17 (opsOf Tryd.f13 17) false) .ret) .skip)) (.seq (.seq (.region 18 (opsOf Tryd.f13 18) false) (.cond (.tmp 53) (.seq (.region 19 (opsOf Tryd.f13 19) false) .ret) .skip)) (.seq (.region 20 (opsOf Tryd.f13 20) false) (.seq (.region 21 (opsOf Tryd.f13 21) false) .ret)))))))))))) := by kernel_rfl

theorem L5_GraphRaw_ok (F : Nat) : Sim Tryd.prog TrydG 13 (L5_GraphRaw_m F) := by
 have hE : EnvOK Tryd.prog TrydG (L5_GraphRaw_env F) := (EnvOK.cons (L5_begun_ok F) (EnvOK.cons (R1_Eq_ok F) (EnvOK.cons (graph_Reach_ok F) (EnvOK.cons (graph_Loops_ok F) (EnvOK.cons (graph_Parts_ok F) (EnvOK.cons (graph_Order_ok F) (EnvOK.cons (graph_Path_ok F) (EnvOK.cons (R1_Path_ok F) (EnvOK.cons (graph_Turn_ok F) (EnvOK.cons (R1_May_ok F) (EnvOK.cons (graph_May_ok F) (EnvOK.cons (bitset_Set_Len_ok F) EnvOK.nil))))))))))))
 refine Sim.of_body (E := L5_GraphRaw_env F) Tryd.func13 L5_GraphRaw_body Tryd.call13 ?_ ?_
 · intro args hl; unfold L5_GraphRaw_m; split
   · exact absurd hl (Nat.not_lt.2 (Nat.le_of_ble_eq_true rfl))
   · rfl
 · intro args ρ h w z; unfold L5_GraphRaw_m; split
   · rename_i x0 x1 x2 x3; show OKc _ _ [(0, x0), (1, x1), (2, x2), (3, x3)] _ _
     refine rSeq ?_
     refine cLess [3, 2, 1, 0] ?_
     refine xR hE [0, 1, 2, 3] rfl (L5_GraphRaw_r0_ok F _ _ _ _ _) ?_
     intro x0 x1 x2 x3
     show OKq _ _ _ [(3, x3), (2, x2), (1, x1), (0, x0)] _
     refine rThen ?_
     refine rSeq ?_
     refine cLess [3, 2, 1, 0] ?_
     refine xR hE [0, 1, 2, 3, 9] rfl (L5_GraphRaw_r1_ok F _ _ _ _ _) ?_
     intro x0 x1 x2 x3 x9
     show OKq _ _ _ [(9, x9), (3, x3), (2, x2), (1, x1), (0, x0)] _
     refine rThen ?_
     refine rSeq ?_
     refine rSeq ?_
     refine cLess [9, 3, 2, 1, 0] ?_
     refine xR hE [0, 1, 2, 3, 18] rfl (L5_GraphRaw_r2_ok F _ _ _ _ _ _) ?_
     intro x0 x1 x2 x3 x18
     show OKq _ _ _ [(18, x18), (3, x3), (2, x2), (1, x1), (0, x0)] _
     refine rThen ?_
     refine xCond rfl rfl ?_ ?_
     · refine rSeq ?_
       refine cLess [] ?_
       refine xR hE [8] rfl (L5_GraphRaw_r3_ok F _) ?_
       intro x8
       show OKq _ _ _ [(8, x8)] _
       refine rThen ?_
       refine rRet ?_
       refine xThenR ?_
       exact rDone (.inr rfl) rfl
     · refine rSkip ?_
       refine rThen ?_
       refine xSeq [0, 1, 2, 3] (L5_GraphRaw_k3 F ) ?_ fun hj3 => ?_
       · intro x0 x1 x2 x3
         show OKc _ _ [(3, x3), (2, x2), (1, x1), (0, x0)] _ _
         refine rSeq ?_
         refine cLess [3, 2, 1, 0] ?_
         refine xR hE [0, 1, 2, 3, 10] rfl (L5_GraphRaw_r6_ok F _ _ _ _ _) ?_
         intro x0 x1 x2 x3 x10
         show OKq _ _ _ [(10, x10), (3, x3), (2, x2), (1, x1), (0, x0)] _
         refine rThen ?_
         refine xSeq [0, 2, 3, 10] (L5_GraphRaw_k0 F ) ?_ fun hj0 => ?_
         · intro x0 x2 x3 x10
           show OKc _ _ [(10, x10), (3, x3), (2, x2), (0, x0)] _ _
           refine rSeq ?_
           refine cLess [10, 3, 2, 0] ?_
           refine xR hE [0, 2, 3, 10, 13] rfl (L5_GraphRaw_r14_ok F _ _ _ _ _) ?_
           intro x0 x2 x3 x10 x13
           show OKq _ _ _ [(13, x13), (10, x10), (3, x3), (2, x2), (0, x0)] _
           refine rThen ?_
           refine rSeq ?_
           refine cLess [13, 10, 3, 2, 0] ?_
           refine xR hE [2, 3, 10, 13, 14] rfl (L5_GraphRaw_r15_ok F _ _ _ _ _ _) ?_
           intro x2 x3 x10 x13 x14
           show OKq _ _ _ [(14, x14), (13, x13), (10, x10), (3, x3), (2, x2)] _
           refine rThen ?_
           refine rSeq ?_
           refine rSeq ?_
           refine cLess [14, 13, 10, 3, 2] ?_
           refine xR hE [2, 3, 10, 13, 14, 52] rfl (L5_GraphRaw_r16_ok F _ _ _ _ _ _) ?_
           intro x2 x3 x10 x13 x14 x52
           show OKq _ _ _ [(52, x52), (14, x14), (13, x13), (10, x10), (3, x3), (2, x2)] _
           refine rThen ?_
           refine xCond rfl rfl ?_ ?_
           · refine rSeq ?_
             refine cLess [] ?_
             refine xR hE [8] rfl (L5_GraphRaw_r17_ok F _) ?_
             intro x8
             show OKq _ _ _ [(8, x8)] _
             refine rThen ?_
             refine rRet ?_
             refine xThenR ?_
             exact rDone (.inr rfl) rfl
           · refine rSkip ?_
             refine rThen ?_
             refine rSeq ?_
             refine rSeq ?_
             refine cLess [14, 13, 10, 3, 2] ?_
             refine xR hE [2, 3, 10, 13, 53] rfl (L5_GraphRaw_r18_ok F _ _ _ _ _ _) ?_
             intro x2 x3 x10 x13 x53
             show OKq _ _ _ [(53, x53), (13, x13), (10, x10), (3, x3), (2, x2)] _
             refine rThen ?_
             refine xCond rfl rfl ?_ ?_
             · refine rSeq ?_
               refine cLess [13, 10, 3, 2] ?_
               refine xR hE [8] rfl (L5_GraphRaw_r19_ok F _ _ _ _ _) ?_
               intro x8
               show OKq _ _ _ [(8, x8)] _
               refine rThen ?_
               refine rRet ?_
               refine xThenR ?_
               exact rDone (.inr rfl) rfl
             · refine rSkip ?_
               refine rThen ?_
               refine rSeq ?_
               refine cLess [13, 3, 2] ?_
               refine xR hE [2, 3, 13, 15] rfl (L5_GraphRaw_r20_ok F _ _ _ _) ?_
               intro x2 x3 x13 x15
               show OKq _ _ _ [(15, x15), (13, x13), (3, x3), (2, x2)] _
               refine rThen ?_
               refine rSeq ?_
               refine cLess [15, 13, 3, 2] ?_
               refine xR hE [8] rfl (L5_GraphRaw_r21_ok F _ _ _ _ _) ?_
               intro x8
               show OKq _ _ _ [(8, x8)] _
               refine rThen ?_
               refine rRet ?_
               exact rDone (.inr rfl) rfl
         · refine rSeq ?_
           refine cLess [10, 3, 2, 1, 0] ?_
           refine xR hE [0, 1, 2, 3, 10, 11] rfl (L5_GraphRaw_r7_ok F _ _ _ _ _ _) ?_
           intro x0 x1 x2 x3 x10 x11
           show OKq _ _ _ [(11, x11), (10, x10), (3, x3), (2, x2), (1, x1), (0, x0)] _
           refine rThen ?_
           refine rBlock ?_
           refine cLess [11, 10, 3, 2, 1, 0] ?_
           refine xLoopAt [0, 1, 2, 3, 10, 11] [] (fun k1 => L5_GraphRaw_l1 F (fun x0 x2 x3 x10 => L5_GraphRaw_k0 F x0 x2 x3 x10) k1) F [x0, x1, x2, x3, x10, x11] rfl rfl (fun _ _ _ _ _ _ => rfl) fun I hI1 k1 => ?_
           intro x0 x1 x2 x3 x10 x11
           show OKc _ _ [(11, x11), (10, x10), (3, x3), (2, x2), (1, x1), (0, x0)] _ _
           refine cAs (L5_GraphRaw_l1_s F _ _ _ _ _ _ _ _) ?_
           refine rSeq ?_
           refine rSeq ?_
           refine cLess [11, 10, 3, 2, 1, 0] ?_
           refine xR hE [0, 1, 2, 3, 10, 11, 27] rfl (L5_GraphRaw_r8_ok F _ _ _ _ _ _ _) ?_
           intro x0 x1 x2 x3 x10 x11 x27
           show OKq _ _ _ [(27, x27), (11, x11), (10, x10), (3, x3), (2, x2), (1, x1), (0, x0)] _
           refine rThen ?_
           refine xCond rfl rfl ?_ ?_
           · refine rSkip ?_
             refine rThen ?_
             refine rSeq ?_
             refine rBlock ?_
             refine rSeq ?_
             refine cLess [11, 10, 3, 2, 1, 0] ?_
             refine xR hE [0, 1, 2, 3, 10, 11, 12] rfl (L5_GraphRaw_r10_ok F _ _ _ _ _ _ _) ?_
             intro x0 x1 x2 x3 x10 x11 x12
             show OKq _ _ _ [(12, x12), (11, x11), (10, x10), (3, x3), (2, x2), (1, x1), (0, x0)] _
             refine rThen ?_
             refine xSeq [0, 1, 2, 3, 10, 11, 12] (L5_GraphRaw_k2 F (L5_GraphRaw_l1 F (fun x0 x2 x3 x10 => L5_GraphRaw_k0 F x0 x2 x3 x10) k1) ) ?_ fun hj2 => ?_
             · intro x0 x1 x2 x3 x10 x11 x12
               show OKc _ _ [(12, x12), (11, x11), (10, x10), (3, x3), (2, x2), (1, x1), (0, x0)] _ _
               refine cLess [12, 11, 10, 3, 2, 1, 0] ?_
               refine xR hE [0, 1, 2, 3, 10, 11] rfl (L5_GraphRaw_r13_ok F _ _ _ _ _ _ _ _) ?_
               intro x0 x1 x2 x3 x10 x11
               show OKq _ _ _ [(11, x11), (10, x10), (3, x3), (2, x2), (1, x1), (0, x0)] _
               refine xBlockN ?_
               refine rThen ?_
               refine cLess [11, 10, 3, 2, 1, 0] ?_
               refine xR hE [0, 1, 2, 3, 10, 11] rfl (L5_GraphRaw_r9_ok F _ _ _ _ _ _ _) ?_
               intro x0 x1 x2 x3 x10 x11
               show OKq _ _ _ [(11, x11), (10, x10), (3, x3), (2, x2), (1, x1), (0, x0)] _
               exact qLess [11, 10, 3, 2, 1, 0] (hI1 k1 x0 x1 x2 x3 x10 x11)
             · refine rSeq ?_
               refine cLess [12, 11, 10, 3, 2, 1, 0] ?_
               refine xR hE [0, 1, 2, 3, 10, 11, 12, 36] rfl (L5_GraphRaw_r11_ok F _ _ _ _ _ _ _ _) ?_
               intro x0 x1 x2 x3 x10 x11 x12 x36
               show OKq _ _ _ [(36, x36), (12, x12), (11, x11), (10, x10), (3, x3), (2, x2), (1, x1), (0, x0)] _
               refine rThen ?_
               refine xCond rfl rfl ?_ ?_
               · refine cLess [12, 11, 10, 3, 2, 1, 0] ?_
                 refine xR hE [0, 1, 2, 3, 10, 11, 12] rfl (L5_GraphRaw_r12_ok F _ _ _ _ _ _ _ _) ?_
                 intro x0 x1 x2 x3 x10 x11 x12
                 show OKq _ _ _ [(12, x12), (11, x11), (10, x10), (3, x3), (2, x2), (1, x1), (0, x0)] _
                 exact qLess [12, 11, 10, 3, 2, 1, 0] (hj2 x0 x1 x2 x3 x10 x11 x12)
               · refine rSkip ?_
                 exact qLess [12, 11, 10, 3, 2, 1, 0] (hj2 x0 x1 x2 x3 x10 x11 x12)
           · refine rExit ?_
             refine xThenX ?_
             refine xThenX ?_
             refine rOut ?_
             exact qLess [10, 3, 2, 0] (hj0 x0 x2 x3 x10)
       · refine rSeq ?_
         refine cLess [3, 2, 1, 0] ?_
         refine xR hE [0, 1, 2, 3, 21] rfl (L5_GraphRaw_r4_ok F _ _ _ _ _) ?_
         intro x0 x1 x2 x3 x21
         show OKq _ _ _ [(21, x21), (3, x3), (2, x2), (1, x1), (0, x0)] _
         refine rThen ?_
         refine xCond rfl rfl ?_ ?_
         · refine cLess [3, 2, 1, 0] ?_
           refine xR hE [0, 1, 2, 3] rfl (L5_GraphRaw_r5_ok F _ _ _ _ _) ?_
           intro x0 x1 x2 x3
           show OKq _ _ _ [(3, x3), (2, x2), (1, x1), (0, x0)] _
           exact qLess [3, 2, 1, 0] (hj3 x0 x1 x2 x3)
         · refine rSkip ?_
           exact qLess [3, 2, 1, 0] (hj3 x0 x1 x2 x3)
   · exact rFail



end Go.Fw
