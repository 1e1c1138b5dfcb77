/-
  What this law comes to.
-/
import Derived.Test.YtddafkflndhnfaaDoorGenD
set_option linter.unusedVariables false
set_option maxRecDepth 20000
namespace Go.Fw
open Go.Proofs

/-! ### haruspex/haruspexlaw5.GraphTurn -/

def L5_GraphTurn_env (F : Nat) : Env := envOf [(16, L5_begun_m F), (17, L5_Made_m F), (18, R1_Eq_m F), (32, graph_Turn_m F)]

noncomputable def L5_GraphTurn_R (F : Nat) := rK Tryd.prog TrydG (L5_GraphTurn_env F) Tryd.f7
noncomputable def L5_GraphTurn_D (F : Nat) := dK Tryd.prog TrydG (L5_GraphTurn_env F) Tryd.f7

def L5_GraphTurn_r22 (F : Nat) (K : Value → M Value) : M Value :=
  K (.bool true)

theorem L5_GraphTurn_r22_ok (F : Nat) (K : Value → M Value) : L5_GraphTurn_r22 F K = L5_GraphTurn_R F 22 [] [4] K := by kernel_rfl

def L5_GraphTurn_k0 (F : Nat) : M Value :=
  L5_GraphTurn_r22 F (fun x4 => ret x4)

def L5_GraphTurn_r10 (F : Nat) (x6 x7 x8 : Value) (K : Value → Value → Value → M Value) : M Value :=
  bnd (opBin .add x8 (.int .i64 (1))) fun v38 => K x6 x7 v38

theorem L5_GraphTurn_r10_ok (F : Nat) (x6 x7 x8 : Value) (K : Value → Value → Value → M Value) : L5_GraphTurn_r10 F x6 x7 x8 K = L5_GraphTurn_R F 10 [(8, x8), (7, x7), (6, x6)] [6, 7, 8] K := by kernel_rfl

def L5_GraphTurn_k2 (F : Nat) (A1 : Value → Value → Value → M Value) (x6 x7 x8 : Value) : M Value :=
  L5_GraphTurn_r10 F x6 x7 x8 (fun x6 x7 x8 => A1 x6 x7 x8)

def L5_GraphTurn_r21 (F : Nat) (K : Value → M Value) : M Value :=
  K (.bool false)

theorem L5_GraphTurn_r21_ok (F : Nat) (K : Value → M Value) : L5_GraphTurn_r21 F K = L5_GraphTurn_R F 21 [] [4] K := by kernel_rfl

def L5_GraphTurn_r20 (F : Nat) (x6 x7 x8 x9 : Value) (K : Value → Value → Value → Value → M Value) : M Value :=
  bnd (opFieldAddr 1 x7) fun v69 => bnd (opLoad v69) fun v70 => bnd (opIndexAddr 1 v70 x8) fun v72 => bnd (opLoad v72) fun v73 => bnd (R1_Eq F v73 x9) fun v75 => bnd (opNot v75) fun v76 => K x6 x7 x8 v76

theorem L5_GraphTurn_r20_ok (F : Nat) (x6 x7 x8 x9 : Value) (K : Value → Value → Value → Value → M Value) : L5_GraphTurn_r20 F x6 x7 x8 x9 K = L5_GraphTurn_R F 20 [(9, x9), (8, x8), (7, x7), (6, x6)] [6, 7, 8, 76] K := by kernel_rfl

def L5_GraphTurn_k3 (F : Nat) (A1 : Value → Value → Value → M Value) (x6 x7 x8 x9 : Value) : M Value :=
  L5_GraphTurn_r20 F x6 x7 x8 x9 (fun x6 x7 x8 x76 => onB x76 (L5_GraphTurn_r21 F (fun x4 => ret x4)) (L5_GraphTurn_k2 F A1 x6 x7 x8))

def L5_GraphTurn_r14 (F : Nat) (x6 x7 x8 x9 x10 : Value) (K : Value → Value → Value → Value → Value → M Value) : M Value :=
  bnd (opBin .add x10 (.int .i64 (1))) fun v44 => K x6 x7 x8 x9 v44

theorem L5_GraphTurn_r14_ok (F : Nat) (x6 x7 x8 x9 x10 : Value) (K : Value → Value → Value → Value → Value → M Value) : L5_GraphTurn_r14 F x6 x7 x8 x9 x10 K = L5_GraphTurn_R F 14 [(10, x10), (9, x9), (8, x8), (7, x7), (6, x6)] [6, 7, 8, 9, 10] K := by kernel_rfl

def L5_GraphTurn_k5 (F : Nat) (A4 : Value → Value → Value → Value → Value → M Value) (x6 x7 x8 x9 x10 : Value) : M Value :=
  L5_GraphTurn_r14 F x6 x7 x8 x9 x10 (fun x6 x7 x8 x9 x10 => A4 x6 x7 x8 x9 x10)

def L5_GraphTurn_r17 (F : Nat) (x6 x7 x8 x9 x10 x11 : Value) (K : Value → Value → Value → Value → Value → Value → M Value) : M Value :=
  bnd (opBin .add x11 (.int .i64 (1))) fun v54 => K x6 x7 x8 x9 x10 v54

theorem L5_GraphTurn_r17_ok (F : Nat) (x6 x7 x8 x9 x10 x11 : Value) (K : Value → Value → Value → Value → Value → Value → M Value) : L5_GraphTurn_r17 F x6 x7 x8 x9 x10 x11 K = L5_GraphTurn_R F 17 [(11, x11), (10, x10), (9, x9), (8, x8), (7, x7), (6, x6)] [6, 7, 8, 9, 10, 11] K := by kernel_rfl

def L5_GraphTurn_k7 (F : Nat) (A6 : Value → Value → Value → Value → Value → Value → M Value) (x6 x7 x8 x9 x10 x11 : Value) : M Value :=
  L5_GraphTurn_r17 F x6 x7 x8 x9 x10 x11 (fun x6 x7 x8 x9 x10 x11 => A6 x6 x7 x8 x9 x10 x11)

def L5_GraphTurn_r19 (F : Nat) (x6 x7 x8 x9 x10 x11 : Value) (K : Value → Value → Value → Value → Value → Value → M Value) : M Value :=
  bnd (opBuildSlice 1 (rep 1 [(.int .i64 (0))]) [(0, 1, false, x10)]) fun v67 => bnd (opAppend 1 8 x9 v67) fun v68 => K x6 x7 x8 v68 x10 x11

theorem L5_GraphTurn_r19_ok (F : Nat) (x6 x7 x8 x9 x10 x11 : Value) (K : Value → Value → Value → Value → Value → Value → M Value) : L5_GraphTurn_r19 F x6 x7 x8 x9 x10 x11 K = L5_GraphTurn_R F 19 [(11, x11), (10, x10), (9, x9), (8, x8), (7, x7), (6, x6)] [6, 7, 8, 9, 10, 11] K := by kernel_rfl

def L5_GraphTurn_r18 (F : Nat) (x6 x7 x8 x9 x10 x11 : Value) (K : Value → Value → Value → Value → Value → Value → Value → M Value) : M Value :=
  bnd (opFieldAddr 1 x6) fun v55 => bnd (opLoad v55) fun v56 => bnd (opIndexAddr 1 v56 x10) fun v58 => bnd (opLoad v58) fun v59 => bnd (opIndexAddr 1 v59 x11) fun v61 => bnd (opLoad v61) fun v62 => bnd (opBin .eql v62 x8) fun v64 => K x6 x7 x8 x9 x10 x11 v64

theorem L5_GraphTurn_r18_ok (F : Nat) (x6 x7 x8 x9 x10 x11 : Value) (K : Value → Value → Value → Value → Value → Value → Value → M Value) : L5_GraphTurn_r18 F x6 x7 x8 x9 x10 x11 K = L5_GraphTurn_R F 18 [(11, x11), (10, x10), (9, x9), (8, x8), (7, x7), (6, x6)] [6, 7, 8, 9, 10, 11, 64] K := by kernel_rfl

def L5_GraphTurn_r16 (F : Nat) (x6 x7 x8 x9 x10 x11 : Value) (K : Value → Value → Value → Value → Value → Value → Value → M Value) : M Value :=
  bnd (opFieldAddr 1 x6) fun v46 => bnd (opLoad v46) fun v47 => bnd (opIndexAddr 1 v47 x10) fun v49 => bnd (opLoad v49) fun v50 => bnd (opLen v50) fun v51 => bnd (opBin .lss x11 v51) fun v52 => K x6 x7 x8 x9 x10 x11 v52

theorem L5_GraphTurn_r16_ok (F : Nat) (x6 x7 x8 x9 x10 x11 : Value) (K : Value → Value → Value → Value → Value → Value → Value → M Value) : L5_GraphTurn_r16 F x6 x7 x8 x9 x10 x11 K = L5_GraphTurn_R F 16 [(11, x11), (10, x10), (9, x9), (8, x8), (7, x7), (6, x6)] [6, 7, 8, 9, 10, 11, 52] K := by kernel_rfl

def L5_GraphTurn_b6 (F : Nat) (E6_4 : Value → Value → Value → Value → Value → M Value) (A6 : Value → Value → Value → Value → Value → Value → M Value) (x6 x7 x8 x9 x10 x11 : Value) : M Value :=
  L5_GraphTurn_r16 F x6 x7 x8 x9 x10 x11 (fun x6 x7 x8 x9 x10 x11 x52 => onB x52 (L5_GraphTurn_r18 F x6 x7 x8 x9 x10 x11 (fun x6 x7 x8 x9 x10 x11 x64 => onB x64 (L5_GraphTurn_r19 F x6 x7 x8 x9 x10 x11 (fun x6 x7 x8 x9 x10 x11 => L5_GraphTurn_k7 F A6 x6 x7 x8 x9 x10 x11)) (L5_GraphTurn_k7 F A6 x6 x7 x8 x9 x10 x11))) (E6_4 x6 x7 x8 x9 x10))

def L5_GraphTurn_l6 (F : Nat) (E6_4 : Value → Value → Value → Value → Value → M Value) : Nat → Value → Value → Value → Value → Value → Value → M Value
  | 0, _, _, _, _, _, _ => fail
  | k6 + 1, x6, x7, x8, x9, x10, x11 => L5_GraphTurn_b6 F E6_4 (L5_GraphTurn_l6 F E6_4 k6) x6 x7 x8 x9 x10 x11

theorem L5_GraphTurn_l6_s (F : Nat) (E6_4 : Value → Value → Value → Value → Value → M Value) (k6 : Nat) (x6 x7 x8 x9 x10 x11 : Value) : L5_GraphTurn_l6 F E6_4 (k6 + 1) x6 x7 x8 x9 x10 x11 = L5_GraphTurn_b6 F E6_4 (L5_GraphTurn_l6 F E6_4 k6) x6 x7 x8 x9 x10 x11 := rfl

def L5_GraphTurn_r15 (F : Nat) (x6 x7 x8 x9 x10 : Value) (K : Value → Value → Value → Value → Value → Value → M Value) : M Value :=
  K x6 x7 x8 x9 x10 (.int .i64 (0))

theorem L5_GraphTurn_r15_ok (F : Nat) (x6 x7 x8 x9 x10 : Value) (K : Value → Value → Value → Value → Value → Value → M Value) : L5_GraphTurn_r15 F x6 x7 x8 x9 x10 K = L5_GraphTurn_R F 15 [(10, x10), (9, x9), (8, x8), (7, x7), (6, x6)] [6, 7, 8, 9, 10, 11] K := by kernel_rfl

def L5_GraphTurn_r13 (F : Nat) (x6 x7 x8 x9 x10 : Value) (K : Value → Value → Value → Value → Value → Value → M Value) : M Value :=
  bnd (opFieldAddr 0 x6) fun v40 => bnd (opLoad v40) fun v41 => bnd (opBin .lss x10 v41) fun v42 => K x6 x7 x8 x9 x10 v42

theorem L5_GraphTurn_r13_ok (F : Nat) (x6 x7 x8 x9 x10 : Value) (K : Value → Value → Value → Value → Value → Value → M Value) : L5_GraphTurn_r13 F x6 x7 x8 x9 x10 K = L5_GraphTurn_R F 13 [(10, x10), (9, x9), (8, x8), (7, x7), (6, x6)] [6, 7, 8, 9, 10, 42] K := by kernel_rfl

def L5_GraphTurn_b4 (F : Nat) (E4_2 : Value → Value → Value → Value → M Value) (A4 : Value → Value → Value → Value → Value → M Value) (x6 x7 x8 x9 x10 : Value) : M Value :=
  L5_GraphTurn_r13 F x6 x7 x8 x9 x10 (fun x6 x7 x8 x9 x10 x42 => onB x42 (L5_GraphTurn_r15 F x6 x7 x8 x9 x10 (fun x6 x7 x8 x9 x10 x11 => L5_GraphTurn_l6 F (fun x6 x7 x8 x9 x10 => L5_GraphTurn_k5 F A4 x6 x7 x8 x9 x10) F x6 x7 x8 x9 x10 x11)) (E4_2 x6 x7 x8 x9))

def L5_GraphTurn_l4 (F : Nat) (E4_2 : Value → Value → Value → Value → M Value) : Nat → Value → Value → Value → Value → Value → M Value
  | 0, _, _, _, _, _ => fail
  | k4 + 1, x6, x7, x8, x9, x10 => L5_GraphTurn_b4 F E4_2 (L5_GraphTurn_l4 F E4_2 k4) x6 x7 x8 x9 x10

theorem L5_GraphTurn_l4_s (F : Nat) (E4_2 : Value → Value → Value → Value → M Value) (k4 : Nat) (x6 x7 x8 x9 x10 : Value) : L5_GraphTurn_l4 F E4_2 (k4 + 1) x6 x7 x8 x9 x10 = L5_GraphTurn_b4 F E4_2 (L5_GraphTurn_l4 F E4_2 k4) x6 x7 x8 x9 x10 := rfl

def L5_GraphTurn_r12 (F : Nat) (x6 x7 x8 x9 : Value) (K : Value → Value → Value → Value → Value → M Value) : M Value :=
  K x6 x7 x8 x9 (.int .i64 (0))

theorem L5_GraphTurn_r12_ok (F : Nat) (x6 x7 x8 x9 : Value) (K : Value → Value → Value → Value → Value → M Value) : L5_GraphTurn_r12 F x6 x7 x8 x9 K = L5_GraphTurn_R F 12 [(9, x9), (8, x8), (7, x7), (6, x6)] [6, 7, 8, 9, 10] K := by kernel_rfl

def L5_GraphTurn_r11 (F : Nat) (x6 x7 x8 : Value) (K : Value → Value → Value → Value → M Value) : M Value :=
  K x6 x7 x8 (.slice none 0 0)

theorem L5_GraphTurn_r11_ok (F : Nat) (x6 x7 x8 : Value) (K : Value → Value → Value → Value → M Value) : L5_GraphTurn_r11 F x6 x7 x8 K = L5_GraphTurn_R F 11 [(8, x8), (7, x7), (6, x6)] [6, 7, 8, 9] K := by kernel_rfl

def L5_GraphTurn_r9 (F : Nat) (x6 x7 x8 : Value) (K : Value → Value → Value → Value → M Value) : M Value :=
  bnd (opFieldAddr 0 x6) fun v34 => bnd (opLoad v34) fun v35 => bnd (opBin .lss x8 v35) fun v36 => K x6 x7 x8 v36

theorem L5_GraphTurn_r9_ok (F : Nat) (x6 x7 x8 : Value) (K : Value → Value → Value → Value → M Value) : L5_GraphTurn_r9 F x6 x7 x8 K = L5_GraphTurn_R F 9 [(8, x8), (7, x7), (6, x6)] [6, 7, 8, 36] K := by kernel_rfl

def L5_GraphTurn_b1 (F : Nat) (E1_0 : M Value) (A1 : Value → Value → Value → M Value) (x6 x7 x8 : Value) : M Value :=
  L5_GraphTurn_r9 F x6 x7 x8 (fun x6 x7 x8 x36 => onB x36 (L5_GraphTurn_r11 F x6 x7 x8 (fun x6 x7 x8 x9 => L5_GraphTurn_r12 F x6 x7 x8 x9 (fun x6 x7 x8 x9 x10 => L5_GraphTurn_l4 F (fun x6 x7 x8 x9 => L5_GraphTurn_k3 F A1 x6 x7 x8 x9) F x6 x7 x8 x9 x10))) (E1_0 ))

def L5_GraphTurn_l1 (F : Nat) (E1_0 : M Value) : Nat → Value → Value → Value → M Value
  | 0, _, _, _ => fail
  | k1 + 1, x6, x7, x8 => L5_GraphTurn_b1 F E1_0 (L5_GraphTurn_l1 F E1_0 k1) x6 x7 x8

theorem L5_GraphTurn_l1_s (F : Nat) (E1_0 : M Value) (k1 : Nat) (x6 x7 x8 : Value) : L5_GraphTurn_l1 F E1_0 (k1 + 1) x6 x7 x8 = L5_GraphTurn_b1 F E1_0 (L5_GraphTurn_l1 F E1_0 k1) x6 x7 x8 := rfl

def L5_GraphTurn_r8 (F : Nat) (x6 x7 : Value) (K : Value → Value → Value → M Value) : M Value :=
  K x6 x7 (.int .i64 (0))

theorem L5_GraphTurn_r8_ok (F : Nat) (x6 x7 : Value) (K : Value → Value → Value → M Value) : L5_GraphTurn_r8 F x6 x7 K = L5_GraphTurn_R F 8 [(7, x7), (6, x6)] [6, 7, 8] K := by kernel_rfl

def L5_GraphTurn_r7 (F : Nat) (K : Value → M Value) : M Value :=
  K (.bool false)

theorem L5_GraphTurn_r7_ok (F : Nat) (K : Value → M Value) : L5_GraphTurn_r7 F K = L5_GraphTurn_R F 7 [] [4] K := by kernel_rfl

def L5_GraphTurn_r6 (F : Nat) (x6 x7 : Value) (K : Value → Value → Value → M Value) : M Value :=
  bnd (opFieldAddr 0 x7) fun v20 => bnd (opLoad v20) fun v21 => bnd (opFieldAddr 0 x6) fun v22 => bnd (opLoad v22) fun v23 => bnd (opBin .neq v21 v23) fun v24 => onB v24 (K x6 x7 (.bool true)) (bnd (opFieldAddr 1 x7) fun v26 => bnd (opLoad v26) fun v27 => bnd (opLen v27) fun v28 => bnd (opFieldAddr 0 x6) fun v29 => bnd (opLoad v29) fun v30 => bnd (opBin .neq v28 v30) fun v31 => K x6 x7 v31)

theorem L5_GraphTurn_r6_ok (F : Nat) (x6 x7 : Value) (K : Value → Value → Value → M Value) : L5_GraphTurn_r6 F x6 x7 K = L5_GraphTurn_R F 6 [(7, x7), (6, x6)] [6, 7, 32] K := by kernel_rfl

def L5_GraphTurn_r5 (F : Nat) (x6 : Value) (K : Value → Value → M Value) : M Value :=
  bnd (opLoadN 2 x6) fun v18 => bnd (graph_Turn F v18) fun v19 => bnd (opPtr [(.int .i64 (0)), (.slice none 0 0)]) fun v7 => bnd (opStoreN 2 v7 v19) fun _ => K x6 v7

theorem L5_GraphTurn_r5_ok (F : Nat) (x6 : Value) (K : Value → Value → M Value) : L5_GraphTurn_r5 F x6 K = L5_GraphTurn_R F 5 [(6, x6)] [6, 7] K := by kernel_rfl

def L5_GraphTurn_r4 (F : Nat) (x0 x1 : Value) (K : Value → M Value) : M Value :=
  bnd (L5_Made F x0 x1) fun v17 => bnd (opPtr [(.int .i64 (0)), (.slice none 0 0)]) fun v6 => bnd (opStoreN 2 v6 v17) fun _ => K v6

theorem L5_GraphTurn_r4_ok (F : Nat) (x0 x1 : Value) (K : Value → M Value) : L5_GraphTurn_r4 F x0 x1 K = L5_GraphTurn_R F 4 [(1, x1), (0, x0)] [6] K := by kernel_rfl

def L5_GraphTurn_r3 (F : Nat) (K : Value → M Value) : M Value :=
  K (.bool false)

theorem L5_GraphTurn_r3_ok (F : Nat) (K : Value → M Value) : L5_GraphTurn_r3 F K = L5_GraphTurn_R F 3 [] [4] K := by kernel_rfl

def L5_GraphTurn_r2 (F : Nat) (x0 x1 x5 : Value) (K : Value → Value → Value → M Value) : M Value :=
  bnd (opNot x5) fun v14 => K x0 x1 v14

theorem L5_GraphTurn_r2_ok (F : Nat) (x0 x1 x5 : Value) (K : Value → Value → Value → M Value) : L5_GraphTurn_r2 F x0 x1 x5 K = L5_GraphTurn_R F 2 [(5, x5), (1, x1), (0, x0)] [0, 1, 14] K := by kernel_rfl

def L5_GraphTurn_r1 (F : Nat) (x0 x1 : Value) (K : Value → Value → Value → M Value) : M Value :=
  bnd (L5_begun F) fun v12 => K x0 x1 v12

theorem L5_GraphTurn_r1_ok (F : Nat) (x0 x1 : Value) (K : Value → Value → Value → M Value) : L5_GraphTurn_r1 F x0 x1 K = L5_GraphTurn_R F 1 [(1, x1), (0, x0)] [0, 1, 5] K := by kernel_rfl

def L5_GraphTurn_r0 (F : Nat) (x0 x1 : Value) (K : Value → Value → M Value) : M Value :=
  K x0 x1

theorem L5_GraphTurn_r0_ok (F : Nat) (x0 x1 : Value) (K : Value → Value → M Value) : L5_GraphTurn_r0 F x0 x1 K = L5_GraphTurn_R F 0 [(1, x1), (0, x0)] [0, 1] K := by kernel_rfl

def L5_GraphTurn (F : Nat) (x0 x1 : Value) : M Value :=
  L5_GraphTurn_r0 F x0 x1 (fun x0 x1 => L5_GraphTurn_r1 F x0 x1 (fun x0 x1 x5 => L5_GraphTurn_r2 F x0 x1 x5 (fun x0 x1 x14 => onB x14 (L5_GraphTurn_r3 F (fun x4 => ret x4)) (L5_GraphTurn_r4 F x0 x1 (fun x6 => L5_GraphTurn_r5 F x6 (fun x6 x7 => L5_GraphTurn_r6 F x6 x7 (fun x6 x7 x32 => onB x32 (L5_GraphTurn_r7 F (fun x4 => ret x4)) (L5_GraphTurn_r8 F x6 x7 (fun x6 x7 x8 => L5_GraphTurn_l1 F (L5_GraphTurn_k0 F ) F x6 x7 x8)))))))))

def L5_GraphTurn_m (F : Nat) : List Value → M Value
  | [x0, x1] => L5_GraphTurn F x0 x1
  | _ => fail

theorem L5_GraphTurn_body : Tryd.f7.body = some (.seq (.region 0 (opsOf Tryd.f7 0) false) (.seq (.region 1 (opsOf Tryd.f7 1) false) (.seq (.seq (.region 2 (opsOf Tryd.f7 2) false) (.cond (.tmp 14) (.seq (.region 3 (opsOf Tryd.f7 3) false) .ret) .skip)) (.seq (.region 4 (opsOf Tryd.f7 4) false) (.seq (.region 5 (opsOf Tryd.f7 5) false) (.seq (.seq (.region 6 (opsOf Tryd.f7 6) false) (.cond (.tmp 32) (.seq (.region 7 (opsOf Tryd.f7 7) false) .ret) .skip)) (.seq (.seq (.region 8 (opsOf Tryd.f7 8) false) (.block 0 (.loop (.seq (.seq (.region 9 (opsOf Tryd.f7 9) false) (.cond (.tmp 36) .skip (.exit 0))) (.seq (.block 1 (.seq (.region 11 (opsOf Tryd.f7 11) false) (.seq (.seq (.region 12 (opsOf Tryd.f7 12) false) (.block 2 (.loop (.seq (.seq (.region 13 (opsOf Tryd.f7 13) false) (.cond (.tmp 42) .skip (.exit 2))) (.seq (.block 3 (.seq (.region 15 (opsOf Tryd.f7 15) false) (.block 4 (.loop (.seq (.seq (.region 16 (opsOf Tryd.f7 16) false) (.cond (.tmp 52) .skip (.exit 4))) (.seq (.block 5 (.seq (.region 18 (opsOf Tryd.f7 18) false) (.cond (.tmp 64) (.region 19 (opsOf Tryd.f7 19) false) .skip))) (.region 17 (opsOf Tryd.f7 17) false))))))) (.region 14 (opsOf Tryd.f7 14) false)))))) (.seq (.region 20 (opsOf Tryd.f7 20) false) (.cond (.tmp 76) (.seq (.region 21 (opsOf Tryd.f7 21) false) .ret) .skip))))) (.region 10 (opsOf Tryd.f7 10) false)))))) (.seq (.region 22 (opsOf Tryd.f7 22) false) .ret)))))))) := by kernel_rfl

theorem L5_GraphTurn_ok (F : Nat) : Sim Tryd.prog TrydG 7 (L5_GraphTurn_m F) := by
 have hE : EnvOK Tryd.prog TrydG (L5_GraphTurn_env F) := (EnvOK.cons (L5_begun_ok F) (EnvOK.cons (L5_Made_ok F) (EnvOK.cons (R1_Eq_ok F) (EnvOK.cons (graph_Turn_ok F) EnvOK.nil))))
 refine Sim.of_body (E := L5_GraphTurn_env F) Tryd.func7 L5_GraphTurn_body Tryd.call7 ?_ ?_
 · intro args hl; unfold L5_GraphTurn_m; split
   · exact absurd hl (Nat.not_lt.2 (Nat.le_of_ble_eq_true rfl))
   · rfl
 · intro args ρ h w z; unfold L5_GraphTurn_m; split
   · rename_i x0 x1; show OKc _ _ [(0, x0), (1, x1)] _ _
     refine rSeq ?_
     refine cLess [1, 0] ?_
     refine xR hE [0, 1] rfl (L5_GraphTurn_r0_ok F _ _ _) ?_
     intro x0 x1
     show OKq _ _ _ [(1, x1), (0, x0)] _
     refine rThen ?_
     refine rSeq ?_
     refine cLess [1, 0] ?_
     refine xR hE [0, 1, 5] rfl (L5_GraphTurn_r1_ok F _ _ _) ?_
     intro x0 x1 x5
     show OKq _ _ _ [(5, x5), (1, x1), (0, x0)] _
     refine rThen ?_
     refine rSeq ?_
     refine rSeq ?_
     refine cLess [5, 1, 0] ?_
     refine xR hE [0, 1, 14] rfl (L5_GraphTurn_r2_ok F _ _ _ _) ?_
     intro x0 x1 x14
     show OKq _ _ _ [(14, x14), (1, x1), (0, x0)] _
     refine rThen ?_
     refine xCond rfl rfl ?_ ?_
     · refine rSeq ?_
       refine cLess [] ?_
       refine xR hE [4] rfl (L5_GraphTurn_r3_ok F _) ?_
       intro x4
       show OKq _ _ _ [(4, x4)] _
       refine rThen ?_
       refine rRet ?_
       refine xThenR ?_
       exact rDone (.inr rfl) rfl
     · refine rSkip ?_
       refine rThen ?_
       refine rSeq ?_
       refine cLess [1, 0] ?_
       refine xR hE [6] rfl (L5_GraphTurn_r4_ok F _ _ _) ?_
       intro x6
       show OKq _ _ _ [(6, x6)] _
       refine rThen ?_
       refine rSeq ?_
       refine cLess [6] ?_
       refine xR hE [6, 7] rfl (L5_GraphTurn_r5_ok F _ _) ?_
       intro x6 x7
       show OKq _ _ _ [(7, x7), (6, x6)] _
       refine rThen ?_
       refine rSeq ?_
       refine rSeq ?_
       refine cLess [7, 6] ?_
       refine xR hE [6, 7, 32] rfl (L5_GraphTurn_r6_ok F _ _ _) ?_
       intro x6 x7 x32
       show OKq _ _ _ [(32, x32), (7, x7), (6, x6)] _
       refine rThen ?_
       refine xCond rfl rfl ?_ ?_
       · refine rSeq ?_
         refine cLess [] ?_
         refine xR hE [4] rfl (L5_GraphTurn_r7_ok F _) ?_
         intro x4
         show OKq _ _ _ [(4, x4)] _
         refine rThen ?_
         refine rRet ?_
         refine xThenR ?_
         exact rDone (.inr rfl) rfl
       · refine rSkip ?_
         refine rThen ?_
         refine xSeq [] (L5_GraphTurn_k0 F ) ?_ fun hj0 => ?_
         · show OKc _ _ [] _ _
           refine rSeq ?_
           refine cLess [] ?_
           refine xR hE [4] rfl (L5_GraphTurn_r22_ok F _) ?_
           intro x4
           show OKq _ _ _ [(4, x4)] _
           refine rThen ?_
           refine rRet ?_
           exact rDone (.inr rfl) rfl
         · refine rSeq ?_
           refine cLess [7, 6] ?_
           refine xR hE [6, 7, 8] rfl (L5_GraphTurn_r8_ok F _ _ _) ?_
           intro x6 x7 x8
           show OKq _ _ _ [(8, x8), (7, x7), (6, x6)] _
           refine rThen ?_
           refine rBlock ?_
           refine cLess [8, 7, 6] ?_
           refine xLoopAt [6, 7, 8] [] (fun k1 => L5_GraphTurn_l1 F (L5_GraphTurn_k0 F ) k1) F [x6, x7, x8] rfl rfl (fun _ _ _ => rfl) fun I hI1 k1 => ?_
           intro x6 x7 x8
           show OKc _ _ [(8, x8), (7, x7), (6, x6)] _ _
           refine cAs (L5_GraphTurn_l1_s F _ _ _ _ _) ?_
           refine rSeq ?_
           refine rSeq ?_
           refine cLess [8, 7, 6] ?_
           refine xR hE [6, 7, 8, 36] rfl (L5_GraphTurn_r9_ok F _ _ _ _) ?_
           intro x6 x7 x8 x36
           show OKq _ _ _ [(36, x36), (8, x8), (7, x7), (6, x6)] _
           refine rThen ?_
           refine xCond rfl rfl ?_ ?_
           · refine rSkip ?_
             refine rThen ?_
             refine xSeq [6, 7, 8] (L5_GraphTurn_k2 F (L5_GraphTurn_l1 F (L5_GraphTurn_k0 F ) k1) ) ?_ fun hj2 => ?_
             · intro x6 x7 x8
               show OKc _ _ [(8, x8), (7, x7), (6, x6)] _ _
               refine cLess [8, 7, 6] ?_
               refine xR hE [6, 7, 8] rfl (L5_GraphTurn_r10_ok F _ _ _ _) ?_
               intro x6 x7 x8
               show OKq _ _ _ [(8, x8), (7, x7), (6, x6)] _
               exact qLess [8, 7, 6] (hI1 k1 x6 x7 x8)
             · refine rBlock ?_
               refine rSeq ?_
               refine cLess [8, 7, 6] ?_
               refine xR hE [6, 7, 8, 9] rfl (L5_GraphTurn_r11_ok F _ _ _ _) ?_
               intro x6 x7 x8 x9
               show OKq _ _ _ [(9, x9), (8, x8), (7, x7), (6, x6)] _
               refine rThen ?_
               refine xSeq [6, 7, 8, 9] (L5_GraphTurn_k3 F (L5_GraphTurn_l1 F (L5_GraphTurn_k0 F ) k1) ) ?_ fun hj3 => ?_
               · intro x6 x7 x8 x9
                 show OKc _ _ [(9, x9), (8, x8), (7, x7), (6, x6)] _ _
                 refine rSeq ?_
                 refine cLess [9, 8, 7, 6] ?_
                 refine xR hE [6, 7, 8, 76] rfl (L5_GraphTurn_r20_ok F _ _ _ _ _) ?_
                 intro x6 x7 x8 x76
                 show OKq _ _ _ [(76, x76), (8, x8), (7, x7), (6, x6)] _
                 refine rThen ?_
                 refine xCond rfl rfl ?_ ?_
                 · refine rSeq ?_
                   refine cLess [] ?_
                   refine xR hE [4] rfl (L5_GraphTurn_r21_ok F _) ?_
                   intro x4
                   show OKq _ _ _ [(4, x4)] _
                   refine rThen ?_
                   refine rRet ?_
                   refine xBlockR ?_
                   refine xThenR ?_
                   refine xThenR ?_
                   refine xBlockR ?_
                   refine xThenR ?_
                   exact rDone (.inr rfl) rfl
                 · refine rSkip ?_
                   refine xBlockN ?_
                   exact qLess [8, 7, 6] (hj2 x6 x7 x8)
               · refine rSeq ?_
                 refine cLess [9, 8, 7, 6] ?_
                 refine xR hE [6, 7, 8, 9, 10] rfl (L5_GraphTurn_r12_ok F _ _ _ _ _) ?_
                 intro x6 x7 x8 x9 x10
                 show OKq _ _ _ [(10, x10), (9, x9), (8, x8), (7, x7), (6, x6)] _
                 refine rThen ?_
                 refine rBlock ?_
                 refine cLess [10, 9, 8, 7, 6] ?_
                 refine xLoopAt [6, 7, 8, 9, 10] [] (fun k4 => L5_GraphTurn_l4 F (fun x6 x7 x8 x9 => L5_GraphTurn_k3 F (L5_GraphTurn_l1 F (L5_GraphTurn_k0 F ) k1) x6 x7 x8 x9) k4) F [x6, x7, x8, x9, x10] rfl rfl (fun _ _ _ _ _ => rfl) fun I hI4 k4 => ?_
                 intro x6 x7 x8 x9 x10
                 show OKc _ _ [(10, x10), (9, x9), (8, x8), (7, x7), (6, x6)] _ _
                 refine cAs (L5_GraphTurn_l4_s F _ _ _ _ _ _ _) ?_
                 refine rSeq ?_
                 refine rSeq ?_
                 refine cLess [10, 9, 8, 7, 6] ?_
                 refine xR hE [6, 7, 8, 9, 10, 42] rfl (L5_GraphTurn_r13_ok F _ _ _ _ _ _) ?_
                 intro x6 x7 x8 x9 x10 x42
                 show OKq _ _ _ [(42, x42), (10, x10), (9, x9), (8, x8), (7, x7), (6, x6)] _
                 refine rThen ?_
                 refine xCond rfl rfl ?_ ?_
                 · refine rSkip ?_
                   refine rThen ?_
                   refine xSeq [6, 7, 8, 9, 10] (L5_GraphTurn_k5 F (L5_GraphTurn_l4 F (fun x6 x7 x8 x9 => L5_GraphTurn_k3 F (L5_GraphTurn_l1 F (L5_GraphTurn_k0 F ) k1) x6 x7 x8 x9) k4) ) ?_ fun hj5 => ?_
                   · intro x6 x7 x8 x9 x10
                     show OKc _ _ [(10, x10), (9, x9), (8, x8), (7, x7), (6, x6)] _ _
                     refine cLess [10, 9, 8, 7, 6] ?_
                     refine xR hE [6, 7, 8, 9, 10] rfl (L5_GraphTurn_r14_ok F _ _ _ _ _ _) ?_
                     intro x6 x7 x8 x9 x10
                     show OKq _ _ _ [(10, x10), (9, x9), (8, x8), (7, x7), (6, x6)] _
                     exact qLess [10, 9, 8, 7, 6] (hI4 k4 x6 x7 x8 x9 x10)
                   · refine rBlock ?_
                     refine rSeq ?_
                     refine cLess [10, 9, 8, 7, 6] ?_
                     refine xR hE [6, 7, 8, 9, 10, 11] rfl (L5_GraphTurn_r15_ok F _ _ _ _ _ _) ?_
                     intro x6 x7 x8 x9 x10 x11
                     show OKq _ _ _ [(11, x11), (10, x10), (9, x9), (8, x8), (7, x7), (6, x6)] _
                     refine rThen ?_
                     refine rBlock ?_
                     refine cLess [11, 10, 9, 8, 7, 6] ?_
                     refine xLoopAt [6, 7, 8, 9, 10, 11] [] (fun k6 => L5_GraphTurn_l6 F (fun x6 x7 x8 x9 x10 => L5_GraphTurn_k5 F (L5_GraphTurn_l4 F (fun x6 x7 x8 x9 => L5_GraphTurn_k3 F (L5_GraphTurn_l1 F (L5_GraphTurn_k0 F ) k1) x6 x7 x8 x9) k4) x6 x7 x8 x9 x10) k6) F [x6, x7, x8, x9, x10, x11] rfl rfl (fun _ _ _ _ _ _ => rfl) fun I hI6 k6 => ?_
                     intro x6 x7 x8 x9 x10 x11
                     show OKc _ _ [(11, x11), (10, x10), (9, x9), (8, x8), (7, x7), (6, x6)] _ _
                     refine cAs (L5_GraphTurn_l6_s F _ _ _ _ _ _ _ _) ?_
                     refine rSeq ?_
                     refine rSeq ?_
                     refine cLess [11, 10, 9, 8, 7, 6] ?_
                     refine xR hE [6, 7, 8, 9, 10, 11, 52] rfl (L5_GraphTurn_r16_ok F _ _ _ _ _ _ _) ?_
                     intro x6 x7 x8 x9 x10 x11 x52
                     show OKq _ _ _ [(52, x52), (11, x11), (10, x10), (9, x9), (8, x8), (7, x7), (6, x6)] _
                     refine rThen ?_
                     refine xCond rfl rfl ?_ ?_
                     · refine rSkip ?_
                       refine rThen ?_
                       refine xSeq [6, 7, 8, 9, 10, 11] (L5_GraphTurn_k7 F (L5_GraphTurn_l6 F (fun x6 x7 x8 x9 x10 => L5_GraphTurn_k5 F (L5_GraphTurn_l4 F (fun x6 x7 x8 x9 => L5_GraphTurn_k3 F (L5_GraphTurn_l1 F (L5_GraphTurn_k0 F ) k1) x6 x7 x8 x9) k4) x6 x7 x8 x9 x10) k6) ) ?_ fun hj7 => ?_
                       · intro x6 x7 x8 x9 x10 x11
                         show OKc _ _ [(11, x11), (10, x10), (9, x9), (8, x8), (7, x7), (6, x6)] _ _
                         refine cLess [11, 10, 9, 8, 7, 6] ?_
                         refine xR hE [6, 7, 8, 9, 10, 11] rfl (L5_GraphTurn_r17_ok F _ _ _ _ _ _ _) ?_
                         intro x6 x7 x8 x9 x10 x11
                         show OKq _ _ _ [(11, x11), (10, x10), (9, x9), (8, x8), (7, x7), (6, x6)] _
                         exact qLess [11, 10, 9, 8, 7, 6] (hI6 k6 x6 x7 x8 x9 x10 x11)
                       · refine rBlock ?_
                         refine rSeq ?_
                         refine cLess [11, 10, 9, 8, 7, 6] ?_
                         refine xR hE [6, 7, 8, 9, 10, 11, 64] rfl (L5_GraphTurn_r18_ok F _ _ _ _ _ _ _) ?_
                         intro x6 x7 x8 x9 x10 x11 x64
                         show OKq _ _ _ [(64, x64), (11, x11), (10, x10), (9, x9), (8, x8), (7, x7), (6, x6)] _
                         refine rThen ?_
                         refine xCond rfl rfl ?_ ?_
                         · refine cLess [11, 10, 9, 8, 7, 6] ?_
                           refine xR hE [6, 7, 8, 9, 10, 11] rfl (L5_GraphTurn_r19_ok F _ _ _ _ _ _ _) ?_
                           intro x6 x7 x8 x9 x10 x11
                           show OKq _ _ _ [(11, x11), (10, x10), (9, x9), (8, x8), (7, x7), (6, x6)] _
                           refine xBlockN ?_
                           exact qLess [11, 10, 9, 8, 7, 6] (hj7 x6 x7 x8 x9 x10 x11)
                         · refine rSkip ?_
                           refine xBlockN ?_
                           exact qLess [11, 10, 9, 8, 7, 6] (hj7 x6 x7 x8 x9 x10 x11)
                     · refine rExit ?_
                       refine xThenX ?_
                       refine xThenX ?_
                       refine rOut ?_
                       refine xBlockN ?_
                       exact qLess [10, 9, 8, 7, 6] (hj5 x6 x7 x8 x9 x10)
                 · refine rExit ?_
                   refine xThenX ?_
                   refine xThenX ?_
                   refine rOut ?_
                   exact qLess [9, 8, 7, 6] (hj3 x6 x7 x8 x9)
           · refine rExit ?_
             refine xThenX ?_
             refine xThenX ?_
             refine rOut ?_
             exact qLess [] (hj0 )
   · exact rFail



end Go.Fw
