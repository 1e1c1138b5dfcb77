/-
  What functions of this seat come to, and that they do: part 2.
-/
import Derived.Test.YtmkpboaigdnpnaaGenC1
set_option linter.unusedVariables false
set_option maxRecDepth 20000
namespace Go.Fw
open Go.Proofs

/-! ### haruspex/graph.Path -/

def graph_Path_env (F : Nat) : Env := envOf [(21, graph_Turn_m F), (24, graph_May_m F)]

noncomputable def graph_Path_R (F : Nat) := rK Try.prog TryG (graph_Path_env F) Try.f18
noncomputable def graph_Path_D (F : Nat) := dK Try.prog TryG (graph_Path_env F) Try.f18

def graph_Path_r30 (F : Nat) (x12 : Value) (K : Value → M Value) : M Value :=
  K x12

theorem graph_Path_r30_ok (F : Nat) (x12 : Value) (K : Value → M Value) : graph_Path_r30 F x12 K = graph_Path_R F 30 [(12, x12)] [6] K := by kernel_rfl

def graph_Path_k0 (F : Nat) (x12 : Value) : M Value :=
  graph_Path_r30 F x12 (fun x6 => ret x6)

def graph_Path_r29 (F : Nat) (x2 x3 x7 x12 x13 : Value) (K : Value → Value → Value → Value → Value → M Value) : M Value :=
  bnd (opBuildSlice 1 (rep 1 [(.int .i64 (0))]) [(0, 1, false, x13)]) fun v139 => bnd (opAppend 1 8 x12 v139) fun v140 => K x2 x3 x7 v140 x13

theorem graph_Path_r29_ok (F : Nat) (x2 x3 x7 x12 x13 : Value) (K : Value → Value → Value → Value → Value → M Value) : graph_Path_r29 F x2 x3 x7 x12 x13 K = graph_Path_R F 29 [(13, x13), (12, x12), (7, x7), (3, x3), (2, x2)] [2, 3, 7, 12, 13] K := by kernel_rfl

def graph_Path_r28 (F : Nat) (x2 x3 x7 x12 x14 : Value) (K : Value → Value → Value → Value → Value → M Value) : M Value :=
  K x2 x3 x7 x12 x14

theorem graph_Path_r28_ok (F : Nat) (x2 x3 x7 x12 x14 : Value) (K : Value → Value → Value → Value → Value → M Value) : graph_Path_r28 F x2 x3 x7 x12 x14 K = graph_Path_R F 28 [(14, x14), (12, x12), (7, x7), (3, x3), (2, x2)] [2, 3, 7, 12, 13] K := by kernel_rfl

def graph_Path_k2 (F : Nat) (A1 : Value → Value → Value → Value → Value → M Value) (x2 x3 x7 x12 x14 : Value) : M Value :=
  graph_Path_r28 F x2 x3 x7 x12 x14 (fun x2 x3 x7 x12 x13 => graph_Path_r29 F x2 x3 x7 x12 x13 (fun x2 x3 x7 x12 x13 => A1 x2 x3 x7 x12 x13))

def graph_Path_r27 (F : Nat) (x2 x3 x7 x12 x13 x14 x102 x103 x104 : Value) (K : Value → Value → Value → Value → Value → Value → Value → Value → Value → M Value) : M Value :=
  bnd (opBin .add x104 (.int .i64 (1))) fun v135 => K x2 x3 x7 x12 x13 x14 x102 x103 v135

theorem graph_Path_r27_ok (F : Nat) (x2 x3 x7 x12 x13 x14 x102 x103 x104 : Value) (K : Value → Value → Value → Value → Value → Value → Value → Value → Value → M Value) : graph_Path_r27 F x2 x3 x7 x12 x13 x14 x102 x103 x104 K = graph_Path_R F 27 [(104, x104), (103, x103), (102, x102), (14, x14), (13, x13), (12, x12), (7, x7), (3, x3), (2, x2)] [2, 3, 7, 12, 13, 14, 102, 103, 104] K := by kernel_rfl

def graph_Path_k4 (F : Nat) (A3 : Value → Value → Value → Value → Value → Value → Value → Value → Value → M Value) (x2 x3 x7 x12 x13 x14 x102 x103 x104 : Value) : M Value :=
  graph_Path_r27 F x2 x3 x7 x12 x13 x14 x102 x103 x104 (fun x2 x3 x7 x12 x13 x14 x102 x103 x104 => A3 x2 x3 x7 x12 x13 x14 x102 x103 x104)

def graph_Path_r26 (F : Nat) (x2 x3 x7 x12 x13 x16 x102 x103 x104 : Value) (K : Value → Value → Value → Value → Value → Value → Value → Value → Value → M Value) : M Value :=
  K x2 x3 x7 x12 x13 x16 x102 x103 x104

theorem graph_Path_r26_ok (F : Nat) (x2 x3 x7 x12 x13 x16 x102 x103 x104 : Value) (K : Value → Value → Value → Value → Value → Value → Value → Value → Value → M Value) : graph_Path_r26 F x2 x3 x7 x12 x13 x16 x102 x103 x104 K = graph_Path_R F 26 [(104, x104), (103, x103), (102, x102), (16, x16), (13, x13), (12, x12), (7, x7), (3, x3), (2, x2)] [2, 3, 7, 12, 13, 14, 102, 103, 104] K := by kernel_rfl

def graph_Path_r25 (F : Nat) (x2 x3 x7 x12 x13 x14 x16 x102 x103 x104 : Value) (K : Value → Value → Value → Value → Value → Value → Value → Value → Value → Value → Value → M Value) : M Value :=
  bnd (opIndexAddr 1 x7 x16) fun v110 => bnd (opLoad v110) fun v111 => bnd (opIndexAddr 1 x7 x13) fun v114 => bnd (opLoad v114) fun v115 => bnd (opBin .sub v115 (.int .i64 (1))) fun v116 => bnd (opBin .eql v111 v116) fun v117 => onB v117 (bnd (opIndexAddr 1 x7 x16) fun v121 => bnd (opLoad v121) fun v122 => bnd (opBin .gtr v122 (.int .i64 (0))) fun v123 => onB v123 (bnd (opBin .lss x14 (.int .i64 (0))) fun v127 => onB v127 (K x2 x3 x7 x12 x13 x14 x16 x102 x103 x104 (.bool true)) (bnd (opBin .lss x16 x14) fun v131 => K x2 x3 x7 x12 x13 x14 x16 x102 x103 x104 v131)) (K x2 x3 x7 x12 x13 x14 x16 x102 x103 x104 (.bool false))) (K x2 x3 x7 x12 x13 x14 x16 x102 x103 x104 (.bool false))

theorem graph_Path_r25_ok (F : Nat) (x2 x3 x7 x12 x13 x14 x16 x102 x103 x104 : Value) (K : Value → Value → Value → Value → Value → Value → Value → Value → Value → Value → Value → M Value) : graph_Path_r25 F x2 x3 x7 x12 x13 x14 x16 x102 x103 x104 K = graph_Path_D F 25 [0, 1, 2, 3, 4, 5, 6, 7, 8, 9, 10, 11, 12, 13, 14, 15, 16, 17, 18, 19, 20, 21, 22, 23, 24, 25] [(104, x104), (103, x103), (102, x102), (16, x16), (14, x14), (13, x13), (12, x12), (7, x7), (3, x3), (2, x2)] [2, 3, 7, 12, 13, 14, 16, 102, 103, 104, 133] K := by kernel_rfl

theorem graph_Path_r25_good : goodOrder (opsOf Try.f18 25) [0, 1, 2, 3, 4, 5, 6, 7, 8, 9, 10, 11, 12, 13, 14, 15, 16, 17, 18, 19, 20, 21, 22, 23, 24, 25] = true := by kernel_rfl

def graph_Path_r24 (F : Nat) (x2 x3 x7 x12 x13 x14 x102 x103 x104 : Value) (K : Value → Value → Value → Value → Value → Value → Value → Value → Value → Value → M Value) : M Value :=
  bnd (opIndexAddr 1 x102 x104) fun v106 => bnd (opLoad v106) fun v107 => K x2 x3 x7 x12 x13 x14 v107 x102 x103 x104

theorem graph_Path_r24_ok (F : Nat) (x2 x3 x7 x12 x13 x14 x102 x103 x104 : Value) (K : Value → Value → Value → Value → Value → Value → Value → Value → Value → Value → M Value) : graph_Path_r24 F x2 x3 x7 x12 x13 x14 x102 x103 x104 K = graph_Path_R F 24 [(104, x104), (103, x103), (102, x102), (14, x14), (13, x13), (12, x12), (7, x7), (3, x3), (2, x2)] [2, 3, 7, 12, 13, 14, 16, 102, 103, 104] K := by kernel_rfl

def graph_Path_r23 (F : Nat) (x2 x3 x7 x12 x13 x14 x102 x103 x104 : Value) (K : Value → Value → Value → Value → Value → Value → Value → Value → Value → Value → M Value) : M Value :=
  bnd (opBin .lss x104 x103) fun v105 => K x2 x3 x7 x12 x13 x14 x102 x103 x104 v105

theorem graph_Path_r23_ok (F : Nat) (x2 x3 x7 x12 x13 x14 x102 x103 x104 : Value) (K : Value → Value → Value → Value → Value → Value → Value → Value → Value → Value → M Value) : graph_Path_r23 F x2 x3 x7 x12 x13 x14 x102 x103 x104 K = graph_Path_R F 23 [(104, x104), (103, x103), (102, x102), (14, x14), (13, x13), (12, x12), (7, x7), (3, x3), (2, x2)] [2, 3, 7, 12, 13, 14, 102, 103, 104, 105] K := by kernel_rfl

def graph_Path_b3 (F : Nat) (E3_6 : Value → Value → Value → Value → Value → M Value) (A3 : Value → Value → Value → Value → Value → Value → Value → Value → Value → M Value) (x2 x3 x7 x12 x13 x14 x102 x103 x104 : Value) : M Value :=
  graph_Path_r23 F x2 x3 x7 x12 x13 x14 x102 x103 x104 (fun x2 x3 x7 x12 x13 x14 x102 x103 x104 x105 => onB x105 (graph_Path_r24 F x2 x3 x7 x12 x13 x14 x102 x103 x104 (fun x2 x3 x7 x12 x13 x14 x16 x102 x103 x104 => graph_Path_r25 F x2 x3 x7 x12 x13 x14 x16 x102 x103 x104 (fun x2 x3 x7 x12 x13 x14 x16 x102 x103 x104 x133 => onB x133 (graph_Path_r26 F x2 x3 x7 x12 x13 x16 x102 x103 x104 (fun x2 x3 x7 x12 x13 x14 x102 x103 x104 => graph_Path_k4 F A3 x2 x3 x7 x12 x13 x14 x102 x103 x104)) (graph_Path_k4 F A3 x2 x3 x7 x12 x13 x14 x102 x103 x104)))) (E3_6 x2 x3 x7 x12 x14))

def graph_Path_l3 (F : Nat) (E3_6 : Value → Value → Value → Value → Value → M Value) : Nat → Value → Value → Value → Value → Value → Value → Value → Value → Value → M Value
  | 0, _, _, _, _, _, _, _, _, _ => fail
  | k3 + 1, x2, x3, x7, x12, x13, x14, x102, x103, x104 => graph_Path_b3 F E3_6 (graph_Path_l3 F E3_6 k3) x2 x3 x7 x12 x13 x14 x102 x103 x104

theorem graph_Path_l3_s (F : Nat) (E3_6 : Value → Value → Value → Value → Value → M Value) (k3 : Nat) (x2 x3 x7 x12 x13 x14 x102 x103 x104 : Value) : graph_Path_l3 F E3_6 (k3 + 1) x2 x3 x7 x12 x13 x14 x102 x103 x104 = graph_Path_b3 F E3_6 (graph_Path_l3 F E3_6 k3) x2 x3 x7 x12 x13 x14 x102 x103 x104 := rfl

def graph_Path_r22 (F : Nat) (x2 x3 x7 x12 x13 x14 : Value) (K : Value → Value → Value → Value → Value → Value → Value → Value → Value → M Value) : M Value :=
  bnd (opFieldAddr 1 x3) fun v98 => bnd (opLoad v98) fun v99 => bnd (opIndexAddr 1 v99 x13) fun v101 => bnd (opLoad v101) fun v102 => bnd (opLen v102) fun v103 => K x2 x3 x7 x12 x13 x14 v102 v103 (.int .i64 (0))

theorem graph_Path_r22_ok (F : Nat) (x2 x3 x7 x12 x13 x14 : Value) (K : Value → Value → Value → Value → Value → Value → Value → Value → Value → M Value) : graph_Path_r22 F x2 x3 x7 x12 x13 x14 K = graph_Path_R F 22 [(14, x14), (13, x13), (12, x12), (7, x7), (3, x3), (2, x2)] [2, 3, 7, 12, 13, 14, 102, 103, 104] K := by kernel_rfl

def graph_Path_r21 (F : Nat) (x2 x3 x7 x12 x13 : Value) (K : Value → Value → Value → Value → Value → Value → M Value) : M Value :=
  K x2 x3 x7 x12 x13 (.int .i64 (-1))

theorem graph_Path_r21_ok (F : Nat) (x2 x3 x7 x12 x13 : Value) (K : Value → Value → Value → Value → Value → Value → M Value) : graph_Path_r21 F x2 x3 x7 x12 x13 K = graph_Path_R F 21 [(13, x13), (12, x12), (7, x7), (3, x3), (2, x2)] [2, 3, 7, 12, 13, 14] K := by kernel_rfl

def graph_Path_r20 (F : Nat) (x2 x3 x7 x12 x13 : Value) (K : Value → Value → Value → Value → Value → Value → M Value) : M Value :=
  bnd (opBin .neq x13 x2) fun v97 => K x2 x3 x7 x12 x13 v97

theorem graph_Path_r20_ok (F : Nat) (x2 x3 x7 x12 x13 : Value) (K : Value → Value → Value → Value → Value → Value → M Value) : graph_Path_r20 F x2 x3 x7 x12 x13 K = graph_Path_R F 20 [(13, x13), (12, x12), (7, x7), (3, x3), (2, x2)] [2, 3, 7, 12, 13, 97] K := by kernel_rfl

def graph_Path_b1 (F : Nat) (E1_4 : Value → M Value) (A1 : Value → Value → Value → Value → Value → M Value) (x2 x3 x7 x12 x13 : Value) : M Value :=
  graph_Path_r20 F x2 x3 x7 x12 x13 (fun x2 x3 x7 x12 x13 x97 => onB x97 (graph_Path_r21 F x2 x3 x7 x12 x13 (fun x2 x3 x7 x12 x13 x14 => graph_Path_r22 F x2 x3 x7 x12 x13 x14 (fun x2 x3 x7 x12 x13 x14 x102 x103 x104 => graph_Path_l3 F (fun x2 x3 x7 x12 x14 => graph_Path_k2 F A1 x2 x3 x7 x12 x14) F x2 x3 x7 x12 x13 x14 x102 x103 x104))) (E1_4 x12))

def graph_Path_l1 (F : Nat) (E1_4 : Value → M Value) : Nat → Value → Value → Value → Value → Value → M Value
  | 0, _, _, _, _, _ => fail
  | k1 + 1, x2, x3, x7, x12, x13 => graph_Path_b1 F E1_4 (graph_Path_l1 F E1_4 k1) x2 x3 x7 x12 x13

theorem graph_Path_l1_s (F : Nat) (E1_4 : Value → M Value) (k1 : Nat) (x2 x3 x7 x12 x13 : Value) : graph_Path_l1 F E1_4 (k1 + 1) x2 x3 x7 x12 x13 = graph_Path_b1 F E1_4 (graph_Path_l1 F E1_4 k1) x2 x3 x7 x12 x13 := rfl

def graph_Path_r19 (F : Nat) (x1 x2 x3 x7 x12 : Value) (K : Value → Value → Value → Value → Value → M Value) : M Value :=
  K x2 x3 x7 x12 x1

theorem graph_Path_r19_ok (F : Nat) (x1 x2 x3 x7 x12 : Value) (K : Value → Value → Value → Value → Value → M Value) : graph_Path_r19 F x1 x2 x3 x7 x12 K = graph_Path_R F 19 [(12, x12), (7, x7), (3, x3), (2, x2), (1, x1)] [2, 3, 7, 12, 13] K := by kernel_rfl

def graph_Path_r18 (F : Nat) (x1 x2 x3 x7 : Value) (K : Value → Value → Value → Value → Value → M Value) : M Value :=
  bnd (opBuildSlice 1 (rep 1 [(.int .i64 (0))]) [(0, 1, false, x1)]) fun v93 => K x1 x2 x3 x7 v93

theorem graph_Path_r18_ok (F : Nat) (x1 x2 x3 x7 : Value) (K : Value → Value → Value → Value → Value → M Value) : graph_Path_r18 F x1 x2 x3 x7 K = graph_Path_R F 18 [(7, x7), (3, x3), (2, x2), (1, x1)] [1, 2, 3, 7, 12] K := by kernel_rfl

def graph_Path_r17 (F : Nat) (K : Value → M Value) : M Value :=
  K (.slice none 0 0)

theorem graph_Path_r17_ok (F : Nat) (K : Value → M Value) : graph_Path_r17 F K = graph_Path_R F 17 [] [6] K := by kernel_rfl

def graph_Path_r16 (F : Nat) (x1 x2 x3 x7 : Value) (K : Value → Value → Value → Value → Value → M Value) : M Value :=
  bnd (opIndexAddr 1 x7 x1) fun v89 => bnd (opLoad v89) fun v90 => bnd (opBin .eql v90 (.int .i64 (0))) fun v91 => K x1 x2 x3 x7 v91

theorem graph_Path_r16_ok (F : Nat) (x1 x2 x3 x7 : Value) (K : Value → Value → Value → Value → Value → M Value) : graph_Path_r16 F x1 x2 x3 x7 K = graph_Path_R F 16 [(7, x7), (3, x3), (2, x2), (1, x1)] [1, 2, 3, 7, 91] K := by kernel_rfl

def graph_Path_k5 (F : Nat) (x1 x2 x3 x7 : Value) : M Value :=
  graph_Path_r16 F x1 x2 x3 x7 (fun x1 x2 x3 x7 x91 => onB x91 (graph_Path_r17 F (fun x6 => ret x6)) (graph_Path_r18 F x1 x2 x3 x7 (fun x1 x2 x3 x7 x12 => graph_Path_r19 F x1 x2 x3 x7 x12 (fun x2 x3 x7 x12 x13 => graph_Path_l1 F (fun x12 => graph_Path_k0 F x12) F x2 x3 x7 x12 x13))))

def graph_Path_r8 (F : Nat) (x1 x2 x3 x7 x8 x9 : Value) (K : Value → Value → Value → Value → Value → Value → M Value) : M Value :=
  bnd (opSlice 1 x9 (some (.int .i64 (1))) none none) fun v54 => K x1 x2 x3 x7 x8 v54

theorem graph_Path_r8_ok (F : Nat) (x1 x2 x3 x7 x8 x9 : Value) (K : Value → Value → Value → Value → Value → Value → M Value) : graph_Path_r8 F x1 x2 x3 x7 x8 x9 K = graph_Path_R F 8 [(9, x9), (8, x8), (7, x7), (3, x3), (2, x2), (1, x1)] [1, 2, 3, 7, 8, 9] K := by kernel_rfl

def graph_Path_k7 (F : Nat) (A6 : Value → Value → Value → Value → Value → Value → M Value) (x1 x2 x3 x7 x8 x9 : Value) : M Value :=
  graph_Path_r8 F x1 x2 x3 x7 x8 x9 (fun x1 x2 x3 x7 x8 x9 => A6 x1 x2 x3 x7 x8 x9)

def graph_Path_r15 (F : Nat) (x1 x2 x3 x7 x8 x9 x61 x62 x63 : Value) (K : Value → Value → Value → Value → Value → Value → Value → Value → Value → M Value) : M Value :=
  bnd (opBin .add x63 (.int .i64 (1))) fun v86 => K x1 x2 x3 x7 x8 x9 x61 x62 v86

theorem graph_Path_r15_ok (F : Nat) (x1 x2 x3 x7 x8 x9 x61 x62 x63 : Value) (K : Value → Value → Value → Value → Value → Value → Value → Value → Value → M Value) : graph_Path_r15 F x1 x2 x3 x7 x8 x9 x61 x62 x63 K = graph_Path_R F 15 [(63, x63), (62, x62), (61, x61), (9, x9), (8, x8), (7, x7), (3, x3), (2, x2), (1, x1)] [1, 2, 3, 7, 8, 9, 61, 62, 63] K := by kernel_rfl

def graph_Path_k9 (F : Nat) (A8 : Value → Value → Value → Value → Value → Value → Value → Value → Value → M Value) (x1 x2 x3 x7 x8 x9 x61 x62 x63 : Value) : M Value :=
  graph_Path_r15 F x1 x2 x3 x7 x8 x9 x61 x62 x63 (fun x1 x2 x3 x7 x8 x9 x61 x62 x63 => A8 x1 x2 x3 x7 x8 x9 x61 x62 x63)

def graph_Path_r14 (F : Nat) (x1 x2 x3 x7 x8 x9 x11 x61 x62 x63 : Value) (K : Value → Value → Value → Value → Value → Value → Value → Value → Value → M Value) : M Value :=
  bnd (opBuildSlice 1 (rep 1 [(.int .i64 (0))]) [(0, 1, false, x11)]) fun v84 => bnd (opAppend 1 8 x9 v84) fun v85 => K x1 x2 x3 x7 x8 v85 x61 x62 x63

theorem graph_Path_r14_ok (F : Nat) (x1 x2 x3 x7 x8 x9 x11 x61 x62 x63 : Value) (K : Value → Value → Value → Value → Value → Value → Value → Value → Value → M Value) : graph_Path_r14 F x1 x2 x3 x7 x8 x9 x11 x61 x62 x63 K = graph_Path_R F 14 [(63, x63), (62, x62), (61, x61), (11, x11), (9, x9), (8, x8), (7, x7), (3, x3), (2, x2), (1, x1)] [1, 2, 3, 7, 8, 9, 61, 62, 63] K := by kernel_rfl

def graph_Path_r13 (F : Nat) (x1 x2 x3 x7 x8 x9 x11 x61 x62 x63 : Value) (K : Value → Value → Value → Value → Value → Value → Value → Value → Value → Value → M Value) : M Value :=
  bnd (opIndexAddr 1 x9 (.int .i64 (0))) fun v76 => bnd (opLoad v76) fun v77 => bnd (opIndexAddr 1 x7 v77) fun v78 => bnd (opLoad v78) fun v79 => bnd (opBin .add v79 (.int .i64 (1))) fun v80 => bnd (opIndexAddr 1 x7 x11) fun v81 => bnd (opStore v81 v80) fun _ => K x1 x2 x3 x7 x8 x9 x11 x61 x62 x63

theorem graph_Path_r13_ok (F : Nat) (x1 x2 x3 x7 x8 x9 x11 x61 x62 x63 : Value) (K : Value → Value → Value → Value → Value → Value → Value → Value → Value → Value → M Value) : graph_Path_r13 F x1 x2 x3 x7 x8 x9 x11 x61 x62 x63 K = graph_Path_R F 13 [(63, x63), (62, x62), (61, x61), (11, x11), (9, x9), (8, x8), (7, x7), (3, x3), (2, x2), (1, x1)] [1, 2, 3, 7, 8, 9, 11, 61, 62, 63] K := by kernel_rfl

def graph_Path_r12 (F : Nat) (x1 x2 x3 x7 x8 x9 x11 x61 x62 x63 : Value) (K : Value → Value → Value → Value → Value → Value → Value → Value → Value → Value → Value → M Value) : M Value :=
  bnd (opIndexAddr 1 x7 x11) fun v69 => bnd (opLoad v69) fun v70 => bnd (opBin .eql v70 (.int .i64 (0))) fun v71 => K x1 x2 x3 x7 x8 x9 x11 x61 x62 x63 v71

theorem graph_Path_r12_ok (F : Nat) (x1 x2 x3 x7 x8 x9 x11 x61 x62 x63 : Value) (K : Value → Value → Value → Value → Value → Value → Value → Value → Value → Value → Value → M Value) : graph_Path_r12 F x1 x2 x3 x7 x8 x9 x11 x61 x62 x63 K = graph_Path_R F 12 [(63, x63), (62, x62), (61, x61), (11, x11), (9, x9), (8, x8), (7, x7), (3, x3), (2, x2), (1, x1)] [1, 2, 3, 7, 8, 9, 11, 61, 62, 63, 71] K := by kernel_rfl

def graph_Path_r11 (F : Nat) (x1 x2 x3 x7 x8 x9 x61 x62 x63 : Value) (K : Value → Value → Value → Value → Value → Value → Value → Value → Value → Value → M Value) : M Value :=
  bnd (opIndexAddr 1 x61 x63) fun v65 => bnd (opLoad v65) fun v66 => K x1 x2 x3 x7 x8 x9 v66 x61 x62 x63

theorem graph_Path_r11_ok (F : Nat) (x1 x2 x3 x7 x8 x9 x61 x62 x63 : Value) (K : Value → Value → Value → Value → Value → Value → Value → Value → Value → Value → M Value) : graph_Path_r11 F x1 x2 x3 x7 x8 x9 x61 x62 x63 K = graph_Path_R F 11 [(63, x63), (62, x62), (61, x61), (9, x9), (8, x8), (7, x7), (3, x3), (2, x2), (1, x1)] [1, 2, 3, 7, 8, 9, 11, 61, 62, 63] K := by kernel_rfl

def graph_Path_r10 (F : Nat) (x1 x2 x3 x7 x8 x9 x61 x62 x63 : Value) (K : Value → Value → Value → Value → Value → Value → Value → Value → Value → Value → M Value) : M Value :=
  bnd (opBin .lss x63 x62) fun v64 => K x1 x2 x3 x7 x8 x9 x61 x62 x63 v64

theorem graph_Path_r10_ok (F : Nat) (x1 x2 x3 x7 x8 x9 x61 x62 x63 : Value) (K : Value → Value → Value → Value → Value → Value → Value → Value → Value → Value → M Value) : graph_Path_r10 F x1 x2 x3 x7 x8 x9 x61 x62 x63 K = graph_Path_R F 10 [(63, x63), (62, x62), (61, x61), (9, x9), (8, x8), (7, x7), (3, x3), (2, x2), (1, x1)] [1, 2, 3, 7, 8, 9, 61, 62, 63, 64] K := by kernel_rfl

def graph_Path_b8 (F : Nat) (E8_2 : Value → Value → Value → Value → Value → Value → M Value) (A8 : Value → Value → Value → Value → Value → Value → Value → Value → Value → M Value) (x1 x2 x3 x7 x8 x9 x61 x62 x63 : Value) : M Value :=
  graph_Path_r10 F x1 x2 x3 x7 x8 x9 x61 x62 x63 (fun x1 x2 x3 x7 x8 x9 x61 x62 x63 x64 => onB x64 (graph_Path_r11 F x1 x2 x3 x7 x8 x9 x61 x62 x63 (fun x1 x2 x3 x7 x8 x9 x11 x61 x62 x63 => graph_Path_r12 F x1 x2 x3 x7 x8 x9 x11 x61 x62 x63 (fun x1 x2 x3 x7 x8 x9 x11 x61 x62 x63 x71 => onB x71 (graph_Path_r13 F x1 x2 x3 x7 x8 x9 x11 x61 x62 x63 (fun x1 x2 x3 x7 x8 x9 x11 x61 x62 x63 => graph_Path_r14 F x1 x2 x3 x7 x8 x9 x11 x61 x62 x63 (fun x1 x2 x3 x7 x8 x9 x61 x62 x63 => graph_Path_k9 F A8 x1 x2 x3 x7 x8 x9 x61 x62 x63))) (graph_Path_k9 F A8 x1 x2 x3 x7 x8 x9 x61 x62 x63)))) (E8_2 x1 x2 x3 x7 x8 x9))

def graph_Path_l8 (F : Nat) (E8_2 : Value → Value → Value → Value → Value → Value → M Value) : Nat → Value → Value → Value → Value → Value → Value → Value → Value → Value → M Value
  | 0, _, _, _, _, _, _, _, _, _ => fail
  | k8 + 1, x1, x2, x3, x7, x8, x9, x61, x62, x63 => graph_Path_b8 F E8_2 (graph_Path_l8 F E8_2 k8) x1 x2 x3 x7 x8 x9 x61 x62 x63

theorem graph_Path_l8_s (F : Nat) (E8_2 : Value → Value → Value → Value → Value → Value → M Value) (k8 : Nat) (x1 x2 x3 x7 x8 x9 x61 x62 x63 : Value) : graph_Path_l8 F E8_2 (k8 + 1) x1 x2 x3 x7 x8 x9 x61 x62 x63 = graph_Path_b8 F E8_2 (graph_Path_l8 F E8_2 k8) x1 x2 x3 x7 x8 x9 x61 x62 x63 := rfl

def graph_Path_r9 (F : Nat) (x1 x2 x3 x7 x8 x9 : Value) (K : Value → Value → Value → Value → Value → Value → Value → Value → Value → M Value) : M Value :=
  bnd (opFieldAddr 1 x8) fun v55 => bnd (opLoad v55) fun v56 => bnd (opIndexAddr 1 x9 (.int .i64 (0))) fun v58 => bnd (opLoad v58) fun v59 => bnd (opIndexAddr 1 v56 v59) fun v60 => bnd (opLoad v60) fun v61 => bnd (opLen v61) fun v62 => K x1 x2 x3 x7 x8 x9 v61 v62 (.int .i64 (0))

theorem graph_Path_r9_ok (F : Nat) (x1 x2 x3 x7 x8 x9 : Value) (K : Value → Value → Value → Value → Value → Value → Value → Value → Value → M Value) : graph_Path_r9 F x1 x2 x3 x7 x8 x9 K = graph_Path_D F 9 [0, 1, 2, 3, 4, 5, 6, 7, 8] [(9, x9), (8, x8), (7, x7), (3, x3), (2, x2), (1, x1)] [1, 2, 3, 7, 8, 9, 61, 62, 63] K := by kernel_rfl

theorem graph_Path_r9_good : goodOrder (opsOf Try.f18 9) [0, 1, 2, 3, 4, 5, 6, 7, 8] = true := by kernel_rfl

def graph_Path_r7 (F : Nat) (x1 x2 x3 x7 x8 x9 : Value) (K : Value → Value → Value → Value → Value → Value → Value → M Value) : M Value :=
  bnd (opLen x9) fun v51 => bnd (opBin .gtr v51 (.int .i64 (0))) fun v52 => K x1 x2 x3 x7 x8 x9 v52

theorem graph_Path_r7_ok (F : Nat) (x1 x2 x3 x7 x8 x9 : Value) (K : Value → Value → Value → Value → Value → Value → Value → M Value) : graph_Path_r7 F x1 x2 x3 x7 x8 x9 K = graph_Path_R F 7 [(9, x9), (8, x8), (7, x7), (3, x3), (2, x2), (1, x1)] [1, 2, 3, 7, 8, 9, 52] K := by kernel_rfl

def graph_Path_b6 (F : Nat) (E6_0 : Value → Value → Value → Value → M Value) (A6 : Value → Value → Value → Value → Value → Value → M Value) (x1 x2 x3 x7 x8 x9 : Value) : M Value :=
  graph_Path_r7 F x1 x2 x3 x7 x8 x9 (fun x1 x2 x3 x7 x8 x9 x52 => onB x52 (graph_Path_r9 F x1 x2 x3 x7 x8 x9 (fun x1 x2 x3 x7 x8 x9 x61 x62 x63 => graph_Path_l8 F (fun x1 x2 x3 x7 x8 x9 => graph_Path_k7 F A6 x1 x2 x3 x7 x8 x9) F x1 x2 x3 x7 x8 x9 x61 x62 x63)) (E6_0 x1 x2 x3 x7))

def graph_Path_l6 (F : Nat) (E6_0 : Value → Value → Value → Value → M Value) : Nat → Value → Value → Value → Value → Value → Value → M Value
  | 0, _, _, _, _, _, _ => fail
  | k6 + 1, x1, x2, x3, x7, x8, x9 => graph_Path_b6 F E6_0 (graph_Path_l6 F E6_0 k6) x1 x2 x3 x7 x8 x9

theorem graph_Path_l6_s (F : Nat) (E6_0 : Value → Value → Value → Value → M Value) (k6 : Nat) (x1 x2 x3 x7 x8 x9 : Value) : graph_Path_l6 F E6_0 (k6 + 1) x1 x2 x3 x7 x8 x9 = graph_Path_b6 F E6_0 (graph_Path_l6 F E6_0 k6) x1 x2 x3 x7 x8 x9 := rfl

def graph_Path_r6 (F : Nat) (x1 x2 x3 x7 x8 : Value) (K : Value → Value → Value → Value → Value → Value → M Value) : M Value :=
  bnd (opBuildSlice 1 (rep 1 [(.int .i64 (0))]) [(0, 1, false, x2)]) fun v49 => K x1 x2 x3 x7 x8 v49

theorem graph_Path_r6_ok (F : Nat) (x1 x2 x3 x7 x8 : Value) (K : Value → Value → Value → Value → Value → Value → M Value) : graph_Path_r6 F x1 x2 x3 x7 x8 K = graph_Path_R F 6 [(8, x8), (7, x7), (3, x3), (2, x2), (1, x1)] [1, 2, 3, 7, 8, 9] K := by kernel_rfl

def graph_Path_r5 (F : Nat) (x1 x2 x3 x7 : Value) (K : Value → Value → Value → Value → Value → M Value) : M Value :=
  bnd (opLoadN 2 x3) fun v46 => bnd (graph_Turn F v46) fun v47 => bnd (opPtr [(.int .i64 (0)), (.slice none 0 0)]) fun v8 => bnd (opStoreN 2 v8 v47) fun _ => K x1 x2 x3 x7 v8

theorem graph_Path_r5_ok (F : Nat) (x1 x2 x3 x7 : Value) (K : Value → Value → Value → Value → Value → M Value) : graph_Path_r5 F x1 x2 x3 x7 K = graph_Path_R F 5 [(7, x7), (3, x3), (2, x2), (1, x1)] [1, 2, 3, 7, 8] K := by kernel_rfl

def graph_Path_r4 (F : Nat) (x1 x2 x3 x7 : Value) (K : Value → Value → Value → Value → M Value) : M Value :=
  bnd (opIndexAddr 1 x7 x2) fun v45 => bnd (opStore v45 (.int .i64 (1))) fun _ => K x1 x2 x3 x7

theorem graph_Path_r4_ok (F : Nat) (x1 x2 x3 x7 : Value) (K : Value → Value → Value → Value → M Value) : graph_Path_r4 F x1 x2 x3 x7 K = graph_Path_R F 4 [(7, x7), (3, x3), (2, x2), (1, x1)] [1, 2, 3, 7] K := by kernel_rfl

def graph_Path_r3 (F : Nat) (x1 x2 x3 : Value) (K : Value → Value → Value → Value → M Value) : M Value :=
  bnd (opFieldAddr 0 x3) fun v40 => bnd (opLoad v40) fun v41 => bnd (opMake 8 [(.int .i64 (0))] v41 v41) fun v42 => K x1 x2 x3 v42

theorem graph_Path_r3_ok (F : Nat) (x1 x2 x3 : Value) (K : Value → Value → Value → Value → M Value) : graph_Path_r3 F x1 x2 x3 K = graph_Path_R F 3 [(3, x3), (2, x2), (1, x1)] [1, 2, 3, 7] K := by kernel_rfl

def graph_Path_r2 (F : Nat) (K : Value → M Value) : M Value :=
  K (.slice none 0 0)

theorem graph_Path_r2_ok (F : Nat) (K : Value → M Value) : graph_Path_r2 F K = graph_Path_R F 2 [] [6] K := by kernel_rfl

def graph_Path_r1 (F : Nat) (x1 x2 x3 : Value) (K : Value → Value → Value → Value → M Value) : M Value :=
  bnd (opLoadN 2 x3) fun v17 => bnd (graph_May F v17) fun v18 => bnd (opNot v18) fun v19 => onB v19 (K x1 x2 x3 (.bool true)) (bnd (opBin .lss x1 (.int .i64 (0))) fun v22 => onB v22 (K x1 x2 x3 (.bool true)) (bnd (opFieldAddr 0 x3) fun v26 => bnd (opLoad v26) fun v27 => bnd (opBin .geq x1 v27) fun v28 => onB v28 (K x1 x2 x3 (.bool true)) (bnd (opBin .lss x2 (.int .i64 (0))) fun v32 => onB v32 (K x1 x2 x3 (.bool true)) (bnd (opFieldAddr 0 x3) fun v36 => bnd (opLoad v36) fun v37 => bnd (opBin .geq x2 v37) fun v38 => K x1 x2 x3 v38))))

theorem graph_Path_r1_ok (F : Nat) (x1 x2 x3 : Value) (K : Value → Value → Value → Value → M Value) : graph_Path_r1 F x1 x2 x3 K = graph_Path_R F 1 [(3, x3), (2, x2), (1, x1)] [1, 2, 3, 39] K := by kernel_rfl

def graph_Path_r0 (F : Nat) (x0 x1 x2 : Value) (K : Value → Value → Value → M Value) : M Value :=
  bnd (opBoxN x0) fun v3 => K x1 x2 v3

theorem graph_Path_r0_ok (F : Nat) (x0 x1 x2 : Value) (K : Value → Value → Value → M Value) : graph_Path_r0 F x0 x1 x2 K = graph_Path_R F 0 [(2, x2), (1, x1), (0, x0)] [1, 2, 3] K := by kernel_rfl

def graph_Path (F : Nat) (x0 x1 x2 : Value) : M Value :=
  graph_Path_r0 F x0 x1 x2 (fun x1 x2 x3 => graph_Path_r1 F x1 x2 x3 (fun x1 x2 x3 x39 => onB x39 (graph_Path_r2 F (fun x6 => ret x6)) (graph_Path_r3 F x1 x2 x3 (fun x1 x2 x3 x7 => graph_Path_r4 F x1 x2 x3 x7 (fun x1 x2 x3 x7 => graph_Path_r5 F x1 x2 x3 x7 (fun x1 x2 x3 x7 x8 => graph_Path_r6 F x1 x2 x3 x7 x8 (fun x1 x2 x3 x7 x8 x9 => graph_Path_l6 F (fun x1 x2 x3 x7 => graph_Path_k5 F x1 x2 x3 x7) F x1 x2 x3 x7 x8 x9)))))))

def graph_Path_m (F : Nat) : List Value → M Value
  | [x0, x1, x2] => graph_Path F x0 x1 x2
  | _ => fail

theorem graph_Path_body : Try.f18.body = some (.seq (.region 0 (opsOf Try.f18 0) false) (.seq (.seq (.region 1 (opsOf Try.f18 1) false) (.cond (.tmp 39) (.seq (.region 2 (opsOf Try.f18 2) false) .ret) .skip)) (.seq (.region 3 (opsOf Try.f18 3) false) (.seq (.region 4 (opsOf Try.f18 4) false) (.seq (.region 5 (opsOf Try.f18 5) false) (.seq (.seq (.region 6 (opsOf Try.f18 6) false) (.block 0 (.loop (.seq (.seq (.region 7 (opsOf Try.f18 7) false) (.cond (.tmp 52) .skip (.exit 0))) (.seq (.block 1 (.seq (.region 9 (opsOf Try.f18 9) true) (.block 2 (.loop (.seq (.region 10 (opsOf Try.f18 10) false) (.seq (.cond (.tmp 64) .skip (.exit 2)) (.seq (.block 3 (.seq (.region 11 (opsOf Try.f18 11) false) (.seq (.region 12 (opsOf Try.f18 12) false) (.cond (.tmp 71) (.seq (.region 13 (opsOf Try.f18 13) false) (.region 14 (opsOf Try.f18 14) false)) .skip)))) (.region 15 (opsOf Try.f18 15) false)))))))) (.region 8 (opsOf Try.f18 8) false)))))) (.seq (.seq (.region 16 (opsOf Try.f18 16) false) (.cond (.tmp 91) (.seq (.region 17 (opsOf Try.f18 17) false) .ret) .skip)) (.seq (.region 18 (opsOf Try.f18 18) false) (.seq (.seq (.region 19 (opsOf Try.f18 19) false) (.block 4 (.loop (.seq (.seq (.region 20 (opsOf Try.f18 20) false) (.cond (.tmp 97) .skip (.exit 4))) (.block 5 (.seq (.region 21 (opsOf Try.f18 21) false) (.seq (.seq (.region 22 (opsOf Try.f18 22) false) (.block 6 (.loop (.seq (.region 23 (opsOf Try.f18 23) false) (.seq (.cond (.tmp 105) .skip (.exit 6)) (.seq (.block 7 (.seq (.region 24 (opsOf Try.f18 24) false) (.seq (.region 25 (opsOf Try.f18 25) true) (.cond (.tmp 133) (.region 26 (opsOf Try.f18 26) false) .skip)))) (.region 27 (opsOf Try.f18 27) false))))))) (.seq (.region 28 (opsOf Try.f18 28) false) (.region 29 (opsOf Try.f18 29) false))))))))) (.seq (.region 30 (opsOf Try.f18 30) false) .ret)))))))))) := by kernel_rfl

theorem graph_Path_ok (F : Nat) : Sim Try.prog TryG 18 (graph_Path_m F) := by
 have hE : EnvOK Try.prog TryG (graph_Path_env F) := (EnvOK.cons (graph_Turn_ok F) (EnvOK.cons (graph_May_ok F) EnvOK.nil))
 refine Sim.of_body (E := graph_Path_env F) Try.func18 graph_Path_body Try.call18 ?_ ?_
 · intro args hl; unfold graph_Path_m; split
   · exact absurd hl (Nat.not_lt.2 (Nat.le_of_ble_eq_true rfl))
   · rfl
 · intro args ρ h w z; unfold graph_Path_m; split
   · rename_i x0 x1 x2; show OKc _ _ [(0, x0), (1, x1), (2, x2)] _ _
     refine rSeq ?_
     refine cLess [2, 1, 0] ?_
     refine xR hE [1, 2, 3] rfl (graph_Path_r0_ok F _ _ _ _) ?_
     intro x1 x2 x3
     show OKq _ _ _ [(3, x3), (2, x2), (1, x1)] _
     refine rThen ?_
     refine rSeq ?_
     refine rSeq ?_
     refine cLess [3, 2, 1] ?_
     refine xR hE [1, 2, 3, 39] rfl (graph_Path_r1_ok F _ _ _ _) ?_
     intro x1 x2 x3 x39
     show OKq _ _ _ [(39, x39), (3, x3), (2, x2), (1, x1)] _
     refine rThen ?_
     refine xCond rfl rfl ?_ ?_
     · refine rSeq ?_
       refine cLess [] ?_
       refine xR hE [6] rfl (graph_Path_r2_ok F _) ?_
       intro x6
       show OKq _ _ _ [(6, x6)] _
       refine rThen ?_
       refine rRet ?_
       refine xThenR ?_
       exact rDone (.inr rfl) rfl
     · refine rSkip ?_
       refine rThen ?_
       refine rSeq ?_
       refine cLess [3, 2, 1] ?_
       refine xR hE [1, 2, 3, 7] rfl (graph_Path_r3_ok F _ _ _ _) ?_
       intro x1 x2 x3 x7
       show OKq _ _ _ [(7, x7), (3, x3), (2, x2), (1, x1)] _
       refine rThen ?_
       refine rSeq ?_
       refine cLess [7, 3, 2, 1] ?_
       refine xR hE [1, 2, 3, 7] rfl (graph_Path_r4_ok F _ _ _ _ _) ?_
       intro x1 x2 x3 x7
       show OKq _ _ _ [(7, x7), (3, x3), (2, x2), (1, x1)] _
       refine rThen ?_
       refine rSeq ?_
       refine cLess [7, 3, 2, 1] ?_
       refine xR hE [1, 2, 3, 7, 8] rfl (graph_Path_r5_ok F _ _ _ _ _) ?_
       intro x1 x2 x3 x7 x8
       show OKq _ _ _ [(8, x8), (7, x7), (3, x3), (2, x2), (1, x1)] _
       refine rThen ?_
       refine xSeq [1, 2, 3, 7] (graph_Path_k5 F ) ?_ fun hj5 => ?_
       · intro x1 x2 x3 x7
         show OKc _ _ [(7, x7), (3, x3), (2, x2), (1, x1)] _ _
         refine rSeq ?_
         refine rSeq ?_
         refine cLess [7, 3, 2, 1] ?_
         refine xR hE [1, 2, 3, 7, 91] rfl (graph_Path_r16_ok F _ _ _ _ _) ?_
         intro x1 x2 x3 x7 x91
         show OKq _ _ _ [(91, x91), (7, x7), (3, x3), (2, x2), (1, x1)] _
         refine rThen ?_
         refine xCond rfl rfl ?_ ?_
         · refine rSeq ?_
           refine cLess [] ?_
           refine xR hE [6] rfl (graph_Path_r17_ok F _) ?_
           intro x6
           show OKq _ _ _ [(6, x6)] _
           refine rThen ?_
           refine rRet ?_
           refine xThenR ?_
           exact rDone (.inr rfl) rfl
         · refine rSkip ?_
           refine rThen ?_
           refine rSeq ?_
           refine cLess [7, 3, 2, 1] ?_
           refine xR hE [1, 2, 3, 7, 12] rfl (graph_Path_r18_ok F _ _ _ _ _) ?_
           intro x1 x2 x3 x7 x12
           show OKq _ _ _ [(12, x12), (7, x7), (3, x3), (2, x2), (1, x1)] _
           refine rThen ?_
           refine xSeq [12] (graph_Path_k0 F ) ?_ fun hj0 => ?_
           · intro x12
             show OKc _ _ [(12, x12)] _ _
             refine rSeq ?_
             refine cLess [12] ?_
             refine xR hE [6] rfl (graph_Path_r30_ok F _ _) ?_
             intro x6
             show OKq _ _ _ [(6, x6)] _
             refine rThen ?_
             refine rRet ?_
             exact rDone (.inr rfl) rfl
           · refine rSeq ?_
             refine cLess [12, 7, 3, 2, 1] ?_
             refine xR hE [2, 3, 7, 12, 13] rfl (graph_Path_r19_ok F _ _ _ _ _ _) ?_
             intro x2 x3 x7 x12 x13
             show OKq _ _ _ [(13, x13), (12, x12), (7, x7), (3, x3), (2, x2)] _
             refine rThen ?_
             refine rBlock ?_
             refine cLess [13, 12, 7, 3, 2] ?_
             refine xLoopAt [2, 3, 7, 12, 13] [] (fun k1 => graph_Path_l1 F (fun x12 => graph_Path_k0 F x12) k1) F [x2, x3, x7, x12, x13] rfl rfl (fun _ _ _ _ _ => rfl) fun I hI1 k1 => ?_
             intro x2 x3 x7 x12 x13
             show OKc _ _ [(13, x13), (12, x12), (7, x7), (3, x3), (2, x2)] _ _
             refine cAs (graph_Path_l1_s F _ _ _ _ _ _ _) ?_
             refine rSeq ?_
             refine rSeq ?_
             refine cLess [13, 12, 7, 3, 2] ?_
             refine xR hE [2, 3, 7, 12, 13, 97] rfl (graph_Path_r20_ok F _ _ _ _ _ _) ?_
             intro x2 x3 x7 x12 x13 x97
             show OKq _ _ _ [(97, x97), (13, x13), (12, x12), (7, x7), (3, x3), (2, x2)] _
             refine rThen ?_
             refine xCond rfl rfl ?_ ?_
             · refine rSkip ?_
               refine rThen ?_
               refine rBlock ?_
               refine rSeq ?_
               refine cLess [13, 12, 7, 3, 2] ?_
               refine xR hE [2, 3, 7, 12, 13, 14] rfl (graph_Path_r21_ok F _ _ _ _ _ _) ?_
               intro x2 x3 x7 x12 x13 x14
               show OKq _ _ _ [(14, x14), (13, x13), (12, x12), (7, x7), (3, x3), (2, x2)] _
               refine rThen ?_
               refine xSeq [2, 3, 7, 12, 14] (graph_Path_k2 F (graph_Path_l1 F (fun x12 => graph_Path_k0 F x12) k1) ) ?_ fun hj2 => ?_
               · intro x2 x3 x7 x12 x14
                 show OKc _ _ [(14, x14), (12, x12), (7, x7), (3, x3), (2, x2)] _ _
                 refine rSeq ?_
                 refine cLess [14, 12, 7, 3, 2] ?_
                 refine xR hE [2, 3, 7, 12, 13] rfl (graph_Path_r28_ok F _ _ _ _ _ _) ?_
                 intro x2 x3 x7 x12 x13
                 show OKq _ _ _ [(13, x13), (12, x12), (7, x7), (3, x3), (2, x2)] _
                 refine rThen ?_
                 refine cLess [13, 12, 7, 3, 2] ?_
                 refine xR hE [2, 3, 7, 12, 13] rfl (graph_Path_r29_ok F _ _ _ _ _ _) ?_
                 intro x2 x3 x7 x12 x13
                 show OKq _ _ _ [(13, x13), (12, x12), (7, x7), (3, x3), (2, x2)] _
                 refine xBlockN ?_
                 exact qLess [13, 12, 7, 3, 2] (hI1 k1 x2 x3 x7 x12 x13)
               · refine rSeq ?_
                 refine cLess [14, 13, 12, 7, 3, 2] ?_
                 refine xR hE [2, 3, 7, 12, 13, 14, 102, 103, 104] rfl (graph_Path_r22_ok F _ _ _ _ _ _ _) ?_
                 intro x2 x3 x7 x12 x13 x14 x102 x103 x104
                 show OKq _ _ _ [(104, x104), (103, x103), (102, x102), (14, x14), (13, x13), (12, x12), (7, x7), (3, x3), (2, x2)] _
                 refine rThen ?_
                 refine rBlock ?_
                 refine cLess [104, 103, 102, 14, 13, 12, 7, 3, 2] ?_
                 refine xLoopAt [2, 3, 7, 12, 13, 14, 102, 103, 104] [] (fun k3 => graph_Path_l3 F (fun x2 x3 x7 x12 x14 => graph_Path_k2 F (graph_Path_l1 F (fun x12 => graph_Path_k0 F x12) k1) x2 x3 x7 x12 x14) k3) F [x2, x3, x7, x12, x13, x14, x102, x103, x104] rfl rfl (fun _ _ _ _ _ _ _ _ _ => rfl) fun I hI3 k3 => ?_
                 intro x2 x3 x7 x12 x13 x14 x102 x103 x104
                 show OKc _ _ [(104, x104), (103, x103), (102, x102), (14, x14), (13, x13), (12, x12), (7, x7), (3, x3), (2, x2)] _ _
                 refine cAs (graph_Path_l3_s F _ _ _ _ _ _ _ _ _ _ _) ?_
                 refine rSeq ?_
                 refine cLess [104, 103, 102, 14, 13, 12, 7, 3, 2] ?_
                 refine xR hE [2, 3, 7, 12, 13, 14, 102, 103, 104, 105] rfl (graph_Path_r23_ok F _ _ _ _ _ _ _ _ _ _) ?_
                 intro x2 x3 x7 x12 x13 x14 x102 x103 x104 x105
                 show OKq _ _ _ [(105, x105), (104, x104), (103, x103), (102, x102), (14, x14), (13, x13), (12, x12), (7, x7), (3, x3), (2, x2)] _
                 refine rThen ?_
                 refine rSeq ?_
                 refine xCond rfl rfl ?_ ?_
                 · refine rSkip ?_
                   refine rThen ?_
                   refine xSeq [2, 3, 7, 12, 13, 14, 102, 103, 104] (graph_Path_k4 F (graph_Path_l3 F (fun x2 x3 x7 x12 x14 => graph_Path_k2 F (graph_Path_l1 F (fun x12 => graph_Path_k0 F x12) k1) x2 x3 x7 x12 x14) k3) ) ?_ fun hj4 => ?_
                   · intro x2 x3 x7 x12 x13 x14 x102 x103 x104
                     show OKc _ _ [(104, x104), (103, x103), (102, x102), (14, x14), (13, x13), (12, x12), (7, x7), (3, x3), (2, x2)] _ _
                     refine cLess [104, 103, 102, 14, 13, 12, 7, 3, 2] ?_
                     refine xR hE [2, 3, 7, 12, 13, 14, 102, 103, 104] rfl (graph_Path_r27_ok F _ _ _ _ _ _ _ _ _ _) ?_
                     intro x2 x3 x7 x12 x13 x14 x102 x103 x104
                     show OKq _ _ _ [(104, x104), (103, x103), (102, x102), (14, x14), (13, x13), (12, x12), (7, x7), (3, x3), (2, x2)] _
                     exact qLess [104, 103, 102, 14, 13, 12, 7, 3, 2] (hI3 k3 x2 x3 x7 x12 x13 x14 x102 x103 x104)
                   · refine rBlock ?_
                     refine rSeq ?_
                     refine cLess [104, 103, 102, 14, 13, 12, 7, 3, 2] ?_
                     refine xR hE [2, 3, 7, 12, 13, 14, 16, 102, 103, 104] rfl (graph_Path_r24_ok F _ _ _ _ _ _ _ _ _ _) ?_
                     intro x2 x3 x7 x12 x13 x14 x16 x102 x103 x104
                     show OKq _ _ _ [(104, x104), (103, x103), (102, x102), (16, x16), (14, x14), (13, x13), (12, x12), (7, x7), (3, x3), (2, x2)] _
                     refine rThen ?_
                     refine rSeq ?_
                     refine cLess [104, 103, 102, 16, 14, 13, 12, 7, 3, 2] ?_
                     refine xD Trymix hE [2, 3, 7, 12, 13, 14, 16, 102, 103, 104, 133] rfl graph_Path_r25_good (graph_Path_r25_ok F _ _ _ _ _ _ _ _ _ _ _) ?_
                     intro x2 x3 x7 x12 x13 x14 x16 x102 x103 x104 x133
                     show OKq _ _ _ [(133, x133), (104, x104), (103, x103), (102, x102), (16, x16), (14, x14), (13, x13), (12, x12), (7, x7), (3, x3), (2, x2)] _
                     refine rThen ?_
                     refine xCond rfl rfl ?_ ?_
                     · refine cLess [104, 103, 102, 16, 13, 12, 7, 3, 2] ?_
                       refine xR hE [2, 3, 7, 12, 13, 14, 102, 103, 104] rfl (graph_Path_r26_ok F _ _ _ _ _ _ _ _ _ _) ?_
                       intro x2 x3 x7 x12 x13 x14 x102 x103 x104
                       show OKq _ _ _ [(104, x104), (103, x103), (102, x102), (14, x14), (13, x13), (12, x12), (7, x7), (3, x3), (2, x2)] _
                       refine xBlockN ?_
                       exact qLess [104, 103, 102, 14, 13, 12, 7, 3, 2] (hj4 x2 x3 x7 x12 x13 x14 x102 x103 x104)
                     · refine rSkip ?_
                       refine xBlockN ?_
                       exact qLess [104, 103, 102, 14, 13, 12, 7, 3, 2] (hj4 x2 x3 x7 x12 x13 x14 x102 x103 x104)
                 · refine rExit ?_
                   refine xThenX ?_
                   refine xThenX ?_
                   refine rOut ?_
                   exact qLess [14, 12, 7, 3, 2] (hj2 x2 x3 x7 x12 x14)
             · refine rExit ?_
               refine xThenX ?_
               refine xThenX ?_
               refine rOut ?_
               exact qLess [12] (hj0 x12)
       · refine rSeq ?_
         refine cLess [8, 7, 3, 2, 1] ?_
         refine xR hE [1, 2, 3, 7, 8, 9] rfl (graph_Path_r6_ok F _ _ _ _ _ _) ?_
         intro x1 x2 x3 x7 x8 x9
         show OKq _ _ _ [(9, x9), (8, x8), (7, x7), (3, x3), (2, x2), (1, x1)] _
         refine rThen ?_
         refine rBlock ?_
         refine cLess [9, 8, 7, 3, 2, 1] ?_
         refine xLoopAt [1, 2, 3, 7, 8, 9] [] (fun k6 => graph_Path_l6 F (fun x1 x2 x3 x7 => graph_Path_k5 F x1 x2 x3 x7) k6) F [x1, x2, x3, x7, x8, x9] rfl rfl (fun _ _ _ _ _ _ => rfl) fun I hI6 k6 => ?_
         intro x1 x2 x3 x7 x8 x9
         show OKc _ _ [(9, x9), (8, x8), (7, x7), (3, x3), (2, x2), (1, x1)] _ _
         refine cAs (graph_Path_l6_s F _ _ _ _ _ _ _ _) ?_
         refine rSeq ?_
         refine rSeq ?_
         refine cLess [9, 8, 7, 3, 2, 1] ?_
         refine xR hE [1, 2, 3, 7, 8, 9, 52] rfl (graph_Path_r7_ok F _ _ _ _ _ _ _) ?_
         intro x1 x2 x3 x7 x8 x9 x52
         show OKq _ _ _ [(52, x52), (9, x9), (8, x8), (7, x7), (3, x3), (2, x2), (1, x1)] _
         refine rThen ?_
         refine xCond rfl rfl ?_ ?_
         · refine rSkip ?_
           refine rThen ?_
           refine xSeq [1, 2, 3, 7, 8, 9] (graph_Path_k7 F (graph_Path_l6 F (fun x1 x2 x3 x7 => graph_Path_k5 F x1 x2 x3 x7) k6) ) ?_ fun hj7 => ?_
           · intro x1 x2 x3 x7 x8 x9
             show OKc _ _ [(9, x9), (8, x8), (7, x7), (3, x3), (2, x2), (1, x1)] _ _
             refine cLess [9, 8, 7, 3, 2, 1] ?_
             refine xR hE [1, 2, 3, 7, 8, 9] rfl (graph_Path_r8_ok F _ _ _ _ _ _ _) ?_
             intro x1 x2 x3 x7 x8 x9
             show OKq _ _ _ [(9, x9), (8, x8), (7, x7), (3, x3), (2, x2), (1, x1)] _
             exact qLess [9, 8, 7, 3, 2, 1] (hI6 k6 x1 x2 x3 x7 x8 x9)
           · refine rBlock ?_
             refine rSeq ?_
             refine cLess [9, 8, 7, 3, 2, 1] ?_
             refine xD Trymix hE [1, 2, 3, 7, 8, 9, 61, 62, 63] rfl graph_Path_r9_good (graph_Path_r9_ok F _ _ _ _ _ _ _) ?_
             intro x1 x2 x3 x7 x8 x9 x61 x62 x63
             show OKq _ _ _ [(63, x63), (62, x62), (61, x61), (9, x9), (8, x8), (7, x7), (3, x3), (2, x2), (1, x1)] _
             refine rThen ?_
             refine rBlock ?_
             refine cLess [63, 62, 61, 9, 8, 7, 3, 2, 1] ?_
             refine xLoopAt [1, 2, 3, 7, 8, 9, 61, 62, 63] [] (fun k8 => graph_Path_l8 F (fun x1 x2 x3 x7 x8 x9 => graph_Path_k7 F (graph_Path_l6 F (fun x1 x2 x3 x7 => graph_Path_k5 F x1 x2 x3 x7) k6) x1 x2 x3 x7 x8 x9) k8) F [x1, x2, x3, x7, x8, x9, x61, x62, x63] rfl rfl (fun _ _ _ _ _ _ _ _ _ => rfl) fun I hI8 k8 => ?_
             intro x1 x2 x3 x7 x8 x9 x61 x62 x63
             show OKc _ _ [(63, x63), (62, x62), (61, x61), (9, x9), (8, x8), (7, x7), (3, x3), (2, x2), (1, x1)] _ _
             refine cAs (graph_Path_l8_s F _ _ _ _ _ _ _ _ _ _ _) ?_
             refine rSeq ?_
             refine cLess [63, 62, 61, 9, 8, 7, 3, 2, 1] ?_
             refine xR hE [1, 2, 3, 7, 8, 9, 61, 62, 63, 64] rfl (graph_Path_r10_ok F _ _ _ _ _ _ _ _ _ _) ?_
             intro x1 x2 x3 x7 x8 x9 x61 x62 x63 x64
             show OKq _ _ _ [(64, x64), (63, x63), (62, x62), (61, x61), (9, x9), (8, x8), (7, x7), (3, x3), (2, x2), (1, x1)] _
             refine rThen ?_
             refine rSeq ?_
             refine xCond rfl rfl ?_ ?_
             · refine rSkip ?_
               refine rThen ?_
               refine xSeq [1, 2, 3, 7, 8, 9, 61, 62, 63] (graph_Path_k9 F (graph_Path_l8 F (fun x1 x2 x3 x7 x8 x9 => graph_Path_k7 F (graph_Path_l6 F (fun x1 x2 x3 x7 => graph_Path_k5 F x1 x2 x3 x7) k6) x1 x2 x3 x7 x8 x9) k8) ) ?_ fun hj9 => ?_
               · intro x1 x2 x3 x7 x8 x9 x61 x62 x63
                 show OKc _ _ [(63, x63), (62, x62), (61, x61), (9, x9), (8, x8), (7, x7), (3, x3), (2, x2), (1, x1)] _ _
                 refine cLess [63, 62, 61, 9, 8, 7, 3, 2, 1] ?_
                 refine xR hE [1, 2, 3, 7, 8, 9, 61, 62, 63] rfl (graph_Path_r15_ok F _ _ _ _ _ _ _ _ _ _) ?_
                 intro x1 x2 x3 x7 x8 x9 x61 x62 x63
                 show OKq _ _ _ [(63, x63), (62, x62), (61, x61), (9, x9), (8, x8), (7, x7), (3, x3), (2, x2), (1, x1)] _
                 exact qLess [63, 62, 61, 9, 8, 7, 3, 2, 1] (hI8 k8 x1 x2 x3 x7 x8 x9 x61 x62 x63)
               · refine rBlock ?_
                 refine rSeq ?_
                 refine cLess [63, 62, 61, 9, 8, 7, 3, 2, 1] ?_
                 refine xR hE [1, 2, 3, 7, 8, 9, 11, 61, 62, 63] rfl (graph_Path_r11_ok F _ _ _ _ _ _ _ _ _ _) ?_
                 intro x1 x2 x3 x7 x8 x9 x11 x61 x62 x63
                 show OKq _ _ _ [(63, x63), (62, x62), (61, x61), (11, x11), (9, x9), (8, x8), (7, x7), (3, x3), (2, x2), (1, x1)] _
                 refine rThen ?_
                 refine rSeq ?_
                 refine cLess [63, 62, 61, 11, 9, 8, 7, 3, 2, 1] ?_
                 refine xR hE [1, 2, 3, 7, 8, 9, 11, 61, 62, 63, 71] rfl (graph_Path_r12_ok F _ _ _ _ _ _ _ _ _ _ _) ?_
                 intro x1 x2 x3 x7 x8 x9 x11 x61 x62 x63 x71
                 show OKq _ _ _ [(71, x71), (63, x63), (62, x62), (61, x61), (11, x11), (9, x9), (8, x8), (7, x7), (3, x3), (2, x2), (1, x1)] _
                 refine rThen ?_
                 refine xCond rfl rfl ?_ ?_
                 · refine rSeq ?_
                   refine cLess [63, 62, 61, 11, 9, 8, 7, 3, 2, 1] ?_
                   refine xR hE [1, 2, 3, 7, 8, 9, 11, 61, 62, 63] rfl (graph_Path_r13_ok F _ _ _ _ _ _ _ _ _ _ _) ?_
                   intro x1 x2 x3 x7 x8 x9 x11 x61 x62 x63
                   show OKq _ _ _ [(63, x63), (62, x62), (61, x61), (11, x11), (9, x9), (8, x8), (7, x7), (3, x3), (2, x2), (1, x1)] _
                   refine rThen ?_
                   refine cLess [63, 62, 61, 11, 9, 8, 7, 3, 2, 1] ?_
                   refine xR hE [1, 2, 3, 7, 8, 9, 61, 62, 63] rfl (graph_Path_r14_ok F _ _ _ _ _ _ _ _ _ _ _) ?_
                   intro x1 x2 x3 x7 x8 x9 x61 x62 x63
                   show OKq _ _ _ [(63, x63), (62, x62), (61, x61), (9, x9), (8, x8), (7, x7), (3, x3), (2, x2), (1, x1)] _
                   refine xBlockN ?_
                   exact qLess [63, 62, 61, 9, 8, 7, 3, 2, 1] (hj9 x1 x2 x3 x7 x8 x9 x61 x62 x63)
                 · refine rSkip ?_
                   refine xBlockN ?_
                   exact qLess [63, 62, 61, 9, 8, 7, 3, 2, 1] (hj9 x1 x2 x3 x7 x8 x9 x61 x62 x63)
             · refine rExit ?_
               refine xThenX ?_
               refine xThenX ?_
               refine rOut ?_
               refine xBlockN ?_
               exact qLess [9, 8, 7, 3, 2, 1] (hj7 x1 x2 x3 x7 x8 x9)
         · refine rExit ?_
           refine xThenX ?_
           refine xThenX ?_
           refine rOut ?_
           exact qLess [7, 3, 2, 1] (hj5 x1 x2 x3 x7)
   · exact rFail


/-! ### (*haruspex/bitset.Set).Has -/

def bitset_Set_Has_env (F : Nat) : Env := envOf [(29, bitset_Set_at_m F)]

noncomputable def bitset_Set_Has_R (F : Nat) := rK Try.prog TryG (bitset_Set_Has_env F) Try.f28
noncomputable def bitset_Set_Has_D (F : Nat) := dK Try.prog TryG (bitset_Set_Has_env F) Try.f28

def bitset_Set_Has_r1 (F : Nat) (x0 x1 : Value) (K : Value → M Value) : M Value :=
  bnd (opBin .geq x1 (.int .i64 (0))) fun v6 => onB v6 (bnd (opBin .lss x1 (.int .i64 (5000))) fun v9 => onB v9 (bnd (opBin .quo x1 (.int .i64 (64))) fun v14 => bnd (bitset_Set_at F x0 v14) fun v15 => bnd (opBin .rem x1 (.int .i64 (64))) fun v17 => bnd (opBin .shr v15 v17) fun v18 => bnd (opBin .and v18 (.int .u64 (1))) fun v19 => bnd (opBin .eql v19 (.int .u64 (1))) fun v20 => K v20) (K (.bool false))) (K (.bool false))

theorem bitset_Set_Has_r1_ok (F : Nat) (x0 x1 : Value) (K : Value → M Value) : bitset_Set_Has_r1 F x0 x1 K = bitset_Set_Has_R F 1 [(1, x1), (0, x0)] [4] K := by kernel_rfl

def bitset_Set_Has_r0 (F : Nat) (x0 x1 : Value) (K : Value → Value → M Value) : M Value :=
  K x0 x1

theorem bitset_Set_Has_r0_ok (F : Nat) (x0 x1 : Value) (K : Value → Value → M Value) : bitset_Set_Has_r0 F x0 x1 K = bitset_Set_Has_R F 0 [(1, x1), (0, x0)] [0, 1] K := by kernel_rfl

def bitset_Set_Has (F : Nat) (x0 x1 : Value) : M Value :=
  bitset_Set_Has_r0 F x0 x1 (fun x0 x1 => bitset_Set_Has_r1 F x0 x1 (fun x4 => ret x4))

def bitset_Set_Has_m (F : Nat) : List Value → M Value
  | [x0, x1] => bitset_Set_Has F x0 x1
  | _ => fail

theorem bitset_Set_Has_body : Try.f28.body = some (.seq (.region 0 (opsOf Try.f28 0) false) (.seq (.region 1 (opsOf Try.f28 1) false) .ret)) := by kernel_rfl

theorem bitset_Set_Has_ok (F : Nat) : Sim Try.prog TryG 28 (bitset_Set_Has_m F) := by
 have hE : EnvOK Try.prog TryG (bitset_Set_Has_env F) := (EnvOK.cons (bitset_Set_at_ok F) EnvOK.nil)
 refine Sim.of_body (E := bitset_Set_Has_env F) Try.func28 bitset_Set_Has_body Try.call28 ?_ ?_
 · intro args hl; unfold bitset_Set_Has_m; split
   · exact absurd hl (Nat.not_lt.2 (Nat.le_of_ble_eq_true rfl))
   · rfl
 · intro args ρ h w z; unfold bitset_Set_Has_m; split
   · rename_i x0 x1; show OKc _ _ [(0, x0), (1, x1)] _ _
     refine rSeq ?_
     refine cLess [1, 0] ?_
     refine xR hE [0, 1] rfl (bitset_Set_Has_r0_ok F _ _ _) ?_
     intro x0 x1
     show OKq _ _ _ [(1, x1), (0, x0)] _
     refine rThen ?_
     refine rSeq ?_
     refine cLess [1, 0] ?_
     refine xR hE [4] rfl (bitset_Set_Has_r1_ok F _ _ _) ?_
     intro x4
     show OKq _ _ _ [(4, x4)] _
     refine rThen ?_
     refine rRet ?_
     exact rDone (.inr rfl) rfl
   · exact rFail


/-! ### (*haruspex/bitset.Set).Add -/

def bitset_Set_Add_env (F : Nat) : Env := envOf [(28, bitset_Set_Has_m F)]

noncomputable def bitset_Set_Add_R (F : Nat) := rK Try.prog TryG (bitset_Set_Add_env F) Try.f27
noncomputable def bitset_Set_Add_D (F : Nat) := dK Try.prog TryG (bitset_Set_Add_env F) Try.f27

def bitset_Set_Add_r6 (F : Nat) (K : Value → M Value) : M Value :=
  K (.bool true)

theorem bitset_Set_Add_r6_ok (F : Nat) (K : Value → M Value) : bitset_Set_Add_r6 F K = bitset_Set_Add_R F 6 [] [4] K := by kernel_rfl

def bitset_Set_Add_r5 (F : Nat) (x0 x1 : Value) (K : M Value) : M Value :=
  bnd (opNil x0) fun v38 => bnd (opFieldAddr 0 v38) fun v39 => bnd (opLoad v39) fun v40 => bnd (opBin .quo x1 (.int .i64 (64))) fun v42 => bnd (opIndexAddr 1 v40 v42) fun v43 => bnd (opLoad v43) fun v44 => bnd (opBin .rem x1 (.int .i64 (64))) fun v46 => bnd (opBin .shl (.int .u64 (1)) v46) fun v47 => bnd (opBin .or v44 v47) fun v48 => bnd (opIndexAddr 1 v40 v42) fun v49 => bnd (opStore v49 v48) fun _ => K

theorem bitset_Set_Add_r5_ok (F : Nat) (x0 x1 : Value) (K : M Value) : bitset_Set_Add_r5 F x0 x1 K = bitset_Set_Add_D F 5 [0, 1, 2, 3, 4, 5, 6, 7, 8, 9, 10, 11, 12, 13] [(1, x1), (0, x0)] [] K := by kernel_rfl

theorem bitset_Set_Add_r5_good : goodOrder (opsOf Try.f27 5) [0, 1, 2, 3, 4, 5, 6, 7, 8, 9, 10, 11, 12, 13] = true := by kernel_rfl

def bitset_Set_Add_k0 (F : Nat) (x0 x1 : Value) : M Value :=
  bitset_Set_Add_r5 F x0 x1 (bitset_Set_Add_r6 F (fun x4 => ret x4))

def bitset_Set_Add_r4 (F : Nat) (x0 x1 : Value) (K : Value → Value → M Value) : M Value :=
  bnd (opNil x0) fun v30 => bnd (opFieldAddr 0 v30) fun v31 => bnd (opLoad v31) fun v32 => bnd (opBuildSlice 1 (rep 1 [(.int .u64 (0))]) [(0, 1, false, (.int .u64 (0)))]) fun v33 => bnd (opAppend 1 8 v32 v33) fun v34 => bnd (opNil x0) fun v35 => bnd (opFieldAddr 0 v35) fun v36 => bnd (opStore v36 v34) fun _ => K x0 x1

theorem bitset_Set_Add_r4_ok (F : Nat) (x0 x1 : Value) (K : Value → Value → M Value) : bitset_Set_Add_r4 F x0 x1 K = bitset_Set_Add_R F 4 [(1, x1), (0, x0)] [0, 1] K := by kernel_rfl

def bitset_Set_Add_r3 (F : Nat) (x0 x1 : Value) (K : Value → Value → Value → M Value) : M Value :=
  bnd (opNil x0) fun v21 => bnd (opFieldAddr 0 v21) fun v22 => bnd (opLoad v22) fun v23 => bnd (opLen v23) fun v24 => bnd (opBin .quo x1 (.int .i64 (64))) fun v26 => bnd (opBin .leq v24 v26) fun v27 => K x0 x1 v27

theorem bitset_Set_Add_r3_ok (F : Nat) (x0 x1 : Value) (K : Value → Value → Value → M Value) : bitset_Set_Add_r3 F x0 x1 K = bitset_Set_Add_R F 3 [(1, x1), (0, x0)] [0, 1, 27] K := by kernel_rfl

def bitset_Set_Add_b1 (F : Nat) (E1_0 : Value → Value → M Value) (A1 : Value → Value → M Value) (x0 x1 : Value) : M Value :=
  bitset_Set_Add_r3 F x0 x1 (fun x0 x1 x27 => onB x27 (bitset_Set_Add_r4 F x0 x1 (fun x0 x1 => A1 x0 x1)) (E1_0 x0 x1))

def bitset_Set_Add_l1 (F : Nat) (E1_0 : Value → Value → M Value) : Nat → Value → Value → M Value
  | 0, _, _ => fail
  | k1 + 1, x0, x1 => bitset_Set_Add_b1 F E1_0 (bitset_Set_Add_l1 F E1_0 k1) x0 x1

theorem bitset_Set_Add_l1_s (F : Nat) (E1_0 : Value → Value → M Value) (k1 : Nat) (x0 x1 : Value) : bitset_Set_Add_l1 F E1_0 (k1 + 1) x0 x1 = bitset_Set_Add_b1 F E1_0 (bitset_Set_Add_l1 F E1_0 k1) x0 x1 := rfl

def bitset_Set_Add_r2 (F : Nat) (K : Value → M Value) : M Value :=
  K (.bool false)

theorem bitset_Set_Add_r2_ok (F : Nat) (K : Value → M Value) : bitset_Set_Add_r2 F K = bitset_Set_Add_R F 2 [] [4] K := by kernel_rfl

def bitset_Set_Add_r1 (F : Nat) (x0 x1 : Value) (K : Value → Value → Value → M Value) : M Value :=
  bnd (opEq eqP false x0 (.pointer none)) fun v6 => onB v6 (K x0 x1 (.bool true)) (bnd (opBin .lss x1 (.int .i64 (0))) fun v9 => onB v9 (K x0 x1 (.bool true)) (bnd (opBin .geq x1 (.int .i64 (5000))) fun v13 => onB v13 (K x0 x1 (.bool true)) (bnd (bitset_Set_Has F x0 x1) fun v18 => K x0 x1 v18)))

theorem bitset_Set_Add_r1_ok (F : Nat) (x0 x1 : Value) (K : Value → Value → Value → M Value) : bitset_Set_Add_r1 F x0 x1 K = bitset_Set_Add_R F 1 [(1, x1), (0, x0)] [0, 1, 19] K := by kernel_rfl

def bitset_Set_Add_r0 (F : Nat) (x0 x1 : Value) (K : Value → Value → M Value) : M Value :=
  K x0 x1

theorem bitset_Set_Add_r0_ok (F : Nat) (x0 x1 : Value) (K : Value → Value → M Value) : bitset_Set_Add_r0 F x0 x1 K = bitset_Set_Add_R F 0 [(1, x1), (0, x0)] [0, 1] K := by kernel_rfl

def bitset_Set_Add (F : Nat) (x0 x1 : Value) : M Value :=
  bitset_Set_Add_r0 F x0 x1 (fun x0 x1 => bitset_Set_Add_r1 F x0 x1 (fun x0 x1 x19 => onB x19 (bitset_Set_Add_r2 F (fun x4 => ret x4)) (bitset_Set_Add_l1 F (fun x0 x1 => bitset_Set_Add_k0 F x0 x1) F x0 x1)))

def bitset_Set_Add_m (F : Nat) : List Value → M Value
  | [x0, x1] => bitset_Set_Add F x0 x1
  | _ => fail

theorem bitset_Set_Add_body : Try.f27.body = some (.seq (.region 0 (opsOf Try.f27 0) false) (.seq (.seq (.region 1 (opsOf Try.f27 1) false) (.cond (.tmp 19) (.seq (.region 2 (opsOf Try.f27 2) false) .ret) .skip)) (.seq (.block 0 (.loop (.seq (.seq (.region 3 (opsOf Try.f27 3) false) (.cond (.tmp 27) .skip (.exit 0))) (.block 1 (.region 4 (opsOf Try.f27 4) false))))) (.seq (.region 5 (opsOf Try.f27 5) true) (.seq (.region 6 (opsOf Try.f27 6) false) .ret))))) := by kernel_rfl

theorem bitset_Set_Add_ok (F : Nat) : Sim Try.prog TryG 27 (bitset_Set_Add_m F) := by
 have hE : EnvOK Try.prog TryG (bitset_Set_Add_env F) := (EnvOK.cons (bitset_Set_Has_ok F) EnvOK.nil)
 refine Sim.of_body (E := bitset_Set_Add_env F) Try.func27 bitset_Set_Add_body Try.call27 ?_ ?_
 · intro args hl; unfold bitset_Set_Add_m; split
   · exact absurd hl (Nat.not_lt.2 (Nat.le_of_ble_eq_true rfl))
   · rfl
 · intro args ρ h w z; unfold bitset_Set_Add_m; split
   · rename_i x0 x1; show OKc _ _ [(0, x0), (1, x1)] _ _
     refine rSeq ?_
     refine cLess [1, 0] ?_
     refine xR hE [0, 1] rfl (bitset_Set_Add_r0_ok F _ _ _) ?_
     intro x0 x1
     show OKq _ _ _ [(1, x1), (0, x0)] _
     refine rThen ?_
     refine rSeq ?_
     refine rSeq ?_
     refine cLess [1, 0] ?_
     refine xR hE [0, 1, 19] rfl (bitset_Set_Add_r1_ok F _ _ _) ?_
     intro x0 x1 x19
     show OKq _ _ _ [(19, x19), (1, x1), (0, x0)] _
     refine rThen ?_
     refine xCond rfl rfl ?_ ?_
     · refine rSeq ?_
       refine cLess [] ?_
       refine xR hE [4] rfl (bitset_Set_Add_r2_ok F _) ?_
       intro x4
       show OKq _ _ _ [(4, x4)] _
       refine rThen ?_
       refine rRet ?_
       refine xThenR ?_
       exact rDone (.inr rfl) rfl
     · refine rSkip ?_
       refine rThen ?_
       refine xSeq [0, 1] (bitset_Set_Add_k0 F ) ?_ fun hj0 => ?_
       · intro x0 x1
         show OKc _ _ [(1, x1), (0, x0)] _ _
         refine rSeq ?_
         refine cLess [1, 0] ?_
         refine xD Trymix hE [] rfl bitset_Set_Add_r5_good (bitset_Set_Add_r5_ok F _ _ _) ?_
         show OKq _ _ _ [] _
         refine rThen ?_
         refine rSeq ?_
         refine cLess [] ?_
         refine xR hE [4] rfl (bitset_Set_Add_r6_ok F _) ?_
         intro x4
         show OKq _ _ _ [(4, x4)] _
         refine rThen ?_
         refine rRet ?_
         exact rDone (.inr rfl) rfl
       · refine rBlock ?_
         refine cLess [1, 0] ?_
         refine xLoopAt [0, 1] [] (fun k1 => bitset_Set_Add_l1 F (fun x0 x1 => bitset_Set_Add_k0 F x0 x1) k1) F [x0, x1] rfl rfl (fun _ _ => rfl) fun I hI1 k1 => ?_
         intro x0 x1
         show OKc _ _ [(1, x1), (0, x0)] _ _
         refine cAs (bitset_Set_Add_l1_s F _ _ _ _) ?_
         refine rSeq ?_
         refine rSeq ?_
         refine cLess [1, 0] ?_
         refine xR hE [0, 1, 27] rfl (bitset_Set_Add_r3_ok F _ _ _) ?_
         intro x0 x1 x27
         show OKq _ _ _ [(27, x27), (1, x1), (0, x0)] _
         refine rThen ?_
         refine xCond rfl rfl ?_ ?_
         · refine rSkip ?_
           refine rThen ?_
           refine rBlock ?_
           refine cLess [1, 0] ?_
           refine xR hE [0, 1] rfl (bitset_Set_Add_r4_ok F _ _ _) ?_
           intro x0 x1
           show OKq _ _ _ [(1, x1), (0, x0)] _
           refine xBlockN ?_
           exact qLess [1, 0] (hI1 k1 x0 x1)
         · refine rExit ?_
           refine xThenX ?_
           refine xThenX ?_
           refine rOut ?_
           exact qLess [1, 0] (hj0 x0 x1)
   · exact rFail


/-! ### haruspex/graph.behind -/

def graph_behind_a (rec : Value → Value → Value → Value → M Value) : List Value → M Value
  | [x0, x1, x2, x3] => rec x0 x1 x2 x3
  | _ => fail

def graph_behind_env (F : Nat) (rec : Value → Value → Value → Value → M Value) : Env := envOf [(25, graph_behind_a rec), (27, bitset_Set_Add_m F)]

noncomputable def graph_behind_R (F : Nat) (rec : Value → Value → Value → Value → M Value) := rK Try.prog TryG (graph_behind_env F rec) Try.f25
noncomputable def graph_behind_D (F : Nat) (rec : Value → Value → Value → Value → M Value) := dK Try.prog TryG (graph_behind_env F rec) Try.f25

def graph_behind_r8 (F : Nat) (rec : Value → Value → Value → Value → M Value) (x1 x3 : Value) (K : Value → M Value) : M Value :=
  bnd (opBuildSlice 1 (rep 1 [(.int .i64 (0))]) [(0, 1, false, x1)]) fun v34 => bnd (opAppend 1 8 x3 v34) fun v35 => K v35

theorem graph_behind_r8_ok (F : Nat) (rec : Value → Value → Value → Value → M Value) (x1 x3 : Value) (K : Value → M Value) : graph_behind_r8 F rec x1 x3 K = graph_behind_R F rec 8 [(3, x3), (1, x1)] [8] K := by kernel_rfl

def graph_behind_k0 (F : Nat) (rec : Value → Value → Value → Value → M Value) (x1 x3 : Value) : M Value :=
  graph_behind_r8 F rec x1 x3 (fun x8 => ret x8)

def graph_behind_r7 (F : Nat) (rec : Value → Value → Value → Value → M Value) (x1 x2 x3 x4 x20 x21 x22 : Value) (K : Value → Value → Value → Value → Value → Value → Value → M Value) : M Value :=
  bnd (opBin .add x22 (.int .i64 (1))) fun v31 => K x1 x2 x3 x4 x20 x21 v31

theorem graph_behind_r7_ok (F : Nat) (rec : Value → Value → Value → Value → M Value) (x1 x2 x3 x4 x20 x21 x22 : Value) (K : Value → Value → Value → Value → Value → Value → Value → M Value) : graph_behind_r7 F rec x1 x2 x3 x4 x20 x21 x22 K = graph_behind_R F rec 7 [(22, x22), (21, x21), (20, x20), (4, x4), (3, x3), (2, x2), (1, x1)] [1, 2, 3, 4, 20, 21, 22] K := by kernel_rfl

def graph_behind_r6 (F : Nat) (rec : Value → Value → Value → Value → M Value) (x1 x2 x3 x4 x10 x20 x21 x22 : Value) (K : Value → Value → Value → Value → Value → Value → Value → M Value) : M Value :=
  bnd (opLoadN 2 x4) fun v26 => bnd (rec v26 x10 x2 x3) fun v30 => K x1 x2 v30 x4 x20 x21 x22

theorem graph_behind_r6_ok (F : Nat) (rec : Value → Value → Value → Value → M Value) (x1 x2 x3 x4 x10 x20 x21 x22 : Value) (K : Value → Value → Value → Value → Value → Value → Value → M Value) : graph_behind_r6 F rec x1 x2 x3 x4 x10 x20 x21 x22 K = graph_behind_R F rec 6 [(22, x22), (21, x21), (20, x20), (10, x10), (4, x4), (3, x3), (2, x2), (1, x1)] [1, 2, 3, 4, 20, 21, 22] K := by kernel_rfl

def graph_behind_r5 (F : Nat) (rec : Value → Value → Value → Value → M Value) (x1 x2 x3 x4 x20 x21 x22 : Value) (K : Value → Value → Value → Value → Value → Value → Value → Value → M Value) : M Value :=
  bnd (opIndexAddr 1 x20 x22) fun v24 => bnd (opLoad v24) fun v25 => K x1 x2 x3 x4 v25 x20 x21 x22

theorem graph_behind_r5_ok (F : Nat) (rec : Value → Value → Value → Value → M Value) (x1 x2 x3 x4 x20 x21 x22 : Value) (K : Value → Value → Value → Value → Value → Value → Value → Value → M Value) : graph_behind_r5 F rec x1 x2 x3 x4 x20 x21 x22 K = graph_behind_R F rec 5 [(22, x22), (21, x21), (20, x20), (4, x4), (3, x3), (2, x2), (1, x1)] [1, 2, 3, 4, 10, 20, 21, 22] K := by kernel_rfl

def graph_behind_r4 (F : Nat) (rec : Value → Value → Value → Value → M Value) (x1 x2 x3 x4 x20 x21 x22 : Value) (K : Value → Value → Value → Value → Value → Value → Value → Value → M Value) : M Value :=
  bnd (opBin .lss x22 x21) fun v23 => K x1 x2 x3 x4 x20 x21 x22 v23

theorem graph_behind_r4_ok (F : Nat) (rec : Value → Value → Value → Value → M Value) (x1 x2 x3 x4 x20 x21 x22 : Value) (K : Value → Value → Value → Value → Value → Value → Value → Value → M Value) : graph_behind_r4 F rec x1 x2 x3 x4 x20 x21 x22 K = graph_behind_R F rec 4 [(22, x22), (21, x21), (20, x20), (4, x4), (3, x3), (2, x2), (1, x1)] [1, 2, 3, 4, 20, 21, 22, 23] K := by kernel_rfl

def graph_behind_b1 (F : Nat) (rec : Value → Value → Value → Value → M Value) (E1_0 : Value → Value → M Value) (A1 : Value → Value → Value → Value → Value → Value → Value → M Value) (x1 x2 x3 x4 x20 x21 x22 : Value) : M Value :=
  graph_behind_r4 F rec x1 x2 x3 x4 x20 x21 x22 (fun x1 x2 x3 x4 x20 x21 x22 x23 => onB x23 (graph_behind_r5 F rec x1 x2 x3 x4 x20 x21 x22 (fun x1 x2 x3 x4 x10 x20 x21 x22 => graph_behind_r6 F rec x1 x2 x3 x4 x10 x20 x21 x22 (fun x1 x2 x3 x4 x20 x21 x22 => graph_behind_r7 F rec x1 x2 x3 x4 x20 x21 x22 (fun x1 x2 x3 x4 x20 x21 x22 => A1 x1 x2 x3 x4 x20 x21 x22)))) (E1_0 x1 x3))

def graph_behind_l1 (F : Nat) (rec : Value → Value → Value → Value → M Value) (E1_0 : Value → Value → M Value) : Nat → Value → Value → Value → Value → Value → Value → Value → M Value
  | 0, _, _, _, _, _, _, _ => fail
  | k1 + 1, x1, x2, x3, x4, x20, x21, x22 => graph_behind_b1 F rec E1_0 (graph_behind_l1 F rec E1_0 k1) x1 x2 x3 x4 x20 x21 x22

theorem graph_behind_l1_s (F : Nat) (rec : Value → Value → Value → Value → M Value) (E1_0 : Value → Value → M Value) (k1 : Nat) (x1 x2 x3 x4 x20 x21 x22 : Value) : graph_behind_l1 F rec E1_0 (k1 + 1) x1 x2 x3 x4 x20 x21 x22 = graph_behind_b1 F rec E1_0 (graph_behind_l1 F rec E1_0 k1) x1 x2 x3 x4 x20 x21 x22 := rfl

def graph_behind_r3 (F : Nat) (rec : Value → Value → Value → Value → M Value) (x1 x2 x3 x4 : Value) (K : Value → Value → Value → Value → Value → Value → Value → M Value) : M Value :=
  bnd (opFieldAddr 1 x4) fun v16 => bnd (opLoad v16) fun v17 => bnd (opIndexAddr 1 v17 x1) fun v19 => bnd (opLoad v19) fun v20 => bnd (opLen v20) fun v21 => K x1 x2 x3 x4 v20 v21 (.int .i64 (0))

theorem graph_behind_r3_ok (F : Nat) (rec : Value → Value → Value → Value → M Value) (x1 x2 x3 x4 : Value) (K : Value → Value → Value → Value → Value → Value → Value → M Value) : graph_behind_r3 F rec x1 x2 x3 x4 K = graph_behind_R F rec 3 [(4, x4), (3, x3), (2, x2), (1, x1)] [1, 2, 3, 4, 20, 21, 22] K := by kernel_rfl

def graph_behind_r2 (F : Nat) (rec : Value → Value → Value → Value → M Value) (x3 : Value) (K : Value → M Value) : M Value :=
  K x3

theorem graph_behind_r2_ok (F : Nat) (rec : Value → Value → Value → Value → M Value) (x3 : Value) (K : Value → M Value) : graph_behind_r2 F rec x3 K = graph_behind_R F rec 2 [(3, x3)] [8] K := by kernel_rfl

def graph_behind_r1 (F : Nat) (rec : Value → Value → Value → Value → M Value) (x1 x2 x3 x4 : Value) (K : Value → Value → Value → Value → Value → M Value) : M Value :=
  bnd (bitset_Set_Add F x2 x1) fun v13 => bnd (opNot v13) fun v14 => K x1 x2 x3 x4 v14

theorem graph_behind_r1_ok (F : Nat) (rec : Value → Value → Value → Value → M Value) (x1 x2 x3 x4 : Value) (K : Value → Value → Value → Value → Value → M Value) : graph_behind_r1 F rec x1 x2 x3 x4 K = graph_behind_R F rec 1 [(4, x4), (3, x3), (2, x2), (1, x1)] [1, 2, 3, 4, 14] K := by kernel_rfl

def graph_behind_r0 (F : Nat) (rec : Value → Value → Value → Value → M Value) (x0 x1 x2 x3 : Value) (K : Value → Value → Value → Value → M Value) : M Value :=
  bnd (opBoxN x0) fun v4 => K x1 x2 x3 v4

theorem graph_behind_r0_ok (F : Nat) (rec : Value → Value → Value → Value → M Value) (x0 x1 x2 x3 : Value) (K : Value → Value → Value → Value → M Value) : graph_behind_r0 F rec x0 x1 x2 x3 K = graph_behind_R F rec 0 [(3, x3), (2, x2), (1, x1), (0, x0)] [1, 2, 3, 4] K := by kernel_rfl

def graph_behind_s (F : Nat) (rec : Value → Value → Value → Value → M Value) (x0 x1 x2 x3 : Value) : M Value :=
  graph_behind_r0 F rec x0 x1 x2 x3 (fun x1 x2 x3 x4 => graph_behind_r1 F rec x1 x2 x3 x4 (fun x1 x2 x3 x4 x14 => onB x14 (graph_behind_r2 F rec x3 (fun x8 => ret x8)) (graph_behind_r3 F rec x1 x2 x3 x4 (fun x1 x2 x3 x4 x20 x21 x22 => graph_behind_l1 F rec (fun x1 x3 => graph_behind_k0 F rec x1 x3) F x1 x2 x3 x4 x20 x21 x22))))

def graph_behind (F : Nat) : Nat → Value → Value → Value → Value → M Value
  | 0, _, _, _, _ => fail
  | k + 1, x0, x1, x2, x3 => graph_behind_s F (graph_behind F k) x0 x1 x2 x3

def graph_behind_m (F k : Nat) : List Value → M Value := graph_behind_a (graph_behind F k)

theorem graph_behind_body : Try.f25.body = some (.seq (.region 0 (opsOf Try.f25 0) false) (.seq (.seq (.region 1 (opsOf Try.f25 1) false) (.cond (.tmp 14) (.seq (.region 2 (opsOf Try.f25 2) false) .ret) .skip)) (.seq (.seq (.region 3 (opsOf Try.f25 3) false) (.block 0 (.loop (.seq (.region 4 (opsOf Try.f25 4) false) (.seq (.cond (.tmp 23) .skip (.exit 0)) (.seq (.block 1 (.seq (.region 5 (opsOf Try.f25 5) false) (.region 6 (opsOf Try.f25 6) false))) (.region 7 (opsOf Try.f25 7) false))))))) (.seq (.region 8 (opsOf Try.f25 8) false) .ret)))) := by kernel_rfl

theorem graph_behind_ok (F : Nat) : ∀ k, Sim Try.prog TryG 25 (graph_behind_m F k)
  | 0 => Sim.of_fail Try.call25 (by intro args; unfold graph_behind_m graph_behind_a; split <;> rfl)
  | k + 1 => by
    have ih := graph_behind_ok F k
    have hE : EnvOK Try.prog TryG (graph_behind_env F (graph_behind F k) ) := (EnvOK.cons ih (EnvOK.cons (bitset_Set_Add_ok F) EnvOK.nil))
    refine Sim.of_body (E := graph_behind_env F (graph_behind F k) ) Try.func25 graph_behind_body Try.call25 ?_ ?_
    · intro args hl; unfold graph_behind_m graph_behind_a; split
      · exact absurd hl (Nat.not_lt.2 (Nat.le_of_ble_eq_true rfl))
      · rfl
    · intro args ρ h w z; unfold graph_behind_m graph_behind_a; split
      · rename_i x0 x1 x2 x3; show OKc _ _ [(0, x0), (1, x1), (2, x2), (3, x3)] (graph_behind_s F (graph_behind F k) x0 x1 x2 x3) _
        refine rSeq ?_
        refine cLess [3, 2, 1, 0] ?_
        refine xR hE [1, 2, 3, 4] rfl (graph_behind_r0_ok F _ _ _ _ _ _) ?_
        intro x1 x2 x3 x4
        show OKq _ _ _ [(4, x4), (3, x3), (2, x2), (1, x1)] _
        refine rThen ?_
        refine rSeq ?_
        refine rSeq ?_
        refine cLess [4, 3, 2, 1] ?_
        refine xR hE [1, 2, 3, 4, 14] rfl (graph_behind_r1_ok F _ _ _ _ _ _) ?_
        intro x1 x2 x3 x4 x14
        show OKq _ _ _ [(14, x14), (4, x4), (3, x3), (2, x2), (1, x1)] _
        refine rThen ?_
        refine xCond rfl rfl ?_ ?_
        · refine rSeq ?_
          refine cLess [3] ?_
          refine xR hE [8] rfl (graph_behind_r2_ok F _ _ _) ?_
          intro x8
          show OKq _ _ _ [(8, x8)] _
          refine rThen ?_
          refine rRet ?_
          refine xThenR ?_
          exact rDone (.inr rfl) rfl
        · refine rSkip ?_
          refine rThen ?_
          refine xSeq [1, 3] (graph_behind_k0 F (graph_behind F k) ) ?_ fun hj0 => ?_
          · intro x1 x3
            show OKc _ _ [(3, x3), (1, x1)] _ _
            refine rSeq ?_
            refine cLess [3, 1] ?_
            refine xR hE [8] rfl (graph_behind_r8_ok F _ _ _ _) ?_
            intro x8
            show OKq _ _ _ [(8, x8)] _
            refine rThen ?_
            refine rRet ?_
            exact rDone (.inr rfl) rfl
          · refine rSeq ?_
            refine cLess [4, 3, 2, 1] ?_
            refine xR hE [1, 2, 3, 4, 20, 21, 22] rfl (graph_behind_r3_ok F _ _ _ _ _ _) ?_
            intro x1 x2 x3 x4 x20 x21 x22
            show OKq _ _ _ [(22, x22), (21, x21), (20, x20), (4, x4), (3, x3), (2, x2), (1, x1)] _
            refine rThen ?_
            refine rBlock ?_
            refine cLess [22, 21, 20, 4, 3, 2, 1] ?_
            refine xLoopAt [1, 2, 3, 4, 20, 21, 22] [] (fun k1 => graph_behind_l1 F (graph_behind F k) (fun x1 x3 => graph_behind_k0 F (graph_behind F k) x1 x3) k1) F [x1, x2, x3, x4, x20, x21, x22] rfl rfl (fun _ _ _ _ _ _ _ => rfl) fun I hI1 k1 => ?_
            intro x1 x2 x3 x4 x20 x21 x22
            show OKc _ _ [(22, x22), (21, x21), (20, x20), (4, x4), (3, x3), (2, x2), (1, x1)] _ _
            refine cAs (graph_behind_l1_s F _ _ _ _ _ _ _ _ _ _) ?_
            refine rSeq ?_
            refine cLess [22, 21, 20, 4, 3, 2, 1] ?_
            refine xR hE [1, 2, 3, 4, 20, 21, 22, 23] rfl (graph_behind_r4_ok F _ _ _ _ _ _ _ _ _) ?_
            intro x1 x2 x3 x4 x20 x21 x22 x23
            show OKq _ _ _ [(23, x23), (22, x22), (21, x21), (20, x20), (4, x4), (3, x3), (2, x2), (1, x1)] _
            refine rThen ?_
            refine rSeq ?_
            refine xCond rfl rfl ?_ ?_
            · refine rSkip ?_
              refine rThen ?_
              refine rSeq ?_
              refine rBlock ?_
              refine rSeq ?_
              refine cLess [22, 21, 20, 4, 3, 2, 1] ?_
              refine xR hE [1, 2, 3, 4, 10, 20, 21, 22] rfl (graph_behind_r5_ok F _ _ _ _ _ _ _ _ _) ?_
              intro x1 x2 x3 x4 x10 x20 x21 x22
              show OKq _ _ _ [(22, x22), (21, x21), (20, x20), (10, x10), (4, x4), (3, x3), (2, x2), (1, x1)] _
              refine rThen ?_
              refine cLess [22, 21, 20, 10, 4, 3, 2, 1] ?_
              refine xR hE [1, 2, 3, 4, 20, 21, 22] rfl (graph_behind_r6_ok F _ _ _ _ _ _ _ _ _ _) ?_
              intro x1 x2 x3 x4 x20 x21 x22
              show OKq _ _ _ [(22, x22), (21, x21), (20, x20), (4, x4), (3, x3), (2, x2), (1, x1)] _
              refine xBlockN ?_
              refine rThen ?_
              refine cLess [22, 21, 20, 4, 3, 2, 1] ?_
              refine xR hE [1, 2, 3, 4, 20, 21, 22] rfl (graph_behind_r7_ok F _ _ _ _ _ _ _ _ _) ?_
              intro x1 x2 x3 x4 x20 x21 x22
              show OKq _ _ _ [(22, x22), (21, x21), (20, x20), (4, x4), (3, x3), (2, x2), (1, x1)] _
              exact qLess [22, 21, 20, 4, 3, 2, 1] (hI1 k1 x1 x2 x3 x4 x20 x21 x22)
            · refine rExit ?_
              refine xThenX ?_
              refine xThenX ?_
              refine rOut ?_
              exact qLess [3, 1] (hj0 x1 x3)
      · exact rFail


/-! ### haruspex/graph.Order -/

def graph_Order_env (F : Nat) : Env := envOf [(24, graph_May_m F), (25, graph_behind_m F F), (26, slices_Reverse_m F)]

noncomputable def graph_Order_R (F : Nat) := rK Try.prog TryG (graph_Order_env F) Try.f20
noncomputable def graph_Order_D (F : Nat) := dK Try.prog TryG (graph_Order_env F) Try.f20

def graph_Order_r5 (F : Nat) (x5 : Value) (K : Value → M Value) : M Value :=
  K x5

theorem graph_Order_r5_ok (F : Nat) (x5 : Value) (K : Value → M Value) : graph_Order_r5 F x5 K = graph_Order_R F 5 [(5, x5)] [4] K := by kernel_rfl

def graph_Order_r4 (F : Nat) (x5 : Value) (K : Value → M Value) : M Value :=
  bnd (slices_Reverse F x5) fun v25 => K x5

theorem graph_Order_r4_ok (F : Nat) (x5 : Value) (K : Value → M Value) : graph_Order_r4 F x5 K = graph_Order_R F 4 [(5, x5)] [5] K := by kernel_rfl

def graph_Order_r3 (F : Nat) (x1 x2 : Value) (K : Value → M Value) : M Value :=
  bnd (opLoadN 2 x2) fun v19 => bnd (opBuild [(.slice none 0 0)] []) fun v21 => bnd (opBoxN v21) fun v22 => bnd (graph_behind F F v19 x1 v22 (.slice none 0 0)) fun v23 => K v23

theorem graph_Order_r3_ok (F : Nat) (x1 x2 : Value) (K : Value → M Value) : graph_Order_r3 F x1 x2 K = graph_Order_R F 3 [(2, x2), (1, x1)] [5] K := by kernel_rfl

def graph_Order_r2 (F : Nat) (K : Value → M Value) : M Value :=
  K (.slice none 0 0)

theorem graph_Order_r2_ok (F : Nat) (K : Value → M Value) : graph_Order_r2 F K = graph_Order_R F 2 [] [4] K := by kernel_rfl

def graph_Order_r1 (F : Nat) (x1 x2 : Value) (K : Value → Value → Value → M Value) : M Value :=
  bnd (opLoadN 2 x2) fun v6 => bnd (graph_May F v6) fun v7 => bnd (opNot v7) fun v8 => onB v8 (K x1 x2 (.bool true)) (bnd (opBin .lss x1 (.int .i64 (0))) fun v11 => onB v11 (K x1 x2 (.bool true)) (bnd (opFieldAddr 0 x2) fun v15 => bnd (opLoad v15) fun v16 => bnd (opBin .geq x1 v16) fun v17 => K x1 x2 v17))

theorem graph_Order_r1_ok (F : Nat) (x1 x2 : Value) (K : Value → Value → Value → M Value) : graph_Order_r1 F x1 x2 K = graph_Order_R F 1 [(2, x2), (1, x1)] [1, 2, 18] K := by kernel_rfl

def graph_Order_r0 (F : Nat) (x0 x1 : Value) (K : Value → Value → M Value) : M Value :=
  bnd (opBoxN x0) fun v2 => K x1 v2

theorem graph_Order_r0_ok (F : Nat) (x0 x1 : Value) (K : Value → Value → M Value) : graph_Order_r0 F x0 x1 K = graph_Order_R F 0 [(1, x1), (0, x0)] [1, 2] K := by kernel_rfl

def graph_Order (F : Nat) (x0 x1 : Value) : M Value :=
  graph_Order_r0 F x0 x1 (fun x1 x2 => graph_Order_r1 F x1 x2 (fun x1 x2 x18 => onB x18 (graph_Order_r2 F (fun x4 => ret x4)) (graph_Order_r3 F x1 x2 (fun x5 => graph_Order_r4 F x5 (fun x5 => graph_Order_r5 F x5 (fun x4 => ret x4))))))

def graph_Order_m (F : Nat) : List Value → M Value
  | [x0, x1] => graph_Order F x0 x1
  | _ => fail

theorem graph_Order_body : Try.f20.body = some (.seq (.region 0 (opsOf Try.f20 0) false) (.seq (.seq (.region 1 (opsOf Try.f20 1) false) (.cond (.tmp 18) (.seq (.region 2 (opsOf Try.f20 2) false) .ret) .skip)) (.seq (.region 3 (opsOf Try.f20 3) false) (.seq (.region 4 (opsOf Try.f20 4) false) (.seq (.region 5 (opsOf Try.f20 5) false) .ret))))) := by kernel_rfl

theorem graph_Order_ok (F : Nat) : Sim Try.prog TryG 20 (graph_Order_m F) := by
 have hE : EnvOK Try.prog TryG (graph_Order_env F) := (EnvOK.cons (graph_May_ok F) (EnvOK.cons (graph_behind_ok F F) (EnvOK.cons (slices_Reverse_ok F) EnvOK.nil)))
 refine Sim.of_body (E := graph_Order_env F) Try.func20 graph_Order_body Try.call20 ?_ ?_
 · intro args hl; unfold graph_Order_m; split
   · exact absurd hl (Nat.not_lt.2 (Nat.le_of_ble_eq_true rfl))
   · rfl
 · intro args ρ h w z; unfold graph_Order_m; split
   · rename_i x0 x1; show OKc _ _ [(0, x0), (1, x1)] _ _
     refine rSeq ?_
     refine cLess [1, 0] ?_
     refine xR hE [1, 2] rfl (graph_Order_r0_ok F _ _ _) ?_
     intro x1 x2
     show OKq _ _ _ [(2, x2), (1, x1)] _
     refine rThen ?_
     refine rSeq ?_
     refine rSeq ?_
     refine cLess [2, 1] ?_
     refine xR hE [1, 2, 18] rfl (graph_Order_r1_ok F _ _ _) ?_
     intro x1 x2 x18
     show OKq _ _ _ [(18, x18), (2, x2), (1, x1)] _
     refine rThen ?_
     refine xCond rfl rfl ?_ ?_
     · refine rSeq ?_
       refine cLess [] ?_
       refine xR hE [4] rfl (graph_Order_r2_ok F _) ?_
       intro x4
       show OKq _ _ _ [(4, x4)] _
       refine rThen ?_
       refine rRet ?_
       refine xThenR ?_
       exact rDone (.inr rfl) rfl
     · refine rSkip ?_
       refine rThen ?_
       refine rSeq ?_
       refine cLess [2, 1] ?_
       refine xR hE [5] rfl (graph_Order_r3_ok F _ _ _) ?_
       intro x5
       show OKq _ _ _ [(5, x5)] _
       refine rThen ?_
       refine rSeq ?_
       refine cLess [5] ?_
       refine xR hE [5] rfl (graph_Order_r4_ok F _ _) ?_
       intro x5
       show OKq _ _ _ [(5, x5)] _
       refine rThen ?_
       refine rSeq ?_
       refine cLess [5] ?_
       refine xR hE [4] rfl (graph_Order_r5_ok F _ _) ?_
       intro x4
       show OKq _ _ _ [(4, x4)] _
       refine rThen ?_
       refine rRet ?_
       exact rDone (.inr rfl) rfl
   · exact rFail


/-! ### haruspex/dom.Up -/

def dom_Up_env (F : Nat) : Env := envOf [(20, graph_Order_m F), (21, graph_Turn_m F), (22, dom_meet_m F)]

noncomputable def dom_Up_R (F : Nat) := rK Try.prog TryG (dom_Up_env F) Try.f11
noncomputable def dom_Up_D (F : Nat) := dK Try.prog TryG (dom_Up_env F) Try.f11

def dom_Up_r33 (F : Nat) (x6 : Value) (K : Value → M Value) : M Value :=
  K x6

theorem dom_Up_r33_ok (F : Nat) (x6 : Value) (K : Value → M Value) : dom_Up_r33 F x6 K = dom_Up_R F 33 [(6, x6)] [4] K := by kernel_rfl

def dom_Up_k0 (F : Nat) (x6 : Value) : M Value :=
  dom_Up_r33 F x6 (fun x4 => ret x4)

def dom_Up_r32 (F : Nat) (x5 x6 x7 x11 x12 x59 x60 x61 : Value) (K : Value → Value → Value → Value → Value → Value → Value → Value → M Value) : M Value :=
  bnd (opBin .add x61 (.int .i64 (1))) fun v99 => K x5 x6 x7 x11 x12 x59 x60 v99

theorem dom_Up_r32_ok (F : Nat) (x5 x6 x7 x11 x12 x59 x60 x61 : Value) (K : Value → Value → Value → Value → Value → Value → Value → Value → M Value) : dom_Up_r32 F x5 x6 x7 x11 x12 x59 x60 x61 K = dom_Up_R F 32 [(61, x61), (60, x60), (59, x59), (12, x12), (11, x11), (7, x7), (6, x6), (5, x5)] [5, 6, 7, 11, 12, 59, 60, 61] K := by kernel_rfl

def dom_Up_k3 (F : Nat) (A2 : Value → Value → Value → Value → Value → Value → Value → Value → M Value) (x5 x6 x7 x11 x12 x59 x60 x61 : Value) : M Value :=
  dom_Up_r32 F x5 x6 x7 x11 x12 x59 x60 x61 (fun x5 x6 x7 x11 x12 x59 x60 x61 => A2 x5 x6 x7 x11 x12 x59 x60 x61)

def dom_Up_r31 (F : Nat) (x5 x6 x7 x11 x12 x14 x15 x59 x60 x61 : Value) (K : Value → Value → Value → Value → Value → Value → Value → Value → M Value) : M Value :=
  bnd (opIndexAddr 1 x6 x14) fun v98 => bnd (opStore v98 x15) fun _ => K x5 x6 x7 x11 x12 x59 x60 x61

theorem dom_Up_r31_ok (F : Nat) (x5 x6 x7 x11 x12 x14 x15 x59 x60 x61 : Value) (K : Value → Value → Value → Value → Value → Value → Value → Value → M Value) : dom_Up_r31 F x5 x6 x7 x11 x12 x14 x15 x59 x60 x61 K = dom_Up_R F 31 [(61, x61), (60, x60), (59, x59), (15, x15), (14, x14), (12, x12), (11, x11), (7, x7), (6, x6), (5, x5)] [5, 6, 7, 11, 12, 59, 60, 61] K := by kernel_rfl

def dom_Up_r30 (F : Nat) (x5 x6 x7 x11 x12 x14 x15 x59 x60 x61 : Value) (K : Value → Value → Value → Value → Value → Value → Value → Value → Value → Value → M Value) : M Value :=
  onB x12 (K x5 x6 x7 x11 (.bool true) x14 x15 x59 x60 x61) (bnd (opIndexAddr 1 x6 x14) fun v90 => bnd (opLoad v90) fun v91 => bnd (opBin .neq v91 x15) fun v93 => K x5 x6 x7 x11 v93 x14 x15 x59 x60 x61)

theorem dom_Up_r30_ok (F : Nat) (x5 x6 x7 x11 x12 x14 x15 x59 x60 x61 : Value) (K : Value → Value → Value → Value → Value → Value → Value → Value → Value → Value → M Value) : dom_Up_r30 F x5 x6 x7 x11 x12 x14 x15 x59 x60 x61 K = dom_Up_R F 30 [(61, x61), (60, x60), (59, x59), (15, x15), (14, x14), (12, x12), (11, x11), (7, x7), (6, x6), (5, x5)] [5, 6, 7, 11, 12, 14, 15, 59, 60, 61] K := by kernel_rfl

def dom_Up_k4 (F : Nat) (A2 : Value → Value → Value → Value → Value → Value → Value → Value → M Value) (x5 x6 x7 x11 x12 x14 x15 x59 x60 x61 : Value) : M Value :=
  dom_Up_r30 F x5 x6 x7 x11 x12 x14 x15 x59 x60 x61 (fun x5 x6 x7 x11 x12 x14 x15 x59 x60 x61 => dom_Up_r31 F x5 x6 x7 x11 x12 x14 x15 x59 x60 x61 (fun x5 x6 x7 x11 x12 x59 x60 x61 => dom_Up_k3 F A2 x5 x6 x7 x11 x12 x59 x60 x61))

def dom_Up_r29 (F : Nat) (x5 x6 x7 x11 x12 x14 x15 x59 x60 x61 x69 x70 x71 : Value) (K : Value → Value → Value → Value → Value → Value → Value → Value → Value → Value → Value → Value → Value → M Value) : M Value :=
  bnd (opBin .add x71 (.int .i64 (1))) fun v85 => K x5 x6 x7 x11 x12 x14 x15 x59 x60 x61 x69 x70 v85

theorem dom_Up_r29_ok (F : Nat) (x5 x6 x7 x11 x12 x14 x15 x59 x60 x61 x69 x70 x71 : Value) (K : Value → Value → Value → Value → Value → Value → Value → Value → Value → Value → Value → Value → Value → M Value) : dom_Up_r29 F x5 x6 x7 x11 x12 x14 x15 x59 x60 x61 x69 x70 x71 K = dom_Up_R F 29 [(71, x71), (70, x70), (69, x69), (61, x61), (60, x60), (59, x59), (15, x15), (14, x14), (12, x12), (11, x11), (7, x7), (6, x6), (5, x5)] [5, 6, 7, 11, 12, 14, 15, 59, 60, 61, 69, 70, 71] K := by kernel_rfl

def dom_Up_k6 (F : Nat) (A5 : Value → Value → Value → Value → Value → Value → Value → Value → Value → Value → Value → Value → Value → M Value) (x5 x6 x7 x11 x12 x14 x15 x59 x60 x61 x69 x70 x71 : Value) : M Value :=
  dom_Up_r29 F x5 x6 x7 x11 x12 x14 x15 x59 x60 x61 x69 x70 x71 (fun x5 x6 x7 x11 x12 x14 x15 x59 x60 x61 x69 x70 x71 => A5 x5 x6 x7 x11 x12 x14 x15 x59 x60 x61 x69 x70 x71)

def dom_Up_r28 (F : Nat) (x5 x6 x7 x11 x12 x14 x15 x17 x59 x60 x61 x69 x70 x71 : Value) (K : Value → Value → Value → Value → Value → Value → Value → Value → Value → Value → Value → Value → Value → M Value) : M Value :=
  bnd (dom_meet F x6 x7 x15 x17) fun v84 => K x5 x6 x7 x11 x12 x14 v84 x59 x60 x61 x69 x70 x71

theorem dom_Up_r28_ok (F : Nat) (x5 x6 x7 x11 x12 x14 x15 x17 x59 x60 x61 x69 x70 x71 : Value) (K : Value → Value → Value → Value → Value → Value → Value → Value → Value → Value → Value → Value → Value → M Value) : dom_Up_r28 F x5 x6 x7 x11 x12 x14 x15 x17 x59 x60 x61 x69 x70 x71 K = dom_Up_R F 28 [(71, x71), (70, x70), (69, x69), (61, x61), (60, x60), (59, x59), (17, x17), (15, x15), (14, x14), (12, x12), (11, x11), (7, x7), (6, x6), (5, x5)] [5, 6, 7, 11, 12, 14, 15, 59, 60, 61, 69, 70, 71] K := by kernel_rfl

def dom_Up_r27 (F : Nat) (x5 x6 x7 x11 x12 x14 x15 x17 x59 x60 x61 x69 x70 x71 : Value) (K : Value → Value → Value → Value → Value → Value → Value → Value → Value → Value → Value → Value → Value → Value → Value → M Value) : M Value :=
  bnd (opIndexAddr 1 x6 x17) fun v77 => bnd (opLoad v77) fun v78 => bnd (opBin .geq v78 (.int .i64 (0))) fun v79 => K x5 x6 x7 x11 x12 x14 x15 x17 x59 x60 x61 x69 x70 x71 v79

theorem dom_Up_r27_ok (F : Nat) (x5 x6 x7 x11 x12 x14 x15 x17 x59 x60 x61 x69 x70 x71 : Value) (K : Value → Value → Value → Value → Value → Value → Value → Value → Value → Value → Value → Value → Value → Value → Value → M Value) : dom_Up_r27 F x5 x6 x7 x11 x12 x14 x15 x17 x59 x60 x61 x69 x70 x71 K = dom_Up_R F 27 [(71, x71), (70, x70), (69, x69), (61, x61), (60, x60), (59, x59), (17, x17), (15, x15), (14, x14), (12, x12), (11, x11), (7, x7), (6, x6), (5, x5)] [5, 6, 7, 11, 12, 14, 15, 17, 59, 60, 61, 69, 70, 71, 79] K := by kernel_rfl

def dom_Up_r26 (F : Nat) (x5 x6 x7 x11 x12 x14 x15 x59 x60 x61 x69 x70 x71 : Value) (K : Value → Value → Value → Value → Value → Value → Value → Value → Value → Value → Value → Value → Value → Value → M Value) : M Value :=
  bnd (opIndexAddr 1 x69 x71) fun v73 => bnd (opLoad v73) fun v74 => K x5 x6 x7 x11 x12 x14 x15 v74 x59 x60 x61 x69 x70 x71

theorem dom_Up_r26_ok (F : Nat) (x5 x6 x7 x11 x12 x14 x15 x59 x60 x61 x69 x70 x71 : Value) (K : Value → Value → Value → Value → Value → Value → Value → Value → Value → Value → Value → Value → Value → Value → M Value) : dom_Up_r26 F x5 x6 x7 x11 x12 x14 x15 x59 x60 x61 x69 x70 x71 K = dom_Up_R F 26 [(71, x71), (70, x70), (69, x69), (61, x61), (60, x60), (59, x59), (15, x15), (14, x14), (12, x12), (11, x11), (7, x7), (6, x6), (5, x5)] [5, 6, 7, 11, 12, 14, 15, 17, 59, 60, 61, 69, 70, 71] K := by kernel_rfl

def dom_Up_r25 (F : Nat) (x5 x6 x7 x11 x12 x14 x15 x59 x60 x61 x69 x70 x71 : Value) (K : Value → Value → Value → Value → Value → Value → Value → Value → Value → Value → Value → Value → Value → Value → M Value) : M Value :=
  bnd (opBin .lss x71 x70) fun v72 => K x5 x6 x7 x11 x12 x14 x15 x59 x60 x61 x69 x70 x71 v72

theorem dom_Up_r25_ok (F : Nat) (x5 x6 x7 x11 x12 x14 x15 x59 x60 x61 x69 x70 x71 : Value) (K : Value → Value → Value → Value → Value → Value → Value → Value → Value → Value → Value → Value → Value → Value → M Value) : dom_Up_r25 F x5 x6 x7 x11 x12 x14 x15 x59 x60 x61 x69 x70 x71 K = dom_Up_R F 25 [(71, x71), (70, x70), (69, x69), (61, x61), (60, x60), (59, x59), (15, x15), (14, x14), (12, x12), (11, x11), (7, x7), (6, x6), (5, x5)] [5, 6, 7, 11, 12, 14, 15, 59, 60, 61, 69, 70, 71, 72] K := by kernel_rfl

def dom_Up_b5 (F : Nat) (E5_8 : Value → Value → Value → Value → Value → Value → Value → Value → Value → Value → M Value) (A5 : Value → Value → Value → Value → Value → Value → Value → Value → Value → Value → Value → Value → Value → M Value) (x5 x6 x7 x11 x12 x14 x15 x59 x60 x61 x69 x70 x71 : Value) : M Value :=
  dom_Up_r25 F x5 x6 x7 x11 x12 x14 x15 x59 x60 x61 x69 x70 x71 (fun x5 x6 x7 x11 x12 x14 x15 x59 x60 x61 x69 x70 x71 x72 => onB x72 (dom_Up_r26 F x5 x6 x7 x11 x12 x14 x15 x59 x60 x61 x69 x70 x71 (fun x5 x6 x7 x11 x12 x14 x15 x17 x59 x60 x61 x69 x70 x71 => dom_Up_r27 F x5 x6 x7 x11 x12 x14 x15 x17 x59 x60 x61 x69 x70 x71 (fun x5 x6 x7 x11 x12 x14 x15 x17 x59 x60 x61 x69 x70 x71 x79 => onB x79 (dom_Up_r28 F x5 x6 x7 x11 x12 x14 x15 x17 x59 x60 x61 x69 x70 x71 (fun x5 x6 x7 x11 x12 x14 x15 x59 x60 x61 x69 x70 x71 => dom_Up_k6 F A5 x5 x6 x7 x11 x12 x14 x15 x59 x60 x61 x69 x70 x71)) (dom_Up_k6 F A5 x5 x6 x7 x11 x12 x14 x15 x59 x60 x61 x69 x70 x71)))) (E5_8 x5 x6 x7 x11 x12 x14 x15 x59 x60 x61))

def dom_Up_l5 (F : Nat) (E5_8 : Value → Value → Value → Value → Value → Value → Value → Value → Value → Value → M Value) : Nat → Value → Value → Value → Value → Value → Value → Value → Value → Value → Value → Value → Value → Value → M Value
  | 0, _, _, _, _, _, _, _, _, _, _, _, _, _ => fail
  | k5 + 1, x5, x6, x7, x11, x12, x14, x15, x59, x60, x61, x69, x70, x71 => dom_Up_b5 F E5_8 (dom_Up_l5 F E5_8 k5) x5 x6 x7 x11 x12 x14 x15 x59 x60 x61 x69 x70 x71

theorem dom_Up_l5_s (F : Nat) (E5_8 : Value → Value → Value → Value → Value → Value → Value → Value → Value → Value → M Value) (k5 : Nat) (x5 x6 x7 x11 x12 x14 x15 x59 x60 x61 x69 x70 x71 : Value) : dom_Up_l5 F E5_8 (k5 + 1) x5 x6 x7 x11 x12 x14 x15 x59 x60 x61 x69 x70 x71 = dom_Up_b5 F E5_8 (dom_Up_l5 F E5_8 k5) x5 x6 x7 x11 x12 x14 x15 x59 x60 x61 x69 x70 x71 := rfl

def dom_Up_r24 (F : Nat) (x5 x6 x7 x11 x12 x14 x15 x59 x60 x61 : Value) (K : Value → Value → Value → Value → Value → Value → Value → Value → Value → Value → Value → Value → Value → M Value) : M Value :=
  bnd (opFieldAddr 1 x11) fun v65 => bnd (opLoad v65) fun v66 => bnd (opIndexAddr 1 v66 x14) fun v68 => bnd (opLoad v68) fun v69 => bnd (opLen v69) fun v70 => K x5 x6 x7 x11 x12 x14 x15 x59 x60 x61 v69 v70 (.int .i64 (0))

theorem dom_Up_r24_ok (F : Nat) (x5 x6 x7 x11 x12 x14 x15 x59 x60 x61 : Value) (K : Value → Value → Value → Value → Value → Value → Value → Value → Value → Value → Value → Value → Value → M Value) : dom_Up_r24 F x5 x6 x7 x11 x12 x14 x15 x59 x60 x61 K = dom_Up_R F 24 [(61, x61), (60, x60), (59, x59), (15, x15), (14, x14), (12, x12), (11, x11), (7, x7), (6, x6), (5, x5)] [5, 6, 7, 11, 12, 14, 15, 59, 60, 61, 69, 70, 71] K := by kernel_rfl

def dom_Up_r23 (F : Nat) (x5 x6 x7 x11 x12 x14 x59 x60 x61 : Value) (K : Value → Value → Value → Value → Value → Value → Value → Value → Value → Value → M Value) : M Value :=
  K x5 x6 x7 x11 x12 x14 (.int .i64 (-1)) x59 x60 x61

theorem dom_Up_r23_ok (F : Nat) (x5 x6 x7 x11 x12 x14 x59 x60 x61 : Value) (K : Value → Value → Value → Value → Value → Value → Value → Value → Value → Value → M Value) : dom_Up_r23 F x5 x6 x7 x11 x12 x14 x59 x60 x61 K = dom_Up_R F 23 [(61, x61), (60, x60), (59, x59), (14, x14), (12, x12), (11, x11), (7, x7), (6, x6), (5, x5)] [5, 6, 7, 11, 12, 14, 15, 59, 60, 61] K := by kernel_rfl

def dom_Up_r22 (F : Nat) (x5 x6 x7 x11 x12 x59 x60 x61 : Value) (K : Value → Value → Value → Value → Value → Value → Value → Value → Value → M Value) : M Value :=
  bnd (opIndexAddr 1 x59 x61) fun v63 => bnd (opLoad v63) fun v64 => K x5 x6 x7 x11 x12 v64 x59 x60 x61

theorem dom_Up_r22_ok (F : Nat) (x5 x6 x7 x11 x12 x59 x60 x61 : Value) (K : Value → Value → Value → Value → Value → Value → Value → Value → Value → M Value) : dom_Up_r22 F x5 x6 x7 x11 x12 x59 x60 x61 K = dom_Up_R F 22 [(61, x61), (60, x60), (59, x59), (12, x12), (11, x11), (7, x7), (6, x6), (5, x5)] [5, 6, 7, 11, 12, 14, 59, 60, 61] K := by kernel_rfl

def dom_Up_r21 (F : Nat) (x5 x6 x7 x11 x12 x59 x60 x61 : Value) (K : Value → Value → Value → Value → Value → Value → Value → Value → Value → M Value) : M Value :=
  bnd (opBin .lss x61 x60) fun v62 => K x5 x6 x7 x11 x12 x59 x60 x61 v62

theorem dom_Up_r21_ok (F : Nat) (x5 x6 x7 x11 x12 x59 x60 x61 : Value) (K : Value → Value → Value → Value → Value → Value → Value → Value → Value → M Value) : dom_Up_r21 F x5 x6 x7 x11 x12 x59 x60 x61 K = dom_Up_R F 21 [(61, x61), (60, x60), (59, x59), (12, x12), (11, x11), (7, x7), (6, x6), (5, x5)] [5, 6, 7, 11, 12, 59, 60, 61, 62] K := by kernel_rfl

def dom_Up_b2 (F : Nat) (E2_6 : Value → Value → Value → Value → Value → M Value) (A2 : Value → Value → Value → Value → Value → Value → Value → Value → M Value) (x5 x6 x7 x11 x12 x59 x60 x61 : Value) : M Value :=
  dom_Up_r21 F x5 x6 x7 x11 x12 x59 x60 x61 (fun x5 x6 x7 x11 x12 x59 x60 x61 x62 => onB x62 (dom_Up_r22 F x5 x6 x7 x11 x12 x59 x60 x61 (fun x5 x6 x7 x11 x12 x14 x59 x60 x61 => dom_Up_r23 F x5 x6 x7 x11 x12 x14 x59 x60 x61 (fun x5 x6 x7 x11 x12 x14 x15 x59 x60 x61 => dom_Up_r24 F x5 x6 x7 x11 x12 x14 x15 x59 x60 x61 (fun x5 x6 x7 x11 x12 x14 x15 x59 x60 x61 x69 x70 x71 => dom_Up_l5 F (fun x5 x6 x7 x11 x12 x14 x15 x59 x60 x61 => dom_Up_k4 F A2 x5 x6 x7 x11 x12 x14 x15 x59 x60 x61) F x5 x6 x7 x11 x12 x14 x15 x59 x60 x61 x69 x70 x71)))) (E2_6 x5 x6 x7 x11 x12))

def dom_Up_l2 (F : Nat) (E2_6 : Value → Value → Value → Value → Value → M Value) : Nat → Value → Value → Value → Value → Value → Value → Value → Value → M Value
  | 0, _, _, _, _, _, _, _, _ => fail
  | k2 + 1, x5, x6, x7, x11, x12, x59, x60, x61 => dom_Up_b2 F E2_6 (dom_Up_l2 F E2_6 k2) x5 x6 x7 x11 x12 x59 x60 x61

theorem dom_Up_l2_s (F : Nat) (E2_6 : Value → Value → Value → Value → Value → M Value) (k2 : Nat) (x5 x6 x7 x11 x12 x59 x60 x61 : Value) : dom_Up_l2 F E2_6 (k2 + 1) x5 x6 x7 x11 x12 x59 x60 x61 = dom_Up_b2 F E2_6 (dom_Up_l2 F E2_6 k2) x5 x6 x7 x11 x12 x59 x60 x61 := rfl

def dom_Up_r20 (F : Nat) (x5 x6 x7 x11 x12 : Value) (K : Value → Value → Value → Value → Value → Value → Value → Value → M Value) : M Value :=
  bnd (opSlice 1 x5 (some (.int .i64 (1))) none none) fun v59 => bnd (opLen v59) fun v60 => K x5 x6 x7 x11 x12 v59 v60 (.int .i64 (0))

theorem dom_Up_r20_ok (F : Nat) (x5 x6 x7 x11 x12 : Value) (K : Value → Value → Value → Value → Value → Value → Value → Value → M Value) : dom_Up_r20 F x5 x6 x7 x11 x12 K = dom_Up_R F 20 [(12, x12), (11, x11), (7, x7), (6, x6), (5, x5)] [5, 6, 7, 11, 12, 59, 60, 61] K := by kernel_rfl

def dom_Up_r19 (F : Nat) (x5 x6 x7 x11 : Value) (K : Value → Value → Value → Value → Value → M Value) : M Value :=
  K x5 x6 x7 x11 (.bool false)

theorem dom_Up_r19_ok (F : Nat) (x5 x6 x7 x11 : Value) (K : Value → Value → Value → Value → Value → M Value) : dom_Up_r19 F x5 x6 x7 x11 K = dom_Up_R F 19 [(11, x11), (7, x7), (6, x6), (5, x5)] [5, 6, 7, 11, 12] K := by kernel_rfl

def dom_Up_r18 (F : Nat) (x5 x6 x7 x11 x12 : Value) (K : Value → Value → Value → Value → Value → M Value) : M Value :=
  K x5 x6 x7 x11 x12

theorem dom_Up_r18_ok (F : Nat) (x5 x6 x7 x11 x12 : Value) (K : Value → Value → Value → Value → Value → M Value) : dom_Up_r18 F x5 x6 x7 x11 x12 K = dom_Up_R F 18 [(12, x12), (11, x11), (7, x7), (6, x6), (5, x5)] [5, 6, 7, 11, 57] K := by kernel_rfl

def dom_Up_b1 (F : Nat) (E1_4 : Value → M Value) (A1 : Value → Value → Value → Value → Value → M Value) (x5 x6 x7 x11 x12 : Value) : M Value :=
  dom_Up_r18 F x5 x6 x7 x11 x12 (fun x5 x6 x7 x11 x57 => onB x57 (dom_Up_r19 F x5 x6 x7 x11 (fun x5 x6 x7 x11 x12 => dom_Up_r20 F x5 x6 x7 x11 x12 (fun x5 x6 x7 x11 x12 x59 x60 x61 => dom_Up_l2 F (fun x5 x6 x7 x11 x12 => A1 x5 x6 x7 x11 x12) F x5 x6 x7 x11 x12 x59 x60 x61))) (E1_4 x6))

def dom_Up_l1 (F : Nat) (E1_4 : Value → M Value) : Nat → Value → Value → Value → Value → Value → M Value
  | 0, _, _, _, _, _ => fail
  | k1 + 1, x5, x6, x7, x11, x12 => dom_Up_b1 F E1_4 (dom_Up_l1 F E1_4 k1) x5 x6 x7 x11 x12

theorem dom_Up_l1_s (F : Nat) (E1_4 : Value → M Value) (k1 : Nat) (x5 x6 x7 x11 x12 : Value) : dom_Up_l1 F E1_4 (k1 + 1) x5 x6 x7 x11 x12 = dom_Up_b1 F E1_4 (dom_Up_l1 F E1_4 k1) x5 x6 x7 x11 x12 := rfl

def dom_Up_r17 (F : Nat) (x5 x6 x7 x11 : Value) (K : Value → Value → Value → Value → Value → M Value) : M Value :=
  K x5 x6 x7 x11 (.bool true)

theorem dom_Up_r17_ok (F : Nat) (x5 x6 x7 x11 : Value) (K : Value → Value → Value → Value → Value → M Value) : dom_Up_r17 F x5 x6 x7 x11 K = dom_Up_R F 17 [(11, x11), (7, x7), (6, x6), (5, x5)] [5, 6, 7, 11, 12] K := by kernel_rfl

def dom_Up_r16 (F : Nat) (x1 x5 x6 x7 x11 : Value) (K : Value → Value → Value → Value → M Value) : M Value :=
  bnd (opIndexAddr 1 x6 x1) fun v56 => bnd (opStore v56 x1) fun _ => K x5 x6 x7 x11

theorem dom_Up_r16_ok (F : Nat) (x1 x5 x6 x7 x11 : Value) (K : Value → Value → Value → Value → M Value) : dom_Up_r16 F x1 x5 x6 x7 x11 K = dom_Up_R F 16 [(11, x11), (7, x7), (6, x6), (5, x5), (1, x1)] [5, 6, 7, 11] K := by kernel_rfl

def dom_Up_r15 (F : Nat) (x1 x2 x5 x6 x7 : Value) (K : Value → Value → Value → Value → Value → M Value) : M Value :=
  bnd (opLoadN 2 x2) fun v51 => bnd (graph_Turn F v51) fun v52 => bnd (opPtr [(.int .i64 (0)), (.slice none 0 0)]) fun v11 => bnd (opStoreN 2 v11 v52) fun _ => K x1 x5 x6 x7 v11

theorem dom_Up_r15_ok (F : Nat) (x1 x2 x5 x6 x7 : Value) (K : Value → Value → Value → Value → Value → M Value) : dom_Up_r15 F x1 x2 x5 x6 x7 K = dom_Up_R F 15 [(7, x7), (6, x6), (5, x5), (2, x2), (1, x1)] [1, 5, 6, 7, 11] K := by kernel_rfl

def dom_Up_k7 (F : Nat) (x1 x2 x5 x6 x7 : Value) : M Value :=
  dom_Up_r15 F x1 x2 x5 x6 x7 (fun x1 x5 x6 x7 x11 => dom_Up_r16 F x1 x5 x6 x7 x11 (fun x5 x6 x7 x11 => dom_Up_r17 F x5 x6 x7 x11 (fun x5 x6 x7 x11 x12 => dom_Up_l1 F (fun x6 => dom_Up_k0 F x6) F x5 x6 x7 x11 x12)))

def dom_Up_r14 (F : Nat) (x1 x2 x5 x6 x7 x39 x40 x41 : Value) (K : Value → Value → Value → Value → Value → Value → Value → Value → M Value) : M Value :=
  bnd (opBin .add x41 (.int .i64 (1))) fun v50 => K x1 x2 x5 x6 x7 x39 x40 v50

theorem dom_Up_r14_ok (F : Nat) (x1 x2 x5 x6 x7 x39 x40 x41 : Value) (K : Value → Value → Value → Value → Value → Value → Value → Value → M Value) : dom_Up_r14 F x1 x2 x5 x6 x7 x39 x40 x41 K = dom_Up_R F 14 [(41, x41), (40, x40), (39, x39), (7, x7), (6, x6), (5, x5), (2, x2), (1, x1)] [1, 2, 5, 6, 7, 39, 40, 41] K := by kernel_rfl

def dom_Up_r13 (F : Nat) (x1 x2 x5 x6 x7 x9 x10 x39 x40 x41 : Value) (K : Value → Value → Value → Value → Value → Value → Value → Value → M Value) : M Value :=
  bnd (opIndexAddr 1 x7 x10) fun v49 => bnd (opStore v49 x9) fun _ => K x1 x2 x5 x6 x7 x39 x40 x41

theorem dom_Up_r13_ok (F : Nat) (x1 x2 x5 x6 x7 x9 x10 x39 x40 x41 : Value) (K : Value → Value → Value → Value → Value → Value → Value → Value → M Value) : dom_Up_r13 F x1 x2 x5 x6 x7 x9 x10 x39 x40 x41 K = dom_Up_R F 13 [(41, x41), (40, x40), (39, x39), (10, x10), (9, x9), (7, x7), (6, x6), (5, x5), (2, x2), (1, x1)] [1, 2, 5, 6, 7, 39, 40, 41] K := by kernel_rfl

def dom_Up_r12 (F : Nat) (x1 x2 x5 x6 x7 x39 x40 x41 : Value) (K : Value → Value → Value → Value → Value → Value → Value → Value → Value → Value → M Value) : M Value :=
  bnd (opIndexAddr 1 x39 x41) fun v44 => bnd (opLoad v44) fun v45 => K x1 x2 x5 x6 x7 x41 v45 x39 x40 x41

theorem dom_Up_r12_ok (F : Nat) (x1 x2 x5 x6 x7 x39 x40 x41 : Value) (K : Value → Value → Value → Value → Value → Value → Value → Value → Value → Value → M Value) : dom_Up_r12 F x1 x2 x5 x6 x7 x39 x40 x41 K = dom_Up_R F 12 [(41, x41), (40, x40), (39, x39), (7, x7), (6, x6), (5, x5), (2, x2), (1, x1)] [1, 2, 5, 6, 7, 9, 10, 39, 40, 41] K := by kernel_rfl

def dom_Up_r11 (F : Nat) (x1 x2 x5 x6 x7 x39 x40 x41 : Value) (K : Value → Value → Value → Value → Value → Value → Value → Value → Value → M Value) : M Value :=
  bnd (opBin .lss x41 x40) fun v42 => K x1 x2 x5 x6 x7 x39 x40 x41 v42

theorem dom_Up_r11_ok (F : Nat) (x1 x2 x5 x6 x7 x39 x40 x41 : Value) (K : Value → Value → Value → Value → Value → Value → Value → Value → Value → M Value) : dom_Up_r11 F x1 x2 x5 x6 x7 x39 x40 x41 K = dom_Up_R F 11 [(41, x41), (40, x40), (39, x39), (7, x7), (6, x6), (5, x5), (2, x2), (1, x1)] [1, 2, 5, 6, 7, 39, 40, 41, 42] K := by kernel_rfl

def dom_Up_b8 (F : Nat) (E8_2 : Value → Value → Value → Value → Value → M Value) (A8 : Value → Value → Value → Value → Value → Value → Value → Value → M Value) (x1 x2 x5 x6 x7 x39 x40 x41 : Value) : M Value :=
  dom_Up_r11 F x1 x2 x5 x6 x7 x39 x40 x41 (fun x1 x2 x5 x6 x7 x39 x40 x41 x42 => onB x42 (dom_Up_r12 F x1 x2 x5 x6 x7 x39 x40 x41 (fun x1 x2 x5 x6 x7 x9 x10 x39 x40 x41 => dom_Up_r13 F x1 x2 x5 x6 x7 x9 x10 x39 x40 x41 (fun x1 x2 x5 x6 x7 x39 x40 x41 => dom_Up_r14 F x1 x2 x5 x6 x7 x39 x40 x41 (fun x1 x2 x5 x6 x7 x39 x40 x41 => A8 x1 x2 x5 x6 x7 x39 x40 x41)))) (E8_2 x1 x2 x5 x6 x7))

def dom_Up_l8 (F : Nat) (E8_2 : Value → Value → Value → Value → Value → M Value) : Nat → Value → Value → Value → Value → Value → Value → Value → Value → M Value
  | 0, _, _, _, _, _, _, _, _ => fail
  | k8 + 1, x1, x2, x5, x6, x7, x39, x40, x41 => dom_Up_b8 F E8_2 (dom_Up_l8 F E8_2 k8) x1 x2 x5 x6 x7 x39 x40 x41

theorem dom_Up_l8_s (F : Nat) (E8_2 : Value → Value → Value → Value → Value → M Value) (k8 : Nat) (x1 x2 x5 x6 x7 x39 x40 x41 : Value) : dom_Up_l8 F E8_2 (k8 + 1) x1 x2 x5 x6 x7 x39 x40 x41 = dom_Up_b8 F E8_2 (dom_Up_l8 F E8_2 k8) x1 x2 x5 x6 x7 x39 x40 x41 := rfl

def dom_Up_r10 (F : Nat) (x1 x2 x5 x6 x7 : Value) (K : Value → Value → Value → Value → Value → Value → Value → Value → M Value) : M Value :=
  bnd (opLen x5) fun v40 => K x1 x2 x5 x6 x7 x5 v40 (.int .i64 (0))

theorem dom_Up_r10_ok (F : Nat) (x1 x2 x5 x6 x7 : Value) (K : Value → Value → Value → Value → Value → Value → Value → Value → M Value) : dom_Up_r10 F x1 x2 x5 x6 x7 K = dom_Up_R F 10 [(7, x7), (6, x6), (5, x5), (2, x2), (1, x1)] [1, 2, 5, 6, 7, 39, 40, 41] K := by kernel_rfl

def dom_Up_k9 (F : Nat) (x1 x2 x5 x6 x7 : Value) : M Value :=
  dom_Up_r10 F x1 x2 x5 x6 x7 (fun x1 x2 x5 x6 x7 x39 x40 x41 => dom_Up_l8 F (fun x1 x2 x5 x6 x7 => dom_Up_k7 F x1 x2 x5 x6 x7) F x1 x2 x5 x6 x7 x39 x40 x41)

def dom_Up_r9 (F : Nat) (x1 x2 x5 x6 x7 x31 x32 : Value) (K : Value → Value → Value → Value → Value → Value → Value → M Value) : M Value :=
  bnd (opBin .add x32 (.int .i64 (1))) fun v38 => K x1 x2 x5 x6 x7 x31 v38

theorem dom_Up_r9_ok (F : Nat) (x1 x2 x5 x6 x7 x31 x32 : Value) (K : Value → Value → Value → Value → Value → Value → Value → M Value) : dom_Up_r9 F x1 x2 x5 x6 x7 x31 x32 K = dom_Up_R F 9 [(32, x32), (31, x31), (7, x7), (6, x6), (5, x5), (2, x2), (1, x1)] [1, 2, 5, 6, 7, 31, 32] K := by kernel_rfl

def dom_Up_r8 (F : Nat) (x1 x2 x5 x6 x7 x8 x31 x32 : Value) (K : Value → Value → Value → Value → Value → Value → Value → M Value) : M Value :=
  bnd (opIndexAddr 1 x6 x8) fun v37 => bnd (opStore v37 (.int .i64 (-1))) fun _ => K x1 x2 x5 x6 x7 x31 x32

theorem dom_Up_r8_ok (F : Nat) (x1 x2 x5 x6 x7 x8 x31 x32 : Value) (K : Value → Value → Value → Value → Value → Value → Value → M Value) : dom_Up_r8 F x1 x2 x5 x6 x7 x8 x31 x32 K = dom_Up_R F 8 [(32, x32), (31, x31), (8, x8), (7, x7), (6, x6), (5, x5), (2, x2), (1, x1)] [1, 2, 5, 6, 7, 31, 32] K := by kernel_rfl

def dom_Up_r7 (F : Nat) (x1 x2 x5 x6 x7 x31 x32 : Value) (K : Value → Value → Value → Value → Value → Value → Value → Value → M Value) : M Value :=
  K x1 x2 x5 x6 x7 x32 x31 x32

theorem dom_Up_r7_ok (F : Nat) (x1 x2 x5 x6 x7 x31 x32 : Value) (K : Value → Value → Value → Value → Value → Value → Value → Value → M Value) : dom_Up_r7 F x1 x2 x5 x6 x7 x31 x32 K = dom_Up_R F 7 [(32, x32), (31, x31), (7, x7), (6, x6), (5, x5), (2, x2), (1, x1)] [1, 2, 5, 6, 7, 8, 31, 32] K := by kernel_rfl

def dom_Up_r6 (F : Nat) (x1 x2 x5 x6 x7 x31 x32 : Value) (K : Value → Value → Value → Value → Value → Value → Value → Value → M Value) : M Value :=
  bnd (opBin .lss x32 x31) fun v33 => K x1 x2 x5 x6 x7 x31 x32 v33

theorem dom_Up_r6_ok (F : Nat) (x1 x2 x5 x6 x7 x31 x32 : Value) (K : Value → Value → Value → Value → Value → Value → Value → Value → M Value) : dom_Up_r6 F x1 x2 x5 x6 x7 x31 x32 K = dom_Up_R F 6 [(32, x32), (31, x31), (7, x7), (6, x6), (5, x5), (2, x2), (1, x1)] [1, 2, 5, 6, 7, 31, 32, 33] K := by kernel_rfl

def dom_Up_b10 (F : Nat) (E10_0 : Value → Value → Value → Value → Value → M Value) (A10 : Value → Value → Value → Value → Value → Value → Value → M Value) (x1 x2 x5 x6 x7 x31 x32 : Value) : M Value :=
  dom_Up_r6 F x1 x2 x5 x6 x7 x31 x32 (fun x1 x2 x5 x6 x7 x31 x32 x33 => onB x33 (dom_Up_r7 F x1 x2 x5 x6 x7 x31 x32 (fun x1 x2 x5 x6 x7 x8 x31 x32 => dom_Up_r8 F x1 x2 x5 x6 x7 x8 x31 x32 (fun x1 x2 x5 x6 x7 x31 x32 => dom_Up_r9 F x1 x2 x5 x6 x7 x31 x32 (fun x1 x2 x5 x6 x7 x31 x32 => A10 x1 x2 x5 x6 x7 x31 x32)))) (E10_0 x1 x2 x5 x6 x7))

def dom_Up_l10 (F : Nat) (E10_0 : Value → Value → Value → Value → Value → M Value) : Nat → Value → Value → Value → Value → Value → Value → Value → M Value
  | 0, _, _, _, _, _, _, _ => fail
  | k10 + 1, x1, x2, x5, x6, x7, x31, x32 => dom_Up_b10 F E10_0 (dom_Up_l10 F E10_0 k10) x1 x2 x5 x6 x7 x31 x32

theorem dom_Up_l10_s (F : Nat) (E10_0 : Value → Value → Value → Value → Value → M Value) (k10 : Nat) (x1 x2 x5 x6 x7 x31 x32 : Value) : dom_Up_l10 F E10_0 (k10 + 1) x1 x2 x5 x6 x7 x31 x32 = dom_Up_b10 F E10_0 (dom_Up_l10 F E10_0 k10) x1 x2 x5 x6 x7 x31 x32 := rfl

def dom_Up_r5 (F : Nat) (x1 x2 x5 x6 x7 : Value) (K : Value → Value → Value → Value → Value → Value → Value → M Value) : M Value :=
  bnd (opLen x6) fun v31 => K x1 x2 x5 x6 x7 v31 (.int .i64 (0))

theorem dom_Up_r5_ok (F : Nat) (x1 x2 x5 x6 x7 : Value) (K : Value → Value → Value → Value → Value → Value → Value → M Value) : dom_Up_r5 F x1 x2 x5 x6 x7 K = dom_Up_R F 5 [(7, x7), (6, x6), (5, x5), (2, x2), (1, x1)] [1, 2, 5, 6, 7, 31, 32] K := by kernel_rfl

def dom_Up_r4 (F : Nat) (x1 x2 x5 : Value) (K : Value → Value → Value → Value → Value → M Value) : M Value :=
  bnd (opFieldAddr 0 x2) fun v24 => bnd (opLoad v24) fun v25 => bnd (opFieldAddr 0 x2) fun v27 => bnd (opLoad v27) fun v28 => bnd (opMake 8 [(.int .i64 (0))] v25 v25) fun v26 => bnd (opMake 8 [(.int .i64 (0))] v28 v28) fun v29 => K x1 x2 x5 v26 v29

theorem dom_Up_r4_ok (F : Nat) (x1 x2 x5 : Value) (K : Value → Value → Value → Value → Value → M Value) : dom_Up_r4 F x1 x2 x5 K = dom_Up_D F 4 [0, 1, 3, 4, 2, 6, 5, 7] [(5, x5), (2, x2), (1, x1)] [1, 2, 5, 6, 7] K := by kernel_rfl

theorem dom_Up_r4_good : goodOrder (opsOf Try.f11 4) [0, 1, 3, 4, 2, 6, 5, 7] = true := by kernel_rfl

def dom_Up_r3 (F : Nat) (K : Value → M Value) : M Value :=
  K (.slice none 0 0)

theorem dom_Up_r3_ok (F : Nat) (K : Value → M Value) : dom_Up_r3 F K = dom_Up_R F 3 [] [4] K := by kernel_rfl

def dom_Up_r2 (F : Nat) (x1 x2 x5 : Value) (K : Value → Value → Value → Value → M Value) : M Value :=
  bnd (opLen x5) fun v22 => bnd (opBin .eql v22 (.int .i64 (0))) fun v23 => K x1 x2 x5 v23

theorem dom_Up_r2_ok (F : Nat) (x1 x2 x5 : Value) (K : Value → Value → Value → Value → M Value) : dom_Up_r2 F x1 x2 x5 K = dom_Up_R F 2 [(5, x5), (2, x2), (1, x1)] [1, 2, 5, 23] K := by kernel_rfl

def dom_Up_r1 (F : Nat) (x1 x2 : Value) (K : Value → Value → Value → M Value) : M Value :=
  bnd (opLoadN 2 x2) fun v18 => bnd (graph_Order F v18 x1) fun v20 => K x1 x2 v20

theorem dom_Up_r1_ok (F : Nat) (x1 x2 : Value) (K : Value → Value → Value → M Value) : dom_Up_r1 F x1 x2 K = dom_Up_R F 1 [(2, x2), (1, x1)] [1, 2, 5] K := by kernel_rfl

def dom_Up_r0 (F : Nat) (x0 x1 : Value) (K : Value → Value → M Value) : M Value :=
  bnd (opBoxN x0) fun v2 => K x1 v2

theorem dom_Up_r0_ok (F : Nat) (x0 x1 : Value) (K : Value → Value → M Value) : dom_Up_r0 F x0 x1 K = dom_Up_R F 0 [(1, x1), (0, x0)] [1, 2] K := by kernel_rfl

def dom_Up (F : Nat) (x0 x1 : Value) : M Value :=
  dom_Up_r0 F x0 x1 (fun x1 x2 => dom_Up_r1 F x1 x2 (fun x1 x2 x5 => dom_Up_r2 F x1 x2 x5 (fun x1 x2 x5 x23 => onB x23 (dom_Up_r3 F (fun x4 => ret x4)) (dom_Up_r4 F x1 x2 x5 (fun x1 x2 x5 x6 x7 => dom_Up_r5 F x1 x2 x5 x6 x7 (fun x1 x2 x5 x6 x7 x31 x32 => dom_Up_l10 F (fun x1 x2 x5 x6 x7 => dom_Up_k9 F x1 x2 x5 x6 x7) F x1 x2 x5 x6 x7 x31 x32))))))

def dom_Up_m (F : Nat) : List Value → M Value
  | [x0, x1] => dom_Up F x0 x1
  | _ => fail

theorem dom_Up_body : Try.f11.body = some (.seq (.region 0 (opsOf Try.f11 0) false) (.seq (.region 1 (opsOf Try.f11 1) false) (.seq (.seq (.region 2 (opsOf Try.f11 2) false) (.cond (.tmp 23) (.seq (.region 3 (opsOf Try.f11 3) false) .ret) .skip)) (.seq (.region 4 (opsOf Try.f11 4) true) (.seq (.seq (.region 5 (opsOf Try.f11 5) false) (.block 0 (.loop (.seq (.region 6 (opsOf Try.f11 6) false) (.seq (.cond (.tmp 33) .skip (.exit 0)) (.seq (.block 1 (.seq (.region 7 (opsOf Try.f11 7) false) (.region 8 (opsOf Try.f11 8) false))) (.region 9 (opsOf Try.f11 9) false))))))) (.seq (.seq (.region 10 (opsOf Try.f11 10) false) (.block 2 (.loop (.seq (.region 11 (opsOf Try.f11 11) false) (.seq (.cond (.tmp 42) .skip (.exit 2)) (.seq (.block 3 (.seq (.region 12 (opsOf Try.f11 12) false) (.region 13 (opsOf Try.f11 13) false))) (.region 14 (opsOf Try.f11 14) false))))))) (.seq (.region 15 (opsOf Try.f11 15) false) (.seq (.region 16 (opsOf Try.f11 16) false) (.seq (.seq (.region 17 (opsOf Try.f11 17) false) (.block 4 (.loop (.seq (.seq (.region 18 (opsOf Try.f11 18) false) (.cond (.tmp 57) .skip (.exit 4))) (.block 5 (.seq (.region 19 (opsOf Try.f11 19) false) (.seq (.region 20 (opsOf Try.f11 20) false) (.block 6 (.loop (.seq (.region 21 (opsOf Try.f11 21) false) (.seq (.cond (.tmp 62) .skip (.exit 6)) (.seq (.block 7 (.seq (.region 22 (opsOf Try.f11 22) false) (.seq (.region 23 (opsOf Try.f11 23) false) (.seq (.seq (.region 24 (opsOf Try.f11 24) false) (.block 8 (.loop (.seq (.region 25 (opsOf Try.f11 25) false) (.seq (.cond (.tmp 72) .skip (.exit 8)) (.seq (.block 9 (.seq (.region 26 (opsOf Try.f11 26) false) (.seq (.region 27 (opsOf Try.f11 27) false) (.cond (.tmp 79) (.region 28 (opsOf Try.f11 28) false) .skip)))) (.region 29 (opsOf Try.f11 29) false))))))) (.seq (.region 30 (opsOf Try.f11 30) false) (.region 31 (opsOf Try.f11 31) false)))))) (.region 32 (opsOf Try.f11 32) false))))))))))))) (.seq (.region 33 (opsOf Try.f11 33) false) .ret)))))))))) := by kernel_rfl

theorem dom_Up_ok (F : Nat) : Sim Try.prog TryG 11 (dom_Up_m F) := by
 have hE : EnvOK Try.prog TryG (dom_Up_env F) := (EnvOK.cons (graph_Order_ok F) (EnvOK.cons (graph_Turn_ok F) (EnvOK.cons (dom_meet_ok F) EnvOK.nil)))
 refine Sim.of_body (E := dom_Up_env F) Try.func11 dom_Up_body Try.call11 ?_ ?_
 · intro args hl; unfold dom_Up_m; split
   · exact absurd hl (Nat.not_lt.2 (Nat.le_of_ble_eq_true rfl))
   · rfl
 · intro args ρ h w z; unfold dom_Up_m; split
   · rename_i x0 x1; show OKc _ _ [(0, x0), (1, x1)] _ _
     refine rSeq ?_
     refine cLess [1, 0] ?_
     refine xR hE [1, 2] rfl (dom_Up_r0_ok F _ _ _) ?_
     intro x1 x2
     show OKq _ _ _ [(2, x2), (1, x1)] _
     refine rThen ?_
     refine rSeq ?_
     refine cLess [2, 1] ?_
     refine xR hE [1, 2, 5] rfl (dom_Up_r1_ok F _ _ _) ?_
     intro x1 x2 x5
     show OKq _ _ _ [(5, x5), (2, x2), (1, x1)] _
     refine rThen ?_
     refine rSeq ?_
     refine rSeq ?_
     refine cLess [5, 2, 1] ?_
     refine xR hE [1, 2, 5, 23] rfl (dom_Up_r2_ok F _ _ _ _) ?_
     intro x1 x2 x5 x23
     show OKq _ _ _ [(23, x23), (5, x5), (2, x2), (1, x1)] _
     refine rThen ?_
     refine xCond rfl rfl ?_ ?_
     · refine rSeq ?_
       refine cLess [] ?_
       refine xR hE [4] rfl (dom_Up_r3_ok F _) ?_
       intro x4
       show OKq _ _ _ [(4, x4)] _
       refine rThen ?_
       refine rRet ?_
       refine xThenR ?_
       exact rDone (.inr rfl) rfl
     · refine rSkip ?_
       refine rThen ?_
       refine rSeq ?_
       refine cLess [5, 2, 1] ?_
       refine xD Trymix hE [1, 2, 5, 6, 7] rfl dom_Up_r4_good (dom_Up_r4_ok F _ _ _ _) ?_
       intro x1 x2 x5 x6 x7
       show OKq _ _ _ [(7, x7), (6, x6), (5, x5), (2, x2), (1, x1)] _
       refine rThen ?_
       refine xSeq [1, 2, 5, 6, 7] (dom_Up_k9 F ) ?_ fun hj9 => ?_
       · intro x1 x2 x5 x6 x7
         show OKc _ _ [(7, x7), (6, x6), (5, x5), (2, x2), (1, x1)] _ _
         refine xSeq [1, 2, 5, 6, 7] (dom_Up_k7 F ) ?_ fun hj7 => ?_
         · intro x1 x2 x5 x6 x7
           show OKc _ _ [(7, x7), (6, x6), (5, x5), (2, x2), (1, x1)] _ _
           refine rSeq ?_
           refine cLess [7, 6, 5, 2, 1] ?_
           refine xR hE [1, 5, 6, 7, 11] rfl (dom_Up_r15_ok F _ _ _ _ _ _) ?_
           intro x1 x5 x6 x7 x11
           show OKq _ _ _ [(11, x11), (7, x7), (6, x6), (5, x5), (1, x1)] _
           refine rThen ?_
           refine rSeq ?_
           refine cLess [11, 7, 6, 5, 1] ?_
           refine xR hE [5, 6, 7, 11] rfl (dom_Up_r16_ok F _ _ _ _ _ _) ?_
           intro x5 x6 x7 x11
           show OKq _ _ _ [(11, x11), (7, x7), (6, x6), (5, x5)] _
           refine rThen ?_
           refine xSeq [6] (dom_Up_k0 F ) ?_ fun hj0 => ?_
           · intro x6
             show OKc _ _ [(6, x6)] _ _
             refine rSeq ?_
             refine cLess [6] ?_
             refine xR hE [4] rfl (dom_Up_r33_ok F _ _) ?_
             intro x4
             show OKq _ _ _ [(4, x4)] _
             refine rThen ?_
             refine rRet ?_
             exact rDone (.inr rfl) rfl
           · refine rSeq ?_
             refine cLess [11, 7, 6, 5] ?_
             refine xR hE [5, 6, 7, 11, 12] rfl (dom_Up_r17_ok F _ _ _ _ _) ?_
             intro x5 x6 x7 x11 x12
             show OKq _ _ _ [(12, x12), (11, x11), (7, x7), (6, x6), (5, x5)] _
             refine rThen ?_
             refine rBlock ?_
             refine cLess [12, 11, 7, 6, 5] ?_
             refine xLoopAt [5, 6, 7, 11, 12] [] (fun k1 => dom_Up_l1 F (fun x6 => dom_Up_k0 F x6) k1) F [x5, x6, x7, x11, x12] rfl rfl (fun _ _ _ _ _ => rfl) fun I hI1 k1 => ?_
             intro x5 x6 x7 x11 x12
             show OKc _ _ [(12, x12), (11, x11), (7, x7), (6, x6), (5, x5)] _ _
             refine cAs (dom_Up_l1_s F _ _ _ _ _ _ _) ?_
             refine rSeq ?_
             refine rSeq ?_
             refine cLess [12, 11, 7, 6, 5] ?_
             refine xR hE [5, 6, 7, 11, 57] rfl (dom_Up_r18_ok F _ _ _ _ _ _) ?_
             intro x5 x6 x7 x11 x57
             show OKq _ _ _ [(57, x57), (11, x11), (7, x7), (6, x6), (5, x5)] _
             refine rThen ?_
             refine xCond rfl rfl ?_ ?_
             · refine rSkip ?_
               refine rThen ?_
               refine rBlock ?_
               refine rSeq ?_
               refine cLess [11, 7, 6, 5] ?_
               refine xR hE [5, 6, 7, 11, 12] rfl (dom_Up_r19_ok F _ _ _ _ _) ?_
               intro x5 x6 x7 x11 x12
               show OKq _ _ _ [(12, x12), (11, x11), (7, x7), (6, x6), (5, x5)] _
               refine rThen ?_
               refine rSeq ?_
               refine cLess [12, 11, 7, 6, 5] ?_
               refine xR hE [5, 6, 7, 11, 12, 59, 60, 61] rfl (dom_Up_r20_ok F _ _ _ _ _ _) ?_
               intro x5 x6 x7 x11 x12 x59 x60 x61
               show OKq _ _ _ [(61, x61), (60, x60), (59, x59), (12, x12), (11, x11), (7, x7), (6, x6), (5, x5)] _
               refine rThen ?_
               refine rBlock ?_
               refine cLess [61, 60, 59, 12, 11, 7, 6, 5] ?_
               refine xLoopAt [5, 6, 7, 11, 12, 59, 60, 61] [] (fun k2 => dom_Up_l2 F (fun x5 x6 x7 x11 x12 => (dom_Up_l1 F (fun x6 => dom_Up_k0 F x6) k1) x5 x6 x7 x11 x12) k2) F [x5, x6, x7, x11, x12, x59, x60, x61] rfl rfl (fun _ _ _ _ _ _ _ _ => rfl) fun I hI2 k2 => ?_
               intro x5 x6 x7 x11 x12 x59 x60 x61
               show OKc _ _ [(61, x61), (60, x60), (59, x59), (12, x12), (11, x11), (7, x7), (6, x6), (5, x5)] _ _
               refine cAs (dom_Up_l2_s F _ _ _ _ _ _ _ _ _ _) ?_
               refine rSeq ?_
               refine cLess [61, 60, 59, 12, 11, 7, 6, 5] ?_
               refine xR hE [5, 6, 7, 11, 12, 59, 60, 61, 62] rfl (dom_Up_r21_ok F _ _ _ _ _ _ _ _ _) ?_
               intro x5 x6 x7 x11 x12 x59 x60 x61 x62
               show OKq _ _ _ [(62, x62), (61, x61), (60, x60), (59, x59), (12, x12), (11, x11), (7, x7), (6, x6), (5, x5)] _
               refine rThen ?_
               refine rSeq ?_
               refine xCond rfl rfl ?_ ?_
               · refine rSkip ?_
                 refine rThen ?_
                 refine xSeq [5, 6, 7, 11, 12, 59, 60, 61] (dom_Up_k3 F (dom_Up_l2 F (fun x5 x6 x7 x11 x12 => (dom_Up_l1 F (fun x6 => dom_Up_k0 F x6) k1) x5 x6 x7 x11 x12) k2) ) ?_ fun hj3 => ?_
                 · intro x5 x6 x7 x11 x12 x59 x60 x61
                   show OKc _ _ [(61, x61), (60, x60), (59, x59), (12, x12), (11, x11), (7, x7), (6, x6), (5, x5)] _ _
                   refine cLess [61, 60, 59, 12, 11, 7, 6, 5] ?_
                   refine xR hE [5, 6, 7, 11, 12, 59, 60, 61] rfl (dom_Up_r32_ok F _ _ _ _ _ _ _ _ _) ?_
                   intro x5 x6 x7 x11 x12 x59 x60 x61
                   show OKq _ _ _ [(61, x61), (60, x60), (59, x59), (12, x12), (11, x11), (7, x7), (6, x6), (5, x5)] _
                   exact qLess [61, 60, 59, 12, 11, 7, 6, 5] (hI2 k2 x5 x6 x7 x11 x12 x59 x60 x61)
                 · refine rBlock ?_
                   refine rSeq ?_
                   refine cLess [61, 60, 59, 12, 11, 7, 6, 5] ?_
                   refine xR hE [5, 6, 7, 11, 12, 14, 59, 60, 61] rfl (dom_Up_r22_ok F _ _ _ _ _ _ _ _ _) ?_
                   intro x5 x6 x7 x11 x12 x14 x59 x60 x61
                   show OKq _ _ _ [(61, x61), (60, x60), (59, x59), (14, x14), (12, x12), (11, x11), (7, x7), (6, x6), (5, x5)] _
                   refine rThen ?_
                   refine rSeq ?_
                   refine cLess [61, 60, 59, 14, 12, 11, 7, 6, 5] ?_
                   refine xR hE [5, 6, 7, 11, 12, 14, 15, 59, 60, 61] rfl (dom_Up_r23_ok F _ _ _ _ _ _ _ _ _ _) ?_
                   intro x5 x6 x7 x11 x12 x14 x15 x59 x60 x61
                   show OKq _ _ _ [(61, x61), (60, x60), (59, x59), (15, x15), (14, x14), (12, x12), (11, x11), (7, x7), (6, x6), (5, x5)] _
                   refine rThen ?_
                   refine xSeq [5, 6, 7, 11, 12, 14, 15, 59, 60, 61] (dom_Up_k4 F (dom_Up_l2 F (fun x5 x6 x7 x11 x12 => (dom_Up_l1 F (fun x6 => dom_Up_k0 F x6) k1) x5 x6 x7 x11 x12) k2) ) ?_ fun hj4 => ?_
                   · intro x5 x6 x7 x11 x12 x14 x15 x59 x60 x61
                     show OKc _ _ [(61, x61), (60, x60), (59, x59), (15, x15), (14, x14), (12, x12), (11, x11), (7, x7), (6, x6), (5, x5)] _ _
                     refine rSeq ?_
                     refine cLess [61, 60, 59, 15, 14, 12, 11, 7, 6, 5] ?_
                     refine xR hE [5, 6, 7, 11, 12, 14, 15, 59, 60, 61] rfl (dom_Up_r30_ok F _ _ _ _ _ _ _ _ _ _ _) ?_
                     intro x5 x6 x7 x11 x12 x14 x15 x59 x60 x61
                     show OKq _ _ _ [(61, x61), (60, x60), (59, x59), (15, x15), (14, x14), (12, x12), (11, x11), (7, x7), (6, x6), (5, x5)] _
                     refine rThen ?_
                     refine cLess [61, 60, 59, 15, 14, 12, 11, 7, 6, 5] ?_
                     refine xR hE [5, 6, 7, 11, 12, 59, 60, 61] rfl (dom_Up_r31_ok F _ _ _ _ _ _ _ _ _ _ _) ?_
                     intro x5 x6 x7 x11 x12 x59 x60 x61
                     show OKq _ _ _ [(61, x61), (60, x60), (59, x59), (12, x12), (11, x11), (7, x7), (6, x6), (5, x5)] _
                     refine xBlockN ?_
                     exact qLess [61, 60, 59, 12, 11, 7, 6, 5] (hj3 x5 x6 x7 x11 x12 x59 x60 x61)
                   · refine rSeq ?_
                     refine cLess [61, 60, 59, 15, 14, 12, 11, 7, 6, 5] ?_
                     refine xR hE [5, 6, 7, 11, 12, 14, 15, 59, 60, 61, 69, 70, 71] rfl (dom_Up_r24_ok F _ _ _ _ _ _ _ _ _ _ _) ?_
                     intro x5 x6 x7 x11 x12 x14 x15 x59 x60 x61 x69 x70 x71
                     show OKq _ _ _ [(71, x71), (70, x70), (69, x69), (61, x61), (60, x60), (59, x59), (15, x15), (14, x14), (12, x12), (11, x11), (7, x7), (6, x6), (5, x5)] _
                     refine rThen ?_
                     refine rBlock ?_
                     refine cLess [71, 70, 69, 61, 60, 59, 15, 14, 12, 11, 7, 6, 5] ?_
                     refine xLoopAt [5, 6, 7, 11, 12, 14, 15, 59, 60, 61, 69, 70, 71] [] (fun k5 => dom_Up_l5 F (fun x5 x6 x7 x11 x12 x14 x15 x59 x60 x61 => dom_Up_k4 F (dom_Up_l2 F (fun x5 x6 x7 x11 x12 => (dom_Up_l1 F (fun x6 => dom_Up_k0 F x6) k1) x5 x6 x7 x11 x12) k2) x5 x6 x7 x11 x12 x14 x15 x59 x60 x61) k5) F [x5, x6, x7, x11, x12, x14, x15, x59, x60, x61, x69, x70, x71] rfl rfl (fun _ _ _ _ _ _ _ _ _ _ _ _ _ => rfl) fun I hI5 k5 => ?_
                     intro x5 x6 x7 x11 x12 x14 x15 x59 x60 x61 x69 x70 x71
                     show OKc _ _ [(71, x71), (70, x70), (69, x69), (61, x61), (60, x60), (59, x59), (15, x15), (14, x14), (12, x12), (11, x11), (7, x7), (6, x6), (5, x5)] _ _
                     refine cAs (dom_Up_l5_s F _ _ _ _ _ _ _ _ _ _ _ _ _ _ _) ?_
                     refine rSeq ?_
                     refine cLess [71, 70, 69, 61, 60, 59, 15, 14, 12, 11, 7, 6, 5] ?_
                     refine xR hE [5, 6, 7, 11, 12, 14, 15, 59, 60, 61, 69, 70, 71, 72] rfl (dom_Up_r25_ok F _ _ _ _ _ _ _ _ _ _ _ _ _ _) ?_
                     intro x5 x6 x7 x11 x12 x14 x15 x59 x60 x61 x69 x70 x71 x72
                     show OKq _ _ _ [(72, x72), (71, x71), (70, x70), (69, x69), (61, x61), (60, x60), (59, x59), (15, x15), (14, x14), (12, x12), (11, x11), (7, x7), (6, x6), (5, x5)] _
                     refine rThen ?_
                     refine rSeq ?_
                     refine xCond rfl rfl ?_ ?_
                     · refine rSkip ?_
                       refine rThen ?_
                       refine xSeq [5, 6, 7, 11, 12, 14, 15, 59, 60, 61, 69, 70, 71] (dom_Up_k6 F (dom_Up_l5 F (fun x5 x6 x7 x11 x12 x14 x15 x59 x60 x61 => dom_Up_k4 F (dom_Up_l2 F (fun x5 x6 x7 x11 x12 => (dom_Up_l1 F (fun x6 => dom_Up_k0 F x6) k1) x5 x6 x7 x11 x12) k2) x5 x6 x7 x11 x12 x14 x15 x59 x60 x61) k5) ) ?_ fun hj6 => ?_
                       · intro x5 x6 x7 x11 x12 x14 x15 x59 x60 x61 x69 x70 x71
                         show OKc _ _ [(71, x71), (70, x70), (69, x69), (61, x61), (60, x60), (59, x59), (15, x15), (14, x14), (12, x12), (11, x11), (7, x7), (6, x6), (5, x5)] _ _
                         refine cLess [71, 70, 69, 61, 60, 59, 15, 14, 12, 11, 7, 6, 5] ?_
                         refine xR hE [5, 6, 7, 11, 12, 14, 15, 59, 60, 61, 69, 70, 71] rfl (dom_Up_r29_ok F _ _ _ _ _ _ _ _ _ _ _ _ _ _) ?_
                         intro x5 x6 x7 x11 x12 x14 x15 x59 x60 x61 x69 x70 x71
                         show OKq _ _ _ [(71, x71), (70, x70), (69, x69), (61, x61), (60, x60), (59, x59), (15, x15), (14, x14), (12, x12), (11, x11), (7, x7), (6, x6), (5, x5)] _
                         exact qLess [71, 70, 69, 61, 60, 59, 15, 14, 12, 11, 7, 6, 5] (hI5 k5 x5 x6 x7 x11 x12 x14 x15 x59 x60 x61 x69 x70 x71)
                       · refine rBlock ?_
                         refine rSeq ?_
                         refine cLess [71, 70, 69, 61, 60, 59, 15, 14, 12, 11, 7, 6, 5] ?_
                         refine xR hE [5, 6, 7, 11, 12, 14, 15, 17, 59, 60, 61, 69, 70, 71] rfl (dom_Up_r26_ok F _ _ _ _ _ _ _ _ _ _ _ _ _ _) ?_
                         intro x5 x6 x7 x11 x12 x14 x15 x17 x59 x60 x61 x69 x70 x71
                         show OKq _ _ _ [(71, x71), (70, x70), (69, x69), (61, x61), (60, x60), (59, x59), (17, x17), (15, x15), (14, x14), (12, x12), (11, x11), (7, x7), (6, x6), (5, x5)] _
                         refine rThen ?_
                         refine rSeq ?_
                         refine cLess [71, 70, 69, 61, 60, 59, 17, 15, 14, 12, 11, 7, 6, 5] ?_
                         refine xR hE [5, 6, 7, 11, 12, 14, 15, 17, 59, 60, 61, 69, 70, 71, 79] rfl (dom_Up_r27_ok F _ _ _ _ _ _ _ _ _ _ _ _ _ _ _) ?_
                         intro x5 x6 x7 x11 x12 x14 x15 x17 x59 x60 x61 x69 x70 x71 x79
                         show OKq _ _ _ [(79, x79), (71, x71), (70, x70), (69, x69), (61, x61), (60, x60), (59, x59), (17, x17), (15, x15), (14, x14), (12, x12), (11, x11), (7, x7), (6, x6), (5, x5)] _
                         refine rThen ?_
                         refine xCond rfl rfl ?_ ?_
                         · refine cLess [71, 70, 69, 61, 60, 59, 17, 15, 14, 12, 11, 7, 6, 5] ?_
                           refine xR hE [5, 6, 7, 11, 12, 14, 15, 59, 60, 61, 69, 70, 71] rfl (dom_Up_r28_ok F _ _ _ _ _ _ _ _ _ _ _ _ _ _ _) ?_
                           intro x5 x6 x7 x11 x12 x14 x15 x59 x60 x61 x69 x70 x71
                           show OKq _ _ _ [(71, x71), (70, x70), (69, x69), (61, x61), (60, x60), (59, x59), (15, x15), (14, x14), (12, x12), (11, x11), (7, x7), (6, x6), (5, x5)] _
                           refine xBlockN ?_
                           exact qLess [71, 70, 69, 61, 60, 59, 15, 14, 12, 11, 7, 6, 5] (hj6 x5 x6 x7 x11 x12 x14 x15 x59 x60 x61 x69 x70 x71)
                         · refine rSkip ?_
                           refine xBlockN ?_
                           exact qLess [71, 70, 69, 61, 60, 59, 15, 14, 12, 11, 7, 6, 5] (hj6 x5 x6 x7 x11 x12 x14 x15 x59 x60 x61 x69 x70 x71)
                     · refine rExit ?_
                       refine xThenX ?_
                       refine xThenX ?_
                       refine rOut ?_
                       exact qLess [61, 60, 59, 15, 14, 12, 11, 7, 6, 5] (hj4 x5 x6 x7 x11 x12 x14 x15 x59 x60 x61)
               · refine rExit ?_
                 refine xThenX ?_
                 refine xThenX ?_
                 refine rOut ?_
                 refine xBlockN ?_
                 exact qLess [12, 11, 7, 6, 5] (hI1 k1 x5 x6 x7 x11 x12)
             · refine rExit ?_
               refine xThenX ?_
               refine xThenX ?_
               refine rOut ?_
               exact qLess [6] (hj0 x6)
         · refine rSeq ?_
           refine cLess [7, 6, 5, 2, 1] ?_
           refine xR hE [1, 2, 5, 6, 7, 39, 40, 41] rfl (dom_Up_r10_ok F _ _ _ _ _ _) ?_
           intro x1 x2 x5 x6 x7 x39 x40 x41
           show OKq _ _ _ [(41, x41), (40, x40), (39, x39), (7, x7), (6, x6), (5, x5), (2, x2), (1, x1)] _
           refine rThen ?_
           refine rBlock ?_
           refine cLess [41, 40, 39, 7, 6, 5, 2, 1] ?_
           refine xLoopAt [1, 2, 5, 6, 7, 39, 40, 41] [] (fun k8 => dom_Up_l8 F (fun x1 x2 x5 x6 x7 => dom_Up_k7 F x1 x2 x5 x6 x7) k8) F [x1, x2, x5, x6, x7, x39, x40, x41] rfl rfl (fun _ _ _ _ _ _ _ _ => rfl) fun I hI8 k8 => ?_
           intro x1 x2 x5 x6 x7 x39 x40 x41
           show OKc _ _ [(41, x41), (40, x40), (39, x39), (7, x7), (6, x6), (5, x5), (2, x2), (1, x1)] _ _
           refine cAs (dom_Up_l8_s F _ _ _ _ _ _ _ _ _ _) ?_
           refine rSeq ?_
           refine cLess [41, 40, 39, 7, 6, 5, 2, 1] ?_
           refine xR hE [1, 2, 5, 6, 7, 39, 40, 41, 42] rfl (dom_Up_r11_ok F _ _ _ _ _ _ _ _ _) ?_
           intro x1 x2 x5 x6 x7 x39 x40 x41 x42
           show OKq _ _ _ [(42, x42), (41, x41), (40, x40), (39, x39), (7, x7), (6, x6), (5, x5), (2, x2), (1, x1)] _
           refine rThen ?_
           refine rSeq ?_
           refine xCond rfl rfl ?_ ?_
           · refine rSkip ?_
             refine rThen ?_
             refine rSeq ?_
             refine rBlock ?_
             refine rSeq ?_
             refine cLess [41, 40, 39, 7, 6, 5, 2, 1] ?_
             refine xR hE [1, 2, 5, 6, 7, 9, 10, 39, 40, 41] rfl (dom_Up_r12_ok F _ _ _ _ _ _ _ _ _) ?_
             intro x1 x2 x5 x6 x7 x9 x10 x39 x40 x41
             show OKq _ _ _ [(41, x41), (40, x40), (39, x39), (10, x10), (9, x9), (7, x7), (6, x6), (5, x5), (2, x2), (1, x1)] _
             refine rThen ?_
             refine cLess [41, 40, 39, 10, 9, 7, 6, 5, 2, 1] ?_
             refine xR hE [1, 2, 5, 6, 7, 39, 40, 41] rfl (dom_Up_r13_ok F _ _ _ _ _ _ _ _ _ _ _) ?_
             intro x1 x2 x5 x6 x7 x39 x40 x41
             show OKq _ _ _ [(41, x41), (40, x40), (39, x39), (7, x7), (6, x6), (5, x5), (2, x2), (1, x1)] _
             refine xBlockN ?_
             refine rThen ?_
             refine cLess [41, 40, 39, 7, 6, 5, 2, 1] ?_
             refine xR hE [1, 2, 5, 6, 7, 39, 40, 41] rfl (dom_Up_r14_ok F _ _ _ _ _ _ _ _ _) ?_
             intro x1 x2 x5 x6 x7 x39 x40 x41
             show OKq _ _ _ [(41, x41), (40, x40), (39, x39), (7, x7), (6, x6), (5, x5), (2, x2), (1, x1)] _
             exact qLess [41, 40, 39, 7, 6, 5, 2, 1] (hI8 k8 x1 x2 x5 x6 x7 x39 x40 x41)
           · refine rExit ?_
             refine xThenX ?_
             refine xThenX ?_
             refine rOut ?_
             exact qLess [7, 6, 5, 2, 1] (hj7 x1 x2 x5 x6 x7)
       · refine rSeq ?_
         refine cLess [7, 6, 5, 2, 1] ?_
         refine xR hE [1, 2, 5, 6, 7, 31, 32] rfl (dom_Up_r5_ok F _ _ _ _ _ _) ?_
         intro x1 x2 x5 x6 x7 x31 x32
         show OKq _ _ _ [(32, x32), (31, x31), (7, x7), (6, x6), (5, x5), (2, x2), (1, x1)] _
         refine rThen ?_
         refine rBlock ?_
         refine cLess [32, 31, 7, 6, 5, 2, 1] ?_
         refine xLoopAt [1, 2, 5, 6, 7, 31, 32] [] (fun k10 => dom_Up_l10 F (fun x1 x2 x5 x6 x7 => dom_Up_k9 F x1 x2 x5 x6 x7) k10) F [x1, x2, x5, x6, x7, x31, x32] rfl rfl (fun _ _ _ _ _ _ _ => rfl) fun I hI10 k10 => ?_
         intro x1 x2 x5 x6 x7 x31 x32
         show OKc _ _ [(32, x32), (31, x31), (7, x7), (6, x6), (5, x5), (2, x2), (1, x1)] _ _
         refine cAs (dom_Up_l10_s F _ _ _ _ _ _ _ _ _) ?_
         refine rSeq ?_
         refine cLess [32, 31, 7, 6, 5, 2, 1] ?_
         refine xR hE [1, 2, 5, 6, 7, 31, 32, 33] rfl (dom_Up_r6_ok F _ _ _ _ _ _ _ _) ?_
         intro x1 x2 x5 x6 x7 x31 x32 x33
         show OKq _ _ _ [(33, x33), (32, x32), (31, x31), (7, x7), (6, x6), (5, x5), (2, x2), (1, x1)] _
         refine rThen ?_
         refine rSeq ?_
         refine xCond rfl rfl ?_ ?_
         · refine rSkip ?_
           refine rThen ?_
           refine rSeq ?_
           refine rBlock ?_
           refine rSeq ?_
           refine cLess [32, 31, 7, 6, 5, 2, 1] ?_
           refine xR hE [1, 2, 5, 6, 7, 8, 31, 32] rfl (dom_Up_r7_ok F _ _ _ _ _ _ _ _) ?_
           intro x1 x2 x5 x6 x7 x8 x31 x32
           show OKq _ _ _ [(32, x32), (31, x31), (8, x8), (7, x7), (6, x6), (5, x5), (2, x2), (1, x1)] _
           refine rThen ?_
           refine cLess [32, 31, 8, 7, 6, 5, 2, 1] ?_
           refine xR hE [1, 2, 5, 6, 7, 31, 32] rfl (dom_Up_r8_ok F _ _ _ _ _ _ _ _ _) ?_
           intro x1 x2 x5 x6 x7 x31 x32
           show OKq _ _ _ [(32, x32), (31, x31), (7, x7), (6, x6), (5, x5), (2, x2), (1, x1)] _
           refine xBlockN ?_
           refine rThen ?_
           refine cLess [32, 31, 7, 6, 5, 2, 1] ?_
           refine xR hE [1, 2, 5, 6, 7, 31, 32] rfl (dom_Up_r9_ok F _ _ _ _ _ _ _ _) ?_
           intro x1 x2 x5 x6 x7 x31 x32
           show OKq _ _ _ [(32, x32), (31, x31), (7, x7), (6, x6), (5, x5), (2, x2), (1, x1)] _
           exact qLess [32, 31, 7, 6, 5, 2, 1] (hI10 k10 x1 x2 x5 x6 x7 x31 x32)
         · refine rExit ?_
           refine xThenX ?_
           refine xThenX ?_
           refine rOut ?_
           exact qLess [7, 6, 5, 2, 1] (hj9 x1 x2 x5 x6 x7)
   · exact rFail


/-! ### haruspex/haruspexlaw6.begun -/

def L6_begun_env (F : Nat) : Env := envOf [(11, dom_Up_m F), (13, R1_Eq_m F), (14, dom_Depth_m F), (15, dom_Above_m F)]

noncomputable def L6_begun_R (F : Nat) := rK Try.prog TryG (L6_begun_env F) Try.f9
noncomputable def L6_begun_D (F : Nat) := dK Try.prog TryG (L6_begun_env F) Try.f9

def L6_begun_r3 (F : Nat) (x1 x2 : Value) (K : Value → M Value) : M Value :=
  bnd (opBuildSlice 5 (rep 5 [(.int .i64 (0))]) [(0, 1, false, (.int .i64 (0))), (1, 1, false, (.int .i64 (0))), (2, 1, false, (.int .i64 (0))), (3, 1, false, (.int .i64 (0))), (4, 1, false, (.int .i64 (-1)))]) fun v11 => bnd (R1_Eq F x2 v11) fun v12 => onB v12 (bnd (dom_Above F x2 (.int .i64 (0)) (.int .i64 (3))) fun v15 => onB v15 (bnd (dom_Above F x2 (.int .i64 (1)) (.int .i64 (3))) fun v19 => bnd (opNot v19) fun v20 => onB v20 (bnd (dom_Depth F x2) fun v24 => bnd (opBuildSlice 5 (rep 5 [(.int .i64 (0))]) [(0, 1, false, (.int .i64 (0))), (1, 1, false, (.int .i64 (1))), (2, 1, false, (.int .i64 (1))), (3, 1, false, (.int .i64 (1))), (4, 1, false, (.int .i64 (-1)))]) fun v25 => bnd (R1_Eq F v24 v25) fun v26 => onB v26 (bnd (opLoadN 2 x1) fun v29 => bnd (dom_Up F v29 (.int .i64 (7))) fun v30 => bnd (opLen v30) fun v31 => bnd (opBin .eql v31 (.int .i64 (0))) fun v32 => K v32) (K (.bool false))) (K (.bool false))) (K (.bool false))) (K (.bool false))

theorem L6_begun_r3_ok (F : Nat) (x1 x2 : Value) (K : Value → M Value) : L6_begun_r3 F x1 x2 K = L6_begun_R F 3 [(2, x2), (1, x1)] [0] K := by kernel_rfl

def L6_begun_r2 (F : Nat) (x1 : Value) (K : Value → Value → M Value) : M Value :=
  bnd (opLoadN 2 x1) fun v8 => bnd (dom_Up F v8 (.int .i64 (0))) fun v9 => K x1 v9

theorem L6_begun_r2_ok (F : Nat) (x1 : Value) (K : Value → Value → M Value) : L6_begun_r2 F x1 K = L6_begun_R F 2 [(1, x1)] [1, 2] K := by kernel_rfl

def L6_begun_r1 (F : Nat) (K : Value → M Value) : M Value :=
  bnd (opBuildSlice 2 (rep 2 [(.int .i64 (0))]) [(0, 1, false, (.int .i64 (1))), (1, 1, false, (.int .i64 (2)))]) fun v3 => bnd (opBuildSlice 1 (rep 1 [(.int .i64 (0))]) [(0, 1, false, (.int .i64 (3)))]) fun v4 => bnd (opBuildSlice 1 (rep 1 [(.int .i64 (0))]) [(0, 1, false, (.int .i64 (3)))]) fun v5 => bnd (opBuildSlice 5 (rep 5 [(.slice none 0 0)]) [(0, 1, false, v3), (1, 1, false, v4), (2, 1, false, v5), (3, 1, false, (.slice none 0 0)), (4, 1, false, (.slice none 0 0))]) fun v6 => bnd (opBuild [(.int .i64 (0)), (.slice none 0 0)] [(0, 1, false, (.int .i64 (5))), (1, 1, false, v6)]) fun v7 => bnd (opPtr [(.int .i64 (0)), (.slice none 0 0)]) fun v1 => bnd (opStoreN 2 v1 v7) fun _ => K v1

theorem L6_begun_r1_ok (F : Nat) (K : Value → M Value) : L6_begun_r1 F K = L6_begun_R F 1 [] [1] K := by kernel_rfl

def L6_begun_r0 (F : Nat) (K : M Value) : M Value :=
  K

theorem L6_begun_r0_ok (F : Nat) (K : M Value) : L6_begun_r0 F K = L6_begun_R F 0 [] [] K := by kernel_rfl

def L6_begun (F : Nat) : M Value :=
  L6_begun_r0 F (L6_begun_r1 F (fun x1 => L6_begun_r2 F x1 (fun x1 x2 => L6_begun_r3 F x1 x2 (fun x0 => ret x0))))

def L6_begun_m (F : Nat) : List Value → M Value
  | [] => L6_begun F
  | _ => fail

theorem L6_begun_body : Try.f9.body = some (.seq (.region 0 (opsOf Try.f9 0) false) (.seq (.region 1 (opsOf Try.f9 1) false) (.seq (.region 2 (opsOf Try.f9 2) false) (.seq (.region 3 (opsOf Try.f9 3) false) .ret)))) := by kernel_rfl

theorem L6_begun_ok (F : Nat) : Sim Try.prog TryG 9 (L6_begun_m F) := by
 have hE : EnvOK Try.prog TryG (L6_begun_env F) := (EnvOK.cons (dom_Up_ok F) (EnvOK.cons (R1_Eq_ok F) (EnvOK.cons (dom_Depth_ok F) (EnvOK.cons (dom_Above_ok F) EnvOK.nil))))
 refine Sim.of_body (E := L6_begun_env F) Try.func9 L6_begun_body Try.call9 ?_ ?_
 · intro args hl; unfold L6_begun_m; split
   · exact absurd hl (Nat.not_lt.2 (Nat.le_of_ble_eq_true rfl))
   · rfl
 · intro args ρ h w z; unfold L6_begun_m; split
   · show OKc _ _ [] _ _
     refine rSeq ?_
     refine cLess [] ?_
     refine xR hE [] rfl (L6_begun_r0_ok F _) ?_
     show OKq _ _ _ [] _
     refine rThen ?_
     refine rSeq ?_
     refine cLess [] ?_
     refine xR hE [1] rfl (L6_begun_r1_ok F _) ?_
     intro x1
     show OKq _ _ _ [(1, x1)] _
     refine rThen ?_
     refine rSeq ?_
     refine cLess [1] ?_
     refine xR hE [1, 2] rfl (L6_begun_r2_ok F _ _) ?_
     intro x1 x2
     show OKq _ _ _ [(2, x2), (1, x1)] _
     refine rThen ?_
     refine rSeq ?_
     refine cLess [2, 1] ?_
     refine xR hE [0] rfl (L6_begun_r3_ok F _ _ _) ?_
     intro x0
     show OKq _ _ _ [(0, x0)] _
     refine rThen ?_
     refine rRet ?_
     exact rDone (.inr rfl) rfl
   · exact rFail


/-! ### haruspex/haruspexlaw6.DomUp -/

def L6_DomUp_env (F : Nat) : Env := envOf [(9, L6_begun_m F), (10, L5_Made_m F), (11, dom_Up_m F), (12, R1_Up_m F), (13, R1_Eq_m F), (14, dom_Depth_m F), (15, dom_Above_m F), (16, R1_Above_m F)]

noncomputable def L6_DomUp_R (F : Nat) := rK Try.prog TryG (L6_DomUp_env F) Try.f3
noncomputable def L6_DomUp_D (F : Nat) := dK Try.prog TryG (L6_DomUp_env F) Try.f3

def L6_DomUp_r29 (F : Nat) (x8 x9 : Value) (K : Value → M Value) : M Value :=
  bnd (dom_Above F x9 (.int .i64 (-1)) (.int .i64 (0))) fun v98 => bnd (opNot v98) fun v99 => onB v99 (bnd (opFieldAddr 0 x8) fun v102 => bnd (opLoad v102) fun v103 => bnd (dom_Above F x9 (.int .i64 (0)) v103) fun v104 => bnd (opNot v104) fun v105 => K v105) (K (.bool false))

theorem L6_DomUp_r29_ok (F : Nat) (x8 x9 : Value) (K : Value → M Value) : L6_DomUp_r29 F x8 x9 K = L6_DomUp_R F 29 [(9, x9), (8, x8)] [6] K := by kernel_rfl

def L6_DomUp_k0 (F : Nat) (x8 x9 : Value) : M Value :=
  L6_DomUp_r29 F x8 x9 (fun x6 => ret x6)

def L6_DomUp_r14 (F : Nat) (x2 x8 x9 x10 x11 x12 : Value) (K : Value → Value → Value → Value → Value → Value → M Value) : M Value :=
  bnd (opBin .add x12 (.int .i64 (1))) fun v51 => K x2 x8 x9 x10 x11 v51

theorem L6_DomUp_r14_ok (F : Nat) (x2 x8 x9 x10 x11 x12 : Value) (K : Value → Value → Value → Value → Value → Value → M Value) : L6_DomUp_r14 F x2 x8 x9 x10 x11 x12 K = L6_DomUp_R F 14 [(12, x12), (11, x11), (10, x10), (9, x9), (8, x8), (2, x2)] [2, 8, 9, 10, 11, 12] K := by kernel_rfl

def L6_DomUp_k2 (F : Nat) (A1 : Value → Value → Value → Value → Value → Value → M Value) (x2 x8 x9 x10 x11 x12 : Value) : M Value :=
  L6_DomUp_r14 F x2 x8 x9 x10 x11 x12 (fun x2 x8 x9 x10 x11 x12 => A1 x2 x8 x9 x10 x11 x12)

def L6_DomUp_r26 (F : Nat) (x2 x8 x9 x10 x11 x12 x15 : Value) (K : Value → Value → Value → Value → Value → Value → Value → M Value) : M Value :=
  bnd (opBin .add x15 (.int .i64 (1))) fun v85 => K x2 x8 x9 x10 x11 x12 v85

theorem L6_DomUp_r26_ok (F : Nat) (x2 x8 x9 x10 x11 x12 x15 : Value) (K : Value → Value → Value → Value → Value → Value → Value → M Value) : L6_DomUp_r26 F x2 x8 x9 x10 x11 x12 x15 K = L6_DomUp_R F 26 [(15, x15), (12, x12), (11, x11), (10, x10), (9, x9), (8, x8), (2, x2)] [2, 8, 9, 10, 11, 12, 15] K := by kernel_rfl

def L6_DomUp_r28 (F : Nat) (K : Value → M Value) : M Value :=
  K (.bool false)

theorem L6_DomUp_r28_ok (F : Nat) (K : Value → M Value) : L6_DomUp_r28 F K = L6_DomUp_R F 28 [] [6] K := by kernel_rfl

def L6_DomUp_r27 (F : Nat) (x2 x8 x9 x10 x11 x12 x15 : Value) (K : Value → Value → Value → Value → Value → Value → Value → Value → M Value) : M Value :=
  bnd (opFieldAddr 1 x8) fun v90 => bnd (opLoad v90) fun v91 => bnd (dom_Above F x9 x12 x15) fun v89 => bnd (opChk false v90 v91) fun _ => bnd (R1_Above F v91 x2 x12 x15) fun v95 => bnd (opEq eqB true v89 v95) fun v96 => K x2 x8 x9 x10 x11 x12 x15 v96

theorem L6_DomUp_r27_ok (F : Nat) (x2 x8 x9 x10 x11 x12 x15 : Value) (K : Value → Value → Value → Value → Value → Value → Value → Value → M Value) : L6_DomUp_r27 F x2 x8 x9 x10 x11 x12 x15 K = L6_DomUp_D F 27 [0, 1, 2, 4, 5, 6, 7, 8, 3, 9, 10] [(15, x15), (12, x12), (11, x11), (10, x10), (9, x9), (8, x8), (2, x2)] [2, 8, 9, 10, 11, 12, 15, 96] K := by kernel_rfl

theorem L6_DomUp_r27_good : goodOrder (opsOf Try.f3 27) [0, 1, 2, 4, 5, 6, 7, 8, 3, 9, 10] = true := by kernel_rfl

def L6_DomUp_r25 (F : Nat) (x2 x8 x9 x10 x11 x12 x15 : Value) (K : Value → Value → Value → Value → Value → Value → Value → Value → M Value) : M Value :=
  bnd (opFieldAddr 0 x8) fun v81 => bnd (opLoad v81) fun v82 => bnd (opBin .lss x15 v82) fun v83 => K x2 x8 x9 x10 x11 x12 x15 v83

theorem L6_DomUp_r25_ok (F : Nat) (x2 x8 x9 x10 x11 x12 x15 : Value) (K : Value → Value → Value → Value → Value → Value → Value → Value → M Value) : L6_DomUp_r25 F x2 x8 x9 x10 x11 x12 x15 K = L6_DomUp_R F 25 [(15, x15), (12, x12), (11, x11), (10, x10), (9, x9), (8, x8), (2, x2)] [2, 8, 9, 10, 11, 12, 15, 83] K := by kernel_rfl

def L6_DomUp_b3 (F : Nat) (E3_4 : Value → Value → Value → Value → Value → Value → M Value) (A3 : Value → Value → Value → Value → Value → Value → Value → M Value) (x2 x8 x9 x10 x11 x12 x15 : Value) : M Value :=
  L6_DomUp_r25 F x2 x8 x9 x10 x11 x12 x15 (fun x2 x8 x9 x10 x11 x12 x15 x83 => onB x83 (L6_DomUp_r27 F x2 x8 x9 x10 x11 x12 x15 (fun x2 x8 x9 x10 x11 x12 x15 x96 => onB x96 (L6_DomUp_r28 F (fun x6 => ret x6)) (L6_DomUp_r26 F x2 x8 x9 x10 x11 x12 x15 (fun x2 x8 x9 x10 x11 x12 x15 => A3 x2 x8 x9 x10 x11 x12 x15)))) (E3_4 x2 x8 x9 x10 x11 x12))

def L6_DomUp_l3 (F : Nat) (E3_4 : Value → Value → Value → Value → Value → Value → M Value) : Nat → Value → Value → Value → Value → Value → Value → Value → M Value
  | 0, _, _, _, _, _, _, _ => fail
  | k3 + 1, x2, x8, x9, x10, x11, x12, x15 => L6_DomUp_b3 F E3_4 (L6_DomUp_l3 F E3_4 k3) x2 x8 x9 x10 x11 x12 x15

theorem L6_DomUp_l3_s (F : Nat) (E3_4 : Value → Value → Value → Value → Value → Value → M Value) (k3 : Nat) (x2 x8 x9 x10 x11 x12 x15 : Value) : L6_DomUp_l3 F E3_4 (k3 + 1) x2 x8 x9 x10 x11 x12 x15 = L6_DomUp_b3 F E3_4 (L6_DomUp_l3 F E3_4 k3) x2 x8 x9 x10 x11 x12 x15 := rfl

def L6_DomUp_r24 (F : Nat) (x2 x8 x9 x10 x11 x12 : Value) (K : Value → Value → Value → Value → Value → Value → Value → M Value) : M Value :=
  K x2 x8 x9 x10 x11 x12 (.int .i64 (0))

theorem L6_DomUp_r24_ok (F : Nat) (x2 x8 x9 x10 x11 x12 : Value) (K : Value → Value → Value → Value → Value → Value → Value → M Value) : L6_DomUp_r24 F x2 x8 x9 x10 x11 x12 K = L6_DomUp_R F 24 [(12, x12), (11, x11), (10, x10), (9, x9), (8, x8), (2, x2)] [2, 8, 9, 10, 11, 12, 15] K := by kernel_rfl

def L6_DomUp_r23 (F : Nat) (K : Value → M Value) : M Value :=
  K (.bool false)

theorem L6_DomUp_r23_ok (F : Nat) (K : Value → M Value) : L6_DomUp_r23 F K = L6_DomUp_R F 23 [] [6] K := by kernel_rfl

def L6_DomUp_r22 (F : Nat) (x2 x8 x9 x10 x11 x12 x13 : Value) (K : Value → Value → Value → Value → Value → Value → Value → M Value) : M Value :=
  bnd (opLen x11) fun v68 => bnd (opFieldAddr 0 x8) fun v69 => bnd (opLoad v69) fun v70 => bnd (opBin .neq v68 v70) fun v71 => onB v71 (K x2 x8 x9 x10 x11 x12 (.bool true)) (bnd (opIndexAddr 1 x11 x12) fun v75 => bnd (opLoad v75) fun v76 => bnd (opBin .neq v76 x13) fun v78 => K x2 x8 x9 x10 x11 x12 v78)

theorem L6_DomUp_r22_ok (F : Nat) (x2 x8 x9 x10 x11 x12 x13 : Value) (K : Value → Value → Value → Value → Value → Value → Value → M Value) : L6_DomUp_r22 F x2 x8 x9 x10 x11 x12 x13 K = L6_DomUp_R F 22 [(13, x13), (12, x12), (11, x11), (10, x10), (9, x9), (8, x8), (2, x2)] [2, 8, 9, 10, 11, 12, 79] K := by kernel_rfl

def L6_DomUp_k4 (F : Nat) (A1 : Value → Value → Value → Value → Value → Value → M Value) (x2 x8 x9 x10 x11 x12 x13 : Value) : M Value :=
  L6_DomUp_r22 F x2 x8 x9 x10 x11 x12 x13 (fun x2 x8 x9 x10 x11 x12 x79 => onB x79 (L6_DomUp_r23 F (fun x6 => ret x6)) (L6_DomUp_r24 F x2 x8 x9 x10 x11 x12 (fun x2 x8 x9 x10 x11 x12 x15 => L6_DomUp_l3 F (fun x2 x8 x9 x10 x11 x12 => L6_DomUp_k2 F A1 x2 x8 x9 x10 x11 x12) F x2 x8 x9 x10 x11 x12 x15)))

def L6_DomUp_r20 (F : Nat) (x2 x8 x9 x10 x11 x12 x13 x14 : Value) (K : Value → Value → Value → Value → Value → Value → Value → Value → M Value) : M Value :=
  bnd (opIndexAddr 1 x10 x14) fun v63 => bnd (opLoad v63) fun v64 => K x2 x8 x9 x10 x11 x12 x13 v64

theorem L6_DomUp_r20_ok (F : Nat) (x2 x8 x9 x10 x11 x12 x13 x14 : Value) (K : Value → Value → Value → Value → Value → Value → Value → Value → M Value) : L6_DomUp_r20 F x2 x8 x9 x10 x11 x12 x13 x14 K = L6_DomUp_R F 20 [(14, x14), (13, x13), (12, x12), (11, x11), (10, x10), (9, x9), (8, x8), (2, x2)] [2, 8, 9, 10, 11, 12, 13, 14] K := by kernel_rfl

def L6_DomUp_r21 (F : Nat) (x2 x8 x9 x10 x11 x12 x13 x14 : Value) (K : Value → Value → Value → Value → Value → Value → Value → Value → M Value) : M Value :=
  bnd (opBin .add x13 (.int .i64 (1))) fun v66 => K x2 x8 x9 x10 x11 x12 v66 x14

theorem L6_DomUp_r21_ok (F : Nat) (x2 x8 x9 x10 x11 x12 x13 x14 : Value) (K : Value → Value → Value → Value → Value → Value → Value → Value → M Value) : L6_DomUp_r21 F x2 x8 x9 x10 x11 x12 x13 x14 K = L6_DomUp_R F 21 [(14, x14), (13, x13), (12, x12), (11, x11), (10, x10), (9, x9), (8, x8), (2, x2)] [2, 8, 9, 10, 11, 12, 13, 14] K := by kernel_rfl

def L6_DomUp_r19 (F : Nat) (x2 x8 x9 x10 x11 x12 x13 x14 : Value) (K : Value → Value → Value → Value → Value → Value → Value → Value → Value → M Value) : M Value :=
  bnd (opBin .neq x14 x2) fun v60 => K x2 x8 x9 x10 x11 x12 x13 x14 v60

theorem L6_DomUp_r19_ok (F : Nat) (x2 x8 x9 x10 x11 x12 x13 x14 : Value) (K : Value → Value → Value → Value → Value → Value → Value → Value → Value → M Value) : L6_DomUp_r19 F x2 x8 x9 x10 x11 x12 x13 x14 K = L6_DomUp_R F 19 [(14, x14), (13, x13), (12, x12), (11, x11), (10, x10), (9, x9), (8, x8), (2, x2)] [2, 8, 9, 10, 11, 12, 13, 14, 60] K := by kernel_rfl

def L6_DomUp_b5 (F : Nat) (E5_2 : Value → Value → Value → Value → Value → Value → Value → M Value) (A5 : Value → Value → Value → Value → Value → Value → Value → Value → M Value) (x2 x8 x9 x10 x11 x12 x13 x14 : Value) : M Value :=
  L6_DomUp_r19 F x2 x8 x9 x10 x11 x12 x13 x14 (fun x2 x8 x9 x10 x11 x12 x13 x14 x60 => onB x60 (L6_DomUp_r21 F x2 x8 x9 x10 x11 x12 x13 x14 (fun x2 x8 x9 x10 x11 x12 x13 x14 => L6_DomUp_r20 F x2 x8 x9 x10 x11 x12 x13 x14 (fun x2 x8 x9 x10 x11 x12 x13 x14 => A5 x2 x8 x9 x10 x11 x12 x13 x14))) (E5_2 x2 x8 x9 x10 x11 x12 x13))

def L6_DomUp_l5 (F : Nat) (E5_2 : Value → Value → Value → Value → Value → Value → Value → M Value) : Nat → Value → Value → Value → Value → Value → Value → Value → Value → M Value
  | 0, _, _, _, _, _, _, _, _ => fail
  | k5 + 1, x2, x8, x9, x10, x11, x12, x13, x14 => L6_DomUp_b5 F E5_2 (L6_DomUp_l5 F E5_2 k5) x2 x8 x9 x10 x11 x12 x13 x14

theorem L6_DomUp_l5_s (F : Nat) (E5_2 : Value → Value → Value → Value → Value → Value → Value → M Value) (k5 : Nat) (x2 x8 x9 x10 x11 x12 x13 x14 : Value) : L6_DomUp_l5 F E5_2 (k5 + 1) x2 x8 x9 x10 x11 x12 x13 x14 = L6_DomUp_b5 F E5_2 (L6_DomUp_l5 F E5_2 k5) x2 x8 x9 x10 x11 x12 x13 x14 := rfl

def L6_DomUp_r18 (F : Nat) (x2 x8 x9 x10 x11 x12 x13 : Value) (K : Value → Value → Value → Value → Value → Value → Value → Value → M Value) : M Value :=
  K x2 x8 x9 x10 x11 x12 x13 x12

theorem L6_DomUp_r18_ok (F : Nat) (x2 x8 x9 x10 x11 x12 x13 : Value) (K : Value → Value → Value → Value → Value → Value → Value → Value → M Value) : L6_DomUp_r18 F x2 x8 x9 x10 x11 x12 x13 K = L6_DomUp_R F 18 [(13, x13), (12, x12), (11, x11), (10, x10), (9, x9), (8, x8), (2, x2)] [2, 8, 9, 10, 11, 12, 13, 14] K := by kernel_rfl

def L6_DomUp_r17 (F : Nat) (x2 x8 x9 x10 x11 x12 : Value) (K : Value → Value → Value → Value → Value → Value → Value → M Value) : M Value :=
  K x2 x8 x9 x10 x11 x12 (.int .i64 (0))

theorem L6_DomUp_r17_ok (F : Nat) (x2 x8 x9 x10 x11 x12 : Value) (K : Value → Value → Value → Value → Value → Value → Value → M Value) : L6_DomUp_r17 F x2 x8 x9 x10 x11 x12 K = L6_DomUp_R F 17 [(12, x12), (11, x11), (10, x10), (9, x9), (8, x8), (2, x2)] [2, 8, 9, 10, 11, 12, 13] K := by kernel_rfl

def L6_DomUp_r16 (F : Nat) (x2 x8 x9 x10 x11 x12 x13 : Value) (K : Value → Value → Value → Value → Value → Value → Value → Value → M Value) : M Value :=
  bnd (opIndexAddr 1 x10 x12) fun v54 => bnd (opLoad v54) fun v55 => bnd (opBin .geq v55 (.int .i64 (0))) fun v56 => K x2 x8 x9 x10 x11 x12 x13 v56

theorem L6_DomUp_r16_ok (F : Nat) (x2 x8 x9 x10 x11 x12 x13 : Value) (K : Value → Value → Value → Value → Value → Value → Value → Value → M Value) : L6_DomUp_r16 F x2 x8 x9 x10 x11 x12 x13 K = L6_DomUp_R F 16 [(13, x13), (12, x12), (11, x11), (10, x10), (9, x9), (8, x8), (2, x2)] [2, 8, 9, 10, 11, 12, 13, 56] K := by kernel_rfl

def L6_DomUp_r15 (F : Nat) (x2 x8 x9 x10 x11 x12 : Value) (K : Value → Value → Value → Value → Value → Value → Value → M Value) : M Value :=
  K x2 x8 x9 x10 x11 x12 (.int .i64 (-1))

theorem L6_DomUp_r15_ok (F : Nat) (x2 x8 x9 x10 x11 x12 : Value) (K : Value → Value → Value → Value → Value → Value → Value → M Value) : L6_DomUp_r15 F x2 x8 x9 x10 x11 x12 K = L6_DomUp_R F 15 [(12, x12), (11, x11), (10, x10), (9, x9), (8, x8), (2, x2)] [2, 8, 9, 10, 11, 12, 13] K := by kernel_rfl

def L6_DomUp_r13 (F : Nat) (x2 x8 x9 x10 x11 x12 : Value) (K : Value → Value → Value → Value → Value → Value → Value → M Value) : M Value :=
  bnd (opFieldAddr 0 x8) fun v47 => bnd (opLoad v47) fun v48 => bnd (opBin .lss x12 v48) fun v49 => K x2 x8 x9 x10 x11 x12 v49

theorem L6_DomUp_r13_ok (F : Nat) (x2 x8 x9 x10 x11 x12 : Value) (K : Value → Value → Value → Value → Value → Value → Value → M Value) : L6_DomUp_r13 F x2 x8 x9 x10 x11 x12 K = L6_DomUp_R F 13 [(12, x12), (11, x11), (10, x10), (9, x9), (8, x8), (2, x2)] [2, 8, 9, 10, 11, 12, 49] K := by kernel_rfl

def L6_DomUp_b1 (F : Nat) (E1_0 : Value → Value → M Value) (A1 : Value → Value → Value → Value → Value → Value → M Value) (x2 x8 x9 x10 x11 x12 : Value) : M Value :=
  L6_DomUp_r13 F x2 x8 x9 x10 x11 x12 (fun x2 x8 x9 x10 x11 x12 x49 => onB x49 (L6_DomUp_r15 F x2 x8 x9 x10 x11 x12 (fun x2 x8 x9 x10 x11 x12 x13 => L6_DomUp_r16 F x2 x8 x9 x10 x11 x12 x13 (fun x2 x8 x9 x10 x11 x12 x13 x56 => onB x56 (L6_DomUp_r17 F x2 x8 x9 x10 x11 x12 (fun x2 x8 x9 x10 x11 x12 x13 => L6_DomUp_r18 F x2 x8 x9 x10 x11 x12 x13 (fun x2 x8 x9 x10 x11 x12 x13 x14 => L6_DomUp_l5 F (fun x2 x8 x9 x10 x11 x12 x13 => L6_DomUp_k4 F A1 x2 x8 x9 x10 x11 x12 x13) F x2 x8 x9 x10 x11 x12 x13 x14))) (L6_DomUp_k4 F A1 x2 x8 x9 x10 x11 x12 x13)))) (E1_0 x8 x9))

def L6_DomUp_l1 (F : Nat) (E1_0 : Value → Value → M Value) : Nat → Value → Value → Value → Value → Value → Value → M Value
  | 0, _, _, _, _, _, _ => fail
  | k1 + 1, x2, x8, x9, x10, x11, x12 => L6_DomUp_b1 F E1_0 (L6_DomUp_l1 F E1_0 k1) x2 x8 x9 x10 x11 x12

theorem L6_DomUp_l1_s (F : Nat) (E1_0 : Value → Value → M Value) (k1 : Nat) (x2 x8 x9 x10 x11 x12 : Value) : L6_DomUp_l1 F E1_0 (k1 + 1) x2 x8 x9 x10 x11 x12 = L6_DomUp_b1 F E1_0 (L6_DomUp_l1 F E1_0 k1) x2 x8 x9 x10 x11 x12 := rfl

def L6_DomUp_r12 (F : Nat) (x2 x8 x9 x10 x11 : Value) (K : Value → Value → Value → Value → Value → Value → M Value) : M Value :=
  K x2 x8 x9 x10 x11 (.int .i64 (0))

theorem L6_DomUp_r12_ok (F : Nat) (x2 x8 x9 x10 x11 : Value) (K : Value → Value → Value → Value → Value → Value → M Value) : L6_DomUp_r12 F x2 x8 x9 x10 x11 K = L6_DomUp_R F 12 [(11, x11), (10, x10), (9, x9), (8, x8), (2, x2)] [2, 8, 9, 10, 11, 12] K := by kernel_rfl

def L6_DomUp_r11 (F : Nat) (x2 x8 x9 x10 : Value) (K : Value → Value → Value → Value → Value → M Value) : M Value :=
  bnd (dom_Depth F x9) fun v45 => K x2 x8 x9 x10 v45

theorem L6_DomUp_r11_ok (F : Nat) (x2 x8 x9 x10 : Value) (K : Value → Value → Value → Value → Value → M Value) : L6_DomUp_r11 F x2 x8 x9 x10 K = L6_DomUp_R F 11 [(10, x10), (9, x9), (8, x8), (2, x2)] [2, 8, 9, 10, 11] K := by kernel_rfl

def L6_DomUp_r10 (F : Nat) (K : Value → M Value) : M Value :=
  K (.bool false)

theorem L6_DomUp_r10_ok (F : Nat) (K : Value → M Value) : L6_DomUp_r10 F K = L6_DomUp_R F 10 [] [6] K := by kernel_rfl

def L6_DomUp_r9 (F : Nat) (x2 x8 x9 x10 : Value) (K : Value → Value → Value → Value → Value → M Value) : M Value :=
  bnd (R1_Eq F x9 x10) fun v42 => bnd (opNot v42) fun v43 => K x2 x8 x9 x10 v43

theorem L6_DomUp_r9_ok (F : Nat) (x2 x8 x9 x10 : Value) (K : Value → Value → Value → Value → Value → M Value) : L6_DomUp_r9 F x2 x8 x9 x10 K = L6_DomUp_R F 9 [(10, x10), (9, x9), (8, x8), (2, x2)] [2, 8, 9, 10, 43] K := by kernel_rfl

def L6_DomUp_r8 (F : Nat) (x2 x8 x9 : Value) (K : Value → Value → Value → Value → M Value) : M Value :=
  bnd (opFieldAddr 1 x8) fun v36 => bnd (opLoad v36) fun v37 => bnd (R1_Up F v37 x2) fun v39 => K x2 x8 x9 v39

theorem L6_DomUp_r8_ok (F : Nat) (x2 x8 x9 : Value) (K : Value → Value → Value → Value → M Value) : L6_DomUp_r8 F x2 x8 x9 K = L6_DomUp_R F 8 [(9, x9), (8, x8), (2, x2)] [2, 8, 9, 10] K := by kernel_rfl

def L6_DomUp_r7 (F : Nat) (x9 : Value) (K : Value → M Value) : M Value :=
  bnd (opLen x9) fun v34 => bnd (opBin .eql v34 (.int .i64 (0))) fun v35 => K v35

theorem L6_DomUp_r7_ok (F : Nat) (x9 : Value) (K : Value → M Value) : L6_DomUp_r7 F x9 K = L6_DomUp_R F 7 [(9, x9)] [6] K := by kernel_rfl

def L6_DomUp_r6 (F : Nat) (x2 x8 x9 : Value) (K : Value → Value → Value → Value → M Value) : M Value :=
  bnd (opBin .lss x2 (.int .i64 (0))) fun v26 => onB v26 (K x2 x8 x9 (.bool true)) (bnd (opFieldAddr 0 x8) fun v29 => bnd (opLoad v29) fun v30 => bnd (opBin .geq x2 v30) fun v31 => K x2 x8 x9 v31)

theorem L6_DomUp_r6_ok (F : Nat) (x2 x8 x9 : Value) (K : Value → Value → Value → Value → M Value) : L6_DomUp_r6 F x2 x8 x9 K = L6_DomUp_R F 6 [(9, x9), (8, x8), (2, x2)] [2, 8, 9, 32] K := by kernel_rfl

def L6_DomUp_r5 (F : Nat) (x2 x8 : Value) (K : Value → Value → Value → M Value) : M Value :=
  bnd (opLoadN 2 x8) fun v22 => bnd (dom_Up F v22 x2) fun v24 => K x2 x8 v24

theorem L6_DomUp_r5_ok (F : Nat) (x2 x8 : Value) (K : Value → Value → Value → M Value) : L6_DomUp_r5 F x2 x8 K = L6_DomUp_R F 5 [(8, x8), (2, x2)] [2, 8, 9] K := by kernel_rfl

def L6_DomUp_r4 (F : Nat) (x0 x1 x2 : Value) (K : Value → Value → M Value) : M Value :=
  bnd (L5_Made F x0 x1) fun v21 => bnd (opPtr [(.int .i64 (0)), (.slice none 0 0)]) fun v8 => bnd (opStoreN 2 v8 v21) fun _ => K x2 v8

theorem L6_DomUp_r4_ok (F : Nat) (x0 x1 x2 : Value) (K : Value → Value → M Value) : L6_DomUp_r4 F x0 x1 x2 K = L6_DomUp_R F 4 [(2, x2), (1, x1), (0, x0)] [2, 8] K := by kernel_rfl

def L6_DomUp_r3 (F : Nat) (K : Value → M Value) : M Value :=
  K (.bool false)

theorem L6_DomUp_r3_ok (F : Nat) (K : Value → M Value) : L6_DomUp_r3 F K = L6_DomUp_R F 3 [] [6] K := by kernel_rfl

def L6_DomUp_r2 (F : Nat) (x0 x1 x2 x7 : Value) (K : Value → Value → Value → Value → M Value) : M Value :=
  bnd (opNot x7) fun v18 => K x0 x1 x2 v18

theorem L6_DomUp_r2_ok (F : Nat) (x0 x1 x2 x7 : Value) (K : Value → Value → Value → Value → M Value) : L6_DomUp_r2 F x0 x1 x2 x7 K = L6_DomUp_R F 2 [(7, x7), (2, x2), (1, x1), (0, x0)] [0, 1, 2, 18] K := by kernel_rfl

def L6_DomUp_r1 (F : Nat) (x0 x1 x2 : Value) (K : Value → Value → Value → Value → M Value) : M Value :=
  bnd (L6_begun F) fun v16 => K x0 x1 x2 v16

theorem L6_DomUp_r1_ok (F : Nat) (x0 x1 x2 : Value) (K : Value → Value → Value → Value → M Value) : L6_DomUp_r1 F x0 x1 x2 K = L6_DomUp_R F 1 [(2, x2), (1, x1), (0, x0)] [0, 1, 2, 7] K := by kernel_rfl

def L6_DomUp_r0 (F : Nat) (x0 x1 x2 : Value) (K : Value → Value → Value → M Value) : M Value :=
  K x0 x1 x2

theorem L6_DomUp_r0_ok (F : Nat) (x0 x1 x2 : Value) (K : Value → Value → Value → M Value) : L6_DomUp_r0 F x0 x1 x2 K = L6_DomUp_R F 0 [(2, x2), (1, x1), (0, x0)] [0, 1, 2] K := by kernel_rfl

def L6_DomUp (F : Nat) (x0 x1 x2 : Value) : M Value :=
  L6_DomUp_r0 F x0 x1 x2 (fun x0 x1 x2 => L6_DomUp_r1 F x0 x1 x2 (fun x0 x1 x2 x7 => L6_DomUp_r2 F x0 x1 x2 x7 (fun x0 x1 x2 x18 => onB x18 (L6_DomUp_r3 F (fun x6 => ret x6)) (L6_DomUp_r4 F x0 x1 x2 (fun x2 x8 => L6_DomUp_r5 F x2 x8 (fun x2 x8 x9 => L6_DomUp_r6 F x2 x8 x9 (fun x2 x8 x9 x32 => onB x32 (L6_DomUp_r7 F x9 (fun x6 => ret x6)) (L6_DomUp_r8 F x2 x8 x9 (fun x2 x8 x9 x10 => L6_DomUp_r9 F x2 x8 x9 x10 (fun x2 x8 x9 x10 x43 => onB x43 (L6_DomUp_r10 F (fun x6 => ret x6)) (L6_DomUp_r11 F x2 x8 x9 x10 (fun x2 x8 x9 x10 x11 => L6_DomUp_r12 F x2 x8 x9 x10 x11 (fun x2 x8 x9 x10 x11 x12 => L6_DomUp_l1 F (fun x8 x9 => L6_DomUp_k0 F x8 x9) F x2 x8 x9 x10 x11 x12)))))))))))))

def L6_DomUp_m (F : Nat) : List Value → M Value
  | [x0, x1, x2] => L6_DomUp F x0 x1 x2
  | _ => fail

theorem L6_DomUp_body : Try.f3.body = some (.seq (.region 0 (opsOf Try.f3 0) false) (.seq (.region 1 (opsOf Try.f3 1) false) (.seq (.seq (.region 2 (opsOf Try.f3 2) false) (.cond (.tmp 18) (.seq (.region 3 (opsOf Try.f3 3) false) .ret) .skip)) (.seq (.region 4 (opsOf Try.f3 4) false) (.seq (.region 5 (opsOf Try.f3 5) false) (.seq (.seq (.region 6 (opsOf Try.f3 6) false) (.cond (.tmp 32) (.seq (.region 7 (opsOf Try.f3 7) false) .ret) .skip)) (.seq (.region 8 (opsOf Try.f3 8) false) (.seq (.seq (.region 9 (opsOf Try.f3 9) false) (.cond (.tmp 43) (.seq (.region 10 (opsOf Try.f3 10) false) .ret) .skip)) (.seq (.region 11 (opsOf Try.f3 11) false) (.seq (.seq (.region 12 (opsOf Try.f3 12) false) (.block 0 (.loop (.seq (.seq (.region 13 (opsOf Try.f3 13) false) (.cond (.tmp 49) .skip (.exit 0))) (.seq (.block 1 (.seq (.region 15 (opsOf Try.f3 15) false) (.seq (.seq (.region 16 (opsOf Try.f3 16) false) (.cond (.tmp 56) (.seq (.region 17 (opsOf Try.f3 17) false) (.seq (.region 18 (opsOf Try.f3 18) false) (.block 2 (.loop (.seq (.seq (.region 19 (opsOf Try.f3 19) false) (.cond (.tmp 60) .skip (.exit 2))) (.seq (.block 3 (.region 21 (opsOf Try.f3 21) false)) (.region 20 (opsOf Try.f3 20) false))))))) .skip)) (.seq (.seq (.region 22 (opsOf Try.f3 22) false) (.cond (.tmp 79) (.seq (.region 23 (opsOf Try.f3 23) false) .ret) .skip)) (.seq (.region 24 (opsOf Try.f3 24) false) (.block 4 (.loop (.seq (.seq (.region 25 (opsOf Try.f3 25) false) (.cond (.tmp 83) .skip (.exit 4))) (.seq (.block 5 (.seq (.region 27 (opsOf Try.f3 27) true) (.cond (.tmp 96) (.seq (.region 28 (opsOf Try.f3 28) false) .ret) .skip))) (.region 26 (opsOf Try.f3 26) false)))))))))) (.region 14 (opsOf Try.f3 14) false)))))) (.seq (.region 29 (opsOf Try.f3 29) false) .ret))))))))))) := by kernel_rfl

theorem L6_DomUp_ok (F : Nat) : Sim Try.prog TryG 3 (L6_DomUp_m F) := by
 have hE : EnvOK Try.prog TryG (L6_DomUp_env F) := (EnvOK.cons (L6_begun_ok F) (EnvOK.cons (L5_Made_ok F) (EnvOK.cons (dom_Up_ok F) (EnvOK.cons (R1_Up_ok F) (EnvOK.cons (R1_Eq_ok F) (EnvOK.cons (dom_Depth_ok F) (EnvOK.cons (dom_Above_ok F) (EnvOK.cons (R1_Above_ok F) EnvOK.nil))))))))
 refine Sim.of_body (E := L6_DomUp_env F) Try.func3 L6_DomUp_body Try.call3 ?_ ?_
 · intro args hl; unfold L6_DomUp_m; split
   · exact absurd hl (Nat.not_lt.2 (Nat.le_of_ble_eq_true rfl))
   · rfl
 · intro args ρ h w z; unfold L6_DomUp_m; split
   · rename_i x0 x1 x2; show OKc _ _ [(0, x0), (1, x1), (2, x2)] _ _
     refine rSeq ?_
     refine cLess [2, 1, 0] ?_
     refine xR hE [0, 1, 2] rfl (L6_DomUp_r0_ok F _ _ _ _) ?_
     intro x0 x1 x2
     show OKq _ _ _ [(2, x2), (1, x1), (0, x0)] _
     refine rThen ?_
     refine rSeq ?_
     refine cLess [2, 1, 0] ?_
     refine xR hE [0, 1, 2, 7] rfl (L6_DomUp_r1_ok F _ _ _ _) ?_
     intro x0 x1 x2 x7
     show OKq _ _ _ [(7, x7), (2, x2), (1, x1), (0, x0)] _
     refine rThen ?_
     refine rSeq ?_
     refine rSeq ?_
     refine cLess [7, 2, 1, 0] ?_
     refine xR hE [0, 1, 2, 18] rfl (L6_DomUp_r2_ok F _ _ _ _ _) ?_
     intro x0 x1 x2 x18
     show OKq _ _ _ [(18, x18), (2, x2), (1, x1), (0, x0)] _
     refine rThen ?_
     refine xCond rfl rfl ?_ ?_
     · refine rSeq ?_
       refine cLess [] ?_
       refine xR hE [6] rfl (L6_DomUp_r3_ok F _) ?_
       intro x6
       show OKq _ _ _ [(6, x6)] _
       refine rThen ?_
       refine rRet ?_
       refine xThenR ?_
       exact rDone (.inr rfl) rfl
     · refine rSkip ?_
       refine rThen ?_
       refine rSeq ?_
       refine cLess [2, 1, 0] ?_
       refine xR hE [2, 8] rfl (L6_DomUp_r4_ok F _ _ _ _) ?_
       intro x2 x8
       show OKq _ _ _ [(8, x8), (2, x2)] _
       refine rThen ?_
       refine rSeq ?_
       refine cLess [8, 2] ?_
       refine xR hE [2, 8, 9] rfl (L6_DomUp_r5_ok F _ _ _) ?_
       intro x2 x8 x9
       show OKq _ _ _ [(9, x9), (8, x8), (2, x2)] _
       refine rThen ?_
       refine rSeq ?_
       refine rSeq ?_
       refine cLess [9, 8, 2] ?_
       refine xR hE [2, 8, 9, 32] rfl (L6_DomUp_r6_ok F _ _ _ _) ?_
       intro x2 x8 x9 x32
       show OKq _ _ _ [(32, x32), (9, x9), (8, x8), (2, x2)] _
       refine rThen ?_
       refine xCond rfl rfl ?_ ?_
       · refine rSeq ?_
         refine cLess [9] ?_
         refine xR hE [6] rfl (L6_DomUp_r7_ok F _ _) ?_
         intro x6
         show OKq _ _ _ [(6, x6)] _
         refine rThen ?_
         refine rRet ?_
         refine xThenR ?_
         exact rDone (.inr rfl) rfl
       · refine rSkip ?_
         refine rThen ?_
         refine rSeq ?_
         refine cLess [9, 8, 2] ?_
         refine xR hE [2, 8, 9, 10] rfl (L6_DomUp_r8_ok F _ _ _ _) ?_
         intro x2 x8 x9 x10
         show OKq _ _ _ [(10, x10), (9, x9), (8, x8), (2, x2)] _
         refine rThen ?_
         refine rSeq ?_
         refine rSeq ?_
         refine cLess [10, 9, 8, 2] ?_
         refine xR hE [2, 8, 9, 10, 43] rfl (L6_DomUp_r9_ok F _ _ _ _ _) ?_
         intro x2 x8 x9 x10 x43
         show OKq _ _ _ [(43, x43), (10, x10), (9, x9), (8, x8), (2, x2)] _
         refine rThen ?_
         refine xCond rfl rfl ?_ ?_
         · refine rSeq ?_
           refine cLess [] ?_
           refine xR hE [6] rfl (L6_DomUp_r10_ok F _) ?_
           intro x6
           show OKq _ _ _ [(6, x6)] _
           refine rThen ?_
           refine rRet ?_
           refine xThenR ?_
           exact rDone (.inr rfl) rfl
         · refine rSkip ?_
           refine rThen ?_
           refine rSeq ?_
           refine cLess [10, 9, 8, 2] ?_
           refine xR hE [2, 8, 9, 10, 11] rfl (L6_DomUp_r11_ok F _ _ _ _ _) ?_
           intro x2 x8 x9 x10 x11
           show OKq _ _ _ [(11, x11), (10, x10), (9, x9), (8, x8), (2, x2)] _
           refine rThen ?_
           refine xSeq [8, 9] (L6_DomUp_k0 F ) ?_ fun hj0 => ?_
           · intro x8 x9
             show OKc _ _ [(9, x9), (8, x8)] _ _
             refine rSeq ?_
             refine cLess [9, 8] ?_
             refine xR hE [6] rfl (L6_DomUp_r29_ok F _ _ _) ?_
             intro x6
             show OKq _ _ _ [(6, x6)] _
             refine rThen ?_
             refine rRet ?_
             exact rDone (.inr rfl) rfl
           · refine rSeq ?_
             refine cLess [11, 10, 9, 8, 2] ?_
             refine xR hE [2, 8, 9, 10, 11, 12] rfl (L6_DomUp_r12_ok F _ _ _ _ _ _) ?_
             intro x2 x8 x9 x10 x11 x12
             show OKq _ _ _ [(12, x12), (11, x11), (10, x10), (9, x9), (8, x8), (2, x2)] _
             refine rThen ?_
             refine rBlock ?_
             refine cLess [12, 11, 10, 9, 8, 2] ?_
             refine xLoopAt [2, 8, 9, 10, 11, 12] [] (fun k1 => L6_DomUp_l1 F (fun x8 x9 => L6_DomUp_k0 F x8 x9) k1) F [x2, x8, x9, x10, x11, x12] rfl rfl (fun _ _ _ _ _ _ => rfl) fun I hI1 k1 => ?_
             intro x2 x8 x9 x10 x11 x12
             show OKc _ _ [(12, x12), (11, x11), (10, x10), (9, x9), (8, x8), (2, x2)] _ _
             refine cAs (L6_DomUp_l1_s F _ _ _ _ _ _ _ _) ?_
             refine rSeq ?_
             refine rSeq ?_
             refine cLess [12, 11, 10, 9, 8, 2] ?_
             refine xR hE [2, 8, 9, 10, 11, 12, 49] rfl (L6_DomUp_r13_ok F _ _ _ _ _ _ _) ?_
             intro x2 x8 x9 x10 x11 x12 x49
             show OKq _ _ _ [(49, x49), (12, x12), (11, x11), (10, x10), (9, x9), (8, x8), (2, x2)] _
             refine rThen ?_
             refine xCond rfl rfl ?_ ?_
             · refine rSkip ?_
               refine rThen ?_
               refine xSeq [2, 8, 9, 10, 11, 12] (L6_DomUp_k2 F (L6_DomUp_l1 F (fun x8 x9 => L6_DomUp_k0 F x8 x9) k1) ) ?_ fun hj2 => ?_
               · intro x2 x8 x9 x10 x11 x12
                 show OKc _ _ [(12, x12), (11, x11), (10, x10), (9, x9), (8, x8), (2, x2)] _ _
                 refine cLess [12, 11, 10, 9, 8, 2] ?_
                 refine xR hE [2, 8, 9, 10, 11, 12] rfl (L6_DomUp_r14_ok F _ _ _ _ _ _ _) ?_
                 intro x2 x8 x9 x10 x11 x12
                 show OKq _ _ _ [(12, x12), (11, x11), (10, x10), (9, x9), (8, x8), (2, x2)] _
                 exact qLess [12, 11, 10, 9, 8, 2] (hI1 k1 x2 x8 x9 x10 x11 x12)
               · refine rBlock ?_
                 refine rSeq ?_
                 refine cLess [12, 11, 10, 9, 8, 2] ?_
                 refine xR hE [2, 8, 9, 10, 11, 12, 13] rfl (L6_DomUp_r15_ok F _ _ _ _ _ _ _) ?_
                 intro x2 x8 x9 x10 x11 x12 x13
                 show OKq _ _ _ [(13, x13), (12, x12), (11, x11), (10, x10), (9, x9), (8, x8), (2, x2)] _
                 refine rThen ?_
                 refine xSeq [2, 8, 9, 10, 11, 12, 13] (L6_DomUp_k4 F (L6_DomUp_l1 F (fun x8 x9 => L6_DomUp_k0 F x8 x9) k1) ) ?_ fun hj4 => ?_
                 · intro x2 x8 x9 x10 x11 x12 x13
                   show OKc _ _ [(13, x13), (12, x12), (11, x11), (10, x10), (9, x9), (8, x8), (2, x2)] _ _
                   refine rSeq ?_
                   refine rSeq ?_
                   refine cLess [13, 12, 11, 10, 9, 8, 2] ?_
                   refine xR hE [2, 8, 9, 10, 11, 12, 79] rfl (L6_DomUp_r22_ok F _ _ _ _ _ _ _ _) ?_
                   intro x2 x8 x9 x10 x11 x12 x79
                   show OKq _ _ _ [(79, x79), (12, x12), (11, x11), (10, x10), (9, x9), (8, x8), (2, x2)] _
                   refine rThen ?_
                   refine xCond rfl rfl ?_ ?_
                   · refine rSeq ?_
                     refine cLess [] ?_
                     refine xR hE [6] rfl (L6_DomUp_r23_ok F _) ?_
                     intro x6
                     show OKq _ _ _ [(6, x6)] _
                     refine rThen ?_
                     refine rRet ?_
                     refine xThenR ?_
                     refine xBlockR ?_
                     refine xThenR ?_
                     refine xThenR ?_
                     refine xBlockR ?_
                     refine xThenR ?_
                     exact rDone (.inr rfl) rfl
                   · refine rSkip ?_
                     refine rThen ?_
                     refine rSeq ?_
                     refine cLess [12, 11, 10, 9, 8, 2] ?_
                     refine xR hE [2, 8, 9, 10, 11, 12, 15] rfl (L6_DomUp_r24_ok F _ _ _ _ _ _ _) ?_
                     intro x2 x8 x9 x10 x11 x12 x15
                     show OKq _ _ _ [(15, x15), (12, x12), (11, x11), (10, x10), (9, x9), (8, x8), (2, x2)] _
                     refine rThen ?_
                     refine rBlock ?_
                     refine cLess [15, 12, 11, 10, 9, 8, 2] ?_
                     refine xLoopAt [2, 8, 9, 10, 11, 12, 15] [] (fun k3 => L6_DomUp_l3 F (fun x2 x8 x9 x10 x11 x12 => L6_DomUp_k2 F (L6_DomUp_l1 F (fun x8 x9 => L6_DomUp_k0 F x8 x9) k1) x2 x8 x9 x10 x11 x12) k3) F [x2, x8, x9, x10, x11, x12, x15] rfl rfl (fun _ _ _ _ _ _ _ => rfl) fun I hI3 k3 => ?_
                     intro x2 x8 x9 x10 x11 x12 x15
                     show OKc _ _ [(15, x15), (12, x12), (11, x11), (10, x10), (9, x9), (8, x8), (2, x2)] _ _
                     refine cAs (L6_DomUp_l3_s F _ _ _ _ _ _ _ _ _) ?_
                     refine rSeq ?_
                     refine rSeq ?_
                     refine cLess [15, 12, 11, 10, 9, 8, 2] ?_
                     refine xR hE [2, 8, 9, 10, 11, 12, 15, 83] rfl (L6_DomUp_r25_ok F _ _ _ _ _ _ _ _) ?_
                     intro x2 x8 x9 x10 x11 x12 x15 x83
                     show OKq _ _ _ [(83, x83), (15, x15), (12, x12), (11, x11), (10, x10), (9, x9), (8, x8), (2, x2)] _
                     refine rThen ?_
                     refine xCond rfl rfl ?_ ?_
                     · refine rSkip ?_
                       refine rThen ?_
                       refine rSeq ?_
                       refine rBlock ?_
                       refine rSeq ?_
                       refine cLess [15, 12, 11, 10, 9, 8, 2] ?_
                       refine xD Trymix hE [2, 8, 9, 10, 11, 12, 15, 96] rfl L6_DomUp_r27_good (L6_DomUp_r27_ok F _ _ _ _ _ _ _ _) ?_
                       intro x2 x8 x9 x10 x11 x12 x15 x96
                       show OKq _ _ _ [(96, x96), (15, x15), (12, x12), (11, x11), (10, x10), (9, x9), (8, x8), (2, x2)] _
                       refine rThen ?_
                       refine xCond rfl rfl ?_ ?_
                       · refine rSeq ?_
                         refine cLess [] ?_
                         refine xR hE [6] rfl (L6_DomUp_r28_ok F _) ?_
                         intro x6
                         show OKq _ _ _ [(6, x6)] _
                         refine rThen ?_
                         refine rRet ?_
                         refine xBlockR ?_
                         refine xThenR ?_
                         refine xThenR ?_
                         refine xBlockR ?_
                         refine xBlockR ?_
                         refine xThenR ?_
                         refine xThenR ?_
                         refine xBlockR ?_
                         refine xThenR ?_
                         exact rDone (.inr rfl) rfl
                       · refine rSkip ?_
                         refine xBlockN ?_
                         refine rThen ?_
                         refine cLess [15, 12, 11, 10, 9, 8, 2] ?_
                         refine xR hE [2, 8, 9, 10, 11, 12, 15] rfl (L6_DomUp_r26_ok F _ _ _ _ _ _ _ _) ?_
                         intro x2 x8 x9 x10 x11 x12 x15
                         show OKq _ _ _ [(15, x15), (12, x12), (11, x11), (10, x10), (9, x9), (8, x8), (2, x2)] _
                         exact qLess [15, 12, 11, 10, 9, 8, 2] (hI3 k3 x2 x8 x9 x10 x11 x12 x15)
                     · refine rExit ?_
                       refine xThenX ?_
                       refine xThenX ?_
                       refine rOut ?_
                       refine xBlockN ?_
                       exact qLess [12, 11, 10, 9, 8, 2] (hj2 x2 x8 x9 x10 x11 x12)
                 · refine rSeq ?_
                   refine cLess [13, 12, 11, 10, 9, 8, 2] ?_
                   refine xR hE [2, 8, 9, 10, 11, 12, 13, 56] rfl (L6_DomUp_r16_ok F _ _ _ _ _ _ _ _) ?_
                   intro x2 x8 x9 x10 x11 x12 x13 x56
                   show OKq _ _ _ [(56, x56), (13, x13), (12, x12), (11, x11), (10, x10), (9, x9), (8, x8), (2, x2)] _
                   refine rThen ?_
                   refine xCond rfl rfl ?_ ?_
                   · refine rSeq ?_
                     refine cLess [12, 11, 10, 9, 8, 2] ?_
                     refine xR hE [2, 8, 9, 10, 11, 12, 13] rfl (L6_DomUp_r17_ok F _ _ _ _ _ _ _) ?_
                     intro x2 x8 x9 x10 x11 x12 x13
                     show OKq _ _ _ [(13, x13), (12, x12), (11, x11), (10, x10), (9, x9), (8, x8), (2, x2)] _
                     refine rThen ?_
                     refine rSeq ?_
                     refine cLess [13, 12, 11, 10, 9, 8, 2] ?_
                     refine xR hE [2, 8, 9, 10, 11, 12, 13, 14] rfl (L6_DomUp_r18_ok F _ _ _ _ _ _ _ _) ?_
                     intro x2 x8 x9 x10 x11 x12 x13 x14
                     show OKq _ _ _ [(14, x14), (13, x13), (12, x12), (11, x11), (10, x10), (9, x9), (8, x8), (2, x2)] _
                     refine rThen ?_
                     refine rBlock ?_
                     refine cLess [14, 13, 12, 11, 10, 9, 8, 2] ?_
                     refine xLoopAt [2, 8, 9, 10, 11, 12, 13, 14] [] (fun k5 => L6_DomUp_l5 F (fun x2 x8 x9 x10 x11 x12 x13 => L6_DomUp_k4 F (L6_DomUp_l1 F (fun x8 x9 => L6_DomUp_k0 F x8 x9) k1) x2 x8 x9 x10 x11 x12 x13) k5) F [x2, x8, x9, x10, x11, x12, x13, x14] rfl rfl (fun _ _ _ _ _ _ _ _ => rfl) fun I hI5 k5 => ?_
                     intro x2 x8 x9 x10 x11 x12 x13 x14
                     show OKc _ _ [(14, x14), (13, x13), (12, x12), (11, x11), (10, x10), (9, x9), (8, x8), (2, x2)] _ _
                     refine cAs (L6_DomUp_l5_s F _ _ _ _ _ _ _ _ _ _) ?_
                     refine rSeq ?_
                     refine rSeq ?_
                     refine cLess [14, 13, 12, 11, 10, 9, 8, 2] ?_
                     refine xR hE [2, 8, 9, 10, 11, 12, 13, 14, 60] rfl (L6_DomUp_r19_ok F _ _ _ _ _ _ _ _ _) ?_
                     intro x2 x8 x9 x10 x11 x12 x13 x14 x60
                     show OKq _ _ _ [(60, x60), (14, x14), (13, x13), (12, x12), (11, x11), (10, x10), (9, x9), (8, x8), (2, x2)] _
                     refine rThen ?_
                     refine xCond rfl rfl ?_ ?_
                     · refine rSkip ?_
                       refine rThen ?_
                       refine rSeq ?_
                       refine rBlock ?_
                       refine cLess [14, 13, 12, 11, 10, 9, 8, 2] ?_
                       refine xR hE [2, 8, 9, 10, 11, 12, 13, 14] rfl (L6_DomUp_r21_ok F _ _ _ _ _ _ _ _ _) ?_
                       intro x2 x8 x9 x10 x11 x12 x13 x14
                       show OKq _ _ _ [(14, x14), (13, x13), (12, x12), (11, x11), (10, x10), (9, x9), (8, x8), (2, x2)] _
                       refine xBlockN ?_
                       refine rThen ?_
                       refine cLess [14, 13, 12, 11, 10, 9, 8, 2] ?_
                       refine xR hE [2, 8, 9, 10, 11, 12, 13, 14] rfl (L6_DomUp_r20_ok F _ _ _ _ _ _ _ _ _) ?_
                       intro x2 x8 x9 x10 x11 x12 x13 x14
                       show OKq _ _ _ [(14, x14), (13, x13), (12, x12), (11, x11), (10, x10), (9, x9), (8, x8), (2, x2)] _
                       exact qLess [14, 13, 12, 11, 10, 9, 8, 2] (hI5 k5 x2 x8 x9 x10 x11 x12 x13 x14)
                     · refine rExit ?_
                       refine xThenX ?_
                       refine xThenX ?_
                       refine rOut ?_
                       exact qLess [13, 12, 11, 10, 9, 8, 2] (hj4 x2 x8 x9 x10 x11 x12 x13)
                   · refine rSkip ?_
                     exact qLess [13, 12, 11, 10, 9, 8, 2] (hj4 x2 x8 x9 x10 x11 x12 x13)
             · refine rExit ?_
               refine xThenX ?_
               refine xThenX ?_
               refine rOut ?_
               exact qLess [9, 8] (hj0 x8 x9)
   · exact rFail


/-! ### haruspex/haruspexlaw6.DomLaws -/

def L6_DomLaws_env (F : Nat) : Env := envOf [(9, L6_begun_m F), (10, L5_Made_m F), (11, dom_Up_m F), (15, dom_Above_m F), (17, R1_Reach_m F)]

noncomputable def L6_DomLaws_R (F : Nat) := rK Try.prog TryG (L6_DomLaws_env F) Try.f4
noncomputable def L6_DomLaws_D (F : Nat) := dK Try.prog TryG (L6_DomLaws_env F) Try.f4

def L6_DomLaws_r15 (F : Nat) (x13 x16 x17 x18 : Value) (K : Value → M Value) : M Value :=
  bnd (dom_Above F x13 x16 x18) fun v123 => bnd (opNot v123) fun v124 => onB v124 (K (.bool true)) (bnd (dom_Above F x13 x17 x18) fun v129 => bnd (opNot v129) fun v130 => onB v130 (K (.bool true)) (bnd (dom_Above F x13 x16 x17) fun v136 => onB v136 (K (.bool true)) (bnd (dom_Above F x13 x17 x16) fun v142 => K v142)))

theorem L6_DomLaws_r15_ok (F : Nat) (x13 x16 x17 x18 : Value) (K : Value → M Value) : L6_DomLaws_r15 F x13 x16 x17 x18 K = L6_DomLaws_R F 15 [(18, x18), (17, x17), (16, x16), (13, x13)] [10] K := by kernel_rfl

def L6_DomLaws_r14 (F : Nat) (K : Value → M Value) : M Value :=
  K (.bool false)

theorem L6_DomLaws_r14_ok (F : Nat) (K : Value → M Value) : L6_DomLaws_r14 F K = L6_DomLaws_R F 14 [] [10] K := by kernel_rfl

def L6_DomLaws_r13 (F : Nat) (x13 x16 x17 x18 : Value) (K : Value → Value → Value → Value → Value → M Value) : M Value :=
  bnd (dom_Above F x13 x16 x17) fun v89 => onB v89 (bnd (dom_Above F x13 x17 x18) fun v94 => onB v94 (bnd (dom_Above F x13 x16 x18) fun v100 => bnd (opNot v100) fun v101 => onB v101 (K x13 x16 x17 x18 (.bool true)) (bnd (opBin .neq x16 x17) fun v106 => onB v106 (bnd (dom_Above F x13 x16 x17) fun v111 => onB v111 (bnd (dom_Above F x13 x17 x16) fun v117 => K x13 x16 x17 x18 v117) (K x13 x16 x17 x18 (.bool false))) (K x13 x16 x17 x18 (.bool false)))) (bnd (opBin .neq x16 x17) fun v106 => onB v106 (bnd (dom_Above F x13 x16 x17) fun v111 => onB v111 (bnd (dom_Above F x13 x17 x16) fun v117 => K x13 x16 x17 x18 v117) (K x13 x16 x17 x18 (.bool false))) (K x13 x16 x17 x18 (.bool false)))) (bnd (opBin .neq x16 x17) fun v106 => onB v106 (bnd (dom_Above F x13 x16 x17) fun v111 => onB v111 (bnd (dom_Above F x13 x17 x16) fun v117 => K x13 x16 x17 x18 v117) (K x13 x16 x17 x18 (.bool false))) (K x13 x16 x17 x18 (.bool false)))

theorem L6_DomLaws_r13_ok (F : Nat) (x13 x16 x17 x18 : Value) (K : Value → Value → Value → Value → Value → M Value) : L6_DomLaws_r13 F x13 x16 x17 x18 K = L6_DomLaws_R F 13 [(18, x18), (17, x17), (16, x16), (13, x13)] [13, 16, 17, 18, 119] K := by kernel_rfl

def L6_DomLaws_r12 (F : Nat) (x2 x3 x4 x12 x13 : Value) (K : Value → Value → Value → Value → M Value) : M Value :=
  bnd (opFieldAddr 0 x12) fun v57 => bnd (opLoad v57) fun v58 => bnd (opBin .rem x2 v58) fun v59 => bnd (opFieldAddr 0 x12) fun v60 => bnd (opLoad v60) fun v61 => bnd (opBin .add v59 v61) fun v62 => bnd (opFieldAddr 0 x12) fun v63 => bnd (opLoad v63) fun v64 => bnd (opBin .rem v62 v64) fun v65 => bnd (opFieldAddr 0 x12) fun v67 => bnd (opLoad v67) fun v68 => bnd (opBin .rem x3 v68) fun v69 => bnd (opFieldAddr 0 x12) fun v70 => bnd (opLoad v70) fun v71 => bnd (opBin .add v69 v71) fun v72 => bnd (opFieldAddr 0 x12) fun v73 => bnd (opLoad v73) fun v74 => bnd (opBin .rem v72 v74) fun v75 => bnd (opFieldAddr 0 x12) fun v77 => bnd (opLoad v77) fun v78 => bnd (opBin .rem x4 v78) fun v79 => bnd (opFieldAddr 0 x12) fun v80 => bnd (opLoad v80) fun v81 => bnd (opBin .add v79 v81) fun v82 => bnd (opFieldAddr 0 x12) fun v83 => bnd (opLoad v83) fun v84 => bnd (opBin .rem v82 v84) fun v85 => K x13 v65 v75 v85

theorem L6_DomLaws_r12_ok (F : Nat) (x2 x3 x4 x12 x13 : Value) (K : Value → Value → Value → Value → M Value) : L6_DomLaws_r12 F x2 x3 x4 x12 x13 K = L6_DomLaws_D F 12 [0, 1, 2, 3, 4, 5, 6, 7, 8, 9, 10, 11, 12, 13, 14, 15, 16, 17, 18, 19, 20, 21, 22, 23, 24, 25, 26, 27, 28, 29, 30, 31, 32] [(13, x13), (12, x12), (4, x4), (3, x3), (2, x2)] [13, 16, 17, 18] K := by kernel_rfl

theorem L6_DomLaws_r12_good : goodOrder (opsOf Try.f4 12) [0, 1, 2, 3, 4, 5, 6, 7, 8, 9, 10, 11, 12, 13, 14, 15, 16, 17, 18, 19, 20, 21, 22, 23, 24, 25, 26, 27, 28, 29, 30, 31, 32] = true := by kernel_rfl

def L6_DomLaws_k0 (F : Nat) (x2 x3 x4 x12 x13 : Value) : M Value :=
  L6_DomLaws_r12 F x2 x3 x4 x12 x13 (fun x13 x16 x17 x18 => L6_DomLaws_r13 F x13 x16 x17 x18 (fun x13 x16 x17 x18 x119 => onB x119 (L6_DomLaws_r14 F (fun x10 => ret x10)) (L6_DomLaws_r15 F x13 x16 x17 x18 (fun x10 => ret x10))))

def L6_DomLaws_r9 (F : Nat) (x2 x3 x4 x12 x13 x14 x15 : Value) (K : Value → Value → Value → Value → Value → Value → Value → M Value) : M Value :=
  bnd (opBin .add x15 (.int .i64 (1))) fun v36 => K x2 x3 x4 x12 x13 x14 v36

theorem L6_DomLaws_r9_ok (F : Nat) (x2 x3 x4 x12 x13 x14 x15 : Value) (K : Value → Value → Value → Value → Value → Value → Value → M Value) : L6_DomLaws_r9 F x2 x3 x4 x12 x13 x14 x15 K = L6_DomLaws_R F 9 [(15, x15), (14, x14), (13, x13), (12, x12), (4, x4), (3, x3), (2, x2)] [2, 3, 4, 12, 13, 14, 15] K := by kernel_rfl

def L6_DomLaws_r11 (F : Nat) (K : Value → M Value) : M Value :=
  K (.bool false)

theorem L6_DomLaws_r11_ok (F : Nat) (K : Value → M Value) : L6_DomLaws_r11 F K = L6_DomLaws_R F 11 [] [10] K := by kernel_rfl

def L6_DomLaws_r10 (F : Nat) (x2 x3 x4 x12 x13 x14 x15 : Value) (K : Value → Value → Value → Value → Value → Value → Value → Value → M Value) : M Value :=
  bnd (opIndexAddr 1 x14 x15) fun v42 => bnd (opLoad v42) fun v43 => bnd (dom_Above F x13 (.int .i64 (0)) x15) fun v39 => bnd (opChk false v42 v43) fun _ => bnd (opEq eqB true v39 v43) fun v44 => onB v44 (K x2 x3 x4 x12 x13 x14 x15 (.bool true)) (bnd (opIndexAddr 1 x14 x15) fun v52 => bnd (opLoad v52) fun v53 => bnd (dom_Above F x13 x15 x15) fun v49 => bnd (opChk false v52 v53) fun _ => bnd (opEq eqB true v49 v53) fun v54 => K x2 x3 x4 x12 x13 x14 x15 v54)

theorem L6_DomLaws_r10_ok (F : Nat) (x2 x3 x4 x12 x13 x14 x15 : Value) (K : Value → Value → Value → Value → Value → Value → Value → Value → M Value) : L6_DomLaws_r10 F x2 x3 x4 x12 x13 x14 x15 K = L6_DomLaws_D F 10 [0, 1, 3, 4, 5, 6, 2, 7, 8, 9, 10, 11, 13, 14, 15, 16, 12, 17, 18] [(15, x15), (14, x14), (13, x13), (12, x12), (4, x4), (3, x3), (2, x2)] [2, 3, 4, 12, 13, 14, 15, 55] K := by kernel_rfl

theorem L6_DomLaws_r10_good : goodOrder (opsOf Try.f4 10) [0, 1, 3, 4, 5, 6, 2, 7, 8, 9, 10, 11, 13, 14, 15, 16, 12, 17, 18] = true := by kernel_rfl

def L6_DomLaws_r8 (F : Nat) (x2 x3 x4 x12 x13 x14 x15 : Value) (K : Value → Value → Value → Value → Value → Value → Value → Value → M Value) : M Value :=
  bnd (opFieldAddr 0 x12) fun v32 => bnd (opLoad v32) fun v33 => bnd (opBin .lss x15 v33) fun v34 => K x2 x3 x4 x12 x13 x14 x15 v34

theorem L6_DomLaws_r8_ok (F : Nat) (x2 x3 x4 x12 x13 x14 x15 : Value) (K : Value → Value → Value → Value → Value → Value → Value → Value → M Value) : L6_DomLaws_r8 F x2 x3 x4 x12 x13 x14 x15 K = L6_DomLaws_R F 8 [(15, x15), (14, x14), (13, x13), (12, x12), (4, x4), (3, x3), (2, x2)] [2, 3, 4, 12, 13, 14, 15, 34] K := by kernel_rfl

def L6_DomLaws_b1 (F : Nat) (E1_0 : Value → Value → Value → Value → Value → M Value) (A1 : Value → Value → Value → Value → Value → Value → Value → M Value) (x2 x3 x4 x12 x13 x14 x15 : Value) : M Value :=
  L6_DomLaws_r8 F x2 x3 x4 x12 x13 x14 x15 (fun x2 x3 x4 x12 x13 x14 x15 x34 => onB x34 (L6_DomLaws_r10 F x2 x3 x4 x12 x13 x14 x15 (fun x2 x3 x4 x12 x13 x14 x15 x55 => onB x55 (L6_DomLaws_r11 F (fun x10 => ret x10)) (L6_DomLaws_r9 F x2 x3 x4 x12 x13 x14 x15 (fun x2 x3 x4 x12 x13 x14 x15 => A1 x2 x3 x4 x12 x13 x14 x15)))) (E1_0 x2 x3 x4 x12 x13))

def L6_DomLaws_l1 (F : Nat) (E1_0 : Value → Value → Value → Value → Value → M Value) : Nat → Value → Value → Value → Value → Value → Value → Value → M Value
  | 0, _, _, _, _, _, _, _ => fail
  | k1 + 1, x2, x3, x4, x12, x13, x14, x15 => L6_DomLaws_b1 F E1_0 (L6_DomLaws_l1 F E1_0 k1) x2 x3 x4 x12 x13 x14 x15

theorem L6_DomLaws_l1_s (F : Nat) (E1_0 : Value → Value → Value → Value → Value → M Value) (k1 : Nat) (x2 x3 x4 x12 x13 x14 x15 : Value) : L6_DomLaws_l1 F E1_0 (k1 + 1) x2 x3 x4 x12 x13 x14 x15 = L6_DomLaws_b1 F E1_0 (L6_DomLaws_l1 F E1_0 k1) x2 x3 x4 x12 x13 x14 x15 := rfl

def L6_DomLaws_r7 (F : Nat) (x2 x3 x4 x12 x13 x14 : Value) (K : Value → Value → Value → Value → Value → Value → Value → M Value) : M Value :=
  K x2 x3 x4 x12 x13 x14 (.int .i64 (0))

theorem L6_DomLaws_r7_ok (F : Nat) (x2 x3 x4 x12 x13 x14 : Value) (K : Value → Value → Value → Value → Value → Value → Value → M Value) : L6_DomLaws_r7 F x2 x3 x4 x12 x13 x14 K = L6_DomLaws_R F 7 [(14, x14), (13, x13), (12, x12), (4, x4), (3, x3), (2, x2)] [2, 3, 4, 12, 13, 14, 15] K := by kernel_rfl

def L6_DomLaws_r6 (F : Nat) (x2 x3 x4 x12 x13 : Value) (K : Value → Value → Value → Value → Value → Value → M Value) : M Value :=
  bnd (opFieldAddr 1 x12) fun v27 => bnd (opLoad v27) fun v28 => bnd (opBuildSlice 1 (rep 1 [(.int .i64 (0))]) [(0, 1, false, (.int .i64 (0)))]) fun v29 => bnd (R1_Reach F v28 v29 (.int .i64 (-1))) fun v30 => K x2 x3 x4 x12 x13 v30

theorem L6_DomLaws_r6_ok (F : Nat) (x2 x3 x4 x12 x13 : Value) (K : Value → Value → Value → Value → Value → Value → M Value) : L6_DomLaws_r6 F x2 x3 x4 x12 x13 K = L6_DomLaws_R F 6 [(13, x13), (12, x12), (4, x4), (3, x3), (2, x2)] [2, 3, 4, 12, 13, 14] K := by kernel_rfl

def L6_DomLaws_r5 (F : Nat) (x2 x3 x4 x12 : Value) (K : Value → Value → Value → Value → Value → M Value) : M Value :=
  bnd (opLoadN 2 x12) fun v25 => bnd (dom_Up F v25 (.int .i64 (0))) fun v26 => K x2 x3 x4 x12 v26

theorem L6_DomLaws_r5_ok (F : Nat) (x2 x3 x4 x12 : Value) (K : Value → Value → Value → Value → Value → M Value) : L6_DomLaws_r5 F x2 x3 x4 x12 K = L6_DomLaws_R F 5 [(12, x12), (4, x4), (3, x3), (2, x2)] [2, 3, 4, 12, 13] K := by kernel_rfl

def L6_DomLaws_r4 (F : Nat) (x0 x1 x2 x3 x4 : Value) (K : Value → Value → Value → Value → M Value) : M Value :=
  bnd (L5_Made F x0 x1) fun v24 => bnd (opPtr [(.int .i64 (0)), (.slice none 0 0)]) fun v12 => bnd (opStoreN 2 v12 v24) fun _ => K x2 x3 x4 v12

theorem L6_DomLaws_r4_ok (F : Nat) (x0 x1 x2 x3 x4 : Value) (K : Value → Value → Value → Value → M Value) : L6_DomLaws_r4 F x0 x1 x2 x3 x4 K = L6_DomLaws_R F 4 [(4, x4), (3, x3), (2, x2), (1, x1), (0, x0)] [2, 3, 4, 12] K := by kernel_rfl

def L6_DomLaws_r3 (F : Nat) (K : Value → M Value) : M Value :=
  K (.bool false)

theorem L6_DomLaws_r3_ok (F : Nat) (K : Value → M Value) : L6_DomLaws_r3 F K = L6_DomLaws_R F 3 [] [10] K := by kernel_rfl

def L6_DomLaws_r2 (F : Nat) (x0 x1 x2 x3 x4 x11 : Value) (K : Value → Value → Value → Value → Value → Value → M Value) : M Value :=
  bnd (opNot x11) fun v21 => K x0 x1 x2 x3 x4 v21

theorem L6_DomLaws_r2_ok (F : Nat) (x0 x1 x2 x3 x4 x11 : Value) (K : Value → Value → Value → Value → Value → Value → M Value) : L6_DomLaws_r2 F x0 x1 x2 x3 x4 x11 K = L6_DomLaws_R F 2 [(11, x11), (4, x4), (3, x3), (2, x2), (1, x1), (0, x0)] [0, 1, 2, 3, 4, 21] K := by kernel_rfl

def L6_DomLaws_r1 (F : Nat) (x0 x1 x2 x3 x4 : Value) (K : Value → Value → Value → Value → Value → Value → M Value) : M Value :=
  bnd (L6_begun F) fun v19 => K x0 x1 x2 x3 x4 v19

theorem L6_DomLaws_r1_ok (F : Nat) (x0 x1 x2 x3 x4 : Value) (K : Value → Value → Value → Value → Value → Value → M Value) : L6_DomLaws_r1 F x0 x1 x2 x3 x4 K = L6_DomLaws_R F 1 [(4, x4), (3, x3), (2, x2), (1, x1), (0, x0)] [0, 1, 2, 3, 4, 11] K := by kernel_rfl

def L6_DomLaws_r0 (F : Nat) (x0 x1 x2 x3 x4 : Value) (K : Value → Value → Value → Value → Value → M Value) : M Value :=
  K x0 x1 x2 x3 x4

theorem L6_DomLaws_r0_ok (F : Nat) (x0 x1 x2 x3 x4 : Value) (K : Value → Value → Value → Value → Value → M Value) : L6_DomLaws_r0 F x0 x1 x2 x3 x4 K = L6_DomLaws_R F 0 [(4, x4), (3, x3), (2, x2), (1, x1), (0, x0)] [0, 1, 2, 3, 4] K := by kernel_rfl

def L6_DomLaws (F : Nat) (x0 x1 x2 x3 x4 : Value) : M Value :=
  L6_DomLaws_r0 F x0 x1 x2 x3 x4 (fun x0 x1 x2 x3 x4 => L6_DomLaws_r1 F x0 x1 x2 x3 x4 (fun x0 x1 x2 x3 x4 x11 => L6_DomLaws_r2 F x0 x1 x2 x3 x4 x11 (fun x0 x1 x2 x3 x4 x21 => onB x21 (L6_DomLaws_r3 F (fun x10 => ret x10)) (L6_DomLaws_r4 F x0 x1 x2 x3 x4 (fun x2 x3 x4 x12 => L6_DomLaws_r5 F x2 x3 x4 x12 (fun x2 x3 x4 x12 x13 => L6_DomLaws_r6 F x2 x3 x4 x12 x13 (fun x2 x3 x4 x12 x13 x14 => L6_DomLaws_r7 F x2 x3 x4 x12 x13 x14 (fun x2 x3 x4 x12 x13 x14 x15 => L6_DomLaws_l1 F (fun x2 x3 x4 x12 x13 => L6_DomLaws_k0 F x2 x3 x4 x12 x13) F x2 x3 x4 x12 x13 x14 x15))))))))

def L6_DomLaws_m (F : Nat) : List Value → M Value
  | [x0, x1, x2, x3, x4] => L6_DomLaws F x0 x1 x2 x3 x4
  | _ => fail

theorem L6_DomLaws_body : Try.f4.body = some (.seq (.region 0 (opsOf Try.f4 0) false) (.seq (.region 1 (opsOf Try.f4 1) false) (.seq (.seq (.region 2 (opsOf Try.f4 2) false) (.cond (.tmp 21) (.seq (.region 3 (opsOf Try.f4 3) false) .ret) .skip)) (.seq (.region 4 (opsOf Try.f4 4) false) (.seq (.region 5 (opsOf Try.f4 5) false) (.seq (.region 6 (opsOf Try.f4 6) false) (.seq (.seq (.region 7 (opsOf Try.f4 7) false) (.block 0 (.loop (.seq (.seq (.region 8 (opsOf Try.f4 8) false) (.cond (.tmp 34) .skip (.exit 0))) (.seq (.block 1 (.seq (.region 10 (opsOf Try.f4 10) true) (.cond (.tmp 55) (.seq (.region 11 (opsOf Try.f4 11) false) .ret) .skip))) (.region 9 (opsOf Try.f4 9) false)))))) (.seq (.region 12 (opsOf Try.f4 12) true) (.seq (.seq (.region 13 (opsOf Try.f4 13) false) (.cond (.tmp 119) (.seq (.region 14 (opsOf Try.f4 14) false) .ret) .skip)) (.seq (.region 15 (opsOf Try.f4 15) false) .ret)))))))))) := by kernel_rfl

theorem L6_DomLaws_ok (F : Nat) : Sim Try.prog TryG 4 (L6_DomLaws_m F) := by
 have hE : EnvOK Try.prog TryG (L6_DomLaws_env F) := (EnvOK.cons (L6_begun_ok F) (EnvOK.cons (L5_Made_ok F) (EnvOK.cons (dom_Up_ok F) (EnvOK.cons (dom_Above_ok F) (EnvOK.cons (R1_Reach_ok F) EnvOK.nil)))))
 refine Sim.of_body (E := L6_DomLaws_env F) Try.func4 L6_DomLaws_body Try.call4 ?_ ?_
 · intro args hl; unfold L6_DomLaws_m; split
   · exact absurd hl (Nat.not_lt.2 (Nat.le_of_ble_eq_true rfl))
   · rfl
 · intro args ρ h w z; unfold L6_DomLaws_m; split
   · rename_i x0 x1 x2 x3 x4; show OKc _ _ [(0, x0), (1, x1), (2, x2), (3, x3), (4, x4)] _ _
     refine rSeq ?_
     refine cLess [4, 3, 2, 1, 0] ?_
     refine xR hE [0, 1, 2, 3, 4] rfl (L6_DomLaws_r0_ok F _ _ _ _ _ _) ?_
     intro x0 x1 x2 x3 x4
     show OKq _ _ _ [(4, x4), (3, x3), (2, x2), (1, x1), (0, x0)] _
     refine rThen ?_
     refine rSeq ?_
     refine cLess [4, 3, 2, 1, 0] ?_
     refine xR hE [0, 1, 2, 3, 4, 11] rfl (L6_DomLaws_r1_ok F _ _ _ _ _ _) ?_
     intro x0 x1 x2 x3 x4 x11
     show OKq _ _ _ [(11, x11), (4, x4), (3, x3), (2, x2), (1, x1), (0, x0)] _
     refine rThen ?_
     refine rSeq ?_
     refine rSeq ?_
     refine cLess [11, 4, 3, 2, 1, 0] ?_
     refine xR hE [0, 1, 2, 3, 4, 21] rfl (L6_DomLaws_r2_ok F _ _ _ _ _ _ _) ?_
     intro x0 x1 x2 x3 x4 x21
     show OKq _ _ _ [(21, x21), (4, x4), (3, x3), (2, x2), (1, x1), (0, x0)] _
     refine rThen ?_
     refine xCond rfl rfl ?_ ?_
     · refine rSeq ?_
       refine cLess [] ?_
       refine xR hE [10] rfl (L6_DomLaws_r3_ok F _) ?_
       intro x10
       show OKq _ _ _ [(10, x10)] _
       refine rThen ?_
       refine rRet ?_
       refine xThenR ?_
       exact rDone (.inr rfl) rfl
     · refine rSkip ?_
       refine rThen ?_
       refine rSeq ?_
       refine cLess [4, 3, 2, 1, 0] ?_
       refine xR hE [2, 3, 4, 12] rfl (L6_DomLaws_r4_ok F _ _ _ _ _ _) ?_
       intro x2 x3 x4 x12
       show OKq _ _ _ [(12, x12), (4, x4), (3, x3), (2, x2)] _
       refine rThen ?_
       refine rSeq ?_
       refine cLess [12, 4, 3, 2] ?_
       refine xR hE [2, 3, 4, 12, 13] rfl (L6_DomLaws_r5_ok F _ _ _ _ _) ?_
       intro x2 x3 x4 x12 x13
       show OKq _ _ _ [(13, x13), (12, x12), (4, x4), (3, x3), (2, x2)] _
       refine rThen ?_
       refine rSeq ?_
       refine cLess [13, 12, 4, 3, 2] ?_
       refine xR hE [2, 3, 4, 12, 13, 14] rfl (L6_DomLaws_r6_ok F _ _ _ _ _ _) ?_
       intro x2 x3 x4 x12 x13 x14
       show OKq _ _ _ [(14, x14), (13, x13), (12, x12), (4, x4), (3, x3), (2, x2)] _
       refine rThen ?_
       refine xSeq [2, 3, 4, 12, 13] (L6_DomLaws_k0 F ) ?_ fun hj0 => ?_
       · intro x2 x3 x4 x12 x13
         show OKc _ _ [(13, x13), (12, x12), (4, x4), (3, x3), (2, x2)] _ _
         refine rSeq ?_
         refine cLess [13, 12, 4, 3, 2] ?_
         refine xD Trymix hE [13, 16, 17, 18] rfl L6_DomLaws_r12_good (L6_DomLaws_r12_ok F _ _ _ _ _ _) ?_
         intro x13 x16 x17 x18
         show OKq _ _ _ [(18, x18), (17, x17), (16, x16), (13, x13)] _
         refine rThen ?_
         refine rSeq ?_
         refine rSeq ?_
         refine cLess [18, 17, 16, 13] ?_
         refine xR hE [13, 16, 17, 18, 119] rfl (L6_DomLaws_r13_ok F _ _ _ _ _) ?_
         intro x13 x16 x17 x18 x119
         show OKq _ _ _ [(119, x119), (18, x18), (17, x17), (16, x16), (13, x13)] _
         refine rThen ?_
         refine xCond rfl rfl ?_ ?_
         · refine rSeq ?_
           refine cLess [] ?_
           refine xR hE [10] rfl (L6_DomLaws_r14_ok F _) ?_
           intro x10
           show OKq _ _ _ [(10, x10)] _
           refine rThen ?_
           refine rRet ?_
           refine xThenR ?_
           exact rDone (.inr rfl) rfl
         · refine rSkip ?_
           refine rThen ?_
           refine rSeq ?_
           refine cLess [18, 17, 16, 13] ?_
           refine xR hE [10] rfl (L6_DomLaws_r15_ok F _ _ _ _ _) ?_
           intro x10
           show OKq _ _ _ [(10, x10)] _
           refine rThen ?_
           refine rRet ?_
           exact rDone (.inr rfl) rfl
       · refine rSeq ?_
         refine cLess [14, 13, 12, 4, 3, 2] ?_
         refine xR hE [2, 3, 4, 12, 13, 14, 15] rfl (L6_DomLaws_r7_ok F _ _ _ _ _ _ _) ?_
         intro x2 x3 x4 x12 x13 x14 x15
         show OKq _ _ _ [(15, x15), (14, x14), (13, x13), (12, x12), (4, x4), (3, x3), (2, x2)] _
         refine rThen ?_
         refine rBlock ?_
         refine cLess [15, 14, 13, 12, 4, 3, 2] ?_
         refine xLoopAt [2, 3, 4, 12, 13, 14, 15] [] (fun k1 => L6_DomLaws_l1 F (fun x2 x3 x4 x12 x13 => L6_DomLaws_k0 F x2 x3 x4 x12 x13) k1) F [x2, x3, x4, x12, x13, x14, x15] rfl rfl (fun _ _ _ _ _ _ _ => rfl) fun I hI1 k1 => ?_
         intro x2 x3 x4 x12 x13 x14 x15
         show OKc _ _ [(15, x15), (14, x14), (13, x13), (12, x12), (4, x4), (3, x3), (2, x2)] _ _
         refine cAs (L6_DomLaws_l1_s F _ _ _ _ _ _ _ _ _) ?_
         refine rSeq ?_
         refine rSeq ?_
         refine cLess [15, 14, 13, 12, 4, 3, 2] ?_
         refine xR hE [2, 3, 4, 12, 13, 14, 15, 34] rfl (L6_DomLaws_r8_ok F _ _ _ _ _ _ _ _) ?_
         intro x2 x3 x4 x12 x13 x14 x15 x34
         show OKq _ _ _ [(34, x34), (15, x15), (14, x14), (13, x13), (12, x12), (4, x4), (3, x3), (2, x2)] _
         refine rThen ?_
         refine xCond rfl rfl ?_ ?_
         · refine rSkip ?_
           refine rThen ?_
           refine rSeq ?_
           refine rBlock ?_
           refine rSeq ?_
           refine cLess [15, 14, 13, 12, 4, 3, 2] ?_
           refine xD Trymix hE [2, 3, 4, 12, 13, 14, 15, 55] rfl L6_DomLaws_r10_good (L6_DomLaws_r10_ok F _ _ _ _ _ _ _ _) ?_
           intro x2 x3 x4 x12 x13 x14 x15 x55
           show OKq _ _ _ [(55, x55), (15, x15), (14, x14), (13, x13), (12, x12), (4, x4), (3, x3), (2, x2)] _
           refine rThen ?_
           refine xCond rfl rfl ?_ ?_
           · refine rSeq ?_
             refine cLess [] ?_
             refine xR hE [10] rfl (L6_DomLaws_r11_ok F _) ?_
             intro x10
             show OKq _ _ _ [(10, x10)] _
             refine rThen ?_
             refine rRet ?_
             refine xBlockR ?_
             refine xThenR ?_
             refine xThenR ?_
             refine xBlockR ?_
             refine xThenR ?_
             exact rDone (.inr rfl) rfl
           · refine rSkip ?_
             refine xBlockN ?_
             refine rThen ?_
             refine cLess [15, 14, 13, 12, 4, 3, 2] ?_
             refine xR hE [2, 3, 4, 12, 13, 14, 15] rfl (L6_DomLaws_r9_ok F _ _ _ _ _ _ _ _) ?_
             intro x2 x3 x4 x12 x13 x14 x15
             show OKq _ _ _ [(15, x15), (14, x14), (13, x13), (12, x12), (4, x4), (3, x3), (2, x2)] _
             exact qLess [15, 14, 13, 12, 4, 3, 2] (hI1 k1 x2 x3 x4 x12 x13 x14 x15)
         · refine rExit ?_
           refine xThenX ?_
           refine xThenX ?_
           refine rOut ?_
           exact qLess [13, 12, 4, 3, 2] (hj0 x2 x3 x4 x12 x13)
   · exact rFail


/-! ### haruspex/haruspexlaw6.DomLine -/

def L6_DomLine_env (F : Nat) : Env := envOf [(9, L6_begun_m F), (11, dom_Up_m F), (14, dom_Depth_m F), (15, dom_Above_m F)]

noncomputable def L6_DomLine_R (F : Nat) := rK Try.prog TryG (L6_DomLine_env F) Try.f5
noncomputable def L6_DomLine_D (F : Nat) := dK Try.prog TryG (L6_DomLine_env F) Try.f5

def L6_DomLine_r13 (F : Nat) (x0 x1 x2 x10 x11 : Value) (K : Value → M Value) : M Value :=
  bnd (opLen x10) fun v61 => bnd (opBin .eql v61 x0) fun v63 => onB v63 (bnd (opIndexAddr 1 x10 (.int .i64 (0))) fun v66 => bnd (opLoad v66) fun v67 => bnd (opBin .eql v67 (.int .i64 (0))) fun v68 => onB v68 (bnd (opIndexAddr 1 x10 x2) fun v73 => bnd (opLoad v73) fun v74 => bnd (opBin .sub x2 (.int .i64 (1))) fun v76 => bnd (opMax [(.int .i64 (0)), v76]) fun v77 => bnd (opBin .eql v74 v77) fun v78 => onB v78 (bnd (dom_Above F x10 x1 x2) fun v84 => bnd (opBin .leq x1 x2) fun v87 => bnd (opEq eqB false v84 v87) fun v88 => onB v88 (bnd (opIndexAddr 1 x11 x2) fun v93 => bnd (opLoad v93) fun v94 => bnd (opBin .eql v94 x2) fun v96 => K v96) (K (.bool false))) (K (.bool false))) (K (.bool false))) (K (.bool false))

theorem L6_DomLine_r13_ok (F : Nat) (x0 x1 x2 x10 x11 : Value) (K : Value → M Value) : L6_DomLine_r13 F x0 x1 x2 x10 x11 K = L6_DomLine_R F 13 [(11, x11), (10, x10), (2, x2), (1, x1), (0, x0)] [6] K := by kernel_rfl

def L6_DomLine_r12 (F : Nat) (x0 x1 x2 x10 : Value) (K : Value → Value → Value → Value → Value → M Value) : M Value :=
  bnd (dom_Depth F x10) fun v59 => K x0 x1 x2 x10 v59

theorem L6_DomLine_r12_ok (F : Nat) (x0 x1 x2 x10 : Value) (K : Value → Value → Value → Value → Value → M Value) : L6_DomLine_r12 F x0 x1 x2 x10 K = L6_DomLine_R F 12 [(10, x10), (2, x2), (1, x1), (0, x0)] [0, 1, 2, 10, 11] K := by kernel_rfl

def L6_DomLine_r11 (F : Nat) (x0 x1 x2 x8 : Value) (K : Value → Value → Value → Value → M Value) : M Value :=
  bnd (opLoadN 2 x8) fun v56 => bnd (dom_Up F v56 (.int .i64 (0))) fun v57 => K x0 x1 x2 v57

theorem L6_DomLine_r11_ok (F : Nat) (x0 x1 x2 x8 : Value) (K : Value → Value → Value → Value → M Value) : L6_DomLine_r11 F x0 x1 x2 x8 K = L6_DomLine_R F 11 [(8, x8), (2, x2), (1, x1), (0, x0)] [0, 1, 2, 10] K := by kernel_rfl

def L6_DomLine_k0 (F : Nat) (x0 x1 x2 x8 : Value) : M Value :=
  L6_DomLine_r11 F x0 x1 x2 x8 (fun x0 x1 x2 x10 => L6_DomLine_r12 F x0 x1 x2 x10 (fun x0 x1 x2 x10 x11 => L6_DomLine_r13 F x0 x1 x2 x10 x11 (fun x6 => ret x6)))

def L6_DomLine_r9 (F : Nat) (x0 x1 x2 x8 x9 : Value) (K : Value → Value → Value → Value → Value → M Value) : M Value :=
  bnd (opBin .add x9 (.int .i64 (1))) fun v48 => K x0 x1 x2 x8 v48

theorem L6_DomLine_r9_ok (F : Nat) (x0 x1 x2 x8 x9 : Value) (K : Value → Value → Value → Value → Value → M Value) : L6_DomLine_r9 F x0 x1 x2 x8 x9 K = L6_DomLine_R F 9 [(9, x9), (8, x8), (2, x2), (1, x1), (0, x0)] [0, 1, 2, 8, 9] K := by kernel_rfl

def L6_DomLine_r10 (F : Nat) (x0 x1 x2 x8 x9 : Value) (K : Value → Value → Value → Value → Value → M Value) : M Value :=
  bnd (opFieldAddr 1 x8) fun v49 => bnd (opLoad v49) fun v50 => bnd (opBin .add x9 (.int .i64 (1))) fun v53 => bnd (opBuildSlice 2 (rep 2 [(.int .i64 (0))]) [(0, 1, false, v53), (1, 1, false, (.int .i64 (0)))]) fun v54 => bnd (opIndexAddr 1 v50 x9) fun v55 => bnd (opStore v55 v54) fun _ => K x0 x1 x2 x8 x9

theorem L6_DomLine_r10_ok (F : Nat) (x0 x1 x2 x8 x9 : Value) (K : Value → Value → Value → Value → Value → M Value) : L6_DomLine_r10 F x0 x1 x2 x8 x9 K = L6_DomLine_R F 10 [(9, x9), (8, x8), (2, x2), (1, x1), (0, x0)] [0, 1, 2, 8, 9] K := by kernel_rfl

def L6_DomLine_r8 (F : Nat) (x0 x1 x2 x8 x9 : Value) (K : Value → Value → Value → Value → Value → Value → M Value) : M Value :=
  bnd (opBin .add x9 (.int .i64 (1))) fun v44 => bnd (opBin .lss v44 x0) fun v46 => K x0 x1 x2 x8 x9 v46

theorem L6_DomLine_r8_ok (F : Nat) (x0 x1 x2 x8 x9 : Value) (K : Value → Value → Value → Value → Value → Value → M Value) : L6_DomLine_r8 F x0 x1 x2 x8 x9 K = L6_DomLine_R F 8 [(9, x9), (8, x8), (2, x2), (1, x1), (0, x0)] [0, 1, 2, 8, 9, 46] K := by kernel_rfl

def L6_DomLine_b1 (F : Nat) (E1_0 : Value → Value → Value → Value → M Value) (A1 : Value → Value → Value → Value → Value → M Value) (x0 x1 x2 x8 x9 : Value) : M Value :=
  L6_DomLine_r8 F x0 x1 x2 x8 x9 (fun x0 x1 x2 x8 x9 x46 => onB x46 (L6_DomLine_r10 F x0 x1 x2 x8 x9 (fun x0 x1 x2 x8 x9 => L6_DomLine_r9 F x0 x1 x2 x8 x9 (fun x0 x1 x2 x8 x9 => A1 x0 x1 x2 x8 x9))) (E1_0 x0 x1 x2 x8))

def L6_DomLine_l1 (F : Nat) (E1_0 : Value → Value → Value → Value → M Value) : Nat → Value → Value → Value → Value → Value → M Value
  | 0, _, _, _, _, _ => fail
  | k1 + 1, x0, x1, x2, x8, x9 => L6_DomLine_b1 F E1_0 (L6_DomLine_l1 F E1_0 k1) x0 x1 x2 x8 x9

theorem L6_DomLine_l1_s (F : Nat) (E1_0 : Value → Value → Value → Value → M Value) (k1 : Nat) (x0 x1 x2 x8 x9 : Value) : L6_DomLine_l1 F E1_0 (k1 + 1) x0 x1 x2 x8 x9 = L6_DomLine_b1 F E1_0 (L6_DomLine_l1 F E1_0 k1) x0 x1 x2 x8 x9 := rfl

def L6_DomLine_r7 (F : Nat) (x0 x1 x2 x8 : Value) (K : Value → Value → Value → Value → Value → M Value) : M Value :=
  K x0 x1 x2 x8 (.int .i64 (0))

theorem L6_DomLine_r7_ok (F : Nat) (x0 x1 x2 x8 : Value) (K : Value → Value → Value → Value → Value → M Value) : L6_DomLine_r7 F x0 x1 x2 x8 K = L6_DomLine_R F 7 [(8, x8), (2, x2), (1, x1), (0, x0)] [0, 1, 2, 8, 9] K := by kernel_rfl

def L6_DomLine_r6 (F : Nat) (x0 x1 x2 : Value) (K : Value → Value → Value → Value → M Value) : M Value :=
  bnd (opMake 24 [(.slice none 0 0)] x0 x0) fun v41 => bnd (opBuild [(.int .i64 (0)), (.slice none 0 0)] [(0, 1, false, x0), (1, 1, false, v41)]) fun v42 => bnd (opPtr [(.int .i64 (0)), (.slice none 0 0)]) fun v8 => bnd (opStoreN 2 v8 v42) fun _ => K x0 x1 x2 v8

theorem L6_DomLine_r6_ok (F : Nat) (x0 x1 x2 : Value) (K : Value → Value → Value → Value → M Value) : L6_DomLine_r6 F x0 x1 x2 K = L6_DomLine_R F 6 [(2, x2), (1, x1), (0, x0)] [0, 1, 2, 8] K := by kernel_rfl

def L6_DomLine_r5 (F : Nat) (K : Value → M Value) : M Value :=
  K (.bool true)

theorem L6_DomLine_r5_ok (F : Nat) (K : Value → M Value) : L6_DomLine_r5 F K = L6_DomLine_R F 5 [] [6] K := by kernel_rfl

def L6_DomLine_r4 (F : Nat) (x0 x1 x2 : Value) (K : Value → Value → Value → Value → M Value) : M Value :=
  bnd (opBin .lss x0 (.int .i64 (1))) fun v16 => onB v16 (K x0 x1 x2 (.bool true)) (bnd (opBin .gtr x0 (.int .i64 (200))) fun v19 => onB v19 (K x0 x1 x2 (.bool true)) (bnd (opBin .lss x1 (.int .i64 (0))) fun v23 => onB v23 (K x0 x1 x2 (.bool true)) (bnd (opBin .geq x1 x0) fun v28 => onB v28 (K x0 x1 x2 (.bool true)) (bnd (opBin .lss x2 (.int .i64 (0))) fun v32 => onB v32 (K x0 x1 x2 (.bool true)) (bnd (opBin .geq x2 x0) fun v37 => K x0 x1 x2 v37)))))

theorem L6_DomLine_r4_ok (F : Nat) (x0 x1 x2 : Value) (K : Value → Value → Value → Value → M Value) : L6_DomLine_r4 F x0 x1 x2 K = L6_DomLine_R F 4 [(2, x2), (1, x1), (0, x0)] [0, 1, 2, 38] K := by kernel_rfl

def L6_DomLine_r3 (F : Nat) (K : Value → M Value) : M Value :=
  K (.bool false)

theorem L6_DomLine_r3_ok (F : Nat) (K : Value → M Value) : L6_DomLine_r3 F K = L6_DomLine_R F 3 [] [6] K := by kernel_rfl

def L6_DomLine_r2 (F : Nat) (x0 x1 x2 x7 : Value) (K : Value → Value → Value → Value → M Value) : M Value :=
  bnd (opNot x7) fun v14 => K x0 x1 x2 v14

theorem L6_DomLine_r2_ok (F : Nat) (x0 x1 x2 x7 : Value) (K : Value → Value → Value → Value → M Value) : L6_DomLine_r2 F x0 x1 x2 x7 K = L6_DomLine_R F 2 [(7, x7), (2, x2), (1, x1), (0, x0)] [0, 1, 2, 14] K := by kernel_rfl

def L6_DomLine_r1 (F : Nat) (x0 x1 x2 : Value) (K : Value → Value → Value → Value → M Value) : M Value :=
  bnd (L6_begun F) fun v12 => K x0 x1 x2 v12

theorem L6_DomLine_r1_ok (F : Nat) (x0 x1 x2 : Value) (K : Value → Value → Value → Value → M Value) : L6_DomLine_r1 F x0 x1 x2 K = L6_DomLine_R F 1 [(2, x2), (1, x1), (0, x0)] [0, 1, 2, 7] K := by kernel_rfl

def L6_DomLine_r0 (F : Nat) (x0 x1 x2 : Value) (K : Value → Value → Value → M Value) : M Value :=
  K x0 x1 x2

theorem L6_DomLine_r0_ok (F : Nat) (x0 x1 x2 : Value) (K : Value → Value → Value → M Value) : L6_DomLine_r0 F x0 x1 x2 K = L6_DomLine_R F 0 [(2, x2), (1, x1), (0, x0)] [0, 1, 2] K := by kernel_rfl

def L6_DomLine (F : Nat) (x0 x1 x2 : Value) : M Value :=
  L6_DomLine_r0 F x0 x1 x2 (fun x0 x1 x2 => L6_DomLine_r1 F x0 x1 x2 (fun x0 x1 x2 x7 => L6_DomLine_r2 F x0 x1 x2 x7 (fun x0 x1 x2 x14 => onB x14 (L6_DomLine_r3 F (fun x6 => ret x6)) (L6_DomLine_r4 F x0 x1 x2 (fun x0 x1 x2 x38 => onB x38 (L6_DomLine_r5 F (fun x6 => ret x6)) (L6_DomLine_r6 F x0 x1 x2 (fun x0 x1 x2 x8 => L6_DomLine_r7 F x0 x1 x2 x8 (fun x0 x1 x2 x8 x9 => L6_DomLine_l1 F (fun x0 x1 x2 x8 => L6_DomLine_k0 F x0 x1 x2 x8) F x0 x1 x2 x8 x9))))))))

def L6_DomLine_m (F : Nat) : List Value → M Value
  | [x0, x1, x2] => L6_DomLine F x0 x1 x2
  | _ => fail

theorem L6_DomLine_body : Try.f5.body = some (.seq (.region 0 (opsOf Try.f5 0) false) (.seq (.region 1 (opsOf Try.f5 1) false) (.seq (.seq (.region 2 (opsOf Try.f5 2) false) (.cond (.tmp 14) (.seq (.region 3 (opsOf Try.f5 3) false) .ret) .skip)) (.seq (.seq (.region 4 (opsOf Try.f5 4) false) (.cond (.tmp 38) (.seq (.region 5 (opsOf Try.f5 5) false) .ret) .skip)) (.seq (.region 6 (opsOf Try.f5 6) false) (.seq (.seq (.region 7 (opsOf Try.f5 7) false) (.block 0 (.loop (.seq (.seq (.region 8 (opsOf Try.f5 8) false) (.cond (.tmp 46) .skip (.exit 0))) (.seq (.block 1 (.region 10 (opsOf Try.f5 10) false)) (.region 9 (opsOf Try.f5 9) false)))))) (.seq (.region 11 (opsOf Try.f5 11) false) (.seq (.region 12 (opsOf Try.f5 12) false) (.seq (.region 13 (opsOf Try.f5 13) false) .ret))))))))) := by kernel_rfl

theorem L6_DomLine_ok (F : Nat) : Sim Try.prog TryG 5 (L6_DomLine_m F) := by
 have hE : EnvOK Try.prog TryG (L6_DomLine_env F) := (EnvOK.cons (L6_begun_ok F) (EnvOK.cons (dom_Up_ok F) (EnvOK.cons (dom_Depth_ok F) (EnvOK.cons (dom_Above_ok F) EnvOK.nil))))
 refine Sim.of_body (E := L6_DomLine_env F) Try.func5 L6_DomLine_body Try.call5 ?_ ?_
 · intro args hl; unfold L6_DomLine_m; split
   · exact absurd hl (Nat.not_lt.2 (Nat.le_of_ble_eq_true rfl))
   · rfl
 · intro args ρ h w z; unfold L6_DomLine_m; split
   · rename_i x0 x1 x2; show OKc _ _ [(0, x0), (1, x1), (2, x2)] _ _
     refine rSeq ?_
     refine cLess [2, 1, 0] ?_
     refine xR hE [0, 1, 2] rfl (L6_DomLine_r0_ok F _ _ _ _) ?_
     intro x0 x1 x2
     show OKq _ _ _ [(2, x2), (1, x1), (0, x0)] _
     refine rThen ?_
     refine rSeq ?_
     refine cLess [2, 1, 0] ?_
     refine xR hE [0, 1, 2, 7] rfl (L6_DomLine_r1_ok F _ _ _ _) ?_
     intro x0 x1 x2 x7
     show OKq _ _ _ [(7, x7), (2, x2), (1, x1), (0, x0)] _
     refine rThen ?_
     refine rSeq ?_
     refine rSeq ?_
     refine cLess [7, 2, 1, 0] ?_
     refine xR hE [0, 1, 2, 14] rfl (L6_DomLine_r2_ok F _ _ _ _ _) ?_
     intro x0 x1 x2 x14
     show OKq _ _ _ [(14, x14), (2, x2), (1, x1), (0, x0)] _
     refine rThen ?_
     refine xCond rfl rfl ?_ ?_
     · refine rSeq ?_
       refine cLess [] ?_
       refine xR hE [6] rfl (L6_DomLine_r3_ok F _) ?_
       intro x6
       show OKq _ _ _ [(6, x6)] _
       refine rThen ?_
       refine rRet ?_
       refine xThenR ?_
       exact rDone (.inr rfl) rfl
     · refine rSkip ?_
       refine rThen ?_
       refine rSeq ?_
       refine rSeq ?_
       refine cLess [2, 1, 0] ?_
       refine xR hE [0, 1, 2, 38] rfl (L6_DomLine_r4_ok F _ _ _ _) ?_
       intro x0 x1 x2 x38
       show OKq _ _ _ [(38, x38), (2, x2), (1, x1), (0, x0)] _
       refine rThen ?_
       refine xCond rfl rfl ?_ ?_
       · refine rSeq ?_
         refine cLess [] ?_
         refine xR hE [6] rfl (L6_DomLine_r5_ok F _) ?_
         intro x6
         show OKq _ _ _ [(6, x6)] _
         refine rThen ?_
         refine rRet ?_
         refine xThenR ?_
         exact rDone (.inr rfl) rfl
       · refine rSkip ?_
         refine rThen ?_
         refine rSeq ?_
         refine cLess [2, 1, 0] ?_
         refine xR hE [0, 1, 2, 8] rfl (L6_DomLine_r6_ok F _ _ _ _) ?_
         intro x0 x1 x2 x8
         show OKq _ _ _ [(8, x8), (2, x2), (1, x1), (0, x0)] _
         refine rThen ?_
         refine xSeq [0, 1, 2, 8] (L6_DomLine_k0 F ) ?_ fun hj0 => ?_
         · intro x0 x1 x2 x8
           show OKc _ _ [(8, x8), (2, x2), (1, x1), (0, x0)] _ _
           refine rSeq ?_
           refine cLess [8, 2, 1, 0] ?_
           refine xR hE [0, 1, 2, 10] rfl (L6_DomLine_r11_ok F _ _ _ _ _) ?_
           intro x0 x1 x2 x10
           show OKq _ _ _ [(10, x10), (2, x2), (1, x1), (0, x0)] _
           refine rThen ?_
           refine rSeq ?_
           refine cLess [10, 2, 1, 0] ?_
           refine xR hE [0, 1, 2, 10, 11] rfl (L6_DomLine_r12_ok F _ _ _ _ _) ?_
           intro x0 x1 x2 x10 x11
           show OKq _ _ _ [(11, x11), (10, x10), (2, x2), (1, x1), (0, x0)] _
           refine rThen ?_
           refine rSeq ?_
           refine cLess [11, 10, 2, 1, 0] ?_
           refine xR hE [6] rfl (L6_DomLine_r13_ok F _ _ _ _ _ _) ?_
           intro x6
           show OKq _ _ _ [(6, x6)] _
           refine rThen ?_
           refine rRet ?_
           exact rDone (.inr rfl) rfl
         · refine rSeq ?_
           refine cLess [8, 2, 1, 0] ?_
           refine xR hE [0, 1, 2, 8, 9] rfl (L6_DomLine_r7_ok F _ _ _ _ _) ?_
           intro x0 x1 x2 x8 x9
           show OKq _ _ _ [(9, x9), (8, x8), (2, x2), (1, x1), (0, x0)] _
           refine rThen ?_
           refine rBlock ?_
           refine cLess [9, 8, 2, 1, 0] ?_
           refine xLoopAt [0, 1, 2, 8, 9] [] (fun k1 => L6_DomLine_l1 F (fun x0 x1 x2 x8 => L6_DomLine_k0 F x0 x1 x2 x8) k1) F [x0, x1, x2, x8, x9] rfl rfl (fun _ _ _ _ _ => rfl) fun I hI1 k1 => ?_
           intro x0 x1 x2 x8 x9
           show OKc _ _ [(9, x9), (8, x8), (2, x2), (1, x1), (0, x0)] _ _
           refine cAs (L6_DomLine_l1_s F _ _ _ _ _ _ _) ?_
           refine rSeq ?_
           refine rSeq ?_
           refine cLess [9, 8, 2, 1, 0] ?_
           refine xR hE [0, 1, 2, 8, 9, 46] rfl (L6_DomLine_r8_ok F _ _ _ _ _ _) ?_
           intro x0 x1 x2 x8 x9 x46
           show OKq _ _ _ [(46, x46), (9, x9), (8, x8), (2, x2), (1, x1), (0, x0)] _
           refine rThen ?_
           refine xCond rfl rfl ?_ ?_
           · refine rSkip ?_
             refine rThen ?_
             refine rSeq ?_
             refine rBlock ?_
             refine cLess [9, 8, 2, 1, 0] ?_
             refine xR hE [0, 1, 2, 8, 9] rfl (L6_DomLine_r10_ok F _ _ _ _ _ _) ?_
             intro x0 x1 x2 x8 x9
             show OKq _ _ _ [(9, x9), (8, x8), (2, x2), (1, x1), (0, x0)] _
             refine xBlockN ?_
             refine rThen ?_
             refine cLess [9, 8, 2, 1, 0] ?_
             refine xR hE [0, 1, 2, 8, 9] rfl (L6_DomLine_r9_ok F _ _ _ _ _ _) ?_
             intro x0 x1 x2 x8 x9
             show OKq _ _ _ [(9, x9), (8, x8), (2, x2), (1, x1), (0, x0)] _
             exact qLess [9, 8, 2, 1, 0] (hI1 k1 x0 x1 x2 x8 x9)
           · refine rExit ?_
             refine xThenX ?_
             refine xThenX ?_
             refine rOut ?_
             exact qLess [8, 2, 1, 0] (hj0 x0 x1 x2 x8)
   · exact rFail


/-! ### haruspex/haruspexlaw6.DomMore -/

def L6_DomMore_env (F : Nat) : Env := envOf [(9, L6_begun_m F), (10, L5_Made_m F), (11, dom_Up_m F), (15, dom_Above_m F)]

noncomputable def L6_DomMore_R (F : Nat) := rK Try.prog TryG (L6_DomMore_env F) Try.f6
noncomputable def L6_DomMore_D (F : Nat) := dK Try.prog TryG (L6_DomMore_env F) Try.f6

def L6_DomMore_r17 (F : Nat) (K : Value → M Value) : M Value :=
  K (.bool true)

theorem L6_DomMore_r17_ok (F : Nat) (K : Value → M Value) : L6_DomMore_r17 F K = L6_DomMore_R F 17 [] [8] K := by kernel_rfl

def L6_DomMore_k0 (F : Nat) : M Value :=
  L6_DomMore_r17 F (fun x8 => ret x8)

def L6_DomMore_r11 (F : Nat) (x10 x14 x15 x16 : Value) (K : Value → Value → Value → Value → M Value) : M Value :=
  bnd (opBin .add x16 (.int .i64 (1))) fun v68 => K x10 x14 x15 v68

theorem L6_DomMore_r11_ok (F : Nat) (x10 x14 x15 x16 : Value) (K : Value → Value → Value → Value → M Value) : L6_DomMore_r11 F x10 x14 x15 x16 K = L6_DomMore_R F 11 [(16, x16), (15, x15), (14, x14), (10, x10)] [10, 14, 15, 16] K := by kernel_rfl

def L6_DomMore_k2 (F : Nat) (A1 : Value → Value → Value → Value → M Value) (x10 x14 x15 x16 : Value) : M Value :=
  L6_DomMore_r11 F x10 x14 x15 x16 (fun x10 x14 x15 x16 => A1 x10 x14 x15 x16)

def L6_DomMore_r14 (F : Nat) (x10 x14 x15 x16 x17 : Value) (K : Value → Value → Value → Value → Value → M Value) : M Value :=
  bnd (opBin .add x17 (.int .i64 (1))) fun v74 => K x10 x14 x15 x16 v74

theorem L6_DomMore_r14_ok (F : Nat) (x10 x14 x15 x16 x17 : Value) (K : Value → Value → Value → Value → Value → M Value) : L6_DomMore_r14 F x10 x14 x15 x16 x17 K = L6_DomMore_R F 14 [(17, x17), (16, x16), (15, x15), (14, x14), (10, x10)] [10, 14, 15, 16, 17] K := by kernel_rfl

def L6_DomMore_r16 (F : Nat) (K : Value → M Value) : M Value :=
  K (.bool false)

theorem L6_DomMore_r16_ok (F : Nat) (K : Value → M Value) : L6_DomMore_r16 F K = L6_DomMore_R F 16 [] [8] K := by kernel_rfl

def L6_DomMore_r15 (F : Nat) (x10 x14 x15 x16 x17 : Value) (K : Value → Value → Value → Value → Value → Value → M Value) : M Value :=
  bnd (opIndexAddr 1 x14 x16) fun v77 => bnd (opLoad v77) fun v78 => bnd (opBin .geq v78 (.int .i64 (0))) fun v79 => onB v79 (bnd (opIndexAddr 1 x14 x17) fun v83 => bnd (opLoad v83) fun v84 => bnd (opBin .geq v84 (.int .i64 (0))) fun v85 => onB v85 (bnd (dom_Above F x15 x16 x17) fun v91 => onB v91 (bnd (dom_Above F x14 x16 x17) fun v97 => bnd (opNot v97) fun v98 => K x10 x14 x15 x16 x17 v98) (K x10 x14 x15 x16 x17 (.bool false))) (K x10 x14 x15 x16 x17 (.bool false))) (K x10 x14 x15 x16 x17 (.bool false))

theorem L6_DomMore_r15_ok (F : Nat) (x10 x14 x15 x16 x17 : Value) (K : Value → Value → Value → Value → Value → Value → M Value) : L6_DomMore_r15 F x10 x14 x15 x16 x17 K = L6_DomMore_R F 15 [(17, x17), (16, x16), (15, x15), (14, x14), (10, x10)] [10, 14, 15, 16, 17, 99] K := by kernel_rfl

def L6_DomMore_r13 (F : Nat) (x10 x14 x15 x16 x17 : Value) (K : Value → Value → Value → Value → Value → Value → M Value) : M Value :=
  bnd (opFieldAddr 0 x10) fun v70 => bnd (opLoad v70) fun v71 => bnd (opBin .lss x17 v71) fun v72 => K x10 x14 x15 x16 x17 v72

theorem L6_DomMore_r13_ok (F : Nat) (x10 x14 x15 x16 x17 : Value) (K : Value → Value → Value → Value → Value → Value → M Value) : L6_DomMore_r13 F x10 x14 x15 x16 x17 K = L6_DomMore_R F 13 [(17, x17), (16, x16), (15, x15), (14, x14), (10, x10)] [10, 14, 15, 16, 17, 72] K := by kernel_rfl

def L6_DomMore_b3 (F : Nat) (E3_2 : Value → Value → Value → Value → M Value) (A3 : Value → Value → Value → Value → Value → M Value) (x10 x14 x15 x16 x17 : Value) : M Value :=
  L6_DomMore_r13 F x10 x14 x15 x16 x17 (fun x10 x14 x15 x16 x17 x72 => onB x72 (L6_DomMore_r15 F x10 x14 x15 x16 x17 (fun x10 x14 x15 x16 x17 x99 => onB x99 (L6_DomMore_r16 F (fun x8 => ret x8)) (L6_DomMore_r14 F x10 x14 x15 x16 x17 (fun x10 x14 x15 x16 x17 => A3 x10 x14 x15 x16 x17)))) (E3_2 x10 x14 x15 x16))

def L6_DomMore_l3 (F : Nat) (E3_2 : Value → Value → Value → Value → M Value) : Nat → Value → Value → Value → Value → Value → M Value
  | 0, _, _, _, _, _ => fail
  | k3 + 1, x10, x14, x15, x16, x17 => L6_DomMore_b3 F E3_2 (L6_DomMore_l3 F E3_2 k3) x10 x14 x15 x16 x17

theorem L6_DomMore_l3_s (F : Nat) (E3_2 : Value → Value → Value → Value → M Value) (k3 : Nat) (x10 x14 x15 x16 x17 : Value) : L6_DomMore_l3 F E3_2 (k3 + 1) x10 x14 x15 x16 x17 = L6_DomMore_b3 F E3_2 (L6_DomMore_l3 F E3_2 k3) x10 x14 x15 x16 x17 := rfl

def L6_DomMore_r12 (F : Nat) (x10 x14 x15 x16 : Value) (K : Value → Value → Value → Value → Value → M Value) : M Value :=
  K x10 x14 x15 x16 (.int .i64 (0))

theorem L6_DomMore_r12_ok (F : Nat) (x10 x14 x15 x16 : Value) (K : Value → Value → Value → Value → Value → M Value) : L6_DomMore_r12 F x10 x14 x15 x16 K = L6_DomMore_R F 12 [(16, x16), (15, x15), (14, x14), (10, x10)] [10, 14, 15, 16, 17] K := by kernel_rfl

def L6_DomMore_r10 (F : Nat) (x10 x14 x15 x16 : Value) (K : Value → Value → Value → Value → Value → M Value) : M Value :=
  bnd (opFieldAddr 0 x10) fun v64 => bnd (opLoad v64) fun v65 => bnd (opBin .lss x16 v65) fun v66 => K x10 x14 x15 x16 v66

theorem L6_DomMore_r10_ok (F : Nat) (x10 x14 x15 x16 : Value) (K : Value → Value → Value → Value → Value → M Value) : L6_DomMore_r10 F x10 x14 x15 x16 K = L6_DomMore_R F 10 [(16, x16), (15, x15), (14, x14), (10, x10)] [10, 14, 15, 16, 66] K := by kernel_rfl

def L6_DomMore_b1 (F : Nat) (E1_0 : M Value) (A1 : Value → Value → Value → Value → M Value) (x10 x14 x15 x16 : Value) : M Value :=
  L6_DomMore_r10 F x10 x14 x15 x16 (fun x10 x14 x15 x16 x66 => onB x66 (L6_DomMore_r12 F x10 x14 x15 x16 (fun x10 x14 x15 x16 x17 => L6_DomMore_l3 F (fun x10 x14 x15 x16 => L6_DomMore_k2 F A1 x10 x14 x15 x16) F x10 x14 x15 x16 x17)) (E1_0 ))

def L6_DomMore_l1 (F : Nat) (E1_0 : M Value) : Nat → Value → Value → Value → Value → M Value
  | 0, _, _, _, _ => fail
  | k1 + 1, x10, x14, x15, x16 => L6_DomMore_b1 F E1_0 (L6_DomMore_l1 F E1_0 k1) x10 x14 x15 x16

theorem L6_DomMore_l1_s (F : Nat) (E1_0 : M Value) (k1 : Nat) (x10 x14 x15 x16 : Value) : L6_DomMore_l1 F E1_0 (k1 + 1) x10 x14 x15 x16 = L6_DomMore_b1 F E1_0 (L6_DomMore_l1 F E1_0 k1) x10 x14 x15 x16 := rfl

def L6_DomMore_r9 (F : Nat) (x10 x14 x15 : Value) (K : Value → Value → Value → Value → M Value) : M Value :=
  K x10 x14 x15 (.int .i64 (0))

theorem L6_DomMore_r9_ok (F : Nat) (x10 x14 x15 : Value) (K : Value → Value → Value → Value → M Value) : L6_DomMore_r9 F x10 x14 x15 K = L6_DomMore_R F 9 [(15, x15), (14, x14), (10, x10)] [10, 14, 15, 16] K := by kernel_rfl

def L6_DomMore_r8 (F : Nat) (x10 x11 : Value) (K : Value → Value → Value → M Value) : M Value :=
  bnd (opLoadN 2 x10) fun v59 => bnd (opLoadN 2 x11) fun v61 => bnd (dom_Up F v59 (.int .i64 (0))) fun v60 => bnd (opChk true x11 v61) fun _ => bnd (dom_Up F v61 (.int .i64 (0))) fun v62 => K x10 v60 v62

theorem L6_DomMore_r8_ok (F : Nat) (x10 x11 : Value) (K : Value → Value → Value → M Value) : L6_DomMore_r8 F x10 x11 K = L6_DomMore_D F 8 [0, 2, 1, 3, 4, 5] [(11, x11), (10, x10)] [10, 14, 15] K := by kernel_rfl

theorem L6_DomMore_r8_good : goodOrder (opsOf Try.f6 8) [0, 2, 1, 3, 4, 5] = true := by kernel_rfl

def L6_DomMore_r7 (F : Nat) (x10 x11 x12 x13 : Value) (K : Value → Value → M Value) : M Value :=
  bnd (opFieldAddr 1 x11) fun v47 => bnd (opLoad v47) fun v48 => bnd (opFieldAddr 1 x11) fun v50 => bnd (opLoad v50) fun v51 => bnd (opIndexAddr 1 v51 x12) fun v53 => bnd (opLoad v53) fun v54 => bnd (opBuildSlice 1 (rep 1 [(.int .i64 (0))]) [(0, 1, false, x13)]) fun v56 => bnd (opAppend 1 8 v54 v56) fun v57 => bnd (opChk false v47 v48) fun _ => bnd (opIndexAddr 1 v48 x12) fun v58 => bnd (opStore v58 v57) fun _ => K x10 x11

theorem L6_DomMore_r7_ok (F : Nat) (x10 x11 x12 x13 : Value) (K : Value → Value → M Value) : L6_DomMore_r7 F x10 x11 x12 x13 K = L6_DomMore_D F 7 [0, 1, 2, 3, 4, 5, 6, 7, 8, 9, 10, 11, 12] [(13, x13), (12, x12), (11, x11), (10, x10)] [10, 11] K := by kernel_rfl

theorem L6_DomMore_r7_good : goodOrder (opsOf Try.f6 7) [0, 1, 2, 3, 4, 5, 6, 7, 8, 9, 10, 11, 12] = true := by kernel_rfl

def L6_DomMore_r6 (F : Nat) (x2 x3 x10 x11 : Value) (K : Value → Value → Value → Value → M Value) : M Value :=
  bnd (opFieldAddr 0 x11) fun v28 => bnd (opLoad v28) fun v29 => bnd (opBin .rem x2 v29) fun v30 => bnd (opFieldAddr 0 x11) fun v31 => bnd (opLoad v31) fun v32 => bnd (opBin .add v30 v32) fun v33 => bnd (opFieldAddr 0 x11) fun v34 => bnd (opLoad v34) fun v35 => bnd (opBin .rem v33 v35) fun v36 => bnd (opFieldAddr 0 x11) fun v38 => bnd (opLoad v38) fun v39 => bnd (opBin .rem x3 v39) fun v40 => bnd (opFieldAddr 0 x11) fun v41 => bnd (opLoad v41) fun v42 => bnd (opBin .add v40 v42) fun v43 => bnd (opFieldAddr 0 x11) fun v44 => bnd (opLoad v44) fun v45 => bnd (opBin .rem v43 v45) fun v46 => K x10 x11 v36 v46

theorem L6_DomMore_r6_ok (F : Nat) (x2 x3 x10 x11 : Value) (K : Value → Value → Value → Value → M Value) : L6_DomMore_r6 F x2 x3 x10 x11 K = L6_DomMore_D F 6 [0, 1, 2, 3, 4, 5, 6, 7, 8, 9, 10, 11, 12, 13, 14, 15, 16, 17, 18, 19, 20, 21] [(11, x11), (10, x10), (3, x3), (2, x2)] [10, 11, 12, 13] K := by kernel_rfl

theorem L6_DomMore_r6_good : goodOrder (opsOf Try.f6 6) [0, 1, 2, 3, 4, 5, 6, 7, 8, 9, 10, 11, 12, 13, 14, 15, 16, 17, 18, 19, 20, 21] = true := by kernel_rfl

def L6_DomMore_r5 (F : Nat) (x0 x1 x2 x3 x10 : Value) (K : Value → Value → Value → Value → M Value) : M Value :=
  bnd (L5_Made F x0 x1) fun v26 => bnd (opPtr [(.int .i64 (0)), (.slice none 0 0)]) fun v11 => bnd (opStoreN 2 v11 v26) fun _ => K x2 x3 x10 v11

theorem L6_DomMore_r5_ok (F : Nat) (x0 x1 x2 x3 x10 : Value) (K : Value → Value → Value → Value → M Value) : L6_DomMore_r5 F x0 x1 x2 x3 x10 K = L6_DomMore_R F 5 [(10, x10), (3, x3), (2, x2), (1, x1), (0, x0)] [2, 3, 10, 11] K := by kernel_rfl

def L6_DomMore_r4 (F : Nat) (x0 x1 x2 x3 : Value) (K : Value → Value → Value → Value → Value → M Value) : M Value :=
  bnd (L5_Made F x0 x1) fun v23 => bnd (opPtr [(.int .i64 (0)), (.slice none 0 0)]) fun v10 => bnd (opStoreN 2 v10 v23) fun _ => K x0 x1 x2 x3 v10

theorem L6_DomMore_r4_ok (F : Nat) (x0 x1 x2 x3 : Value) (K : Value → Value → Value → Value → Value → M Value) : L6_DomMore_r4 F x0 x1 x2 x3 K = L6_DomMore_R F 4 [(3, x3), (2, x2), (1, x1), (0, x0)] [0, 1, 2, 3, 10] K := by kernel_rfl

def L6_DomMore_r3 (F : Nat) (K : Value → M Value) : M Value :=
  K (.bool false)

theorem L6_DomMore_r3_ok (F : Nat) (K : Value → M Value) : L6_DomMore_r3 F K = L6_DomMore_R F 3 [] [8] K := by kernel_rfl

def L6_DomMore_r2 (F : Nat) (x0 x1 x2 x3 x9 : Value) (K : Value → Value → Value → Value → Value → M Value) : M Value :=
  bnd (opNot x9) fun v20 => K x0 x1 x2 x3 v20

theorem L6_DomMore_r2_ok (F : Nat) (x0 x1 x2 x3 x9 : Value) (K : Value → Value → Value → Value → Value → M Value) : L6_DomMore_r2 F x0 x1 x2 x3 x9 K = L6_DomMore_R F 2 [(9, x9), (3, x3), (2, x2), (1, x1), (0, x0)] [0, 1, 2, 3, 20] K := by kernel_rfl

def L6_DomMore_r1 (F : Nat) (x0 x1 x2 x3 : Value) (K : Value → Value → Value → Value → Value → M Value) : M Value :=
  bnd (L6_begun F) fun v18 => K x0 x1 x2 x3 v18

theorem L6_DomMore_r1_ok (F : Nat) (x0 x1 x2 x3 : Value) (K : Value → Value → Value → Value → Value → M Value) : L6_DomMore_r1 F x0 x1 x2 x3 K = L6_DomMore_R F 1 [(3, x3), (2, x2), (1, x1), (0, x0)] [0, 1, 2, 3, 9] K := by kernel_rfl

def L6_DomMore_r0 (F : Nat) (x0 x1 x2 x3 : Value) (K : Value → Value → Value → Value → M Value) : M Value :=
  K x0 x1 x2 x3

theorem L6_DomMore_r0_ok (F : Nat) (x0 x1 x2 x3 : Value) (K : Value → Value → Value → Value → M Value) : L6_DomMore_r0 F x0 x1 x2 x3 K = L6_DomMore_R F 0 [(3, x3), (2, x2), (1, x1), (0, x0)] [0, 1, 2, 3] K := by kernel_rfl

def L6_DomMore (F : Nat) (x0 x1 x2 x3 : Value) : M Value :=
  L6_DomMore_r0 F x0 x1 x2 x3 (fun x0 x1 x2 x3 => L6_DomMore_r1 F x0 x1 x2 x3 (fun x0 x1 x2 x3 x9 => L6_DomMore_r2 F x0 x1 x2 x3 x9 (fun x0 x1 x2 x3 x20 => onB x20 (L6_DomMore_r3 F (fun x8 => ret x8)) (L6_DomMore_r4 F x0 x1 x2 x3 (fun x0 x1 x2 x3 x10 => L6_DomMore_r5 F x0 x1 x2 x3 x10 (fun x2 x3 x10 x11 => L6_DomMore_r6 F x2 x3 x10 x11 (fun x10 x11 x12 x13 => L6_DomMore_r7 F x10 x11 x12 x13 (fun x10 x11 => L6_DomMore_r8 F x10 x11 (fun x10 x14 x15 => L6_DomMore_r9 F x10 x14 x15 (fun x10 x14 x15 x16 => L6_DomMore_l1 F (L6_DomMore_k0 F ) F x10 x14 x15 x16))))))))))

def L6_DomMore_m (F : Nat) : List Value → M Value
  | [x0, x1, x2, x3] => L6_DomMore F x0 x1 x2 x3
  | _ => fail

theorem L6_DomMore_body : Try.f6.body = some (.seq (.region 0 (opsOf Try.f6 0) false) (.seq (.region 1 (opsOf Try.f6 1) false) (.seq (.seq (.region 2 (opsOf Try.f6 2) false) (.cond (.tmp 20) (.seq (.region 3 (opsOf Try.f6 3) false) .ret) .skip)) (.seq (.region 4 (opsOf Try.f6 4) false) (.seq (.region 5 (opsOf Try.f6 5) false) (.seq (.region 6 (opsOf Try.f6 6) true) (.seq (.region 7 (opsOf Try.f6 7) true) (.seq (.region 8 (opsOf Try.f6 8) true) (.seq (.seq (.region 9 (opsOf Try.f6 9) false) (.block 0 (.loop (.seq (.seq (.region 10 (opsOf Try.f6 10) false) (.cond (.tmp 66) .skip (.exit 0))) (.seq (.block 1 (.seq (.region 12 (opsOf Try.f6 12) false) (.block 2 (.loop (.seq (.seq (.region 13 (opsOf Try.f6 13) false) (.cond (.tmp 72) .skip (.exit 2))) (.seq (.block 3 (.seq (.region 15 (opsOf Try.f6 15) false) (.cond (.tmp 99) (.seq (.region 16 (opsOf Try.f6 16) false) .ret) .skip))) (.region 14 (opsOf Try.f6 14) false))))))) (.region 11 (opsOf Try.f6 11) false)))))) (.seq (.region 17 (opsOf Try.f6 17) false) .ret)))))))))) := by kernel_rfl

theorem L6_DomMore_ok (F : Nat) : Sim Try.prog TryG 6 (L6_DomMore_m F) := by
 have hE : EnvOK Try.prog TryG (L6_DomMore_env F) := (EnvOK.cons (L6_begun_ok F) (EnvOK.cons (L5_Made_ok F) (EnvOK.cons (dom_Up_ok F) (EnvOK.cons (dom_Above_ok F) EnvOK.nil))))
 refine Sim.of_body (E := L6_DomMore_env F) Try.func6 L6_DomMore_body Try.call6 ?_ ?_
 · intro args hl; unfold L6_DomMore_m; split
   · exact absurd hl (Nat.not_lt.2 (Nat.le_of_ble_eq_true rfl))
   · rfl
 · intro args ρ h w z; unfold L6_DomMore_m; split
   · rename_i x0 x1 x2 x3; show OKc _ _ [(0, x0), (1, x1), (2, x2), (3, x3)] _ _
     refine rSeq ?_
     refine cLess [3, 2, 1, 0] ?_
     refine xR hE [0, 1, 2, 3] rfl (L6_DomMore_r0_ok F _ _ _ _ _) ?_
     intro x0 x1 x2 x3
     show OKq _ _ _ [(3, x3), (2, x2), (1, x1), (0, x0)] _
     refine rThen ?_
     refine rSeq ?_
     refine cLess [3, 2, 1, 0] ?_
     refine xR hE [0, 1, 2, 3, 9] rfl (L6_DomMore_r1_ok F _ _ _ _ _) ?_
     intro x0 x1 x2 x3 x9
     show OKq _ _ _ [(9, x9), (3, x3), (2, x2), (1, x1), (0, x0)] _
     refine rThen ?_
     refine rSeq ?_
     refine rSeq ?_
     refine cLess [9, 3, 2, 1, 0] ?_
     refine xR hE [0, 1, 2, 3, 20] rfl (L6_DomMore_r2_ok F _ _ _ _ _ _) ?_
     intro x0 x1 x2 x3 x20
     show OKq _ _ _ [(20, x20), (3, x3), (2, x2), (1, x1), (0, x0)] _
     refine rThen ?_
     refine xCond rfl rfl ?_ ?_
     · refine rSeq ?_
       refine cLess [] ?_
       refine xR hE [8] rfl (L6_DomMore_r3_ok F _) ?_
       intro x8
       show OKq _ _ _ [(8, x8)] _
       refine rThen ?_
       refine rRet ?_
       refine xThenR ?_
       exact rDone (.inr rfl) rfl
     · refine rSkip ?_
       refine rThen ?_
       refine rSeq ?_
       refine cLess [3, 2, 1, 0] ?_
       refine xR hE [0, 1, 2, 3, 10] rfl (L6_DomMore_r4_ok F _ _ _ _ _) ?_
       intro x0 x1 x2 x3 x10
       show OKq _ _ _ [(10, x10), (3, x3), (2, x2), (1, x1), (0, x0)] _
       refine rThen ?_
       refine rSeq ?_
       refine cLess [10, 3, 2, 1, 0] ?_
       refine xR hE [2, 3, 10, 11] rfl (L6_DomMore_r5_ok F _ _ _ _ _ _) ?_
       intro x2 x3 x10 x11
       show OKq _ _ _ [(11, x11), (10, x10), (3, x3), (2, x2)] _
       refine rThen ?_
       refine rSeq ?_
       refine cLess [11, 10, 3, 2] ?_
       refine xD Trymix hE [10, 11, 12, 13] rfl L6_DomMore_r6_good (L6_DomMore_r6_ok F _ _ _ _ _) ?_
       intro x10 x11 x12 x13
       show OKq _ _ _ [(13, x13), (12, x12), (11, x11), (10, x10)] _
       refine rThen ?_
       refine rSeq ?_
       refine cLess [13, 12, 11, 10] ?_
       refine xD Trymix hE [10, 11] rfl L6_DomMore_r7_good (L6_DomMore_r7_ok F _ _ _ _ _) ?_
       intro x10 x11
       show OKq _ _ _ [(11, x11), (10, x10)] _
       refine rThen ?_
       refine rSeq ?_
       refine cLess [11, 10] ?_
       refine xD Trymix hE [10, 14, 15] rfl L6_DomMore_r8_good (L6_DomMore_r8_ok F _ _ _) ?_
       intro x10 x14 x15
       show OKq _ _ _ [(15, x15), (14, x14), (10, x10)] _
       refine rThen ?_
       refine xSeq [] (L6_DomMore_k0 F ) ?_ fun hj0 => ?_
       · show OKc _ _ [] _ _
         refine rSeq ?_
         refine cLess [] ?_
         refine xR hE [8] rfl (L6_DomMore_r17_ok F _) ?_
         intro x8
         show OKq _ _ _ [(8, x8)] _
         refine rThen ?_
         refine rRet ?_
         exact rDone (.inr rfl) rfl
       · refine rSeq ?_
         refine cLess [15, 14, 10] ?_
         refine xR hE [10, 14, 15, 16] rfl (L6_DomMore_r9_ok F _ _ _ _) ?_
         intro x10 x14 x15 x16
         show OKq _ _ _ [(16, x16), (15, x15), (14, x14), (10, x10)] _
         refine rThen ?_
         refine rBlock ?_
         refine cLess [16, 15, 14, 10] ?_
         refine xLoopAt [10, 14, 15, 16] [] (fun k1 => L6_DomMore_l1 F (L6_DomMore_k0 F ) k1) F [x10, x14, x15, x16] rfl rfl (fun _ _ _ _ => rfl) fun I hI1 k1 => ?_
         intro x10 x14 x15 x16
         show OKc _ _ [(16, x16), (15, x15), (14, x14), (10, x10)] _ _
         refine cAs (L6_DomMore_l1_s F _ _ _ _ _ _) ?_
         refine rSeq ?_
         refine rSeq ?_
         refine cLess [16, 15, 14, 10] ?_
         refine xR hE [10, 14, 15, 16, 66] rfl (L6_DomMore_r10_ok F _ _ _ _ _) ?_
         intro x10 x14 x15 x16 x66
         show OKq _ _ _ [(66, x66), (16, x16), (15, x15), (14, x14), (10, x10)] _
         refine rThen ?_
         refine xCond rfl rfl ?_ ?_
         · refine rSkip ?_
           refine rThen ?_
           refine xSeq [10, 14, 15, 16] (L6_DomMore_k2 F (L6_DomMore_l1 F (L6_DomMore_k0 F ) k1) ) ?_ fun hj2 => ?_
           · intro x10 x14 x15 x16
             show OKc _ _ [(16, x16), (15, x15), (14, x14), (10, x10)] _ _
             refine cLess [16, 15, 14, 10] ?_
             refine xR hE [10, 14, 15, 16] rfl (L6_DomMore_r11_ok F _ _ _ _ _) ?_
             intro x10 x14 x15 x16
             show OKq _ _ _ [(16, x16), (15, x15), (14, x14), (10, x10)] _
             exact qLess [16, 15, 14, 10] (hI1 k1 x10 x14 x15 x16)
           · refine rBlock ?_
             refine rSeq ?_
             refine cLess [16, 15, 14, 10] ?_
             refine xR hE [10, 14, 15, 16, 17] rfl (L6_DomMore_r12_ok F _ _ _ _ _) ?_
             intro x10 x14 x15 x16 x17
             show OKq _ _ _ [(17, x17), (16, x16), (15, x15), (14, x14), (10, x10)] _
             refine rThen ?_
             refine rBlock ?_
             refine cLess [17, 16, 15, 14, 10] ?_
             refine xLoopAt [10, 14, 15, 16, 17] [] (fun k3 => L6_DomMore_l3 F (fun x10 x14 x15 x16 => L6_DomMore_k2 F (L6_DomMore_l1 F (L6_DomMore_k0 F ) k1) x10 x14 x15 x16) k3) F [x10, x14, x15, x16, x17] rfl rfl (fun _ _ _ _ _ => rfl) fun I hI3 k3 => ?_
             intro x10 x14 x15 x16 x17
             show OKc _ _ [(17, x17), (16, x16), (15, x15), (14, x14), (10, x10)] _ _
             refine cAs (L6_DomMore_l3_s F _ _ _ _ _ _ _) ?_
             refine rSeq ?_
             refine rSeq ?_
             refine cLess [17, 16, 15, 14, 10] ?_
             refine xR hE [10, 14, 15, 16, 17, 72] rfl (L6_DomMore_r13_ok F _ _ _ _ _ _) ?_
             intro x10 x14 x15 x16 x17 x72
             show OKq _ _ _ [(72, x72), (17, x17), (16, x16), (15, x15), (14, x14), (10, x10)] _
             refine rThen ?_
             refine xCond rfl rfl ?_ ?_
             · refine rSkip ?_
               refine rThen ?_
               refine rSeq ?_
               refine rBlock ?_
               refine rSeq ?_
               refine cLess [17, 16, 15, 14, 10] ?_
               refine xR hE [10, 14, 15, 16, 17, 99] rfl (L6_DomMore_r15_ok F _ _ _ _ _ _) ?_
               intro x10 x14 x15 x16 x17 x99
               show OKq _ _ _ [(99, x99), (17, x17), (16, x16), (15, x15), (14, x14), (10, x10)] _
               refine rThen ?_
               refine xCond rfl rfl ?_ ?_
               · refine rSeq ?_
                 refine cLess [] ?_
                 refine xR hE [8] rfl (L6_DomMore_r16_ok F _) ?_
                 intro x8
                 show OKq _ _ _ [(8, x8)] _
                 refine rThen ?_
                 refine rRet ?_
                 refine xBlockR ?_
                 refine xThenR ?_
                 refine xThenR ?_
                 refine xBlockR ?_
                 refine xBlockR ?_
                 refine xThenR ?_
                 refine xThenR ?_
                 refine xBlockR ?_
                 refine xThenR ?_
                 exact rDone (.inr rfl) rfl
               · refine rSkip ?_
                 refine xBlockN ?_
                 refine rThen ?_
                 refine cLess [17, 16, 15, 14, 10] ?_
                 refine xR hE [10, 14, 15, 16, 17] rfl (L6_DomMore_r14_ok F _ _ _ _ _ _) ?_
                 intro x10 x14 x15 x16 x17
                 show OKq _ _ _ [(17, x17), (16, x16), (15, x15), (14, x14), (10, x10)] _
                 exact qLess [17, 16, 15, 14, 10] (hI3 k3 x10 x14 x15 x16 x17)
             · refine rExit ?_
               refine xThenX ?_
               refine xThenX ?_
               refine rOut ?_
               refine xBlockN ?_
               exact qLess [16, 15, 14, 10] (hj2 x10 x14 x15 x16)
         · refine rExit ?_
           refine xThenX ?_
           refine xThenX ?_
           refine rOut ?_
           exact qLess [] (hj0 )
   · exact rFail


/-! ### haruspex/haruspexlaw6.DomDeep -/

def L6_DomDeep_env (F : Nat) : Env := envOf [(9, L6_begun_m F), (10, L5_Made_m F), (11, dom_Up_m F), (14, dom_Depth_m F), (15, dom_Above_m F)]

noncomputable def L6_DomDeep_R (F : Nat) := rK Try.prog TryG (L6_DomDeep_env F) Try.f7
noncomputable def L6_DomDeep_D (F : Nat) := dK Try.prog TryG (L6_DomDeep_env F) Try.f7

def L6_DomDeep_r17 (F : Nat) (x8 : Value) (K : Value → M Value) : M Value :=
  bnd (opIndexAddr 1 x8 (.int .i64 (0))) fun v85 => bnd (opLoad v85) fun v86 => bnd (opBin .eql v86 (.int .i64 (0))) fun v87 => K v87

theorem L6_DomDeep_r17_ok (F : Nat) (x8 : Value) (K : Value → M Value) : L6_DomDeep_r17 F x8 K = L6_DomDeep_R F 17 [(8, x8)] [4] K := by kernel_rfl

def L6_DomDeep_k0 (F : Nat) (x8 : Value) : M Value :=
  L6_DomDeep_r17 F x8 (fun x4 => ret x4)

def L6_DomDeep_r11 (F : Nat) (x6 x7 x8 x9 : Value) (K : Value → Value → Value → Value → M Value) : M Value :=
  bnd (opBin .add x9 (.int .i64 (1))) fun v37 => K x6 x7 x8 v37

theorem L6_DomDeep_r11_ok (F : Nat) (x6 x7 x8 x9 : Value) (K : Value → Value → Value → Value → M Value) : L6_DomDeep_r11 F x6 x7 x8 x9 K = L6_DomDeep_R F 11 [(9, x9), (8, x8), (7, x7), (6, x6)] [6, 7, 8, 9] K := by kernel_rfl

def L6_DomDeep_k2 (F : Nat) (A1 : Value → Value → Value → Value → M Value) (x6 x7 x8 x9 : Value) : M Value :=
  L6_DomDeep_r11 F x6 x7 x8 x9 (fun x6 x7 x8 x9 => A1 x6 x7 x8 x9)

def L6_DomDeep_r16 (F : Nat) (K : Value → M Value) : M Value :=
  K (.bool false)

theorem L6_DomDeep_r16_ok (F : Nat) (K : Value → M Value) : L6_DomDeep_r16 F K = L6_DomDeep_R F 16 [] [4] K := by kernel_rfl

def L6_DomDeep_r15 (F : Nat) (x6 x7 x8 x9 : Value) (K : Value → Value → Value → Value → Value → M Value) : M Value :=
  bnd (opBin .neq x9 (.int .i64 (0))) fun v49 => onB v49 (bnd (opIndexAddr 1 x8 x9) fun v53 => bnd (opLoad v53) fun v54 => bnd (opIndexAddr 1 x7 x9) fun v58 => bnd (opLoad v58) fun v59 => bnd (opIndexAddr 1 x8 v59) fun v60 => bnd (opLoad v60) fun v61 => bnd (opBin .add v61 (.int .i64 (1))) fun v62 => bnd (opBin .neq v54 v62) fun v63 => onB v63 (K x6 x7 x8 x9 (.bool true)) (bnd (opIndexAddr 1 x7 x9) fun v68 => bnd (opLoad v68) fun v69 => bnd (dom_Above F x7 v69 x9) fun v71 => bnd (opNot v71) fun v72 => onB v72 (K x6 x7 x8 x9 (.bool true)) (bnd (opIndexAddr 1 x7 x9) fun v79 => bnd (opLoad v79) fun v80 => bnd (dom_Above F x7 x9 v80) fun v81 => K x6 x7 x8 x9 v81))) (K x6 x7 x8 x9 (.bool false))

theorem L6_DomDeep_r15_ok (F : Nat) (x6 x7 x8 x9 : Value) (K : Value → Value → Value → Value → Value → M Value) : L6_DomDeep_r15 F x6 x7 x8 x9 K = L6_DomDeep_D F 15 [0, 1, 2, 3, 4, 5, 6, 7, 8, 9, 10, 11, 12, 13, 14, 15, 16, 17, 18, 19, 20, 21, 22, 23, 24, 25, 26, 27, 28, 29, 30, 31, 32, 33, 34, 35] [(9, x9), (8, x8), (7, x7), (6, x6)] [6, 7, 8, 9, 83] K := by kernel_rfl

theorem L6_DomDeep_r15_good : goodOrder (opsOf Try.f7 15) [0, 1, 2, 3, 4, 5, 6, 7, 8, 9, 10, 11, 12, 13, 14, 15, 16, 17, 18, 19, 20, 21, 22, 23, 24, 25, 26, 27, 28, 29, 30, 31, 32, 33, 34, 35] = true := by kernel_rfl

def L6_DomDeep_r14 (F : Nat) (K : Value → M Value) : M Value :=
  K (.bool false)

theorem L6_DomDeep_r14_ok (F : Nat) (K : Value → M Value) : L6_DomDeep_r14 F K = L6_DomDeep_R F 14 [] [4] K := by kernel_rfl

def L6_DomDeep_r13 (F : Nat) (x6 x7 x8 x9 : Value) (K : Value → Value → Value → Value → Value → M Value) : M Value :=
  bnd (opIndexAddr 1 x8 x9) fun v45 => bnd (opLoad v45) fun v46 => bnd (opBin .neq v46 (.int .i64 (-1))) fun v47 => K x6 x7 x8 x9 v47

theorem L6_DomDeep_r13_ok (F : Nat) (x6 x7 x8 x9 : Value) (K : Value → Value → Value → Value → Value → M Value) : L6_DomDeep_r13 F x6 x7 x8 x9 K = L6_DomDeep_R F 13 [(9, x9), (8, x8), (7, x7), (6, x6)] [6, 7, 8, 9, 47] K := by kernel_rfl

def L6_DomDeep_r12 (F : Nat) (x6 x7 x8 x9 : Value) (K : Value → Value → Value → Value → Value → M Value) : M Value :=
  bnd (opIndexAddr 1 x7 x9) fun v40 => bnd (opLoad v40) fun v41 => bnd (opBin .lss v41 (.int .i64 (0))) fun v42 => K x6 x7 x8 x9 v42

theorem L6_DomDeep_r12_ok (F : Nat) (x6 x7 x8 x9 : Value) (K : Value → Value → Value → Value → Value → M Value) : L6_DomDeep_r12 F x6 x7 x8 x9 K = L6_DomDeep_R F 12 [(9, x9), (8, x8), (7, x7), (6, x6)] [6, 7, 8, 9, 42] K := by kernel_rfl

def L6_DomDeep_r10 (F : Nat) (x6 x7 x8 x9 : Value) (K : Value → Value → Value → Value → Value → M Value) : M Value :=
  bnd (opFieldAddr 0 x6) fun v33 => bnd (opLoad v33) fun v34 => bnd (opBin .lss x9 v34) fun v35 => K x6 x7 x8 x9 v35

theorem L6_DomDeep_r10_ok (F : Nat) (x6 x7 x8 x9 : Value) (K : Value → Value → Value → Value → Value → M Value) : L6_DomDeep_r10 F x6 x7 x8 x9 K = L6_DomDeep_R F 10 [(9, x9), (8, x8), (7, x7), (6, x6)] [6, 7, 8, 9, 35] K := by kernel_rfl

def L6_DomDeep_b1 (F : Nat) (E1_0 : Value → M Value) (A1 : Value → Value → Value → Value → M Value) (x6 x7 x8 x9 : Value) : M Value :=
  L6_DomDeep_r10 F x6 x7 x8 x9 (fun x6 x7 x8 x9 x35 => onB x35 (L6_DomDeep_r12 F x6 x7 x8 x9 (fun x6 x7 x8 x9 x42 => onB x42 (L6_DomDeep_r13 F x6 x7 x8 x9 (fun x6 x7 x8 x9 x47 => onB x47 (L6_DomDeep_r14 F (fun x4 => ret x4)) (L6_DomDeep_k2 F A1 x6 x7 x8 x9))) (L6_DomDeep_r15 F x6 x7 x8 x9 (fun x6 x7 x8 x9 x83 => onB x83 (L6_DomDeep_r16 F (fun x4 => ret x4)) (L6_DomDeep_k2 F A1 x6 x7 x8 x9))))) (E1_0 x8))

def L6_DomDeep_l1 (F : Nat) (E1_0 : Value → M Value) : Nat → Value → Value → Value → Value → M Value
  | 0, _, _, _, _ => fail
  | k1 + 1, x6, x7, x8, x9 => L6_DomDeep_b1 F E1_0 (L6_DomDeep_l1 F E1_0 k1) x6 x7 x8 x9

theorem L6_DomDeep_l1_s (F : Nat) (E1_0 : Value → M Value) (k1 : Nat) (x6 x7 x8 x9 : Value) : L6_DomDeep_l1 F E1_0 (k1 + 1) x6 x7 x8 x9 = L6_DomDeep_b1 F E1_0 (L6_DomDeep_l1 F E1_0 k1) x6 x7 x8 x9 := rfl

def L6_DomDeep_r9 (F : Nat) (x6 x7 x8 : Value) (K : Value → Value → Value → Value → M Value) : M Value :=
  K x6 x7 x8 (.int .i64 (0))

theorem L6_DomDeep_r9_ok (F : Nat) (x6 x7 x8 : Value) (K : Value → Value → Value → Value → M Value) : L6_DomDeep_r9 F x6 x7 x8 K = L6_DomDeep_R F 9 [(8, x8), (7, x7), (6, x6)] [6, 7, 8, 9] K := by kernel_rfl

def L6_DomDeep_r8 (F : Nat) (K : Value → M Value) : M Value :=
  K (.bool false)

theorem L6_DomDeep_r8_ok (F : Nat) (K : Value → M Value) : L6_DomDeep_r8 F K = L6_DomDeep_R F 8 [] [4] K := by kernel_rfl

def L6_DomDeep_r7 (F : Nat) (x6 x7 x8 : Value) (K : Value → Value → Value → Value → M Value) : M Value :=
  bnd (opLen x7) fun v21 => bnd (opFieldAddr 0 x6) fun v22 => bnd (opLoad v22) fun v23 => bnd (opBin .neq v21 v23) fun v24 => onB v24 (K x6 x7 x8 (.bool true)) (bnd (opLen x8) fun v27 => bnd (opFieldAddr 0 x6) fun v28 => bnd (opLoad v28) fun v29 => bnd (opBin .neq v27 v29) fun v30 => K x6 x7 x8 v30)

theorem L6_DomDeep_r7_ok (F : Nat) (x6 x7 x8 : Value) (K : Value → Value → Value → Value → M Value) : L6_DomDeep_r7 F x6 x7 x8 K = L6_DomDeep_R F 7 [(8, x8), (7, x7), (6, x6)] [6, 7, 8, 31] K := by kernel_rfl

def L6_DomDeep_r6 (F : Nat) (x6 x7 : Value) (K : Value → Value → Value → M Value) : M Value :=
  bnd (dom_Depth F x7) fun v19 => K x6 x7 v19

theorem L6_DomDeep_r6_ok (F : Nat) (x6 x7 : Value) (K : Value → Value → Value → M Value) : L6_DomDeep_r6 F x6 x7 K = L6_DomDeep_R F 6 [(7, x7), (6, x6)] [6, 7, 8] K := by kernel_rfl

def L6_DomDeep_r5 (F : Nat) (x6 : Value) (K : Value → Value → M Value) : M Value :=
  bnd (opLoadN 2 x6) fun v16 => bnd (dom_Up F v16 (.int .i64 (0))) fun v17 => K x6 v17

theorem L6_DomDeep_r5_ok (F : Nat) (x6 : Value) (K : Value → Value → M Value) : L6_DomDeep_r5 F x6 K = L6_DomDeep_R F 5 [(6, x6)] [6, 7] K := by kernel_rfl

def L6_DomDeep_r4 (F : Nat) (x0 x1 : Value) (K : Value → M Value) : M Value :=
  bnd (L5_Made F x0 x1) fun v15 => bnd (opPtr [(.int .i64 (0)), (.slice none 0 0)]) fun v6 => bnd (opStoreN 2 v6 v15) fun _ => K v6

theorem L6_DomDeep_r4_ok (F : Nat) (x0 x1 : Value) (K : Value → M Value) : L6_DomDeep_r4 F x0 x1 K = L6_DomDeep_R F 4 [(1, x1), (0, x0)] [6] K := by kernel_rfl

def L6_DomDeep_r3 (F : Nat) (K : Value → M Value) : M Value :=
  K (.bool false)

theorem L6_DomDeep_r3_ok (F : Nat) (K : Value → M Value) : L6_DomDeep_r3 F K = L6_DomDeep_R F 3 [] [4] K := by kernel_rfl

def L6_DomDeep_r2 (F : Nat) (x0 x1 x5 : Value) (K : Value → Value → Value → M Value) : M Value :=
  bnd (opNot x5) fun v12 => K x0 x1 v12

theorem L6_DomDeep_r2_ok (F : Nat) (x0 x1 x5 : Value) (K : Value → Value → Value → M Value) : L6_DomDeep_r2 F x0 x1 x5 K = L6_DomDeep_R F 2 [(5, x5), (1, x1), (0, x0)] [0, 1, 12] K := by kernel_rfl

def L6_DomDeep_r1 (F : Nat) (x0 x1 : Value) (K : Value → Value → Value → M Value) : M Value :=
  bnd (L6_begun F) fun v10 => K x0 x1 v10

theorem L6_DomDeep_r1_ok (F : Nat) (x0 x1 : Value) (K : Value → Value → Value → M Value) : L6_DomDeep_r1 F x0 x1 K = L6_DomDeep_R F 1 [(1, x1), (0, x0)] [0, 1, 5] K := by kernel_rfl

def L6_DomDeep_r0 (F : Nat) (x0 x1 : Value) (K : Value → Value → M Value) : M Value :=
  K x0 x1

theorem L6_DomDeep_r0_ok (F : Nat) (x0 x1 : Value) (K : Value → Value → M Value) : L6_DomDeep_r0 F x0 x1 K = L6_DomDeep_R F 0 [(1, x1), (0, x0)] [0, 1] K := by kernel_rfl

def L6_DomDeep (F : Nat) (x0 x1 : Value) : M Value :=
  L6_DomDeep_r0 F x0 x1 (fun x0 x1 => L6_DomDeep_r1 F x0 x1 (fun x0 x1 x5 => L6_DomDeep_r2 F x0 x1 x5 (fun x0 x1 x12 => onB x12 (L6_DomDeep_r3 F (fun x4 => ret x4)) (L6_DomDeep_r4 F x0 x1 (fun x6 => L6_DomDeep_r5 F x6 (fun x6 x7 => L6_DomDeep_r6 F x6 x7 (fun x6 x7 x8 => L6_DomDeep_r7 F x6 x7 x8 (fun x6 x7 x8 x31 => onB x31 (L6_DomDeep_r8 F (fun x4 => ret x4)) (L6_DomDeep_r9 F x6 x7 x8 (fun x6 x7 x8 x9 => L6_DomDeep_l1 F (fun x8 => L6_DomDeep_k0 F x8) F x6 x7 x8 x9))))))))))

def L6_DomDeep_m (F : Nat) : List Value → M Value
  | [x0, x1] => L6_DomDeep F x0 x1
  | _ => fail

theorem L6_DomDeep_body : Try.f7.body = some (.seq (.region 0 (opsOf Try.f7 0) false) (.seq (.region 1 (opsOf Try.f7 1) false) (.seq (.seq (.region 2 (opsOf Try.f7 2) false) (.cond (.tmp 12) (.seq (.region 3 (opsOf Try.f7 3) false) .ret) .skip)) (.seq (.region 4 (opsOf Try.f7 4) false) (.seq (.region 5 (opsOf Try.f7 5) false) (.seq (.region 6 (opsOf Try.f7 6) false) (.seq (.seq (.region 7 (opsOf Try.f7 7) false) (.cond (.tmp 31) (.seq (.region 8 (opsOf Try.f7 8) false) .ret) .skip)) (.seq (.seq (.region 9 (opsOf Try.f7 9) false) (.block 0 (.loop (.seq (.seq (.region 10 (opsOf Try.f7 10) false) (.cond (.tmp 35) .skip (.exit 0))) (.seq (.block 1 (.seq (.seq (.region 12 (opsOf Try.f7 12) false) (.cond (.tmp 42) (.seq (.seq (.region 13 (opsOf Try.f7 13) false) (.cond (.tmp 47) (.seq (.region 14 (opsOf Try.f7 14) false) .ret) .skip)) (.exit 1)) .skip)) (.seq (.region 15 (opsOf Try.f7 15) true) (.cond (.tmp 83) (.seq (.region 16 (opsOf Try.f7 16) false) .ret) .skip)))) (.region 11 (opsOf Try.f7 11) false)))))) (.seq (.region 17 (opsOf Try.f7 17) false) .ret))))))))) := by kernel_rfl

theorem L6_DomDeep_ok (F : Nat) : Sim Try.prog TryG 7 (L6_DomDeep_m F) := by
 have hE : EnvOK Try.prog TryG (L6_DomDeep_env F) := (EnvOK.cons (L6_begun_ok F) (EnvOK.cons (L5_Made_ok F) (EnvOK.cons (dom_Up_ok F) (EnvOK.cons (dom_Depth_ok F) (EnvOK.cons (dom_Above_ok F) EnvOK.nil)))))
 refine Sim.of_body (E := L6_DomDeep_env F) Try.func7 L6_DomDeep_body Try.call7 ?_ ?_
 · intro args hl; unfold L6_DomDeep_m; split
   · exact absurd hl (Nat.not_lt.2 (Nat.le_of_ble_eq_true rfl))
   · rfl
 · intro args ρ h w z; unfold L6_DomDeep_m; split
   · rename_i x0 x1; show OKc _ _ [(0, x0), (1, x1)] _ _
     refine rSeq ?_
     refine cLess [1, 0] ?_
     refine xR hE [0, 1] rfl (L6_DomDeep_r0_ok F _ _ _) ?_
     intro x0 x1
     show OKq _ _ _ [(1, x1), (0, x0)] _
     refine rThen ?_
     refine rSeq ?_
     refine cLess [1, 0] ?_
     refine xR hE [0, 1, 5] rfl (L6_DomDeep_r1_ok F _ _ _) ?_
     intro x0 x1 x5
     show OKq _ _ _ [(5, x5), (1, x1), (0, x0)] _
     refine rThen ?_
     refine rSeq ?_
     refine rSeq ?_
     refine cLess [5, 1, 0] ?_
     refine xR hE [0, 1, 12] rfl (L6_DomDeep_r2_ok F _ _ _ _) ?_
     intro x0 x1 x12
     show OKq _ _ _ [(12, x12), (1, x1), (0, x0)] _
     refine rThen ?_
     refine xCond rfl rfl ?_ ?_
     · refine rSeq ?_
       refine cLess [] ?_
       refine xR hE [4] rfl (L6_DomDeep_r3_ok F _) ?_
       intro x4
       show OKq _ _ _ [(4, x4)] _
       refine rThen ?_
       refine rRet ?_
       refine xThenR ?_
       exact rDone (.inr rfl) rfl
     · refine rSkip ?_
       refine rThen ?_
       refine rSeq ?_
       refine cLess [1, 0] ?_
       refine xR hE [6] rfl (L6_DomDeep_r4_ok F _ _ _) ?_
       intro x6
       show OKq _ _ _ [(6, x6)] _
       refine rThen ?_
       refine rSeq ?_
       refine cLess [6] ?_
       refine xR hE [6, 7] rfl (L6_DomDeep_r5_ok F _ _) ?_
       intro x6 x7
       show OKq _ _ _ [(7, x7), (6, x6)] _
       refine rThen ?_
       refine rSeq ?_
       refine cLess [7, 6] ?_
       refine xR hE [6, 7, 8] rfl (L6_DomDeep_r6_ok F _ _ _) ?_
       intro x6 x7 x8
       show OKq _ _ _ [(8, x8), (7, x7), (6, x6)] _
       refine rThen ?_
       refine rSeq ?_
       refine rSeq ?_
       refine cLess [8, 7, 6] ?_
       refine xR hE [6, 7, 8, 31] rfl (L6_DomDeep_r7_ok F _ _ _ _) ?_
       intro x6 x7 x8 x31
       show OKq _ _ _ [(31, x31), (8, x8), (7, x7), (6, x6)] _
       refine rThen ?_
       refine xCond rfl rfl ?_ ?_
       · refine rSeq ?_
         refine cLess [] ?_
         refine xR hE [4] rfl (L6_DomDeep_r8_ok F _) ?_
         intro x4
         show OKq _ _ _ [(4, x4)] _
         refine rThen ?_
         refine rRet ?_
         refine xThenR ?_
         exact rDone (.inr rfl) rfl
       · refine rSkip ?_
         refine rThen ?_
         refine xSeq [8] (L6_DomDeep_k0 F ) ?_ fun hj0 => ?_
         · intro x8
           show OKc _ _ [(8, x8)] _ _
           refine rSeq ?_
           refine cLess [8] ?_
           refine xR hE [4] rfl (L6_DomDeep_r17_ok F _ _) ?_
           intro x4
           show OKq _ _ _ [(4, x4)] _
           refine rThen ?_
           refine rRet ?_
           exact rDone (.inr rfl) rfl
         · refine rSeq ?_
           refine cLess [8, 7, 6] ?_
           refine xR hE [6, 7, 8, 9] rfl (L6_DomDeep_r9_ok F _ _ _ _) ?_
           intro x6 x7 x8 x9
           show OKq _ _ _ [(9, x9), (8, x8), (7, x7), (6, x6)] _
           refine rThen ?_
           refine rBlock ?_
           refine cLess [9, 8, 7, 6] ?_
           refine xLoopAt [6, 7, 8, 9] [] (fun k1 => L6_DomDeep_l1 F (fun x8 => L6_DomDeep_k0 F x8) k1) F [x6, x7, x8, x9] rfl rfl (fun _ _ _ _ => rfl) fun I hI1 k1 => ?_
           intro x6 x7 x8 x9
           show OKc _ _ [(9, x9), (8, x8), (7, x7), (6, x6)] _ _
           refine cAs (L6_DomDeep_l1_s F _ _ _ _ _ _) ?_
           refine rSeq ?_
           refine rSeq ?_
           refine cLess [9, 8, 7, 6] ?_
           refine xR hE [6, 7, 8, 9, 35] rfl (L6_DomDeep_r10_ok F _ _ _ _ _) ?_
           intro x6 x7 x8 x9 x35
           show OKq _ _ _ [(35, x35), (9, x9), (8, x8), (7, x7), (6, x6)] _
           refine rThen ?_
           refine xCond rfl rfl ?_ ?_
           · refine rSkip ?_
             refine rThen ?_
             refine xSeq [6, 7, 8, 9] (L6_DomDeep_k2 F (L6_DomDeep_l1 F (fun x8 => L6_DomDeep_k0 F x8) k1) ) ?_ fun hj2 => ?_
             · intro x6 x7 x8 x9
               show OKc _ _ [(9, x9), (8, x8), (7, x7), (6, x6)] _ _
               refine cLess [9, 8, 7, 6] ?_
               refine xR hE [6, 7, 8, 9] rfl (L6_DomDeep_r11_ok F _ _ _ _ _) ?_
               intro x6 x7 x8 x9
               show OKq _ _ _ [(9, x9), (8, x8), (7, x7), (6, x6)] _
               exact qLess [9, 8, 7, 6] (hI1 k1 x6 x7 x8 x9)
             · refine rBlock ?_
               refine rSeq ?_
               refine rSeq ?_
               refine cLess [9, 8, 7, 6] ?_
               refine xR hE [6, 7, 8, 9, 42] rfl (L6_DomDeep_r12_ok F _ _ _ _ _) ?_
               intro x6 x7 x8 x9 x42
               show OKq _ _ _ [(42, x42), (9, x9), (8, x8), (7, x7), (6, x6)] _
               refine rThen ?_
               refine xCond rfl rfl ?_ ?_
               · refine rSeq ?_
                 refine rSeq ?_
                 refine cLess [9, 8, 7, 6] ?_
                 refine xR hE [6, 7, 8, 9, 47] rfl (L6_DomDeep_r13_ok F _ _ _ _ _) ?_
                 intro x6 x7 x8 x9 x47
                 show OKq _ _ _ [(47, x47), (9, x9), (8, x8), (7, x7), (6, x6)] _
                 refine rThen ?_
                 refine xCond rfl rfl ?_ ?_
                 · refine rSeq ?_
                   refine cLess [] ?_
                   refine xR hE [4] rfl (L6_DomDeep_r14_ok F _) ?_
                   intro x4
                   show OKq _ _ _ [(4, x4)] _
                   refine rThen ?_
                   refine rRet ?_
                   refine xThenR ?_
                   refine xThenR ?_
                   refine xBlockR ?_
                   refine xThenR ?_
                   refine xThenR ?_
                   refine xBlockR ?_
                   refine xThenR ?_
                   exact rDone (.inr rfl) rfl
                 · refine rSkip ?_
                   refine rThen ?_
                   refine rExit ?_
                   refine xThenX ?_
                   refine rOut ?_
                   exact qLess [9, 8, 7, 6] (hj2 x6 x7 x8 x9)
               · refine rSkip ?_
                 refine rThen ?_
                 refine rSeq ?_
                 refine cLess [9, 8, 7, 6] ?_
                 refine xD Trymix hE [6, 7, 8, 9, 83] rfl L6_DomDeep_r15_good (L6_DomDeep_r15_ok F _ _ _ _ _) ?_
                 intro x6 x7 x8 x9 x83
                 show OKq _ _ _ [(83, x83), (9, x9), (8, x8), (7, x7), (6, x6)] _
                 refine rThen ?_
                 refine xCond rfl rfl ?_ ?_
                 · refine rSeq ?_
                   refine cLess [] ?_
                   refine xR hE [4] rfl (L6_DomDeep_r16_ok F _) ?_
                   intro x4
                   show OKq _ _ _ [(4, x4)] _
                   refine rThen ?_
                   refine rRet ?_
                   refine xBlockR ?_
                   refine xThenR ?_
                   refine xThenR ?_
                   refine xBlockR ?_
                   refine xThenR ?_
                   exact rDone (.inr rfl) rfl
                 · refine rSkip ?_
                   refine xBlockN ?_
                   exact qLess [9, 8, 7, 6] (hj2 x6 x7 x8 x9)
           · refine rExit ?_
             refine xThenX ?_
             refine xThenX ?_
             refine rOut ?_
             exact qLess [8] (hj0 x8)
   · exact rFail



end Go.Fw
