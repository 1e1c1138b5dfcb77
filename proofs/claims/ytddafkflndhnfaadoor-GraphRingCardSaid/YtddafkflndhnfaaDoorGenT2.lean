/-
  What functions of this seat come to, and that they do: part 2.
-/
import Derived.Test.YtddafkflndhnfaaDoorGenT1
set_option linter.unusedVariables false
set_option maxRecDepth 20000
namespace Go.Fw
open Go.Proofs

/-! ### (*haruspex/graph.finder).visit -/

def graph_finder_visit_a (rec : Value → Value → M Value) : List Value → M Value
  | [x0, x1] => rec x0 x1
  | _ => fail

def graph_finder_visit_env (F : Nat) (rec : Value → Value → M Value) : Env := envOf [(47, graph_finder_visit_a rec), (50, slices_Index_m F), (58, slices_Clone_m F), (59, slices_Sort_m F)]

noncomputable def graph_finder_visit_R (F : Nat) (rec : Value → Value → M Value) := rK Tryd.prog TrydG (graph_finder_visit_env F rec) Tryd.f47
noncomputable def graph_finder_visit_D (F : Nat) (rec : Value → Value → M Value) := dK Tryd.prog TrydG (graph_finder_visit_env F rec) Tryd.f47

def graph_finder_visit_r23 (F : Nat) (rec : Value → Value → M Value) (x0 x7 : Value) (K : M Value) : M Value :=
  bnd (opNil x0) fun v181 => bnd (opFieldAddr 7 v181) fun v182 => bnd (opLoad v182) fun v183 => bnd (opBuildSlice 1 (rep 1 [(.slice none 0 0)]) [(0, 1, false, x7)]) fun v185 => bnd (opAppend 1 24 v183 v185) fun v186 => bnd (opNil x0) fun v187 => bnd (opFieldAddr 7 v187) fun v188 => bnd (opStore v188 v186) fun _ => K

theorem graph_finder_visit_r23_ok (F : Nat) (rec : Value → Value → M Value) (x0 x7 : Value) (K : M Value) : graph_finder_visit_r23 F rec x0 x7 K = graph_finder_visit_R F rec 23 [(7, x7), (0, x0)] [] K := by kernel_rfl

def graph_finder_visit_r22 (F : Nat) (rec : Value → Value → M Value) (x0 x7 : Value) (K : Value → Value → M Value) : M Value :=
  bnd (slices_Sort F x7) fun v178 => K x0 x7

theorem graph_finder_visit_r22_ok (F : Nat) (rec : Value → Value → M Value) (x0 x7 : Value) (K : Value → Value → M Value) : graph_finder_visit_r22 F rec x0 x7 K = graph_finder_visit_R F rec 22 [(7, x7), (0, x0)] [0, 7] K := by kernel_rfl

def graph_finder_visit_k0 (F : Nat) (rec : Value → Value → M Value) (x0 x7 : Value) : M Value :=
  graph_finder_visit_r22 F rec x0 x7 (fun x0 x7 => graph_finder_visit_r23 F rec x0 x7 (tupK []))

def graph_finder_visit_r21 (F : Nat) (rec : Value → Value → M Value) (x0 x7 x164 x165 x166 : Value) (K : Value → Value → Value → Value → Value → M Value) : M Value :=
  bnd (opBin .add x166 (.int .i64 (1))) fun v176 => K x0 x7 x164 x165 v176

theorem graph_finder_visit_r21_ok (F : Nat) (rec : Value → Value → M Value) (x0 x7 x164 x165 x166 : Value) (K : Value → Value → Value → Value → Value → M Value) : graph_finder_visit_r21 F rec x0 x7 x164 x165 x166 K = graph_finder_visit_R F rec 21 [(166, x166), (165, x165), (164, x164), (7, x7), (0, x0)] [0, 7, 164, 165, 166] K := by kernel_rfl

def graph_finder_visit_r20 (F : Nat) (rec : Value → Value → M Value) (x0 x7 x9 x164 x165 x166 : Value) (K : Value → Value → Value → Value → Value → M Value) : M Value :=
  bnd (opNil x0) fun v171 => bnd (opFieldAddr 4 v171) fun v172 => bnd (opLoad v172) fun v173 => bnd (opIndexAddr 1 v173 x9) fun v175 => bnd (opStore v175 (.bool false)) fun _ => K x0 x7 x164 x165 x166

theorem graph_finder_visit_r20_ok (F : Nat) (rec : Value → Value → M Value) (x0 x7 x9 x164 x165 x166 : Value) (K : Value → Value → Value → Value → Value → M Value) : graph_finder_visit_r20 F rec x0 x7 x9 x164 x165 x166 K = graph_finder_visit_R F rec 20 [(166, x166), (165, x165), (164, x164), (9, x9), (7, x7), (0, x0)] [0, 7, 164, 165, 166] K := by kernel_rfl

def graph_finder_visit_r19 (F : Nat) (rec : Value → Value → M Value) (x0 x7 x164 x165 x166 : Value) (K : Value → Value → Value → Value → Value → Value → M Value) : M Value :=
  bnd (opIndexAddr 1 x164 x166) fun v168 => bnd (opLoad v168) fun v169 => K x0 x7 v169 x164 x165 x166

theorem graph_finder_visit_r19_ok (F : Nat) (rec : Value → Value → M Value) (x0 x7 x164 x165 x166 : Value) (K : Value → Value → Value → Value → Value → Value → M Value) : graph_finder_visit_r19 F rec x0 x7 x164 x165 x166 K = graph_finder_visit_R F rec 19 [(166, x166), (165, x165), (164, x164), (7, x7), (0, x0)] [0, 7, 9, 164, 165, 166] K := by kernel_rfl

def graph_finder_visit_r18 (F : Nat) (rec : Value → Value → M Value) (x0 x7 x164 x165 x166 : Value) (K : Value → Value → Value → Value → Value → Value → M Value) : M Value :=
  bnd (opBin .lss x166 x165) fun v167 => K x0 x7 x164 x165 x166 v167

theorem graph_finder_visit_r18_ok (F : Nat) (rec : Value → Value → M Value) (x0 x7 x164 x165 x166 : Value) (K : Value → Value → Value → Value → Value → Value → M Value) : graph_finder_visit_r18 F rec x0 x7 x164 x165 x166 K = graph_finder_visit_R F rec 18 [(166, x166), (165, x165), (164, x164), (7, x7), (0, x0)] [0, 7, 164, 165, 166, 167] K := by kernel_rfl

def graph_finder_visit_b1 (F : Nat) (rec : Value → Value → M Value) (E1_2 : Value → Value → M Value) (A1 : Value → Value → Value → Value → Value → M Value) (x0 x7 x164 x165 x166 : Value) : M Value :=
  graph_finder_visit_r18 F rec x0 x7 x164 x165 x166 (fun x0 x7 x164 x165 x166 x167 => onB x167 (graph_finder_visit_r19 F rec x0 x7 x164 x165 x166 (fun x0 x7 x9 x164 x165 x166 => graph_finder_visit_r20 F rec x0 x7 x9 x164 x165 x166 (fun x0 x7 x164 x165 x166 => graph_finder_visit_r21 F rec x0 x7 x164 x165 x166 (fun x0 x7 x164 x165 x166 => A1 x0 x7 x164 x165 x166)))) (E1_2 x0 x7))

def graph_finder_visit_l1 (F : Nat) (rec : Value → Value → M Value) (E1_2 : Value → Value → M Value) : Nat → Value → Value → Value → Value → Value → M Value
  | 0, _, _, _, _, _ => fail
  | k1 + 1, x0, x7, x164, x165, x166 => graph_finder_visit_b1 F rec E1_2 (graph_finder_visit_l1 F rec E1_2 k1) x0 x7 x164 x165 x166

theorem graph_finder_visit_l1_s (F : Nat) (rec : Value → Value → M Value) (E1_2 : Value → Value → M Value) (k1 : Nat) (x0 x7 x164 x165 x166 : Value) : graph_finder_visit_l1 F rec E1_2 (k1 + 1) x0 x7 x164 x165 x166 = graph_finder_visit_b1 F rec E1_2 (graph_finder_visit_l1 F rec E1_2 k1) x0 x7 x164 x165 x166 := rfl

def graph_finder_visit_r17 (F : Nat) (rec : Value → Value → M Value) (x0 x7 : Value) (K : Value → Value → Value → Value → Value → M Value) : M Value :=
  bnd (opLen x7) fun v165 => K x0 x7 x7 v165 (.int .i64 (0))

theorem graph_finder_visit_r17_ok (F : Nat) (rec : Value → Value → M Value) (x0 x7 : Value) (K : Value → Value → Value → Value → Value → M Value) : graph_finder_visit_r17 F rec x0 x7 K = graph_finder_visit_R F rec 17 [(7, x7), (0, x0)] [0, 7, 164, 165, 166] K := by kernel_rfl

def graph_finder_visit_r16 (F : Nat) (rec : Value → Value → M Value) (x0 x6 x7 : Value) (K : Value → Value → M Value) : M Value :=
  bnd (opNil x0) fun v157 => bnd (opFieldAddr 5 v157) fun v158 => bnd (opLoad v158) fun v159 => bnd (opSlice 1 v159 none (some x6) none) fun v161 => bnd (opNil x0) fun v162 => bnd (opFieldAddr 5 v162) fun v163 => bnd (opStore v163 v161) fun _ => K x0 x7

theorem graph_finder_visit_r16_ok (F : Nat) (rec : Value → Value → M Value) (x0 x6 x7 : Value) (K : Value → Value → M Value) : graph_finder_visit_r16 F rec x0 x6 x7 K = graph_finder_visit_R F rec 16 [(7, x7), (6, x6), (0, x0)] [0, 7] K := by kernel_rfl

def graph_finder_visit_r15 (F : Nat) (rec : Value → Value → M Value) (x0 x6 : Value) (K : Value → Value → Value → M Value) : M Value :=
  bnd (opNil x0) fun v149 => bnd (opFieldAddr 5 v149) fun v150 => bnd (opLoad v150) fun v151 => bnd (opSlice 1 v151 (some x6) none none) fun v153 => bnd (slices_Clone F v153) fun v154 => K x0 x6 v154

theorem graph_finder_visit_r15_ok (F : Nat) (rec : Value → Value → M Value) (x0 x6 : Value) (K : Value → Value → Value → M Value) : graph_finder_visit_r15 F rec x0 x6 K = graph_finder_visit_R F rec 15 [(6, x6), (0, x0)] [0, 6, 7] K := by kernel_rfl

def graph_finder_visit_r14 (F : Nat) (rec : Value → Value → M Value) (x0 x1 : Value) (K : Value → Value → M Value) : M Value :=
  bnd (opNil x0) fun v143 => bnd (opFieldAddr 5 v143) fun v144 => bnd (opLoad v144) fun v145 => bnd (slices_Index F v145 x1) fun v147 => K x0 v147

theorem graph_finder_visit_r14_ok (F : Nat) (rec : Value → Value → M Value) (x0 x1 : Value) (K : Value → Value → M Value) : graph_finder_visit_r14 F rec x0 x1 K = graph_finder_visit_R F rec 14 [(1, x1), (0, x0)] [0, 6] K := by kernel_rfl

def graph_finder_visit_r13 (F : Nat) (rec : Value → Value → M Value) (x0 x1 : Value) (K : Value → Value → Value → M Value) : M Value :=
  bnd (opNil x0) fun v128 => bnd (opFieldAddr 3 v128) fun v129 => bnd (opLoad v129) fun v130 => bnd (opIndexAddr 1 v130 x1) fun v132 => bnd (opLoad v132) fun v133 => bnd (opNil x0) fun v135 => bnd (opFieldAddr 2 v135) fun v136 => bnd (opLoad v136) fun v137 => bnd (opIndexAddr 1 v137 x1) fun v139 => bnd (opLoad v139) fun v140 => bnd (opBin .lss v133 v140) fun v141 => K x0 x1 v141

theorem graph_finder_visit_r13_ok (F : Nat) (rec : Value → Value → M Value) (x0 x1 : Value) (K : Value → Value → Value → M Value) : graph_finder_visit_r13 F rec x0 x1 K = graph_finder_visit_D F rec 13 [0, 1, 2, 3, 4, 5, 6, 7, 8, 9, 10, 11, 12, 13, 14] [(1, x1), (0, x0)] [0, 1, 141] K := by kernel_rfl

theorem graph_finder_visit_r13_good : goodOrder (opsOf Tryd.f47 13) [0, 1, 2, 3, 4, 5, 6, 7, 8, 9, 10, 11, 12, 13, 14] = true := by kernel_rfl

def graph_finder_visit_k2 (F : Nat) (rec : Value → Value → M Value) (x0 x1 : Value) : M Value :=
  graph_finder_visit_r13 F rec x0 x1 (fun x0 x1 x141 => onB x141 (tupK []) (graph_finder_visit_r14 F rec x0 x1 (fun x0 x6 => graph_finder_visit_r15 F rec x0 x6 (fun x0 x6 x7 => graph_finder_visit_r16 F rec x0 x6 x7 (fun x0 x7 => graph_finder_visit_r17 F rec x0 x7 (fun x0 x7 x164 x165 x166 => graph_finder_visit_l1 F rec (fun x0 x7 => graph_finder_visit_k0 F rec x0 x7) F x0 x7 x164 x165 x166))))))

def graph_finder_visit_r12 (F : Nat) (rec : Value → Value → M Value) (x0 x1 x60 x61 x62 : Value) (K : Value → Value → Value → Value → Value → M Value) : M Value :=
  bnd (opBin .add x62 (.int .i64 (1))) fun v126 => K x0 x1 x60 x61 v126

theorem graph_finder_visit_r12_ok (F : Nat) (rec : Value → Value → M Value) (x0 x1 x60 x61 x62 : Value) (K : Value → Value → Value → Value → Value → M Value) : graph_finder_visit_r12 F rec x0 x1 x60 x61 x62 K = graph_finder_visit_R F rec 12 [(62, x62), (61, x61), (60, x60), (1, x1), (0, x0)] [0, 1, 60, 61, 62] K := by kernel_rfl

def graph_finder_visit_k4 (F : Nat) (A3 : Value → Value → Value → Value → Value → M Value) (rec : Value → Value → M Value) (x0 x1 x60 x61 x62 : Value) : M Value :=
  graph_finder_visit_r12 F rec x0 x1 x60 x61 x62 (fun x0 x1 x60 x61 x62 => A3 x0 x1 x60 x61 x62)

def graph_finder_visit_r9 (F : Nat) (rec : Value → Value → M Value) (x0 x1 x5 x60 x61 x62 : Value) (K : Value → Value → Value → Value → Value → M Value) : M Value :=
  bnd (opNil x0) fun v78 => bnd (opFieldAddr 3 v78) fun v79 => bnd (opLoad v79) fun v80 => bnd (opNil x0) fun v83 => bnd (opFieldAddr 3 v83) fun v84 => bnd (opLoad v84) fun v85 => bnd (opIndexAddr 1 v85 x1) fun v87 => bnd (opLoad v87) fun v88 => bnd (opNil x0) fun v90 => bnd (opFieldAddr 3 v90) fun v91 => bnd (opLoad v91) fun v92 => bnd (opIndexAddr 1 v92 x5) fun v94 => bnd (opLoad v94) fun v95 => bnd (opMin [v88, v95]) fun v96 => bnd (opIndexAddr 1 v80 x1) fun v97 => bnd (opStore v97 v96) fun _ => K x0 x1 x60 x61 x62

theorem graph_finder_visit_r9_ok (F : Nat) (rec : Value → Value → M Value) (x0 x1 x5 x60 x61 x62 : Value) (K : Value → Value → Value → Value → Value → M Value) : graph_finder_visit_r9 F rec x0 x1 x5 x60 x61 x62 K = graph_finder_visit_D F rec 9 [0, 1, 2, 3, 4, 5, 6, 7, 8, 9, 10, 11, 12, 13, 14, 15, 16, 17, 18, 19, 20, 21] [(62, x62), (61, x61), (60, x60), (5, x5), (1, x1), (0, x0)] [0, 1, 60, 61, 62] K := by kernel_rfl

theorem graph_finder_visit_r9_good : goodOrder (opsOf Tryd.f47 9) [0, 1, 2, 3, 4, 5, 6, 7, 8, 9, 10, 11, 12, 13, 14, 15, 16, 17, 18, 19, 20, 21] = true := by kernel_rfl

def graph_finder_visit_r8 (F : Nat) (rec : Value → Value → M Value) (x0 x1 x5 x60 x61 x62 : Value) (K : Value → Value → Value → Value → Value → Value → M Value) : M Value :=
  bnd (rec x0 x5) fun v76 => K x0 x1 x5 x60 x61 x62

theorem graph_finder_visit_r8_ok (F : Nat) (rec : Value → Value → M Value) (x0 x1 x5 x60 x61 x62 : Value) (K : Value → Value → Value → Value → Value → Value → M Value) : graph_finder_visit_r8 F rec x0 x1 x5 x60 x61 x62 K = graph_finder_visit_R F rec 8 [(62, x62), (61, x61), (60, x60), (5, x5), (1, x1), (0, x0)] [0, 1, 5, 60, 61, 62] K := by kernel_rfl

def graph_finder_visit_r11 (F : Nat) (rec : Value → Value → M Value) (x0 x1 x5 x60 x61 x62 : Value) (K : Value → Value → Value → Value → Value → M Value) : M Value :=
  bnd (opNil x0) fun v106 => bnd (opFieldAddr 3 v106) fun v107 => bnd (opLoad v107) fun v108 => bnd (opNil x0) fun v111 => bnd (opFieldAddr 3 v111) fun v112 => bnd (opLoad v112) fun v113 => bnd (opIndexAddr 1 v113 x1) fun v115 => bnd (opLoad v115) fun v116 => bnd (opNil x0) fun v118 => bnd (opFieldAddr 2 v118) fun v119 => bnd (opLoad v119) fun v120 => bnd (opIndexAddr 1 v120 x5) fun v122 => bnd (opLoad v122) fun v123 => bnd (opMin [v116, v123]) fun v124 => bnd (opIndexAddr 1 v108 x1) fun v125 => bnd (opStore v125 v124) fun _ => K x0 x1 x60 x61 x62

theorem graph_finder_visit_r11_ok (F : Nat) (rec : Value → Value → M Value) (x0 x1 x5 x60 x61 x62 : Value) (K : Value → Value → Value → Value → Value → M Value) : graph_finder_visit_r11 F rec x0 x1 x5 x60 x61 x62 K = graph_finder_visit_D F rec 11 [0, 1, 2, 3, 4, 5, 6, 7, 8, 9, 10, 11, 12, 13, 14, 15, 16, 17, 18, 19, 20, 21] [(62, x62), (61, x61), (60, x60), (5, x5), (1, x1), (0, x0)] [0, 1, 60, 61, 62] K := by kernel_rfl

theorem graph_finder_visit_r11_good : goodOrder (opsOf Tryd.f47 11) [0, 1, 2, 3, 4, 5, 6, 7, 8, 9, 10, 11, 12, 13, 14, 15, 16, 17, 18, 19, 20, 21] = true := by kernel_rfl

def graph_finder_visit_r10 (F : Nat) (rec : Value → Value → M Value) (x0 x1 x5 x60 x61 x62 : Value) (K : Value → Value → Value → Value → Value → Value → Value → M Value) : M Value :=
  bnd (opNil x0) fun v99 => bnd (opFieldAddr 4 v99) fun v100 => bnd (opLoad v100) fun v101 => bnd (opIndexAddr 1 v101 x5) fun v103 => bnd (opLoad v103) fun v104 => K x0 x1 x5 x60 x61 x62 v104

theorem graph_finder_visit_r10_ok (F : Nat) (rec : Value → Value → M Value) (x0 x1 x5 x60 x61 x62 : Value) (K : Value → Value → Value → Value → Value → Value → Value → M Value) : graph_finder_visit_r10 F rec x0 x1 x5 x60 x61 x62 K = graph_finder_visit_R F rec 10 [(62, x62), (61, x61), (60, x60), (5, x5), (1, x1), (0, x0)] [0, 1, 5, 60, 61, 62, 104] K := by kernel_rfl

def graph_finder_visit_r7 (F : Nat) (rec : Value → Value → M Value) (x0 x1 x5 x60 x61 x62 : Value) (K : Value → Value → Value → Value → Value → Value → Value → M Value) : M Value :=
  bnd (opNil x0) fun v67 => bnd (opFieldAddr 2 v67) fun v68 => bnd (opLoad v68) fun v69 => bnd (opIndexAddr 1 v69 x5) fun v71 => bnd (opLoad v71) fun v72 => bnd (opBin .eql v72 (.int .i64 (0))) fun v73 => K x0 x1 x5 x60 x61 x62 v73

theorem graph_finder_visit_r7_ok (F : Nat) (rec : Value → Value → M Value) (x0 x1 x5 x60 x61 x62 : Value) (K : Value → Value → Value → Value → Value → Value → Value → M Value) : graph_finder_visit_r7 F rec x0 x1 x5 x60 x61 x62 K = graph_finder_visit_R F rec 7 [(62, x62), (61, x61), (60, x60), (5, x5), (1, x1), (0, x0)] [0, 1, 5, 60, 61, 62, 73] K := by kernel_rfl

def graph_finder_visit_r6 (F : Nat) (rec : Value → Value → M Value) (x0 x1 x60 x61 x62 : Value) (K : Value → Value → Value → Value → Value → Value → M Value) : M Value :=
  bnd (opIndexAddr 1 x60 x62) fun v64 => bnd (opLoad v64) fun v65 => K x0 x1 v65 x60 x61 x62

theorem graph_finder_visit_r6_ok (F : Nat) (rec : Value → Value → M Value) (x0 x1 x60 x61 x62 : Value) (K : Value → Value → Value → Value → Value → Value → M Value) : graph_finder_visit_r6 F rec x0 x1 x60 x61 x62 K = graph_finder_visit_R F rec 6 [(62, x62), (61, x61), (60, x60), (1, x1), (0, x0)] [0, 1, 5, 60, 61, 62] K := by kernel_rfl

def graph_finder_visit_r5 (F : Nat) (rec : Value → Value → M Value) (x0 x1 x60 x61 x62 : Value) (K : Value → Value → Value → Value → Value → Value → M Value) : M Value :=
  bnd (opBin .lss x62 x61) fun v63 => K x0 x1 x60 x61 x62 v63

theorem graph_finder_visit_r5_ok (F : Nat) (rec : Value → Value → M Value) (x0 x1 x60 x61 x62 : Value) (K : Value → Value → Value → Value → Value → Value → M Value) : graph_finder_visit_r5 F rec x0 x1 x60 x61 x62 K = graph_finder_visit_R F rec 5 [(62, x62), (61, x61), (60, x60), (1, x1), (0, x0)] [0, 1, 60, 61, 62, 63] K := by kernel_rfl

def graph_finder_visit_b3 (F : Nat) (rec : Value → Value → M Value) (E3_0 : Value → Value → M Value) (A3 : Value → Value → Value → Value → Value → M Value) (x0 x1 x60 x61 x62 : Value) : M Value :=
  graph_finder_visit_r5 F rec x0 x1 x60 x61 x62 (fun x0 x1 x60 x61 x62 x63 => onB x63 (graph_finder_visit_r6 F rec x0 x1 x60 x61 x62 (fun x0 x1 x5 x60 x61 x62 => graph_finder_visit_r7 F rec x0 x1 x5 x60 x61 x62 (fun x0 x1 x5 x60 x61 x62 x73 => onB x73 (graph_finder_visit_r8 F rec x0 x1 x5 x60 x61 x62 (fun x0 x1 x5 x60 x61 x62 => graph_finder_visit_r9 F rec x0 x1 x5 x60 x61 x62 (fun x0 x1 x60 x61 x62 => graph_finder_visit_k4 F A3 rec x0 x1 x60 x61 x62))) (graph_finder_visit_r10 F rec x0 x1 x5 x60 x61 x62 (fun x0 x1 x5 x60 x61 x62 x104 => onB x104 (graph_finder_visit_r11 F rec x0 x1 x5 x60 x61 x62 (fun x0 x1 x60 x61 x62 => graph_finder_visit_k4 F A3 rec x0 x1 x60 x61 x62)) (graph_finder_visit_k4 F A3 rec x0 x1 x60 x61 x62)))))) (E3_0 x0 x1))

def graph_finder_visit_l3 (F : Nat) (rec : Value → Value → M Value) (E3_0 : Value → Value → M Value) : Nat → Value → Value → Value → Value → Value → M Value
  | 0, _, _, _, _, _ => fail
  | k3 + 1, x0, x1, x60, x61, x62 => graph_finder_visit_b3 F rec E3_0 (graph_finder_visit_l3 F rec E3_0 k3) x0 x1 x60 x61 x62

theorem graph_finder_visit_l3_s (F : Nat) (rec : Value → Value → M Value) (E3_0 : Value → Value → M Value) (k3 : Nat) (x0 x1 x60 x61 x62 : Value) : graph_finder_visit_l3 F rec E3_0 (k3 + 1) x0 x1 x60 x61 x62 = graph_finder_visit_b3 F rec E3_0 (graph_finder_visit_l3 F rec E3_0 k3) x0 x1 x60 x61 x62 := rfl

def graph_finder_visit_r4 (F : Nat) (rec : Value → Value → M Value) (x0 x1 : Value) (K : Value → Value → Value → Value → Value → M Value) : M Value :=
  bnd (opNil x0) fun v54 => bnd (opFieldAddr 0 v54) fun v55 => bnd (opFieldAddr 1 v55) fun v56 => bnd (opLoad v56) fun v57 => bnd (opIndexAddr 1 v57 x1) fun v59 => bnd (opLoad v59) fun v60 => bnd (opLen v60) fun v61 => K x0 x1 v60 v61 (.int .i64 (0))

theorem graph_finder_visit_r4_ok (F : Nat) (rec : Value → Value → M Value) (x0 x1 : Value) (K : Value → Value → Value → Value → Value → M Value) : graph_finder_visit_r4 F rec x0 x1 K = graph_finder_visit_R F rec 4 [(1, x1), (0, x0)] [0, 1, 60, 61, 62] K := by kernel_rfl

def graph_finder_visit_r3 (F : Nat) (rec : Value → Value → M Value) (x0 x1 : Value) (K : Value → Value → M Value) : M Value :=
  bnd (opNil x0) fun v48 => bnd (opFieldAddr 4 v48) fun v49 => bnd (opLoad v49) fun v50 => bnd (opIndexAddr 1 v50 x1) fun v52 => bnd (opStore v52 (.bool true)) fun _ => K x0 x1

theorem graph_finder_visit_r3_ok (F : Nat) (rec : Value → Value → M Value) (x0 x1 : Value) (K : Value → Value → M Value) : graph_finder_visit_r3 F rec x0 x1 K = graph_finder_visit_R F rec 3 [(1, x1), (0, x0)] [0, 1] K := by kernel_rfl

def graph_finder_visit_r2 (F : Nat) (rec : Value → Value → M Value) (x0 x1 : Value) (K : Value → Value → M Value) : M Value :=
  bnd (opNil x0) fun v39 => bnd (opFieldAddr 5 v39) fun v40 => bnd (opLoad v40) fun v41 => bnd (opBuildSlice 1 (rep 1 [(.int .i64 (0))]) [(0, 1, false, x1)]) fun v43 => bnd (opAppend 1 8 v41 v43) fun v44 => bnd (opNil x0) fun v45 => bnd (opFieldAddr 5 v45) fun v46 => bnd (opStore v46 v44) fun _ => K x0 x1

theorem graph_finder_visit_r2_ok (F : Nat) (rec : Value → Value → M Value) (x0 x1 : Value) (K : Value → Value → M Value) : graph_finder_visit_r2 F rec x0 x1 K = graph_finder_visit_R F rec 2 [(1, x1), (0, x0)] [0, 1] K := by kernel_rfl

def graph_finder_visit_r1 (F : Nat) (rec : Value → Value → M Value) (x0 x1 : Value) (K : Value → Value → M Value) : M Value :=
  bnd (opNil x0) fun v18 => bnd (opFieldAddr 2 v18) fun v19 => bnd (opLoad v19) fun v20 => bnd (opNil x0) fun v23 => bnd (opFieldAddr 3 v23) fun v24 => bnd (opLoad v24) fun v25 => bnd (opNil x0) fun v28 => bnd (opFieldAddr 6 v28) fun v29 => bnd (opLoad v29) fun v30 => bnd (opNil x0) fun v32 => bnd (opFieldAddr 6 v32) fun v33 => bnd (opLoad v33) fun v34 => bnd (opIndexAddr 1 v20 x1) fun v35 => bnd (opStore v35 v30) fun _ => bnd (opIndexAddr 1 v25 x1) fun v36 => bnd (opStore v36 v34) fun _ => K x0 x1

theorem graph_finder_visit_r1_ok (F : Nat) (rec : Value → Value → M Value) (x0 x1 : Value) (K : Value → Value → M Value) : graph_finder_visit_r1 F rec x0 x1 K = graph_finder_visit_D F rec 1 [0, 1, 2, 3, 4, 5, 6, 7, 8, 9, 10, 11, 12, 13, 14, 15, 16, 17, 18, 19, 20, 21] [(1, x1), (0, x0)] [0, 1] K := by kernel_rfl

theorem graph_finder_visit_r1_good : goodOrder (opsOf Tryd.f47 1) [0, 1, 2, 3, 4, 5, 6, 7, 8, 9, 10, 11, 12, 13, 14, 15, 16, 17, 18, 19, 20, 21] = true := by kernel_rfl

def graph_finder_visit_r0 (F : Nat) (rec : Value → Value → M Value) (x0 x1 : Value) (K : Value → Value → M Value) : M Value :=
  bnd (opNil x0) fun v11 => bnd (opFieldAddr 6 v11) fun v12 => bnd (opLoad v12) fun v13 => bnd (opBin .add v13 (.int .i64 (1))) fun v14 => bnd (opNil x0) fun v15 => bnd (opFieldAddr 6 v15) fun v16 => bnd (opStore v16 v14) fun _ => K x0 x1

theorem graph_finder_visit_r0_ok (F : Nat) (rec : Value → Value → M Value) (x0 x1 : Value) (K : Value → Value → M Value) : graph_finder_visit_r0 F rec x0 x1 K = graph_finder_visit_R F rec 0 [(1, x1), (0, x0)] [0, 1] K := by kernel_rfl

def graph_finder_visit_s (F : Nat) (rec : Value → Value → M Value) (x0 x1 : Value) : M Value :=
  graph_finder_visit_r0 F rec x0 x1 (fun x0 x1 => graph_finder_visit_r1 F rec x0 x1 (fun x0 x1 => graph_finder_visit_r2 F rec x0 x1 (fun x0 x1 => graph_finder_visit_r3 F rec x0 x1 (fun x0 x1 => graph_finder_visit_r4 F rec x0 x1 (fun x0 x1 x60 x61 x62 => graph_finder_visit_l3 F rec (fun x0 x1 => graph_finder_visit_k2 F rec x0 x1) F x0 x1 x60 x61 x62)))))

def graph_finder_visit (F : Nat) : Nat → Value → Value → M Value
  | 0, _, _ => fail
  | k + 1, x0, x1 => graph_finder_visit_s F (graph_finder_visit F k) x0 x1

def graph_finder_visit_m (F k : Nat) : List Value → M Value := graph_finder_visit_a (graph_finder_visit F k)

theorem graph_finder_visit_body : Tryd.f47.body = some (.seq (.region 0 (opsOf Tryd.f47 0) false) (.seq (.region 1 (opsOf Tryd.f47 1) true) (.seq (.region 2 (opsOf Tryd.f47 2) false) (.seq (.region 3 (opsOf Tryd.f47 3) false) (.seq (.seq (.region 4 (opsOf Tryd.f47 4) false) (.block 0 (.loop (.seq (.region 5 (opsOf Tryd.f47 5) false) (.seq (.cond (.tmp 63) .skip (.exit 0)) (.seq (.block 1 (.seq (.region 6 (opsOf Tryd.f47 6) false) (.seq (.region 7 (opsOf Tryd.f47 7) false) (.cond (.tmp 73) (.seq (.region 8 (opsOf Tryd.f47 8) false) (.region 9 (opsOf Tryd.f47 9) true)) (.seq (.region 10 (opsOf Tryd.f47 10) false) (.cond (.tmp 104) (.region 11 (opsOf Tryd.f47 11) true) .skip)))))) (.region 12 (opsOf Tryd.f47 12) false))))))) (.seq (.seq (.region 13 (opsOf Tryd.f47 13) true) (.cond (.tmp 141) .ret .skip)) (.seq (.region 14 (opsOf Tryd.f47 14) false) (.seq (.region 15 (opsOf Tryd.f47 15) false) (.seq (.region 16 (opsOf Tryd.f47 16) false) (.seq (.seq (.region 17 (opsOf Tryd.f47 17) false) (.block 2 (.loop (.seq (.region 18 (opsOf Tryd.f47 18) false) (.seq (.cond (.tmp 167) .skip (.exit 2)) (.seq (.block 3 (.seq (.region 19 (opsOf Tryd.f47 19) false) (.region 20 (opsOf Tryd.f47 20) false))) (.region 21 (opsOf Tryd.f47 21) false))))))) (.seq (.region 22 (opsOf Tryd.f47 22) false) (.region 23 (opsOf Tryd.f47 23) false)))))))))))) := by kernel_rfl

theorem graph_finder_visit_ok (F : Nat) : ∀ k, Sim Tryd.prog TrydG 47 (graph_finder_visit_m F k)
  | 0 => Sim.of_fail Tryd.call47 (by intro args; unfold graph_finder_visit_m graph_finder_visit_a; split <;> rfl)
  | k + 1 => by
    have ih := graph_finder_visit_ok F k
    have hE : EnvOK Tryd.prog TrydG (graph_finder_visit_env F (graph_finder_visit F k) ) := (EnvOK.cons ih (EnvOK.cons (slices_Index_ok F) (EnvOK.cons (slices_Clone_ok F) (EnvOK.cons (slices_Sort_ok F) EnvOK.nil))))
    refine Sim.of_body (E := graph_finder_visit_env F (graph_finder_visit F k) ) Tryd.func47 graph_finder_visit_body Tryd.call47 ?_ ?_
    · intro args hl; unfold graph_finder_visit_m graph_finder_visit_a; split
      · exact absurd hl (Nat.not_lt.2 (Nat.le_of_ble_eq_true rfl))
      · rfl
    · intro args ρ h w z; unfold graph_finder_visit_m graph_finder_visit_a; split
      · rename_i x0 x1; show OKc _ _ [(0, x0), (1, x1)] (graph_finder_visit_s F (graph_finder_visit F k) x0 x1) _
        refine rSeq ?_
        refine cLess [1, 0] ?_
        refine xR hE [0, 1] rfl (graph_finder_visit_r0_ok F _ _ _ _) ?_
        intro x0 x1
        show OKq _ _ _ [(1, x1), (0, x0)] _
        refine rThen ?_
        refine rSeq ?_
        refine cLess [1, 0] ?_
        refine xD Trydmix hE [0, 1] rfl graph_finder_visit_r1_good (graph_finder_visit_r1_ok F _ _ _ _) ?_
        intro x0 x1
        show OKq _ _ _ [(1, x1), (0, x0)] _
        refine rThen ?_
        refine rSeq ?_
        refine cLess [1, 0] ?_
        refine xR hE [0, 1] rfl (graph_finder_visit_r2_ok F _ _ _ _) ?_
        intro x0 x1
        show OKq _ _ _ [(1, x1), (0, x0)] _
        refine rThen ?_
        refine rSeq ?_
        refine cLess [1, 0] ?_
        refine xR hE [0, 1] rfl (graph_finder_visit_r3_ok F _ _ _ _) ?_
        intro x0 x1
        show OKq _ _ _ [(1, x1), (0, x0)] _
        refine rThen ?_
        refine xSeq [0, 1] (graph_finder_visit_k2 F (graph_finder_visit F k) ) ?_ fun hj2 => ?_
        · intro x0 x1
          show OKc _ _ [(1, x1), (0, x0)] _ _
          refine rSeq ?_
          refine rSeq ?_
          refine cLess [1, 0] ?_
          refine xD Trydmix hE [0, 1, 141] rfl graph_finder_visit_r13_good (graph_finder_visit_r13_ok F _ _ _ _) ?_
          intro x0 x1 x141
          show OKq _ _ _ [(141, x141), (1, x1), (0, x0)] _
          refine rThen ?_
          refine xCond rfl rfl ?_ ?_
          · refine rRet ?_
            refine xThenR ?_
            exact rDone (.inr rfl) rfl
          · refine rSkip ?_
            refine rThen ?_
            refine rSeq ?_
            refine cLess [1, 0] ?_
            refine xR hE [0, 6] rfl (graph_finder_visit_r14_ok F _ _ _ _) ?_
            intro x0 x6
            show OKq _ _ _ [(6, x6), (0, x0)] _
            refine rThen ?_
            refine rSeq ?_
            refine cLess [6, 0] ?_
            refine xR hE [0, 6, 7] rfl (graph_finder_visit_r15_ok F _ _ _ _) ?_
            intro x0 x6 x7
            show OKq _ _ _ [(7, x7), (6, x6), (0, x0)] _
            refine rThen ?_
            refine rSeq ?_
            refine cLess [7, 6, 0] ?_
            refine xR hE [0, 7] rfl (graph_finder_visit_r16_ok F _ _ _ _ _) ?_
            intro x0 x7
            show OKq _ _ _ [(7, x7), (0, x0)] _
            refine rThen ?_
            refine xSeq [0, 7] (graph_finder_visit_k0 F (graph_finder_visit F k) ) ?_ fun hj0 => ?_
            · intro x0 x7
              show OKc _ _ [(7, x7), (0, x0)] _ _
              refine rSeq ?_
              refine cLess [7, 0] ?_
              refine xR hE [0, 7] rfl (graph_finder_visit_r22_ok F _ _ _ _) ?_
              intro x0 x7
              show OKq _ _ _ [(7, x7), (0, x0)] _
              refine rThen ?_
              refine cLess [7, 0] ?_
              refine xR hE [] rfl (graph_finder_visit_r23_ok F _ _ _ _) ?_
              show OKq _ _ _ [] _
              exact rDone (.inl rfl) rfl
            · refine rSeq ?_
              refine cLess [7, 0] ?_
              refine xR hE [0, 7, 164, 165, 166] rfl (graph_finder_visit_r17_ok F _ _ _ _) ?_
              intro x0 x7 x164 x165 x166
              show OKq _ _ _ [(166, x166), (165, x165), (164, x164), (7, x7), (0, x0)] _
              refine rThen ?_
              refine rBlock ?_
              refine cLess [166, 165, 164, 7, 0] ?_
              refine xLoopAt [0, 7, 164, 165, 166] [] (fun k1 => graph_finder_visit_l1 F (graph_finder_visit F k) (fun x0 x7 => graph_finder_visit_k0 F (graph_finder_visit F k) x0 x7) k1) F [x0, x7, x164, x165, x166] rfl rfl (fun _ _ _ _ _ => rfl) fun I hI1 k1 => ?_
              intro x0 x7 x164 x165 x166
              show OKc _ _ [(166, x166), (165, x165), (164, x164), (7, x7), (0, x0)] _ _
              refine cAs (graph_finder_visit_l1_s F _ _ _ _ _ _ _ _) ?_
              refine rSeq ?_
              refine cLess [166, 165, 164, 7, 0] ?_
              refine xR hE [0, 7, 164, 165, 166, 167] rfl (graph_finder_visit_r18_ok F _ _ _ _ _ _ _) ?_
              intro x0 x7 x164 x165 x166 x167
              show OKq _ _ _ [(167, x167), (166, x166), (165, x165), (164, x164), (7, x7), (0, x0)] _
              refine rThen ?_
              refine rSeq ?_
              refine xCond rfl rfl ?_ ?_
              · refine rSkip ?_
                refine rThen ?_
                refine rSeq ?_
                refine rBlock ?_
                refine rSeq ?_
                refine cLess [166, 165, 164, 7, 0] ?_
                refine xR hE [0, 7, 9, 164, 165, 166] rfl (graph_finder_visit_r19_ok F _ _ _ _ _ _ _) ?_
                intro x0 x7 x9 x164 x165 x166
                show OKq _ _ _ [(166, x166), (165, x165), (164, x164), (9, x9), (7, x7), (0, x0)] _
                refine rThen ?_
                refine cLess [166, 165, 164, 9, 7, 0] ?_
                refine xR hE [0, 7, 164, 165, 166] rfl (graph_finder_visit_r20_ok F _ _ _ _ _ _ _ _) ?_
                intro x0 x7 x164 x165 x166
                show OKq _ _ _ [(166, x166), (165, x165), (164, x164), (7, x7), (0, x0)] _
                refine xBlockN ?_
                refine rThen ?_
                refine cLess [166, 165, 164, 7, 0] ?_
                refine xR hE [0, 7, 164, 165, 166] rfl (graph_finder_visit_r21_ok F _ _ _ _ _ _ _) ?_
                intro x0 x7 x164 x165 x166
                show OKq _ _ _ [(166, x166), (165, x165), (164, x164), (7, x7), (0, x0)] _
                exact qLess [166, 165, 164, 7, 0] (hI1 k1 x0 x7 x164 x165 x166)
              · refine rExit ?_
                refine xThenX ?_
                refine xThenX ?_
                refine rOut ?_
                exact qLess [7, 0] (hj0 x0 x7)
        · refine rSeq ?_
          refine cLess [1, 0] ?_
          refine xR hE [0, 1, 60, 61, 62] rfl (graph_finder_visit_r4_ok F _ _ _ _) ?_
          intro x0 x1 x60 x61 x62
          show OKq _ _ _ [(62, x62), (61, x61), (60, x60), (1, x1), (0, x0)] _
          refine rThen ?_
          refine rBlock ?_
          refine cLess [62, 61, 60, 1, 0] ?_
          refine xLoopAt [0, 1, 60, 61, 62] [] (fun k3 => graph_finder_visit_l3 F (graph_finder_visit F k) (fun x0 x1 => graph_finder_visit_k2 F (graph_finder_visit F k) x0 x1) k3) F [x0, x1, x60, x61, x62] rfl rfl (fun _ _ _ _ _ => rfl) fun I hI3 k3 => ?_
          intro x0 x1 x60 x61 x62
          show OKc _ _ [(62, x62), (61, x61), (60, x60), (1, x1), (0, x0)] _ _
          refine cAs (graph_finder_visit_l3_s F _ _ _ _ _ _ _ _) ?_
          refine rSeq ?_
          refine cLess [62, 61, 60, 1, 0] ?_
          refine xR hE [0, 1, 60, 61, 62, 63] rfl (graph_finder_visit_r5_ok F _ _ _ _ _ _ _) ?_
          intro x0 x1 x60 x61 x62 x63
          show OKq _ _ _ [(63, x63), (62, x62), (61, x61), (60, x60), (1, x1), (0, x0)] _
          refine rThen ?_
          refine rSeq ?_
          refine xCond rfl rfl ?_ ?_
          · refine rSkip ?_
            refine rThen ?_
            refine xSeq [0, 1, 60, 61, 62] (graph_finder_visit_k4 F (graph_finder_visit_l3 F (graph_finder_visit F k) (fun x0 x1 => graph_finder_visit_k2 F (graph_finder_visit F k) x0 x1) k3) (graph_finder_visit F k) ) ?_ fun hj4 => ?_
            · intro x0 x1 x60 x61 x62
              show OKc _ _ [(62, x62), (61, x61), (60, x60), (1, x1), (0, x0)] _ _
              refine cLess [62, 61, 60, 1, 0] ?_
              refine xR hE [0, 1, 60, 61, 62] rfl (graph_finder_visit_r12_ok F _ _ _ _ _ _ _) ?_
              intro x0 x1 x60 x61 x62
              show OKq _ _ _ [(62, x62), (61, x61), (60, x60), (1, x1), (0, x0)] _
              exact qLess [62, 61, 60, 1, 0] (hI3 k3 x0 x1 x60 x61 x62)
            · refine rBlock ?_
              refine rSeq ?_
              refine cLess [62, 61, 60, 1, 0] ?_
              refine xR hE [0, 1, 5, 60, 61, 62] rfl (graph_finder_visit_r6_ok F _ _ _ _ _ _ _) ?_
              intro x0 x1 x5 x60 x61 x62
              show OKq _ _ _ [(62, x62), (61, x61), (60, x60), (5, x5), (1, x1), (0, x0)] _
              refine rThen ?_
              refine rSeq ?_
              refine cLess [62, 61, 60, 5, 1, 0] ?_
              refine xR hE [0, 1, 5, 60, 61, 62, 73] rfl (graph_finder_visit_r7_ok F _ _ _ _ _ _ _ _) ?_
              intro x0 x1 x5 x60 x61 x62 x73
              show OKq _ _ _ [(73, x73), (62, x62), (61, x61), (60, x60), (5, x5), (1, x1), (0, x0)] _
              refine rThen ?_
              refine xCond rfl rfl ?_ ?_
              · refine rSeq ?_
                refine cLess [62, 61, 60, 5, 1, 0] ?_
                refine xR hE [0, 1, 5, 60, 61, 62] rfl (graph_finder_visit_r8_ok F _ _ _ _ _ _ _ _) ?_
                intro x0 x1 x5 x60 x61 x62
                show OKq _ _ _ [(62, x62), (61, x61), (60, x60), (5, x5), (1, x1), (0, x0)] _
                refine rThen ?_
                refine cLess [62, 61, 60, 5, 1, 0] ?_
                refine xD Trydmix hE [0, 1, 60, 61, 62] rfl graph_finder_visit_r9_good (graph_finder_visit_r9_ok F _ _ _ _ _ _ _ _) ?_
                intro x0 x1 x60 x61 x62
                show OKq _ _ _ [(62, x62), (61, x61), (60, x60), (1, x1), (0, x0)] _
                refine xBlockN ?_
                exact qLess [62, 61, 60, 1, 0] (hj4 x0 x1 x60 x61 x62)
              · refine rSeq ?_
                refine cLess [62, 61, 60, 5, 1, 0] ?_
                refine xR hE [0, 1, 5, 60, 61, 62, 104] rfl (graph_finder_visit_r10_ok F _ _ _ _ _ _ _ _) ?_
                intro x0 x1 x5 x60 x61 x62 x104
                show OKq _ _ _ [(104, x104), (62, x62), (61, x61), (60, x60), (5, x5), (1, x1), (0, x0)] _
                refine rThen ?_
                refine xCond rfl rfl ?_ ?_
                · refine cLess [62, 61, 60, 5, 1, 0] ?_
                  refine xD Trydmix hE [0, 1, 60, 61, 62] rfl graph_finder_visit_r11_good (graph_finder_visit_r11_ok F _ _ _ _ _ _ _ _) ?_
                  intro x0 x1 x60 x61 x62
                  show OKq _ _ _ [(62, x62), (61, x61), (60, x60), (1, x1), (0, x0)] _
                  refine xBlockN ?_
                  exact qLess [62, 61, 60, 1, 0] (hj4 x0 x1 x60 x61 x62)
                · refine rSkip ?_
                  refine xBlockN ?_
                  exact qLess [62, 61, 60, 1, 0] (hj4 x0 x1 x60 x61 x62)
          · refine rExit ?_
            refine xThenX ?_
            refine xThenX ?_
            refine rOut ?_
            exact qLess [1, 0] (hj2 x0 x1)
      · exact rFail


/-! ### (*haruspex/bitset.Set).at -/

def bitset_Set_at_env (F : Nat) : Env := envOf [(44, bitset_Set_words_m F)]

noncomputable def bitset_Set_at_R (F : Nat) := rK Tryd.prog TrydG (bitset_Set_at_env F) Tryd.f56
noncomputable def bitset_Set_at_D (F : Nat) := dK Tryd.prog TrydG (bitset_Set_at_env F) Tryd.f56

def bitset_Set_at_r4 (F : Nat) (K : Value → M Value) : M Value :=
  K (.int .u64 (0))

theorem bitset_Set_at_r4_ok (F : Nat) (K : Value → M Value) : bitset_Set_at_r4 F K = bitset_Set_at_R F 4 [] [4] K := by kernel_rfl

def bitset_Set_at_r3 (F : Nat) (x1 x5 : Value) (K : Value → M Value) : M Value :=
  bnd (opIndexAddr 1 x5 x1) fun v14 => bnd (opLoad v14) fun v15 => K v15

theorem bitset_Set_at_r3_ok (F : Nat) (x1 x5 : Value) (K : Value → M Value) : bitset_Set_at_r3 F x1 x5 K = bitset_Set_at_R F 3 [(5, x5), (1, x1)] [4] K := by kernel_rfl

def bitset_Set_at_r2 (F : Nat) (x1 x5 : Value) (K : Value → Value → Value → M Value) : M Value :=
  bnd (opLen x5) fun v10 => bnd (opBin .lss x1 v10) fun v11 => K x1 x5 v11

theorem bitset_Set_at_r2_ok (F : Nat) (x1 x5 : Value) (K : Value → Value → Value → M Value) : bitset_Set_at_r2 F x1 x5 K = bitset_Set_at_R F 2 [(5, x5), (1, x1)] [1, 5, 11] K := by kernel_rfl

def bitset_Set_at_r1 (F : Nat) (x0 x1 : Value) (K : Value → Value → M Value) : M Value :=
  bnd (bitset_Set_words F x0) fun v7 => K x1 v7

theorem bitset_Set_at_r1_ok (F : Nat) (x0 x1 : Value) (K : Value → Value → M Value) : bitset_Set_at_r1 F x0 x1 K = bitset_Set_at_R F 1 [(1, x1), (0, x0)] [1, 5] K := by kernel_rfl

def bitset_Set_at_r0 (F : Nat) (x0 x1 : Value) (K : Value → Value → M Value) : M Value :=
  K x0 x1

theorem bitset_Set_at_r0_ok (F : Nat) (x0 x1 : Value) (K : Value → Value → M Value) : bitset_Set_at_r0 F x0 x1 K = bitset_Set_at_R F 0 [(1, x1), (0, x0)] [0, 1] K := by kernel_rfl

def bitset_Set_at (F : Nat) (x0 x1 : Value) : M Value :=
  bitset_Set_at_r0 F x0 x1 (fun x0 x1 => bitset_Set_at_r1 F x0 x1 (fun x1 x5 => bitset_Set_at_r2 F x1 x5 (fun x1 x5 x11 => onB x11 (bitset_Set_at_r3 F x1 x5 (fun x4 => ret x4)) (bitset_Set_at_r4 F (fun x4 => ret x4)))))

def bitset_Set_at_m (F : Nat) : List Value → M Value
  | [x0, x1] => bitset_Set_at F x0 x1
  | _ => fail

theorem bitset_Set_at_body : Tryd.f56.body = some (.seq (.region 0 (opsOf Tryd.f56 0) false) (.seq (.seq (.region 1 (opsOf Tryd.f56 1) false) (.seq (.region 2 (opsOf Tryd.f56 2) false) (.cond (.tmp 11) (.seq (.region 3 (opsOf Tryd.f56 3) false) .ret) .skip))) (.seq (.region 4 (opsOf Tryd.f56 4) false) .ret))) := by kernel_rfl

theorem bitset_Set_at_ok (F : Nat) : Sim Tryd.prog TrydG 56 (bitset_Set_at_m F) := by
 have hE : EnvOK Tryd.prog TrydG (bitset_Set_at_env F) := (EnvOK.cons (bitset_Set_words_ok F) EnvOK.nil)
 refine Sim.of_body (E := bitset_Set_at_env F) Tryd.func56 bitset_Set_at_body Tryd.call56 ?_ ?_
 · intro args hl; unfold bitset_Set_at_m; split
   · exact absurd hl (Nat.not_lt.2 (Nat.le_of_ble_eq_true rfl))
   · rfl
 · intro args ρ h w z; unfold bitset_Set_at_m; split
   · rename_i x0 x1; show OKc _ _ [(0, x0), (1, x1)] _ _
     refine rSeq ?_
     refine cLess [1, 0] ?_
     refine xR hE [0, 1] rfl (bitset_Set_at_r0_ok F _ _ _) ?_
     intro x0 x1
     show OKq _ _ _ [(1, x1), (0, x0)] _
     refine rThen ?_
     refine rSeq ?_
     refine rSeq ?_
     refine cLess [1, 0] ?_
     refine xR hE [1, 5] rfl (bitset_Set_at_r1_ok F _ _ _) ?_
     intro x1 x5
     show OKq _ _ _ [(5, x5), (1, x1)] _
     refine rThen ?_
     refine rSeq ?_
     refine cLess [5, 1] ?_
     refine xR hE [1, 5, 11] rfl (bitset_Set_at_r2_ok F _ _ _) ?_
     intro x1 x5 x11
     show OKq _ _ _ [(11, x11), (5, x5), (1, x1)] _
     refine rThen ?_
     refine xCond rfl rfl ?_ ?_
     · refine rSeq ?_
       refine cLess [5, 1] ?_
       refine xR hE [4] rfl (bitset_Set_at_r3_ok F _ _ _) ?_
       intro x4
       show OKq _ _ _ [(4, x4)] _
       refine rThen ?_
       refine rRet ?_
       refine xThenR ?_
       exact rDone (.inr rfl) rfl
     · refine rSkip ?_
       refine rThen ?_
       refine rSeq ?_
       refine cLess [] ?_
       refine xR hE [4] rfl (bitset_Set_at_r4_ok F _) ?_
       intro x4
       show OKq _ _ _ [(4, x4)] _
       refine rThen ?_
       refine rRet ?_
       exact rDone (.inr rfl) rfl
   · exact rFail


/-! ### haruspex/graph.Parts -/

def graph_Parts_env (F : Nat) : Env := envOf [(40, graph_May_m F), (47, graph_finder_visit_m F F), (48, slices_SortFunc_m F), (50, slices_Index_m F)]

noncomputable def graph_Parts_R (F : Nat) := rK Tryd.prog TrydG (graph_Parts_env F) Tryd.f26
noncomputable def graph_Parts_D (F : Nat) := dK Tryd.prog TrydG (graph_Parts_env F) Tryd.f26

def graph_Parts_r49 (F : Nat) (x15 : Value) (K : Value → M Value) : M Value :=
  K x15

theorem graph_Parts_r49_ok (F : Nat) (x15 : Value) (K : Value → M Value) : graph_Parts_r49 F x15 K = graph_Parts_R F 49 [(15, x15)] [2] K := by kernel_rfl

def graph_Parts_k0 (F : Nat) (x15 : Value) : M Value :=
  graph_Parts_r49 F x15 (fun x2 => ret x2)

def graph_Parts_r48 (F : Nat) (x1 x3 x5 x10 x15 x127 x128 : Value) (K : Value → Value → Value → Value → Value → Value → Value → M Value) : M Value :=
  bnd (opBin .add x128 (.int .i64 (1))) fun v184 => K x1 x3 x5 x10 x15 x127 v184

theorem graph_Parts_r48_ok (F : Nat) (x1 x3 x5 x10 x15 x127 x128 : Value) (K : Value → Value → Value → Value → Value → Value → Value → M Value) : graph_Parts_r48 F x1 x3 x5 x10 x15 x127 x128 K = graph_Parts_R F 48 [(128, x128), (127, x127), (15, x15), (10, x10), (5, x5), (3, x3), (1, x1)] [1, 3, 5, 10, 15, 127, 128] K := by kernel_rfl

def graph_Parts_k2 (F : Nat) (A1 : Value → Value → Value → Value → Value → Value → Value → M Value) (x1 x3 x5 x10 x15 x127 x128 : Value) : M Value :=
  graph_Parts_r48 F x1 x3 x5 x10 x15 x127 x128 (fun x1 x3 x5 x10 x15 x127 x128 => A1 x1 x3 x5 x10 x15 x127 x128)

def graph_Parts_r47 (F : Nat) (x1 x3 x5 x10 x15 x16 x127 x128 x151 x152 x153 : Value) (K : Value → Value → Value → Value → Value → Value → Value → Value → Value → Value → Value → M Value) : M Value :=
  bnd (opBin .add x153 (.int .i64 (1))) fun v183 => K x1 x3 x5 x10 x15 x16 x127 x128 x151 x152 v183

theorem graph_Parts_r47_ok (F : Nat) (x1 x3 x5 x10 x15 x16 x127 x128 x151 x152 x153 : Value) (K : Value → Value → Value → Value → Value → Value → Value → Value → Value → Value → Value → M Value) : graph_Parts_r47 F x1 x3 x5 x10 x15 x16 x127 x128 x151 x152 x153 K = graph_Parts_R F 47 [(153, x153), (152, x152), (151, x151), (128, x128), (127, x127), (16, x16), (15, x15), (10, x10), (5, x5), (3, x3), (1, x1)] [1, 3, 5, 10, 15, 16, 127, 128, 151, 152, 153] K := by kernel_rfl

def graph_Parts_k4 (F : Nat) (A3 : Value → Value → Value → Value → Value → Value → Value → Value → Value → Value → Value → M Value) (x1 x3 x5 x10 x15 x16 x127 x128 x151 x152 x153 : Value) : M Value :=
  graph_Parts_r47 F x1 x3 x5 x10 x15 x16 x127 x128 x151 x152 x153 (fun x1 x3 x5 x10 x15 x16 x127 x128 x151 x152 x153 => A3 x1 x3 x5 x10 x15 x16 x127 x128 x151 x152 x153)

def graph_Parts_r46 (F : Nat) (x1 x3 x5 x10 x15 x16 x127 x128 x151 x152 x153 x161 x162 x163 : Value) (K : Value → Value → Value → Value → Value → Value → Value → Value → Value → Value → Value → Value → Value → Value → M Value) : M Value :=
  bnd (opBin .add x163 (.int .i64 (1))) fun v182 => K x1 x3 x5 x10 x15 x16 x127 x128 x151 x152 x153 x161 x162 v182

theorem graph_Parts_r46_ok (F : Nat) (x1 x3 x5 x10 x15 x16 x127 x128 x151 x152 x153 x161 x162 x163 : Value) (K : Value → Value → Value → Value → Value → Value → Value → Value → Value → Value → Value → Value → Value → Value → M Value) : graph_Parts_r46 F x1 x3 x5 x10 x15 x16 x127 x128 x151 x152 x153 x161 x162 x163 K = graph_Parts_R F 46 [(163, x163), (162, x162), (161, x161), (153, x153), (152, x152), (151, x151), (128, x128), (127, x127), (16, x16), (15, x15), (10, x10), (5, x5), (3, x3), (1, x1)] [1, 3, 5, 10, 15, 16, 127, 128, 151, 152, 153, 161, 162, 163] K := by kernel_rfl

def graph_Parts_k6 (F : Nat) (A5 : Value → Value → Value → Value → Value → Value → Value → Value → Value → Value → Value → Value → Value → Value → M Value) (x1 x3 x5 x10 x15 x16 x127 x128 x151 x152 x153 x161 x162 x163 : Value) : M Value :=
  graph_Parts_r46 F x1 x3 x5 x10 x15 x16 x127 x128 x151 x152 x153 x161 x162 x163 (fun x1 x3 x5 x10 x15 x16 x127 x128 x151 x152 x153 x161 x162 x163 => A5 x1 x3 x5 x10 x15 x16 x127 x128 x151 x152 x153 x161 x162 x163)

def graph_Parts_r45 (F : Nat) (x1 x3 x5 x10 x15 x16 x20 x127 x128 x151 x152 x153 x161 x162 x163 : Value) (K : Value → Value → Value → Value → Value → Value → Value → Value → Value → Value → Value → Value → Value → Value → M Value) : M Value :=
  bnd (opIndexAddr 1 x5 x20) fun v176 => bnd (opLoad v176) fun v177 => bnd (opIndexAddr 1 x10 v177) fun v178 => bnd (opLoad v178) fun v179 => bnd (opBin .sub v179 (.int .i64 (1))) fun v180 => bnd (opIndexAddr 1 x10 v177) fun v181 => bnd (opStore v181 v180) fun _ => K x1 x3 x5 x10 x15 x16 x127 x128 x151 x152 x153 x161 x162 x163

theorem graph_Parts_r45_ok (F : Nat) (x1 x3 x5 x10 x15 x16 x20 x127 x128 x151 x152 x153 x161 x162 x163 : Value) (K : Value → Value → Value → Value → Value → Value → Value → Value → Value → Value → Value → Value → Value → Value → M Value) : graph_Parts_r45 F x1 x3 x5 x10 x15 x16 x20 x127 x128 x151 x152 x153 x161 x162 x163 K = graph_Parts_R F 45 [(163, x163), (162, x162), (161, x161), (153, x153), (152, x152), (151, x151), (128, x128), (127, x127), (20, x20), (16, x16), (15, x15), (10, x10), (5, x5), (3, x3), (1, x1)] [1, 3, 5, 10, 15, 16, 127, 128, 151, 152, 153, 161, 162, 163] K := by kernel_rfl

def graph_Parts_r44 (F : Nat) (x1 x3 x5 x10 x15 x16 x20 x127 x128 x151 x152 x153 x161 x162 x163 : Value) (K : Value → Value → Value → Value → Value → Value → Value → Value → Value → Value → Value → Value → Value → Value → Value → Value → M Value) : M Value :=
  bnd (opIndexAddr 1 x5 x20) fun v169 => bnd (opLoad v169) fun v170 => bnd (opBin .neq v170 x16) fun v172 => K x1 x3 x5 x10 x15 x16 x20 x127 x128 x151 x152 x153 x161 x162 x163 v172

theorem graph_Parts_r44_ok (F : Nat) (x1 x3 x5 x10 x15 x16 x20 x127 x128 x151 x152 x153 x161 x162 x163 : Value) (K : Value → Value → Value → Value → Value → Value → Value → Value → Value → Value → Value → Value → Value → Value → Value → Value → M Value) : graph_Parts_r44 F x1 x3 x5 x10 x15 x16 x20 x127 x128 x151 x152 x153 x161 x162 x163 K = graph_Parts_R F 44 [(163, x163), (162, x162), (161, x161), (153, x153), (152, x152), (151, x151), (128, x128), (127, x127), (20, x20), (16, x16), (15, x15), (10, x10), (5, x5), (3, x3), (1, x1)] [1, 3, 5, 10, 15, 16, 20, 127, 128, 151, 152, 153, 161, 162, 163, 172] K := by kernel_rfl

def graph_Parts_r43 (F : Nat) (x1 x3 x5 x10 x15 x16 x127 x128 x151 x152 x153 x161 x162 x163 : Value) (K : Value → Value → Value → Value → Value → Value → Value → Value → Value → Value → Value → Value → Value → Value → Value → M Value) : M Value :=
  bnd (opIndexAddr 1 x161 x163) fun v165 => bnd (opLoad v165) fun v166 => K x1 x3 x5 x10 x15 x16 v166 x127 x128 x151 x152 x153 x161 x162 x163

theorem graph_Parts_r43_ok (F : Nat) (x1 x3 x5 x10 x15 x16 x127 x128 x151 x152 x153 x161 x162 x163 : Value) (K : Value → Value → Value → Value → Value → Value → Value → Value → Value → Value → Value → Value → Value → Value → Value → M Value) : graph_Parts_r43 F x1 x3 x5 x10 x15 x16 x127 x128 x151 x152 x153 x161 x162 x163 K = graph_Parts_R F 43 [(163, x163), (162, x162), (161, x161), (153, x153), (152, x152), (151, x151), (128, x128), (127, x127), (16, x16), (15, x15), (10, x10), (5, x5), (3, x3), (1, x1)] [1, 3, 5, 10, 15, 16, 20, 127, 128, 151, 152, 153, 161, 162, 163] K := by kernel_rfl

def graph_Parts_r42 (F : Nat) (x1 x3 x5 x10 x15 x16 x127 x128 x151 x152 x153 x161 x162 x163 : Value) (K : Value → Value → Value → Value → Value → Value → Value → Value → Value → Value → Value → Value → Value → Value → Value → M Value) : M Value :=
  bnd (opBin .lss x163 x162) fun v164 => K x1 x3 x5 x10 x15 x16 x127 x128 x151 x152 x153 x161 x162 x163 v164

theorem graph_Parts_r42_ok (F : Nat) (x1 x3 x5 x10 x15 x16 x127 x128 x151 x152 x153 x161 x162 x163 : Value) (K : Value → Value → Value → Value → Value → Value → Value → Value → Value → Value → Value → Value → Value → Value → Value → M Value) : graph_Parts_r42 F x1 x3 x5 x10 x15 x16 x127 x128 x151 x152 x153 x161 x162 x163 K = graph_Parts_R F 42 [(163, x163), (162, x162), (161, x161), (153, x153), (152, x152), (151, x151), (128, x128), (127, x127), (16, x16), (15, x15), (10, x10), (5, x5), (3, x3), (1, x1)] [1, 3, 5, 10, 15, 16, 127, 128, 151, 152, 153, 161, 162, 163, 164] K := by kernel_rfl

def graph_Parts_b5 (F : Nat) (E5_14 : Value → Value → Value → Value → Value → Value → Value → Value → Value → Value → Value → M Value) (A5 : Value → Value → Value → Value → Value → Value → Value → Value → Value → Value → Value → Value → Value → Value → M Value) (x1 x3 x5 x10 x15 x16 x127 x128 x151 x152 x153 x161 x162 x163 : Value) : M Value :=
  graph_Parts_r42 F x1 x3 x5 x10 x15 x16 x127 x128 x151 x152 x153 x161 x162 x163 (fun x1 x3 x5 x10 x15 x16 x127 x128 x151 x152 x153 x161 x162 x163 x164 => onB x164 (graph_Parts_r43 F x1 x3 x5 x10 x15 x16 x127 x128 x151 x152 x153 x161 x162 x163 (fun x1 x3 x5 x10 x15 x16 x20 x127 x128 x151 x152 x153 x161 x162 x163 => graph_Parts_r44 F x1 x3 x5 x10 x15 x16 x20 x127 x128 x151 x152 x153 x161 x162 x163 (fun x1 x3 x5 x10 x15 x16 x20 x127 x128 x151 x152 x153 x161 x162 x163 x172 => onB x172 (graph_Parts_r45 F x1 x3 x5 x10 x15 x16 x20 x127 x128 x151 x152 x153 x161 x162 x163 (fun x1 x3 x5 x10 x15 x16 x127 x128 x151 x152 x153 x161 x162 x163 => graph_Parts_k6 F A5 x1 x3 x5 x10 x15 x16 x127 x128 x151 x152 x153 x161 x162 x163)) (graph_Parts_k6 F A5 x1 x3 x5 x10 x15 x16 x127 x128 x151 x152 x153 x161 x162 x163)))) (E5_14 x1 x3 x5 x10 x15 x16 x127 x128 x151 x152 x153))

def graph_Parts_l5 (F : Nat) (E5_14 : Value → Value → Value → Value → Value → Value → Value → Value → Value → Value → Value → M Value) : Nat → Value → Value → Value → Value → Value → Value → Value → Value → Value → Value → Value → Value → Value → Value → M Value
  | 0, _, _, _, _, _, _, _, _, _, _, _, _, _, _ => fail
  | k5 + 1, x1, x3, x5, x10, x15, x16, x127, x128, x151, x152, x153, x161, x162, x163 => graph_Parts_b5 F E5_14 (graph_Parts_l5 F E5_14 k5) x1 x3 x5 x10 x15 x16 x127 x128 x151 x152 x153 x161 x162 x163

theorem graph_Parts_l5_s (F : Nat) (E5_14 : Value → Value → Value → Value → Value → Value → Value → Value → Value → Value → Value → M Value) (k5 : Nat) (x1 x3 x5 x10 x15 x16 x127 x128 x151 x152 x153 x161 x162 x163 : Value) : graph_Parts_l5 F E5_14 (k5 + 1) x1 x3 x5 x10 x15 x16 x127 x128 x151 x152 x153 x161 x162 x163 = graph_Parts_b5 F E5_14 (graph_Parts_l5 F E5_14 k5) x1 x3 x5 x10 x15 x16 x127 x128 x151 x152 x153 x161 x162 x163 := rfl

def graph_Parts_r41 (F : Nat) (x1 x3 x5 x10 x15 x16 x18 x127 x128 x151 x152 x153 : Value) (K : Value → Value → Value → Value → Value → Value → Value → Value → Value → Value → Value → Value → Value → Value → M Value) : M Value :=
  bnd (opFieldAddr 1 x1) fun v157 => bnd (opLoad v157) fun v158 => bnd (opIndexAddr 1 v158 x18) fun v160 => bnd (opLoad v160) fun v161 => bnd (opLen v161) fun v162 => K x1 x3 x5 x10 x15 x16 x127 x128 x151 x152 x153 v161 v162 (.int .i64 (0))

theorem graph_Parts_r41_ok (F : Nat) (x1 x3 x5 x10 x15 x16 x18 x127 x128 x151 x152 x153 : Value) (K : Value → Value → Value → Value → Value → Value → Value → Value → Value → Value → Value → Value → Value → Value → M Value) : graph_Parts_r41 F x1 x3 x5 x10 x15 x16 x18 x127 x128 x151 x152 x153 K = graph_Parts_R F 41 [(153, x153), (152, x152), (151, x151), (128, x128), (127, x127), (18, x18), (16, x16), (15, x15), (10, x10), (5, x5), (3, x3), (1, x1)] [1, 3, 5, 10, 15, 16, 127, 128, 151, 152, 153, 161, 162, 163] K := by kernel_rfl

def graph_Parts_r40 (F : Nat) (x1 x3 x5 x10 x15 x16 x127 x128 x151 x152 x153 : Value) (K : Value → Value → Value → Value → Value → Value → Value → Value → Value → Value → Value → Value → M Value) : M Value :=
  bnd (opIndexAddr 1 x151 x153) fun v155 => bnd (opLoad v155) fun v156 => K x1 x3 x5 x10 x15 x16 v156 x127 x128 x151 x152 x153

theorem graph_Parts_r40_ok (F : Nat) (x1 x3 x5 x10 x15 x16 x127 x128 x151 x152 x153 : Value) (K : Value → Value → Value → Value → Value → Value → Value → Value → Value → Value → Value → Value → M Value) : graph_Parts_r40 F x1 x3 x5 x10 x15 x16 x127 x128 x151 x152 x153 K = graph_Parts_R F 40 [(153, x153), (152, x152), (151, x151), (128, x128), (127, x127), (16, x16), (15, x15), (10, x10), (5, x5), (3, x3), (1, x1)] [1, 3, 5, 10, 15, 16, 18, 127, 128, 151, 152, 153] K := by kernel_rfl

def graph_Parts_r39 (F : Nat) (x1 x3 x5 x10 x15 x16 x127 x128 x151 x152 x153 : Value) (K : Value → Value → Value → Value → Value → Value → Value → Value → Value → Value → Value → Value → M Value) : M Value :=
  bnd (opBin .lss x153 x152) fun v154 => K x1 x3 x5 x10 x15 x16 x127 x128 x151 x152 x153 v154

theorem graph_Parts_r39_ok (F : Nat) (x1 x3 x5 x10 x15 x16 x127 x128 x151 x152 x153 : Value) (K : Value → Value → Value → Value → Value → Value → Value → Value → Value → Value → Value → Value → M Value) : graph_Parts_r39 F x1 x3 x5 x10 x15 x16 x127 x128 x151 x152 x153 K = graph_Parts_R F 39 [(153, x153), (152, x152), (151, x151), (128, x128), (127, x127), (16, x16), (15, x15), (10, x10), (5, x5), (3, x3), (1, x1)] [1, 3, 5, 10, 15, 16, 127, 128, 151, 152, 153, 154] K := by kernel_rfl

def graph_Parts_b3 (F : Nat) (E3_12 : Value → Value → Value → Value → Value → Value → Value → M Value) (A3 : Value → Value → Value → Value → Value → Value → Value → Value → Value → Value → Value → M Value) (x1 x3 x5 x10 x15 x16 x127 x128 x151 x152 x153 : Value) : M Value :=
  graph_Parts_r39 F x1 x3 x5 x10 x15 x16 x127 x128 x151 x152 x153 (fun x1 x3 x5 x10 x15 x16 x127 x128 x151 x152 x153 x154 => onB x154 (graph_Parts_r40 F x1 x3 x5 x10 x15 x16 x127 x128 x151 x152 x153 (fun x1 x3 x5 x10 x15 x16 x18 x127 x128 x151 x152 x153 => graph_Parts_r41 F x1 x3 x5 x10 x15 x16 x18 x127 x128 x151 x152 x153 (fun x1 x3 x5 x10 x15 x16 x127 x128 x151 x152 x153 x161 x162 x163 => graph_Parts_l5 F (fun x1 x3 x5 x10 x15 x16 x127 x128 x151 x152 x153 => graph_Parts_k4 F A3 x1 x3 x5 x10 x15 x16 x127 x128 x151 x152 x153) F x1 x3 x5 x10 x15 x16 x127 x128 x151 x152 x153 x161 x162 x163))) (E3_12 x1 x3 x5 x10 x15 x127 x128))

def graph_Parts_l3 (F : Nat) (E3_12 : Value → Value → Value → Value → Value → Value → Value → M Value) : Nat → Value → Value → Value → Value → Value → Value → Value → Value → Value → Value → Value → M Value
  | 0, _, _, _, _, _, _, _, _, _, _, _ => fail
  | k3 + 1, x1, x3, x5, x10, x15, x16, x127, x128, x151, x152, x153 => graph_Parts_b3 F E3_12 (graph_Parts_l3 F E3_12 k3) x1 x3 x5 x10 x15 x16 x127 x128 x151 x152 x153

theorem graph_Parts_l3_s (F : Nat) (E3_12 : Value → Value → Value → Value → Value → Value → Value → M Value) (k3 : Nat) (x1 x3 x5 x10 x15 x16 x127 x128 x151 x152 x153 : Value) : graph_Parts_l3 F E3_12 (k3 + 1) x1 x3 x5 x10 x15 x16 x127 x128 x151 x152 x153 = graph_Parts_b3 F E3_12 (graph_Parts_l3 F E3_12 k3) x1 x3 x5 x10 x15 x16 x127 x128 x151 x152 x153 := rfl

def graph_Parts_r38 (F : Nat) (x1 x3 x5 x10 x15 x16 x127 x128 : Value) (K : Value → Value → Value → Value → Value → Value → Value → Value → Value → Value → Value → M Value) : M Value :=
  bnd (opNil x3) fun v146 => bnd (opFieldAddr 7 v146) fun v147 => bnd (opLoad v147) fun v148 => bnd (opIndexAddr 1 v148 x16) fun v150 => bnd (opLoad v150) fun v151 => bnd (opLen v151) fun v152 => K x1 x3 x5 x10 x15 x16 x127 x128 v151 v152 (.int .i64 (0))

theorem graph_Parts_r38_ok (F : Nat) (x1 x3 x5 x10 x15 x16 x127 x128 : Value) (K : Value → Value → Value → Value → Value → Value → Value → Value → Value → Value → Value → M Value) : graph_Parts_r38 F x1 x3 x5 x10 x15 x16 x127 x128 K = graph_Parts_R F 38 [(128, x128), (127, x127), (16, x16), (15, x15), (10, x10), (5, x5), (3, x3), (1, x1)] [1, 3, 5, 10, 15, 16, 127, 128, 151, 152, 153] K := by kernel_rfl

def graph_Parts_r37 (F : Nat) (x1 x3 x5 x10 x15 x16 x127 x128 : Value) (K : Value → Value → Value → Value → Value → Value → Value → Value → M Value) : M Value :=
  bnd (opNil x3) fun v137 => bnd (opFieldAddr 7 v137) fun v138 => bnd (opLoad v138) fun v139 => bnd (opIndexAddr 1 v139 x16) fun v141 => bnd (opLoad v141) fun v142 => bnd (opBuildSlice 1 (rep 1 [(.slice none 0 0)]) [(0, 1, false, v142)]) fun v143 => bnd (opAppend 1 24 x15 v143) fun v144 => K x1 x3 x5 x10 v144 x16 x127 x128

theorem graph_Parts_r37_ok (F : Nat) (x1 x3 x5 x10 x15 x16 x127 x128 : Value) (K : Value → Value → Value → Value → Value → Value → Value → Value → M Value) : graph_Parts_r37 F x1 x3 x5 x10 x15 x16 x127 x128 K = graph_Parts_R F 37 [(128, x128), (127, x127), (16, x16), (15, x15), (10, x10), (5, x5), (3, x3), (1, x1)] [1, 3, 5, 10, 15, 16, 127, 128] K := by kernel_rfl

def graph_Parts_r36 (F : Nat) (x1 x3 x5 x10 x15 x16 x127 x128 : Value) (K : Value → Value → Value → Value → Value → Value → Value → Value → M Value) : M Value :=
  bnd (opIndexAddr 1 x10 x16) fun v134 => bnd (opStore v134 (.int .i64 (-1))) fun _ => K x1 x3 x5 x10 x15 x16 x127 x128

theorem graph_Parts_r36_ok (F : Nat) (x1 x3 x5 x10 x15 x16 x127 x128 : Value) (K : Value → Value → Value → Value → Value → Value → Value → Value → M Value) : graph_Parts_r36 F x1 x3 x5 x10 x15 x16 x127 x128 K = graph_Parts_R F 36 [(128, x128), (127, x127), (16, x16), (15, x15), (10, x10), (5, x5), (3, x3), (1, x1)] [1, 3, 5, 10, 15, 16, 127, 128] K := by kernel_rfl

def graph_Parts_r35 (F : Nat) (x1 x3 x5 x10 x15 x127 x128 : Value) (K : Value → Value → Value → Value → Value → Value → Value → Value → M Value) : M Value :=
  bnd (slices_Index F x10 (.int .i64 (0))) fun v131 => K x1 x3 x5 x10 x15 v131 x127 x128

theorem graph_Parts_r35_ok (F : Nat) (x1 x3 x5 x10 x15 x127 x128 : Value) (K : Value → Value → Value → Value → Value → Value → Value → Value → M Value) : graph_Parts_r35 F x1 x3 x5 x10 x15 x127 x128 K = graph_Parts_R F 35 [(128, x128), (127, x127), (15, x15), (10, x10), (5, x5), (3, x3), (1, x1)] [1, 3, 5, 10, 15, 16, 127, 128] K := by kernel_rfl

def graph_Parts_r34 (F : Nat) (x1 x3 x5 x10 x15 x127 x128 : Value) (K : Value → Value → Value → Value → Value → Value → Value → Value → M Value) : M Value :=
  bnd (opBin .lss x128 x127) fun v129 => K x1 x3 x5 x10 x15 x127 x128 v129

theorem graph_Parts_r34_ok (F : Nat) (x1 x3 x5 x10 x15 x127 x128 : Value) (K : Value → Value → Value → Value → Value → Value → Value → Value → M Value) : graph_Parts_r34 F x1 x3 x5 x10 x15 x127 x128 K = graph_Parts_R F 34 [(128, x128), (127, x127), (15, x15), (10, x10), (5, x5), (3, x3), (1, x1)] [1, 3, 5, 10, 15, 127, 128, 129] K := by kernel_rfl

def graph_Parts_b1 (F : Nat) (E1_10 : Value → M Value) (A1 : Value → Value → Value → Value → Value → Value → Value → M Value) (x1 x3 x5 x10 x15 x127 x128 : Value) : M Value :=
  graph_Parts_r34 F x1 x3 x5 x10 x15 x127 x128 (fun x1 x3 x5 x10 x15 x127 x128 x129 => onB x129 (graph_Parts_r35 F x1 x3 x5 x10 x15 x127 x128 (fun x1 x3 x5 x10 x15 x16 x127 x128 => graph_Parts_r36 F x1 x3 x5 x10 x15 x16 x127 x128 (fun x1 x3 x5 x10 x15 x16 x127 x128 => graph_Parts_r37 F x1 x3 x5 x10 x15 x16 x127 x128 (fun x1 x3 x5 x10 x15 x16 x127 x128 => graph_Parts_r38 F x1 x3 x5 x10 x15 x16 x127 x128 (fun x1 x3 x5 x10 x15 x16 x127 x128 x151 x152 x153 => graph_Parts_l3 F (fun x1 x3 x5 x10 x15 x127 x128 => graph_Parts_k2 F A1 x1 x3 x5 x10 x15 x127 x128) F x1 x3 x5 x10 x15 x16 x127 x128 x151 x152 x153))))) (E1_10 x15))

def graph_Parts_l1 (F : Nat) (E1_10 : Value → M Value) : Nat → Value → Value → Value → Value → Value → Value → Value → M Value
  | 0, _, _, _, _, _, _, _ => fail
  | k1 + 1, x1, x3, x5, x10, x15, x127, x128 => graph_Parts_b1 F E1_10 (graph_Parts_l1 F E1_10 k1) x1 x3 x5 x10 x15 x127 x128

theorem graph_Parts_l1_s (F : Nat) (E1_10 : Value → M Value) (k1 : Nat) (x1 x3 x5 x10 x15 x127 x128 : Value) : graph_Parts_l1 F E1_10 (k1 + 1) x1 x3 x5 x10 x15 x127 x128 = graph_Parts_b1 F E1_10 (graph_Parts_l1 F E1_10 k1) x1 x3 x5 x10 x15 x127 x128 := rfl

def graph_Parts_r33 (F : Nat) (x1 x3 x5 x10 x15 : Value) (K : Value → Value → Value → Value → Value → Value → Value → M Value) : M Value :=
  bnd (opNil x3) fun v124 => bnd (opFieldAddr 7 v124) fun v125 => bnd (opLoad v125) fun v126 => bnd (opLen v126) fun v127 => K x1 x3 x5 x10 x15 v127 (.int .i64 (0))

theorem graph_Parts_r33_ok (F : Nat) (x1 x3 x5 x10 x15 : Value) (K : Value → Value → Value → Value → Value → Value → Value → M Value) : graph_Parts_r33 F x1 x3 x5 x10 x15 K = graph_Parts_R F 33 [(15, x15), (10, x10), (5, x5), (3, x3), (1, x1)] [1, 3, 5, 10, 15, 127, 128] K := by kernel_rfl

def graph_Parts_r32 (F : Nat) (x1 x3 x5 x10 : Value) (K : Value → Value → Value → Value → Value → M Value) : M Value :=
  K x1 x3 x5 x10 (.slice none 0 0)

theorem graph_Parts_r32_ok (F : Nat) (x1 x3 x5 x10 : Value) (K : Value → Value → Value → Value → Value → M Value) : graph_Parts_r32 F x1 x3 x5 x10 K = graph_Parts_R F 32 [(10, x10), (5, x5), (3, x3), (1, x1)] [1, 3, 5, 10, 15] K := by kernel_rfl

def graph_Parts_k7 (F : Nat) (x1 x3 x5 x10 : Value) : M Value :=
  graph_Parts_r32 F x1 x3 x5 x10 (fun x1 x3 x5 x10 x15 => graph_Parts_r33 F x1 x3 x5 x10 x15 (fun x1 x3 x5 x10 x15 x127 x128 => graph_Parts_l1 F (fun x15 => graph_Parts_k0 F x15) F x1 x3 x5 x10 x15 x127 x128))

def graph_Parts_r31 (F : Nat) (x1 x3 x5 x10 x90 x91 x92 : Value) (K : Value → Value → Value → Value → Value → Value → Value → M Value) : M Value :=
  bnd (opBin .add x92 (.int .i64 (1))) fun v122 => K x1 x3 x5 x10 x90 x91 v122

theorem graph_Parts_r31_ok (F : Nat) (x1 x3 x5 x10 x90 x91 x92 : Value) (K : Value → Value → Value → Value → Value → Value → Value → M Value) : graph_Parts_r31 F x1 x3 x5 x10 x90 x91 x92 K = graph_Parts_R F 31 [(92, x92), (91, x91), (90, x90), (10, x10), (5, x5), (3, x3), (1, x1)] [1, 3, 5, 10, 90, 91, 92] K := by kernel_rfl

def graph_Parts_k9 (F : Nat) (A8 : Value → Value → Value → Value → Value → Value → Value → M Value) (x1 x3 x5 x10 x90 x91 x92 : Value) : M Value :=
  graph_Parts_r31 F x1 x3 x5 x10 x90 x91 x92 (fun x1 x3 x5 x10 x90 x91 x92 => A8 x1 x3 x5 x10 x90 x91 x92)

def graph_Parts_r30 (F : Nat) (x1 x3 x5 x10 x11 x90 x91 x92 x97 x98 x99 : Value) (K : Value → Value → Value → Value → Value → Value → Value → Value → Value → Value → Value → M Value) : M Value :=
  bnd (opBin .add x99 (.int .i64 (1))) fun v121 => K x1 x3 x5 x10 x11 x90 x91 x92 x97 x98 v121

theorem graph_Parts_r30_ok (F : Nat) (x1 x3 x5 x10 x11 x90 x91 x92 x97 x98 x99 : Value) (K : Value → Value → Value → Value → Value → Value → Value → Value → Value → Value → Value → M Value) : graph_Parts_r30 F x1 x3 x5 x10 x11 x90 x91 x92 x97 x98 x99 K = graph_Parts_R F 30 [(99, x99), (98, x98), (97, x97), (92, x92), (91, x91), (90, x90), (11, x11), (10, x10), (5, x5), (3, x3), (1, x1)] [1, 3, 5, 10, 11, 90, 91, 92, 97, 98, 99] K := by kernel_rfl

def graph_Parts_k11 (F : Nat) (A10 : Value → Value → Value → Value → Value → Value → Value → Value → Value → Value → Value → M Value) (x1 x3 x5 x10 x11 x90 x91 x92 x97 x98 x99 : Value) : M Value :=
  graph_Parts_r30 F x1 x3 x5 x10 x11 x90 x91 x92 x97 x98 x99 (fun x1 x3 x5 x10 x11 x90 x91 x92 x97 x98 x99 => A10 x1 x3 x5 x10 x11 x90 x91 x92 x97 x98 x99)

def graph_Parts_r29 (F : Nat) (x1 x3 x5 x10 x11 x14 x90 x91 x92 x97 x98 x99 : Value) (K : Value → Value → Value → Value → Value → Value → Value → Value → Value → Value → Value → M Value) : M Value :=
  bnd (opIndexAddr 1 x5 x14) fun v115 => bnd (opLoad v115) fun v116 => bnd (opIndexAddr 1 x10 v116) fun v117 => bnd (opLoad v117) fun v118 => bnd (opBin .add v118 (.int .i64 (1))) fun v119 => bnd (opIndexAddr 1 x10 v116) fun v120 => bnd (opStore v120 v119) fun _ => K x1 x3 x5 x10 x11 x90 x91 x92 x97 x98 x99

theorem graph_Parts_r29_ok (F : Nat) (x1 x3 x5 x10 x11 x14 x90 x91 x92 x97 x98 x99 : Value) (K : Value → Value → Value → Value → Value → Value → Value → Value → Value → Value → Value → M Value) : graph_Parts_r29 F x1 x3 x5 x10 x11 x14 x90 x91 x92 x97 x98 x99 K = graph_Parts_R F 29 [(99, x99), (98, x98), (97, x97), (92, x92), (91, x91), (90, x90), (14, x14), (11, x11), (10, x10), (5, x5), (3, x3), (1, x1)] [1, 3, 5, 10, 11, 90, 91, 92, 97, 98, 99] K := by kernel_rfl

def graph_Parts_r28 (F : Nat) (x1 x3 x5 x10 x11 x14 x90 x91 x92 x97 x98 x99 : Value) (K : Value → Value → Value → Value → Value → Value → Value → Value → Value → Value → Value → Value → Value → M Value) : M Value :=
  bnd (opIndexAddr 1 x5 x11) fun v105 => bnd (opLoad v105) fun v106 => bnd (opIndexAddr 1 x5 x14) fun v109 => bnd (opLoad v109) fun v110 => bnd (opBin .neq v106 v110) fun v111 => K x1 x3 x5 x10 x11 x14 x90 x91 x92 x97 x98 x99 v111

theorem graph_Parts_r28_ok (F : Nat) (x1 x3 x5 x10 x11 x14 x90 x91 x92 x97 x98 x99 : Value) (K : Value → Value → Value → Value → Value → Value → Value → Value → Value → Value → Value → Value → Value → M Value) : graph_Parts_r28 F x1 x3 x5 x10 x11 x14 x90 x91 x92 x97 x98 x99 K = graph_Parts_D F 28 [0, 1, 2, 3, 4, 5, 6, 7, 8] [(99, x99), (98, x98), (97, x97), (92, x92), (91, x91), (90, x90), (14, x14), (11, x11), (10, x10), (5, x5), (3, x3), (1, x1)] [1, 3, 5, 10, 11, 14, 90, 91, 92, 97, 98, 99, 111] K := by kernel_rfl

theorem graph_Parts_r28_good : goodOrder (opsOf Tryd.f26 28) [0, 1, 2, 3, 4, 5, 6, 7, 8] = true := by kernel_rfl

def graph_Parts_r27 (F : Nat) (x1 x3 x5 x10 x11 x90 x91 x92 x97 x98 x99 : Value) (K : Value → Value → Value → Value → Value → Value → Value → Value → Value → Value → Value → Value → M Value) : M Value :=
  bnd (opIndexAddr 1 x97 x99) fun v101 => bnd (opLoad v101) fun v102 => K x1 x3 x5 x10 x11 v102 x90 x91 x92 x97 x98 x99

theorem graph_Parts_r27_ok (F : Nat) (x1 x3 x5 x10 x11 x90 x91 x92 x97 x98 x99 : Value) (K : Value → Value → Value → Value → Value → Value → Value → Value → Value → Value → Value → Value → M Value) : graph_Parts_r27 F x1 x3 x5 x10 x11 x90 x91 x92 x97 x98 x99 K = graph_Parts_R F 27 [(99, x99), (98, x98), (97, x97), (92, x92), (91, x91), (90, x90), (11, x11), (10, x10), (5, x5), (3, x3), (1, x1)] [1, 3, 5, 10, 11, 14, 90, 91, 92, 97, 98, 99] K := by kernel_rfl

def graph_Parts_r26 (F : Nat) (x1 x3 x5 x10 x11 x90 x91 x92 x97 x98 x99 : Value) (K : Value → Value → Value → Value → Value → Value → Value → Value → Value → Value → Value → Value → M Value) : M Value :=
  bnd (opBin .lss x99 x98) fun v100 => K x1 x3 x5 x10 x11 x90 x91 x92 x97 x98 x99 v100

theorem graph_Parts_r26_ok (F : Nat) (x1 x3 x5 x10 x11 x90 x91 x92 x97 x98 x99 : Value) (K : Value → Value → Value → Value → Value → Value → Value → Value → Value → Value → Value → Value → M Value) : graph_Parts_r26 F x1 x3 x5 x10 x11 x90 x91 x92 x97 x98 x99 K = graph_Parts_R F 26 [(99, x99), (98, x98), (97, x97), (92, x92), (91, x91), (90, x90), (11, x11), (10, x10), (5, x5), (3, x3), (1, x1)] [1, 3, 5, 10, 11, 90, 91, 92, 97, 98, 99, 100] K := by kernel_rfl

def graph_Parts_b10 (F : Nat) (E10_8 : Value → Value → Value → Value → Value → Value → Value → M Value) (A10 : Value → Value → Value → Value → Value → Value → Value → Value → Value → Value → Value → M Value) (x1 x3 x5 x10 x11 x90 x91 x92 x97 x98 x99 : Value) : M Value :=
  graph_Parts_r26 F x1 x3 x5 x10 x11 x90 x91 x92 x97 x98 x99 (fun x1 x3 x5 x10 x11 x90 x91 x92 x97 x98 x99 x100 => onB x100 (graph_Parts_r27 F x1 x3 x5 x10 x11 x90 x91 x92 x97 x98 x99 (fun x1 x3 x5 x10 x11 x14 x90 x91 x92 x97 x98 x99 => graph_Parts_r28 F x1 x3 x5 x10 x11 x14 x90 x91 x92 x97 x98 x99 (fun x1 x3 x5 x10 x11 x14 x90 x91 x92 x97 x98 x99 x111 => onB x111 (graph_Parts_r29 F x1 x3 x5 x10 x11 x14 x90 x91 x92 x97 x98 x99 (fun x1 x3 x5 x10 x11 x90 x91 x92 x97 x98 x99 => graph_Parts_k11 F A10 x1 x3 x5 x10 x11 x90 x91 x92 x97 x98 x99)) (graph_Parts_k11 F A10 x1 x3 x5 x10 x11 x90 x91 x92 x97 x98 x99)))) (E10_8 x1 x3 x5 x10 x90 x91 x92))

def graph_Parts_l10 (F : Nat) (E10_8 : Value → Value → Value → Value → Value → Value → Value → M Value) : Nat → Value → Value → Value → Value → Value → Value → Value → Value → Value → Value → Value → M Value
  | 0, _, _, _, _, _, _, _, _, _, _, _ => fail
  | k10 + 1, x1, x3, x5, x10, x11, x90, x91, x92, x97, x98, x99 => graph_Parts_b10 F E10_8 (graph_Parts_l10 F E10_8 k10) x1 x3 x5 x10 x11 x90 x91 x92 x97 x98 x99

theorem graph_Parts_l10_s (F : Nat) (E10_8 : Value → Value → Value → Value → Value → Value → Value → M Value) (k10 : Nat) (x1 x3 x5 x10 x11 x90 x91 x92 x97 x98 x99 : Value) : graph_Parts_l10 F E10_8 (k10 + 1) x1 x3 x5 x10 x11 x90 x91 x92 x97 x98 x99 = graph_Parts_b10 F E10_8 (graph_Parts_l10 F E10_8 k10) x1 x3 x5 x10 x11 x90 x91 x92 x97 x98 x99 := rfl

def graph_Parts_r25 (F : Nat) (x1 x3 x5 x10 x11 x12 x90 x91 x92 : Value) (K : Value → Value → Value → Value → Value → Value → Value → Value → Value → Value → Value → M Value) : M Value :=
  bnd (opLen x12) fun v98 => K x1 x3 x5 x10 x11 x90 x91 x92 x12 v98 (.int .i64 (0))

theorem graph_Parts_r25_ok (F : Nat) (x1 x3 x5 x10 x11 x12 x90 x91 x92 : Value) (K : Value → Value → Value → Value → Value → Value → Value → Value → Value → Value → Value → M Value) : graph_Parts_r25 F x1 x3 x5 x10 x11 x12 x90 x91 x92 K = graph_Parts_R F 25 [(92, x92), (91, x91), (90, x90), (12, x12), (11, x11), (10, x10), (5, x5), (3, x3), (1, x1)] [1, 3, 5, 10, 11, 90, 91, 92, 97, 98, 99] K := by kernel_rfl

def graph_Parts_r24 (F : Nat) (x1 x3 x5 x10 x90 x91 x92 : Value) (K : Value → Value → Value → Value → Value → Value → Value → Value → Value → M Value) : M Value :=
  bnd (opIndexAddr 1 x90 x92) fun v95 => bnd (opLoad v95) fun v96 => K x1 x3 x5 x10 x92 v96 x90 x91 x92

theorem graph_Parts_r24_ok (F : Nat) (x1 x3 x5 x10 x90 x91 x92 : Value) (K : Value → Value → Value → Value → Value → Value → Value → Value → Value → M Value) : graph_Parts_r24 F x1 x3 x5 x10 x90 x91 x92 K = graph_Parts_R F 24 [(92, x92), (91, x91), (90, x90), (10, x10), (5, x5), (3, x3), (1, x1)] [1, 3, 5, 10, 11, 12, 90, 91, 92] K := by kernel_rfl

def graph_Parts_r23 (F : Nat) (x1 x3 x5 x10 x90 x91 x92 : Value) (K : Value → Value → Value → Value → Value → Value → Value → Value → M Value) : M Value :=
  bnd (opBin .lss x92 x91) fun v93 => K x1 x3 x5 x10 x90 x91 x92 v93

theorem graph_Parts_r23_ok (F : Nat) (x1 x3 x5 x10 x90 x91 x92 : Value) (K : Value → Value → Value → Value → Value → Value → Value → Value → M Value) : graph_Parts_r23 F x1 x3 x5 x10 x90 x91 x92 K = graph_Parts_R F 23 [(92, x92), (91, x91), (90, x90), (10, x10), (5, x5), (3, x3), (1, x1)] [1, 3, 5, 10, 90, 91, 92, 93] K := by kernel_rfl

def graph_Parts_b8 (F : Nat) (E8_6 : Value → Value → Value → Value → M Value) (A8 : Value → Value → Value → Value → Value → Value → Value → M Value) (x1 x3 x5 x10 x90 x91 x92 : Value) : M Value :=
  graph_Parts_r23 F x1 x3 x5 x10 x90 x91 x92 (fun x1 x3 x5 x10 x90 x91 x92 x93 => onB x93 (graph_Parts_r24 F x1 x3 x5 x10 x90 x91 x92 (fun x1 x3 x5 x10 x11 x12 x90 x91 x92 => graph_Parts_r25 F x1 x3 x5 x10 x11 x12 x90 x91 x92 (fun x1 x3 x5 x10 x11 x90 x91 x92 x97 x98 x99 => graph_Parts_l10 F (fun x1 x3 x5 x10 x90 x91 x92 => graph_Parts_k9 F A8 x1 x3 x5 x10 x90 x91 x92) F x1 x3 x5 x10 x11 x90 x91 x92 x97 x98 x99))) (E8_6 x1 x3 x5 x10))

def graph_Parts_l8 (F : Nat) (E8_6 : Value → Value → Value → Value → M Value) : Nat → Value → Value → Value → Value → Value → Value → Value → M Value
  | 0, _, _, _, _, _, _, _ => fail
  | k8 + 1, x1, x3, x5, x10, x90, x91, x92 => graph_Parts_b8 F E8_6 (graph_Parts_l8 F E8_6 k8) x1 x3 x5 x10 x90 x91 x92

theorem graph_Parts_l8_s (F : Nat) (E8_6 : Value → Value → Value → Value → M Value) (k8 : Nat) (x1 x3 x5 x10 x90 x91 x92 : Value) : graph_Parts_l8 F E8_6 (k8 + 1) x1 x3 x5 x10 x90 x91 x92 = graph_Parts_b8 F E8_6 (graph_Parts_l8 F E8_6 k8) x1 x3 x5 x10 x90 x91 x92 := rfl

def graph_Parts_r22 (F : Nat) (x1 x3 x5 x10 : Value) (K : Value → Value → Value → Value → Value → Value → Value → M Value) : M Value :=
  bnd (opFieldAddr 1 x1) fun v89 => bnd (opLoad v89) fun v90 => bnd (opLen v90) fun v91 => K x1 x3 x5 x10 v90 v91 (.int .i64 (0))

theorem graph_Parts_r22_ok (F : Nat) (x1 x3 x5 x10 : Value) (K : Value → Value → Value → Value → Value → Value → Value → M Value) : graph_Parts_r22 F x1 x3 x5 x10 K = graph_Parts_R F 22 [(10, x10), (5, x5), (3, x3), (1, x1)] [1, 3, 5, 10, 90, 91, 92] K := by kernel_rfl

def graph_Parts_r21 (F : Nat) (x1 x3 x5 : Value) (K : Value → Value → Value → Value → M Value) : M Value :=
  bnd (opNil x3) fun v84 => bnd (opFieldAddr 7 v84) fun v85 => bnd (opLoad v85) fun v86 => bnd (opLen v86) fun v87 => bnd (opMake 8 [(.int .i64 (0))] v87 v87) fun v88 => K x1 x3 x5 v88

theorem graph_Parts_r21_ok (F : Nat) (x1 x3 x5 : Value) (K : Value → Value → Value → Value → M Value) : graph_Parts_r21 F x1 x3 x5 K = graph_Parts_R F 21 [(5, x5), (3, x3), (1, x1)] [1, 3, 5, 10] K := by kernel_rfl

def graph_Parts_k12 (F : Nat) (x1 x3 x5 : Value) : M Value :=
  graph_Parts_r21 F x1 x3 x5 (fun x1 x3 x5 x10 => graph_Parts_r22 F x1 x3 x5 x10 (fun x1 x3 x5 x10 x90 x91 x92 => graph_Parts_l8 F (fun x1 x3 x5 x10 => graph_Parts_k7 F x1 x3 x5 x10) F x1 x3 x5 x10 x90 x91 x92))

def graph_Parts_r20 (F : Nat) (x1 x3 x5 x64 x65 x66 : Value) (K : Value → Value → Value → Value → Value → Value → M Value) : M Value :=
  bnd (opBin .add x66 (.int .i64 (1))) fun v82 => K x1 x3 x5 x64 x65 v82

theorem graph_Parts_r20_ok (F : Nat) (x1 x3 x5 x64 x65 x66 : Value) (K : Value → Value → Value → Value → Value → Value → M Value) : graph_Parts_r20 F x1 x3 x5 x64 x65 x66 K = graph_Parts_R F 20 [(66, x66), (65, x65), (64, x64), (5, x5), (3, x3), (1, x1)] [1, 3, 5, 64, 65, 66] K := by kernel_rfl

def graph_Parts_k14 (F : Nat) (A13 : Value → Value → Value → Value → Value → Value → M Value) (x1 x3 x5 x64 x65 x66 : Value) : M Value :=
  graph_Parts_r20 F x1 x3 x5 x64 x65 x66 (fun x1 x3 x5 x64 x65 x66 => A13 x1 x3 x5 x64 x65 x66)

def graph_Parts_r19 (F : Nat) (x1 x3 x5 x6 x64 x65 x66 x71 x72 x73 : Value) (K : Value → Value → Value → Value → Value → Value → Value → Value → Value → Value → M Value) : M Value :=
  bnd (opBin .add x73 (.int .i64 (1))) fun v81 => K x1 x3 x5 x6 x64 x65 x66 x71 x72 v81

theorem graph_Parts_r19_ok (F : Nat) (x1 x3 x5 x6 x64 x65 x66 x71 x72 x73 : Value) (K : Value → Value → Value → Value → Value → Value → Value → Value → Value → Value → M Value) : graph_Parts_r19 F x1 x3 x5 x6 x64 x65 x66 x71 x72 x73 K = graph_Parts_R F 19 [(73, x73), (72, x72), (71, x71), (66, x66), (65, x65), (64, x64), (6, x6), (5, x5), (3, x3), (1, x1)] [1, 3, 5, 6, 64, 65, 66, 71, 72, 73] K := by kernel_rfl

def graph_Parts_r18 (F : Nat) (x1 x3 x5 x6 x9 x64 x65 x66 x71 x72 x73 : Value) (K : Value → Value → Value → Value → Value → Value → Value → Value → Value → Value → M Value) : M Value :=
  bnd (opIndexAddr 1 x5 x9) fun v80 => bnd (opStore v80 x6) fun _ => K x1 x3 x5 x6 x64 x65 x66 x71 x72 x73

theorem graph_Parts_r18_ok (F : Nat) (x1 x3 x5 x6 x9 x64 x65 x66 x71 x72 x73 : Value) (K : Value → Value → Value → Value → Value → Value → Value → Value → Value → Value → M Value) : graph_Parts_r18 F x1 x3 x5 x6 x9 x64 x65 x66 x71 x72 x73 K = graph_Parts_R F 18 [(73, x73), (72, x72), (71, x71), (66, x66), (65, x65), (64, x64), (9, x9), (6, x6), (5, x5), (3, x3), (1, x1)] [1, 3, 5, 6, 64, 65, 66, 71, 72, 73] K := by kernel_rfl

def graph_Parts_r17 (F : Nat) (x1 x3 x5 x6 x64 x65 x66 x71 x72 x73 : Value) (K : Value → Value → Value → Value → Value → Value → Value → Value → Value → Value → Value → M Value) : M Value :=
  bnd (opIndexAddr 1 x71 x73) fun v75 => bnd (opLoad v75) fun v76 => K x1 x3 x5 x6 v76 x64 x65 x66 x71 x72 x73

theorem graph_Parts_r17_ok (F : Nat) (x1 x3 x5 x6 x64 x65 x66 x71 x72 x73 : Value) (K : Value → Value → Value → Value → Value → Value → Value → Value → Value → Value → Value → M Value) : graph_Parts_r17 F x1 x3 x5 x6 x64 x65 x66 x71 x72 x73 K = graph_Parts_R F 17 [(73, x73), (72, x72), (71, x71), (66, x66), (65, x65), (64, x64), (6, x6), (5, x5), (3, x3), (1, x1)] [1, 3, 5, 6, 9, 64, 65, 66, 71, 72, 73] K := by kernel_rfl

def graph_Parts_r16 (F : Nat) (x1 x3 x5 x6 x64 x65 x66 x71 x72 x73 : Value) (K : Value → Value → Value → Value → Value → Value → Value → Value → Value → Value → Value → M Value) : M Value :=
  bnd (opBin .lss x73 x72) fun v74 => K x1 x3 x5 x6 x64 x65 x66 x71 x72 x73 v74

theorem graph_Parts_r16_ok (F : Nat) (x1 x3 x5 x6 x64 x65 x66 x71 x72 x73 : Value) (K : Value → Value → Value → Value → Value → Value → Value → Value → Value → Value → Value → M Value) : graph_Parts_r16 F x1 x3 x5 x6 x64 x65 x66 x71 x72 x73 K = graph_Parts_R F 16 [(73, x73), (72, x72), (71, x71), (66, x66), (65, x65), (64, x64), (6, x6), (5, x5), (3, x3), (1, x1)] [1, 3, 5, 6, 64, 65, 66, 71, 72, 73, 74] K := by kernel_rfl

def graph_Parts_b15 (F : Nat) (E15_4 : Value → Value → Value → Value → Value → Value → M Value) (A15 : Value → Value → Value → Value → Value → Value → Value → Value → Value → Value → M Value) (x1 x3 x5 x6 x64 x65 x66 x71 x72 x73 : Value) : M Value :=
  graph_Parts_r16 F x1 x3 x5 x6 x64 x65 x66 x71 x72 x73 (fun x1 x3 x5 x6 x64 x65 x66 x71 x72 x73 x74 => onB x74 (graph_Parts_r17 F x1 x3 x5 x6 x64 x65 x66 x71 x72 x73 (fun x1 x3 x5 x6 x9 x64 x65 x66 x71 x72 x73 => graph_Parts_r18 F x1 x3 x5 x6 x9 x64 x65 x66 x71 x72 x73 (fun x1 x3 x5 x6 x64 x65 x66 x71 x72 x73 => graph_Parts_r19 F x1 x3 x5 x6 x64 x65 x66 x71 x72 x73 (fun x1 x3 x5 x6 x64 x65 x66 x71 x72 x73 => A15 x1 x3 x5 x6 x64 x65 x66 x71 x72 x73)))) (E15_4 x1 x3 x5 x64 x65 x66))

def graph_Parts_l15 (F : Nat) (E15_4 : Value → Value → Value → Value → Value → Value → M Value) : Nat → Value → Value → Value → Value → Value → Value → Value → Value → Value → Value → M Value
  | 0, _, _, _, _, _, _, _, _, _, _ => fail
  | k15 + 1, x1, x3, x5, x6, x64, x65, x66, x71, x72, x73 => graph_Parts_b15 F E15_4 (graph_Parts_l15 F E15_4 k15) x1 x3 x5 x6 x64 x65 x66 x71 x72 x73

theorem graph_Parts_l15_s (F : Nat) (E15_4 : Value → Value → Value → Value → Value → Value → M Value) (k15 : Nat) (x1 x3 x5 x6 x64 x65 x66 x71 x72 x73 : Value) : graph_Parts_l15 F E15_4 (k15 + 1) x1 x3 x5 x6 x64 x65 x66 x71 x72 x73 = graph_Parts_b15 F E15_4 (graph_Parts_l15 F E15_4 k15) x1 x3 x5 x6 x64 x65 x66 x71 x72 x73 := rfl

def graph_Parts_r15 (F : Nat) (x1 x3 x5 x6 x7 x64 x65 x66 : Value) (K : Value → Value → Value → Value → Value → Value → Value → Value → Value → Value → M Value) : M Value :=
  bnd (opLen x7) fun v72 => K x1 x3 x5 x6 x64 x65 x66 x7 v72 (.int .i64 (0))

theorem graph_Parts_r15_ok (F : Nat) (x1 x3 x5 x6 x7 x64 x65 x66 : Value) (K : Value → Value → Value → Value → Value → Value → Value → Value → Value → Value → M Value) : graph_Parts_r15 F x1 x3 x5 x6 x7 x64 x65 x66 K = graph_Parts_R F 15 [(66, x66), (65, x65), (64, x64), (7, x7), (6, x6), (5, x5), (3, x3), (1, x1)] [1, 3, 5, 6, 64, 65, 66, 71, 72, 73] K := by kernel_rfl

def graph_Parts_r14 (F : Nat) (x1 x3 x5 x64 x65 x66 : Value) (K : Value → Value → Value → Value → Value → Value → Value → Value → M Value) : M Value :=
  bnd (opIndexAddr 1 x64 x66) fun v69 => bnd (opLoad v69) fun v70 => K x1 x3 x5 x66 v70 x64 x65 x66

theorem graph_Parts_r14_ok (F : Nat) (x1 x3 x5 x64 x65 x66 : Value) (K : Value → Value → Value → Value → Value → Value → Value → Value → M Value) : graph_Parts_r14 F x1 x3 x5 x64 x65 x66 K = graph_Parts_R F 14 [(66, x66), (65, x65), (64, x64), (5, x5), (3, x3), (1, x1)] [1, 3, 5, 6, 7, 64, 65, 66] K := by kernel_rfl

def graph_Parts_r13 (F : Nat) (x1 x3 x5 x64 x65 x66 : Value) (K : Value → Value → Value → Value → Value → Value → Value → M Value) : M Value :=
  bnd (opBin .lss x66 x65) fun v67 => K x1 x3 x5 x64 x65 x66 v67

theorem graph_Parts_r13_ok (F : Nat) (x1 x3 x5 x64 x65 x66 : Value) (K : Value → Value → Value → Value → Value → Value → Value → M Value) : graph_Parts_r13 F x1 x3 x5 x64 x65 x66 K = graph_Parts_R F 13 [(66, x66), (65, x65), (64, x64), (5, x5), (3, x3), (1, x1)] [1, 3, 5, 64, 65, 66, 67] K := by kernel_rfl

def graph_Parts_b13 (F : Nat) (E13_2 : Value → Value → Value → M Value) (A13 : Value → Value → Value → Value → Value → Value → M Value) (x1 x3 x5 x64 x65 x66 : Value) : M Value :=
  graph_Parts_r13 F x1 x3 x5 x64 x65 x66 (fun x1 x3 x5 x64 x65 x66 x67 => onB x67 (graph_Parts_r14 F x1 x3 x5 x64 x65 x66 (fun x1 x3 x5 x6 x7 x64 x65 x66 => graph_Parts_r15 F x1 x3 x5 x6 x7 x64 x65 x66 (fun x1 x3 x5 x6 x64 x65 x66 x71 x72 x73 => graph_Parts_l15 F (fun x1 x3 x5 x64 x65 x66 => graph_Parts_k14 F A13 x1 x3 x5 x64 x65 x66) F x1 x3 x5 x6 x64 x65 x66 x71 x72 x73))) (E13_2 x1 x3 x5))

def graph_Parts_l13 (F : Nat) (E13_2 : Value → Value → Value → M Value) : Nat → Value → Value → Value → Value → Value → Value → M Value
  | 0, _, _, _, _, _, _ => fail
  | k13 + 1, x1, x3, x5, x64, x65, x66 => graph_Parts_b13 F E13_2 (graph_Parts_l13 F E13_2 k13) x1 x3 x5 x64 x65 x66

theorem graph_Parts_l13_s (F : Nat) (E13_2 : Value → Value → Value → M Value) (k13 : Nat) (x1 x3 x5 x64 x65 x66 : Value) : graph_Parts_l13 F E13_2 (k13 + 1) x1 x3 x5 x64 x65 x66 = graph_Parts_b13 F E13_2 (graph_Parts_l13 F E13_2 k13) x1 x3 x5 x64 x65 x66 := rfl

def graph_Parts_r12 (F : Nat) (x1 x3 x5 : Value) (K : Value → Value → Value → Value → Value → Value → M Value) : M Value :=
  bnd (opNil x3) fun v62 => bnd (opFieldAddr 7 v62) fun v63 => bnd (opLoad v63) fun v64 => bnd (opLen v64) fun v65 => K x1 x3 x5 v64 v65 (.int .i64 (0))

theorem graph_Parts_r12_ok (F : Nat) (x1 x3 x5 : Value) (K : Value → Value → Value → Value → Value → Value → M Value) : graph_Parts_r12 F x1 x3 x5 K = graph_Parts_R F 12 [(5, x5), (3, x3), (1, x1)] [1, 3, 5, 64, 65, 66] K := by kernel_rfl

def graph_Parts_r11 (F : Nat) (x1 x3 : Value) (K : Value → Value → Value → M Value) : M Value :=
  bnd (opFieldAddr 0 x1) fun v58 => bnd (opLoad v58) fun v59 => bnd (opMake 8 [(.int .i64 (0))] v59 v59) fun v60 => K x1 x3 v60

theorem graph_Parts_r11_ok (F : Nat) (x1 x3 : Value) (K : Value → Value → Value → M Value) : graph_Parts_r11 F x1 x3 K = graph_Parts_R F 11 [(3, x3), (1, x1)] [1, 3, 5] K := by kernel_rfl

def graph_Parts_r10 (F : Nat) (x1 x3 : Value) (K : Value → Value → M Value) : M Value :=
  bnd (opNil x3) fun v54 => bnd (opFieldAddr 7 v54) fun v55 => bnd (opLoad v55) fun v56 => bnd (slices_SortFunc F v56 (.func (.func 49) #[] #[])) fun v57 => K x1 x3

theorem graph_Parts_r10_ok (F : Nat) (x1 x3 : Value) (K : Value → Value → M Value) : graph_Parts_r10 F x1 x3 K = graph_Parts_R F 10 [(3, x3), (1, x1)] [1, 3] K := by kernel_rfl

def graph_Parts_k16 (F : Nat) (x1 x3 : Value) : M Value :=
  graph_Parts_r10 F x1 x3 (fun x1 x3 => graph_Parts_r11 F x1 x3 (fun x1 x3 x5 => graph_Parts_r12 F x1 x3 x5 (fun x1 x3 x5 x64 x65 x66 => graph_Parts_l13 F (fun x1 x3 x5 => graph_Parts_k12 F x1 x3 x5) F x1 x3 x5 x64 x65 x66)))

def graph_Parts_r9 (F : Nat) (x1 x3 x37 x38 : Value) (K : Value → Value → Value → Value → M Value) : M Value :=
  bnd (opBin .add x38 (.int .i64 (1))) fun v52 => K x1 x3 x37 v52

theorem graph_Parts_r9_ok (F : Nat) (x1 x3 x37 x38 : Value) (K : Value → Value → Value → Value → M Value) : graph_Parts_r9 F x1 x3 x37 x38 K = graph_Parts_R F 9 [(38, x38), (37, x37), (3, x3), (1, x1)] [1, 3, 37, 38] K := by kernel_rfl

def graph_Parts_k18 (F : Nat) (A17 : Value → Value → Value → Value → M Value) (x1 x3 x37 x38 : Value) : M Value :=
  graph_Parts_r9 F x1 x3 x37 x38 (fun x1 x3 x37 x38 => A17 x1 x3 x37 x38)

def graph_Parts_r8 (F : Nat) (x1 x3 x4 x37 x38 : Value) (K : Value → Value → Value → Value → M Value) : M Value :=
  bnd (graph_finder_visit F F x3 x4) fun v51 => K x1 x3 x37 x38

theorem graph_Parts_r8_ok (F : Nat) (x1 x3 x4 x37 x38 : Value) (K : Value → Value → Value → Value → M Value) : graph_Parts_r8 F x1 x3 x4 x37 x38 K = graph_Parts_R F 8 [(38, x38), (37, x37), (4, x4), (3, x3), (1, x1)] [1, 3, 37, 38] K := by kernel_rfl

def graph_Parts_r7 (F : Nat) (x1 x3 x4 x37 x38 : Value) (K : Value → Value → Value → Value → Value → Value → M Value) : M Value :=
  bnd (opNil x3) fun v42 => bnd (opFieldAddr 2 v42) fun v43 => bnd (opLoad v43) fun v44 => bnd (opIndexAddr 1 v44 x4) fun v46 => bnd (opLoad v46) fun v47 => bnd (opBin .eql v47 (.int .i64 (0))) fun v48 => K x1 x3 x4 x37 x38 v48

theorem graph_Parts_r7_ok (F : Nat) (x1 x3 x4 x37 x38 : Value) (K : Value → Value → Value → Value → Value → Value → M Value) : graph_Parts_r7 F x1 x3 x4 x37 x38 K = graph_Parts_R F 7 [(38, x38), (37, x37), (4, x4), (3, x3), (1, x1)] [1, 3, 4, 37, 38, 48] K := by kernel_rfl

def graph_Parts_r6 (F : Nat) (x1 x3 x37 x38 : Value) (K : Value → Value → Value → Value → Value → M Value) : M Value :=
  K x1 x3 x38 x37 x38

theorem graph_Parts_r6_ok (F : Nat) (x1 x3 x37 x38 : Value) (K : Value → Value → Value → Value → Value → M Value) : graph_Parts_r6 F x1 x3 x37 x38 K = graph_Parts_R F 6 [(38, x38), (37, x37), (3, x3), (1, x1)] [1, 3, 4, 37, 38] K := by kernel_rfl

def graph_Parts_r5 (F : Nat) (x1 x3 x37 x38 : Value) (K : Value → Value → Value → Value → Value → M Value) : M Value :=
  bnd (opBin .lss x38 x37) fun v39 => K x1 x3 x37 x38 v39

theorem graph_Parts_r5_ok (F : Nat) (x1 x3 x37 x38 : Value) (K : Value → Value → Value → Value → Value → M Value) : graph_Parts_r5 F x1 x3 x37 x38 K = graph_Parts_R F 5 [(38, x38), (37, x37), (3, x3), (1, x1)] [1, 3, 37, 38, 39] K := by kernel_rfl

def graph_Parts_b17 (F : Nat) (E17_0 : Value → Value → M Value) (A17 : Value → Value → Value → Value → M Value) (x1 x3 x37 x38 : Value) : M Value :=
  graph_Parts_r5 F x1 x3 x37 x38 (fun x1 x3 x37 x38 x39 => onB x39 (graph_Parts_r6 F x1 x3 x37 x38 (fun x1 x3 x4 x37 x38 => graph_Parts_r7 F x1 x3 x4 x37 x38 (fun x1 x3 x4 x37 x38 x48 => onB x48 (graph_Parts_r8 F x1 x3 x4 x37 x38 (fun x1 x3 x37 x38 => graph_Parts_k18 F A17 x1 x3 x37 x38)) (graph_Parts_k18 F A17 x1 x3 x37 x38)))) (E17_0 x1 x3))

def graph_Parts_l17 (F : Nat) (E17_0 : Value → Value → M Value) : Nat → Value → Value → Value → Value → M Value
  | 0, _, _, _, _ => fail
  | k17 + 1, x1, x3, x37, x38 => graph_Parts_b17 F E17_0 (graph_Parts_l17 F E17_0 k17) x1 x3 x37 x38

theorem graph_Parts_l17_s (F : Nat) (E17_0 : Value → Value → M Value) (k17 : Nat) (x1 x3 x37 x38 : Value) : graph_Parts_l17 F E17_0 (k17 + 1) x1 x3 x37 x38 = graph_Parts_b17 F E17_0 (graph_Parts_l17 F E17_0 k17) x1 x3 x37 x38 := rfl

def graph_Parts_r4 (F : Nat) (x1 x3 : Value) (K : Value → Value → Value → Value → M Value) : M Value :=
  bnd (opFieldAddr 0 x1) fun v36 => bnd (opLoad v36) fun v37 => K x1 x3 v37 (.int .i64 (0))

theorem graph_Parts_r4_ok (F : Nat) (x1 x3 : Value) (K : Value → Value → Value → Value → M Value) : graph_Parts_r4 F x1 x3 K = graph_Parts_R F 4 [(3, x3), (1, x1)] [1, 3, 37, 38] K := by kernel_rfl

def graph_Parts_r3 (F : Nat) (x1 : Value) (K : Value → Value → M Value) : M Value :=
  bnd (opLoadN 2 x1) fun v24 => bnd (opFieldAddr 0 x1) fun v25 => bnd (opLoad v25) fun v26 => bnd (opFieldAddr 0 x1) fun v28 => bnd (opLoad v28) fun v29 => bnd (opFieldAddr 0 x1) fun v31 => bnd (opLoad v31) fun v32 => bnd (opMake 8 [(.int .i64 (0))] v26 v26) fun v27 => bnd (opMake 8 [(.int .i64 (0))] v29 v29) fun v30 => bnd (opMake 1 [(.bool false)] v32 v32) fun v33 => bnd (opBuild [(.int .i64 (0)), (.slice none 0 0), (.slice none 0 0), (.slice none 0 0), (.slice none 0 0), (.slice none 0 0), (.int .i64 (0)), (.slice none 0 0)] [(0, 2, true, v24), (2, 1, false, v27), (3, 1, false, v30), (4, 1, false, v33)]) fun v34 => bnd (opBoxN v34) fun v35 => K x1 v35

theorem graph_Parts_r3_ok (F : Nat) (x1 : Value) (K : Value → Value → M Value) : graph_Parts_r3 F x1 K = graph_Parts_D F 3 [0, 1, 2, 4, 5, 7, 8, 3, 6, 9, 10, 11, 12] [(1, x1)] [1, 3] K := by kernel_rfl

theorem graph_Parts_r3_good : goodOrder (opsOf Tryd.f26 3) [0, 1, 2, 4, 5, 7, 8, 3, 6, 9, 10, 11, 12] = true := by kernel_rfl

def graph_Parts_r2 (F : Nat) (K : Value → M Value) : M Value :=
  K (.slice none 0 0)

theorem graph_Parts_r2_ok (F : Nat) (K : Value → M Value) : graph_Parts_r2 F K = graph_Parts_R F 2 [] [2] K := by kernel_rfl

def graph_Parts_r1 (F : Nat) (x1 : Value) (K : Value → Value → M Value) : M Value :=
  bnd (opLoadN 2 x1) fun v21 => bnd (graph_May F v21) fun v22 => bnd (opNot v22) fun v23 => K x1 v23

theorem graph_Parts_r1_ok (F : Nat) (x1 : Value) (K : Value → Value → M Value) : graph_Parts_r1 F x1 K = graph_Parts_R F 1 [(1, x1)] [1, 23] K := by kernel_rfl

def graph_Parts_r0 (F : Nat) (x0 : Value) (K : Value → M Value) : M Value :=
  bnd (opBoxN x0) fun v1 => K v1

theorem graph_Parts_r0_ok (F : Nat) (x0 : Value) (K : Value → M Value) : graph_Parts_r0 F x0 K = graph_Parts_R F 0 [(0, x0)] [1] K := by kernel_rfl

def graph_Parts (F : Nat) (x0 : Value) : M Value :=
  graph_Parts_r0 F x0 (fun x1 => graph_Parts_r1 F x1 (fun x1 x23 => onB x23 (graph_Parts_r2 F (fun x2 => ret x2)) (graph_Parts_r3 F x1 (fun x1 x3 => graph_Parts_r4 F x1 x3 (fun x1 x3 x37 x38 => graph_Parts_l17 F (fun x1 x3 => graph_Parts_k16 F x1 x3) F x1 x3 x37 x38)))))

def graph_Parts_m (F : Nat) : List Value → M Value
  | [x0] => graph_Parts F x0
  | _ => fail

theorem graph_Parts_body : Tryd.f26.body = some (.seq (.region 0 (opsOf Tryd.f26 0) false) (.seq (.seq (.region 1 (opsOf Tryd.f26 1) false) (.cond (.tmp 23) (.seq (.region 2 (opsOf Tryd.f26 2) false) .ret) .skip)) (.seq (.region 3 (opsOf Tryd.f26 3) true) (.seq (.seq (.region 4 (opsOf Tryd.f26 4) false) (.block 0 (.loop (.seq (.region 5 (opsOf Tryd.f26 5) false) (.seq (.cond (.tmp 39) .skip (.exit 0)) (.seq (.block 1 (.seq (.region 6 (opsOf Tryd.f26 6) false) (.seq (.region 7 (opsOf Tryd.f26 7) false) (.cond (.tmp 48) (.region 8 (opsOf Tryd.f26 8) false) .skip)))) (.region 9 (opsOf Tryd.f26 9) false))))))) (.seq (.region 10 (opsOf Tryd.f26 10) false) (.seq (.region 11 (opsOf Tryd.f26 11) false) (.seq (.seq (.region 12 (opsOf Tryd.f26 12) false) (.block 2 (.loop (.seq (.region 13 (opsOf Tryd.f26 13) false) (.seq (.cond (.tmp 67) .skip (.exit 2)) (.seq (.block 3 (.seq (.region 14 (opsOf Tryd.f26 14) false) (.seq (.region 15 (opsOf Tryd.f26 15) false) (.block 4 (.loop (.seq (.region 16 (opsOf Tryd.f26 16) false) (.seq (.cond (.tmp 74) .skip (.exit 4)) (.seq (.block 5 (.seq (.region 17 (opsOf Tryd.f26 17) false) (.region 18 (opsOf Tryd.f26 18) false))) (.region 19 (opsOf Tryd.f26 19) false))))))))) (.region 20 (opsOf Tryd.f26 20) false))))))) (.seq (.region 21 (opsOf Tryd.f26 21) false) (.seq (.seq (.region 22 (opsOf Tryd.f26 22) false) (.block 6 (.loop (.seq (.region 23 (opsOf Tryd.f26 23) false) (.seq (.cond (.tmp 93) .skip (.exit 6)) (.seq (.block 7 (.seq (.region 24 (opsOf Tryd.f26 24) false) (.seq (.region 25 (opsOf Tryd.f26 25) false) (.block 8 (.loop (.seq (.region 26 (opsOf Tryd.f26 26) false) (.seq (.cond (.tmp 100) .skip (.exit 8)) (.seq (.block 9 (.seq (.region 27 (opsOf Tryd.f26 27) false) (.seq (.region 28 (opsOf Tryd.f26 28) true) (.cond (.tmp 111) (.region 29 (opsOf Tryd.f26 29) false) .skip)))) (.region 30 (opsOf Tryd.f26 30) false))))))))) (.region 31 (opsOf Tryd.f26 31) false))))))) (.seq (.region 32 (opsOf Tryd.f26 32) false) (.seq (.seq (.region 33 (opsOf Tryd.f26 33) false) (.block 10 (.loop (.seq (.region 34 (opsOf Tryd.f26 34) false) (.seq (.cond (.tmp 129) .skip (.exit 10)) (.seq (.block 11 (.seq (.region 35 (opsOf Tryd.f26 35) false) (.seq (.region 36 (opsOf Tryd.f26 36) false) (.seq (.region 37 (opsOf Tryd.f26 37) false) (.seq (.region 38 (opsOf Tryd.f26 38) false) (.block 12 (.loop (.seq (.region 39 (opsOf Tryd.f26 39) false) (.seq (.cond (.tmp 154) .skip (.exit 12)) (.seq (.block 13 (.seq (.region 40 (opsOf Tryd.f26 40) false) (.seq (.region 41 (opsOf Tryd.f26 41) false) (.block 14 (.loop (.seq (.region 42 (opsOf Tryd.f26 42) false) (.seq (.cond (.tmp 164) .skip (.exit 14)) (.seq (.block 15 (.seq (.region 43 (opsOf Tryd.f26 43) false) (.seq (.region 44 (opsOf Tryd.f26 44) false) (.cond (.tmp 172) (.region 45 (opsOf Tryd.f26 45) false) .skip)))) (.region 46 (opsOf Tryd.f26 46) false))))))))) (.region 47 (opsOf Tryd.f26 47) false))))))))))) (.region 48 (opsOf Tryd.f26 48) false))))))) (.seq (.region 49 (opsOf Tryd.f26 49) false) .ret)))))))))))) := by kernel_rfl

theorem graph_Parts_ok (F : Nat) : Sim Tryd.prog TrydG 26 (graph_Parts_m F) := by
 have hE : EnvOK Tryd.prog TrydG (graph_Parts_env F) := (EnvOK.cons (graph_May_ok F) (EnvOK.cons (graph_finder_visit_ok F F) (EnvOK.cons (slices_SortFunc_ok F) (EnvOK.cons (slices_Index_ok F) EnvOK.nil))))
 refine Sim.of_body (E := graph_Parts_env F) Tryd.func26 graph_Parts_body Tryd.call26 ?_ ?_
 · intro args hl; unfold graph_Parts_m; split
   · exact absurd hl (Nat.not_lt.2 (Nat.le_of_ble_eq_true rfl))
   · rfl
 · intro args ρ h w z; unfold graph_Parts_m; split
   · rename_i x0; show OKc _ _ [(0, x0)] _ _
     refine rSeq ?_
     refine cLess [0] ?_
     refine xR hE [1] rfl (graph_Parts_r0_ok F _ _) ?_
     intro x1
     show OKq _ _ _ [(1, x1)] _
     refine rThen ?_
     refine rSeq ?_
     refine rSeq ?_
     refine cLess [1] ?_
     refine xR hE [1, 23] rfl (graph_Parts_r1_ok F _ _) ?_
     intro x1 x23
     show OKq _ _ _ [(23, x23), (1, x1)] _
     refine rThen ?_
     refine xCond rfl rfl ?_ ?_
     · refine rSeq ?_
       refine cLess [] ?_
       refine xR hE [2] rfl (graph_Parts_r2_ok F _) ?_
       intro x2
       show OKq _ _ _ [(2, x2)] _
       refine rThen ?_
       refine rRet ?_
       refine xThenR ?_
       exact rDone (.inr rfl) rfl
     · refine rSkip ?_
       refine rThen ?_
       refine rSeq ?_
       refine cLess [1] ?_
       refine xD Trydmix hE [1, 3] rfl graph_Parts_r3_good (graph_Parts_r3_ok F _ _) ?_
       intro x1 x3
       show OKq _ _ _ [(3, x3), (1, x1)] _
       refine rThen ?_
       refine xSeq [1, 3] (graph_Parts_k16 F ) ?_ fun hj16 => ?_
       · intro x1 x3
         show OKc _ _ [(3, x3), (1, x1)] _ _
         refine rSeq ?_
         refine cLess [3, 1] ?_
         refine xR hE [1, 3] rfl (graph_Parts_r10_ok F _ _ _) ?_
         intro x1 x3
         show OKq _ _ _ [(3, x3), (1, x1)] _
         refine rThen ?_
         refine rSeq ?_
         refine cLess [3, 1] ?_
         refine xR hE [1, 3, 5] rfl (graph_Parts_r11_ok F _ _ _) ?_
         intro x1 x3 x5
         show OKq _ _ _ [(5, x5), (3, x3), (1, x1)] _
         refine rThen ?_
         refine xSeq [1, 3, 5] (graph_Parts_k12 F ) ?_ fun hj12 => ?_
         · intro x1 x3 x5
           show OKc _ _ [(5, x5), (3, x3), (1, x1)] _ _
           refine rSeq ?_
           refine cLess [5, 3, 1] ?_
           refine xR hE [1, 3, 5, 10] rfl (graph_Parts_r21_ok F _ _ _ _) ?_
           intro x1 x3 x5 x10
           show OKq _ _ _ [(10, x10), (5, x5), (3, x3), (1, x1)] _
           refine rThen ?_
           refine xSeq [1, 3, 5, 10] (graph_Parts_k7 F ) ?_ fun hj7 => ?_
           · intro x1 x3 x5 x10
             show OKc _ _ [(10, x10), (5, x5), (3, x3), (1, x1)] _ _
             refine rSeq ?_
             refine cLess [10, 5, 3, 1] ?_
             refine xR hE [1, 3, 5, 10, 15] rfl (graph_Parts_r32_ok F _ _ _ _ _) ?_
             intro x1 x3 x5 x10 x15
             show OKq _ _ _ [(15, x15), (10, x10), (5, x5), (3, x3), (1, x1)] _
             refine rThen ?_
             refine xSeq [15] (graph_Parts_k0 F ) ?_ fun hj0 => ?_
             · intro x15
               show OKc _ _ [(15, x15)] _ _
               refine rSeq ?_
               refine cLess [15] ?_
               refine xR hE [2] rfl (graph_Parts_r49_ok F _ _) ?_
               intro x2
               show OKq _ _ _ [(2, x2)] _
               refine rThen ?_
               refine rRet ?_
               exact rDone (.inr rfl) rfl
             · refine rSeq ?_
               refine cLess [15, 10, 5, 3, 1] ?_
               refine xR hE [1, 3, 5, 10, 15, 127, 128] rfl (graph_Parts_r33_ok F _ _ _ _ _ _) ?_
               intro x1 x3 x5 x10 x15 x127 x128
               show OKq _ _ _ [(128, x128), (127, x127), (15, x15), (10, x10), (5, x5), (3, x3), (1, x1)] _
               refine rThen ?_
               refine rBlock ?_
               refine cLess [128, 127, 15, 10, 5, 3, 1] ?_
               refine xLoopAt [1, 3, 5, 10, 15, 127, 128] [] (fun k1 => graph_Parts_l1 F (fun x15 => graph_Parts_k0 F x15) k1) F [x1, x3, x5, x10, x15, x127, x128] rfl rfl (fun _ _ _ _ _ _ _ => rfl) fun I hI1 k1 => ?_
               intro x1 x3 x5 x10 x15 x127 x128
               show OKc _ _ [(128, x128), (127, x127), (15, x15), (10, x10), (5, x5), (3, x3), (1, x1)] _ _
               refine cAs (graph_Parts_l1_s F _ _ _ _ _ _ _ _ _) ?_
               refine rSeq ?_
               refine cLess [128, 127, 15, 10, 5, 3, 1] ?_
               refine xR hE [1, 3, 5, 10, 15, 127, 128, 129] rfl (graph_Parts_r34_ok F _ _ _ _ _ _ _ _) ?_
               intro x1 x3 x5 x10 x15 x127 x128 x129
               show OKq _ _ _ [(129, x129), (128, x128), (127, x127), (15, x15), (10, x10), (5, x5), (3, x3), (1, x1)] _
               refine rThen ?_
               refine rSeq ?_
               refine xCond rfl rfl ?_ ?_
               · refine rSkip ?_
                 refine rThen ?_
                 refine xSeq [1, 3, 5, 10, 15, 127, 128] (graph_Parts_k2 F (graph_Parts_l1 F (fun x15 => graph_Parts_k0 F x15) k1) ) ?_ fun hj2 => ?_
                 · intro x1 x3 x5 x10 x15 x127 x128
                   show OKc _ _ [(128, x128), (127, x127), (15, x15), (10, x10), (5, x5), (3, x3), (1, x1)] _ _
                   refine cLess [128, 127, 15, 10, 5, 3, 1] ?_
                   refine xR hE [1, 3, 5, 10, 15, 127, 128] rfl (graph_Parts_r48_ok F _ _ _ _ _ _ _ _) ?_
                   intro x1 x3 x5 x10 x15 x127 x128
                   show OKq _ _ _ [(128, x128), (127, x127), (15, x15), (10, x10), (5, x5), (3, x3), (1, x1)] _
                   exact qLess [128, 127, 15, 10, 5, 3, 1] (hI1 k1 x1 x3 x5 x10 x15 x127 x128)
                 · refine rBlock ?_
                   refine rSeq ?_
                   refine cLess [128, 127, 15, 10, 5, 3, 1] ?_
                   refine xR hE [1, 3, 5, 10, 15, 16, 127, 128] rfl (graph_Parts_r35_ok F _ _ _ _ _ _ _ _) ?_
                   intro x1 x3 x5 x10 x15 x16 x127 x128
                   show OKq _ _ _ [(128, x128), (127, x127), (16, x16), (15, x15), (10, x10), (5, x5), (3, x3), (1, x1)] _
                   refine rThen ?_
                   refine rSeq ?_
                   refine cLess [128, 127, 16, 15, 10, 5, 3, 1] ?_
                   refine xR hE [1, 3, 5, 10, 15, 16, 127, 128] rfl (graph_Parts_r36_ok F _ _ _ _ _ _ _ _ _) ?_
                   intro x1 x3 x5 x10 x15 x16 x127 x128
                   show OKq _ _ _ [(128, x128), (127, x127), (16, x16), (15, x15), (10, x10), (5, x5), (3, x3), (1, x1)] _
                   refine rThen ?_
                   refine rSeq ?_
                   refine cLess [128, 127, 16, 15, 10, 5, 3, 1] ?_
                   refine xR hE [1, 3, 5, 10, 15, 16, 127, 128] rfl (graph_Parts_r37_ok F _ _ _ _ _ _ _ _ _) ?_
                   intro x1 x3 x5 x10 x15 x16 x127 x128
                   show OKq _ _ _ [(128, x128), (127, x127), (16, x16), (15, x15), (10, x10), (5, x5), (3, x3), (1, x1)] _
                   refine rThen ?_
                   refine rSeq ?_
                   refine cLess [128, 127, 16, 15, 10, 5, 3, 1] ?_
                   refine xR hE [1, 3, 5, 10, 15, 16, 127, 128, 151, 152, 153] rfl (graph_Parts_r38_ok F _ _ _ _ _ _ _ _ _) ?_
                   intro x1 x3 x5 x10 x15 x16 x127 x128 x151 x152 x153
                   show OKq _ _ _ [(153, x153), (152, x152), (151, x151), (128, x128), (127, x127), (16, x16), (15, x15), (10, x10), (5, x5), (3, x3), (1, x1)] _
                   refine rThen ?_
                   refine rBlock ?_
                   refine cLess [153, 152, 151, 128, 127, 16, 15, 10, 5, 3, 1] ?_
                   refine xLoopAt [1, 3, 5, 10, 15, 16, 127, 128, 151, 152, 153] [] (fun k3 => graph_Parts_l3 F (fun x1 x3 x5 x10 x15 x127 x128 => graph_Parts_k2 F (graph_Parts_l1 F (fun x15 => graph_Parts_k0 F x15) k1) x1 x3 x5 x10 x15 x127 x128) k3) F [x1, x3, x5, x10, x15, x16, x127, x128, x151, x152, x153] rfl rfl (fun _ _ _ _ _ _ _ _ _ _ _ => rfl) fun I hI3 k3 => ?_
                   intro x1 x3 x5 x10 x15 x16 x127 x128 x151 x152 x153
                   show OKc _ _ [(153, x153), (152, x152), (151, x151), (128, x128), (127, x127), (16, x16), (15, x15), (10, x10), (5, x5), (3, x3), (1, x1)] _ _
                   refine cAs (graph_Parts_l3_s F _ _ _ _ _ _ _ _ _ _ _ _ _) ?_
                   refine rSeq ?_
                   refine cLess [153, 152, 151, 128, 127, 16, 15, 10, 5, 3, 1] ?_
                   refine xR hE [1, 3, 5, 10, 15, 16, 127, 128, 151, 152, 153, 154] rfl (graph_Parts_r39_ok F _ _ _ _ _ _ _ _ _ _ _ _) ?_
                   intro x1 x3 x5 x10 x15 x16 x127 x128 x151 x152 x153 x154
                   show OKq _ _ _ [(154, x154), (153, x153), (152, x152), (151, x151), (128, x128), (127, x127), (16, x16), (15, x15), (10, x10), (5, x5), (3, x3), (1, x1)] _
                   refine rThen ?_
                   refine rSeq ?_
                   refine xCond rfl rfl ?_ ?_
                   · refine rSkip ?_
                     refine rThen ?_
                     refine xSeq [1, 3, 5, 10, 15, 16, 127, 128, 151, 152, 153] (graph_Parts_k4 F (graph_Parts_l3 F (fun x1 x3 x5 x10 x15 x127 x128 => graph_Parts_k2 F (graph_Parts_l1 F (fun x15 => graph_Parts_k0 F x15) k1) x1 x3 x5 x10 x15 x127 x128) k3) ) ?_ fun hj4 => ?_
                     · intro x1 x3 x5 x10 x15 x16 x127 x128 x151 x152 x153
                       show OKc _ _ [(153, x153), (152, x152), (151, x151), (128, x128), (127, x127), (16, x16), (15, x15), (10, x10), (5, x5), (3, x3), (1, x1)] _ _
                       refine cLess [153, 152, 151, 128, 127, 16, 15, 10, 5, 3, 1] ?_
                       refine xR hE [1, 3, 5, 10, 15, 16, 127, 128, 151, 152, 153] rfl (graph_Parts_r47_ok F _ _ _ _ _ _ _ _ _ _ _ _) ?_
                       intro x1 x3 x5 x10 x15 x16 x127 x128 x151 x152 x153
                       show OKq _ _ _ [(153, x153), (152, x152), (151, x151), (128, x128), (127, x127), (16, x16), (15, x15), (10, x10), (5, x5), (3, x3), (1, x1)] _
                       exact qLess [153, 152, 151, 128, 127, 16, 15, 10, 5, 3, 1] (hI3 k3 x1 x3 x5 x10 x15 x16 x127 x128 x151 x152 x153)
                     · refine rBlock ?_
                       refine rSeq ?_
                       refine cLess [153, 152, 151, 128, 127, 16, 15, 10, 5, 3, 1] ?_
                       refine xR hE [1, 3, 5, 10, 15, 16, 18, 127, 128, 151, 152, 153] rfl (graph_Parts_r40_ok F _ _ _ _ _ _ _ _ _ _ _ _) ?_
                       intro x1 x3 x5 x10 x15 x16 x18 x127 x128 x151 x152 x153
                       show OKq _ _ _ [(153, x153), (152, x152), (151, x151), (128, x128), (127, x127), (18, x18), (16, x16), (15, x15), (10, x10), (5, x5), (3, x3), (1, x1)] _
                       refine rThen ?_
                       refine rSeq ?_
                       refine cLess [153, 152, 151, 128, 127, 18, 16, 15, 10, 5, 3, 1] ?_
                       refine xR hE [1, 3, 5, 10, 15, 16, 127, 128, 151, 152, 153, 161, 162, 163] rfl (graph_Parts_r41_ok F _ _ _ _ _ _ _ _ _ _ _ _ _) ?_
                       intro x1 x3 x5 x10 x15 x16 x127 x128 x151 x152 x153 x161 x162 x163
                       show OKq _ _ _ [(163, x163), (162, x162), (161, x161), (153, x153), (152, x152), (151, x151), (128, x128), (127, x127), (16, x16), (15, x15), (10, x10), (5, x5), (3, x3), (1, x1)] _
                       refine rThen ?_
                       refine rBlock ?_
                       refine cLess [163, 162, 161, 153, 152, 151, 128, 127, 16, 15, 10, 5, 3, 1] ?_
                       refine xLoopAt [1, 3, 5, 10, 15, 16, 127, 128, 151, 152, 153, 161, 162, 163] [] (fun k5 => graph_Parts_l5 F (fun x1 x3 x5 x10 x15 x16 x127 x128 x151 x152 x153 => graph_Parts_k4 F (graph_Parts_l3 F (fun x1 x3 x5 x10 x15 x127 x128 => graph_Parts_k2 F (graph_Parts_l1 F (fun x15 => graph_Parts_k0 F x15) k1) x1 x3 x5 x10 x15 x127 x128) k3) x1 x3 x5 x10 x15 x16 x127 x128 x151 x152 x153) k5) F [x1, x3, x5, x10, x15, x16, x127, x128, x151, x152, x153, x161, x162, x163] rfl rfl (fun _ _ _ _ _ _ _ _ _ _ _ _ _ _ => rfl) fun I hI5 k5 => ?_
                       intro x1 x3 x5 x10 x15 x16 x127 x128 x151 x152 x153 x161 x162 x163
                       show OKc _ _ [(163, x163), (162, x162), (161, x161), (153, x153), (152, x152), (151, x151), (128, x128), (127, x127), (16, x16), (15, x15), (10, x10), (5, x5), (3, x3), (1, x1)] _ _
                       refine cAs (graph_Parts_l5_s F _ _ _ _ _ _ _ _ _ _ _ _ _ _ _ _) ?_
                       refine rSeq ?_
                       refine cLess [163, 162, 161, 153, 152, 151, 128, 127, 16, 15, 10, 5, 3, 1] ?_
                       refine xR hE [1, 3, 5, 10, 15, 16, 127, 128, 151, 152, 153, 161, 162, 163, 164] rfl (graph_Parts_r42_ok F _ _ _ _ _ _ _ _ _ _ _ _ _ _ _) ?_
                       intro x1 x3 x5 x10 x15 x16 x127 x128 x151 x152 x153 x161 x162 x163 x164
                       show OKq _ _ _ [(164, x164), (163, x163), (162, x162), (161, x161), (153, x153), (152, x152), (151, x151), (128, x128), (127, x127), (16, x16), (15, x15), (10, x10), (5, x5), (3, x3), (1, x1)] _
                       refine rThen ?_
                       refine rSeq ?_
                       refine xCond rfl rfl ?_ ?_
                       · refine rSkip ?_
                         refine rThen ?_
                         refine xSeq [1, 3, 5, 10, 15, 16, 127, 128, 151, 152, 153, 161, 162, 163] (graph_Parts_k6 F (graph_Parts_l5 F (fun x1 x3 x5 x10 x15 x16 x127 x128 x151 x152 x153 => graph_Parts_k4 F (graph_Parts_l3 F (fun x1 x3 x5 x10 x15 x127 x128 => graph_Parts_k2 F (graph_Parts_l1 F (fun x15 => graph_Parts_k0 F x15) k1) x1 x3 x5 x10 x15 x127 x128) k3) x1 x3 x5 x10 x15 x16 x127 x128 x151 x152 x153) k5) ) ?_ fun hj6 => ?_
                         · intro x1 x3 x5 x10 x15 x16 x127 x128 x151 x152 x153 x161 x162 x163
                           show OKc _ _ [(163, x163), (162, x162), (161, x161), (153, x153), (152, x152), (151, x151), (128, x128), (127, x127), (16, x16), (15, x15), (10, x10), (5, x5), (3, x3), (1, x1)] _ _
                           refine cLess [163, 162, 161, 153, 152, 151, 128, 127, 16, 15, 10, 5, 3, 1] ?_
                           refine xR hE [1, 3, 5, 10, 15, 16, 127, 128, 151, 152, 153, 161, 162, 163] rfl (graph_Parts_r46_ok F _ _ _ _ _ _ _ _ _ _ _ _ _ _ _) ?_
                           intro x1 x3 x5 x10 x15 x16 x127 x128 x151 x152 x153 x161 x162 x163
                           show OKq _ _ _ [(163, x163), (162, x162), (161, x161), (153, x153), (152, x152), (151, x151), (128, x128), (127, x127), (16, x16), (15, x15), (10, x10), (5, x5), (3, x3), (1, x1)] _
                           exact qLess [163, 162, 161, 153, 152, 151, 128, 127, 16, 15, 10, 5, 3, 1] (hI5 k5 x1 x3 x5 x10 x15 x16 x127 x128 x151 x152 x153 x161 x162 x163)
                         · refine rBlock ?_
                           refine rSeq ?_
                           refine cLess [163, 162, 161, 153, 152, 151, 128, 127, 16, 15, 10, 5, 3, 1] ?_
                           refine xR hE [1, 3, 5, 10, 15, 16, 20, 127, 128, 151, 152, 153, 161, 162, 163] rfl (graph_Parts_r43_ok F _ _ _ _ _ _ _ _ _ _ _ _ _ _ _) ?_
                           intro x1 x3 x5 x10 x15 x16 x20 x127 x128 x151 x152 x153 x161 x162 x163
                           show OKq _ _ _ [(163, x163), (162, x162), (161, x161), (153, x153), (152, x152), (151, x151), (128, x128), (127, x127), (20, x20), (16, x16), (15, x15), (10, x10), (5, x5), (3, x3), (1, x1)] _
                           refine rThen ?_
                           refine rSeq ?_
                           refine cLess [163, 162, 161, 153, 152, 151, 128, 127, 20, 16, 15, 10, 5, 3, 1] ?_
                           refine xR hE [1, 3, 5, 10, 15, 16, 20, 127, 128, 151, 152, 153, 161, 162, 163, 172] rfl (graph_Parts_r44_ok F _ _ _ _ _ _ _ _ _ _ _ _ _ _ _ _) ?_
                           intro x1 x3 x5 x10 x15 x16 x20 x127 x128 x151 x152 x153 x161 x162 x163 x172
                           show OKq _ _ _ [(172, x172), (163, x163), (162, x162), (161, x161), (153, x153), (152, x152), (151, x151), (128, x128), (127, x127), (20, x20), (16, x16), (15, x15), (10, x10), (5, x5), (3, x3), (1, x1)] _
                           refine rThen ?_
                           refine xCond rfl rfl ?_ ?_
                           · refine cLess [163, 162, 161, 153, 152, 151, 128, 127, 20, 16, 15, 10, 5, 3, 1] ?_
                             refine xR hE [1, 3, 5, 10, 15, 16, 127, 128, 151, 152, 153, 161, 162, 163] rfl (graph_Parts_r45_ok F _ _ _ _ _ _ _ _ _ _ _ _ _ _ _ _) ?_
                             intro x1 x3 x5 x10 x15 x16 x127 x128 x151 x152 x153 x161 x162 x163
                             show OKq _ _ _ [(163, x163), (162, x162), (161, x161), (153, x153), (152, x152), (151, x151), (128, x128), (127, x127), (16, x16), (15, x15), (10, x10), (5, x5), (3, x3), (1, x1)] _
                             refine xBlockN ?_
                             exact qLess [163, 162, 161, 153, 152, 151, 128, 127, 16, 15, 10, 5, 3, 1] (hj6 x1 x3 x5 x10 x15 x16 x127 x128 x151 x152 x153 x161 x162 x163)
                           · refine rSkip ?_
                             refine xBlockN ?_
                             exact qLess [163, 162, 161, 153, 152, 151, 128, 127, 16, 15, 10, 5, 3, 1] (hj6 x1 x3 x5 x10 x15 x16 x127 x128 x151 x152 x153 x161 x162 x163)
                       · refine rExit ?_
                         refine xThenX ?_
                         refine xThenX ?_
                         refine rOut ?_
                         refine xBlockN ?_
                         exact qLess [153, 152, 151, 128, 127, 16, 15, 10, 5, 3, 1] (hj4 x1 x3 x5 x10 x15 x16 x127 x128 x151 x152 x153)
                   · refine rExit ?_
                     refine xThenX ?_
                     refine xThenX ?_
                     refine rOut ?_
                     refine xBlockN ?_
                     exact qLess [128, 127, 15, 10, 5, 3, 1] (hj2 x1 x3 x5 x10 x15 x127 x128)
               · refine rExit ?_
                 refine xThenX ?_
                 refine xThenX ?_
                 refine rOut ?_
                 exact qLess [15] (hj0 x15)
           · refine rSeq ?_
             refine cLess [10, 5, 3, 1] ?_
             refine xR hE [1, 3, 5, 10, 90, 91, 92] rfl (graph_Parts_r22_ok F _ _ _ _ _) ?_
             intro x1 x3 x5 x10 x90 x91 x92
             show OKq _ _ _ [(92, x92), (91, x91), (90, x90), (10, x10), (5, x5), (3, x3), (1, x1)] _
             refine rThen ?_
             refine rBlock ?_
             refine cLess [92, 91, 90, 10, 5, 3, 1] ?_
             refine xLoopAt [1, 3, 5, 10, 90, 91, 92] [] (fun k8 => graph_Parts_l8 F (fun x1 x3 x5 x10 => graph_Parts_k7 F x1 x3 x5 x10) k8) F [x1, x3, x5, x10, x90, x91, x92] rfl rfl (fun _ _ _ _ _ _ _ => rfl) fun I hI8 k8 => ?_
             intro x1 x3 x5 x10 x90 x91 x92
             show OKc _ _ [(92, x92), (91, x91), (90, x90), (10, x10), (5, x5), (3, x3), (1, x1)] _ _
             refine cAs (graph_Parts_l8_s F _ _ _ _ _ _ _ _ _) ?_
             refine rSeq ?_
             refine cLess [92, 91, 90, 10, 5, 3, 1] ?_
             refine xR hE [1, 3, 5, 10, 90, 91, 92, 93] rfl (graph_Parts_r23_ok F _ _ _ _ _ _ _ _) ?_
             intro x1 x3 x5 x10 x90 x91 x92 x93
             show OKq _ _ _ [(93, x93), (92, x92), (91, x91), (90, x90), (10, x10), (5, x5), (3, x3), (1, x1)] _
             refine rThen ?_
             refine rSeq ?_
             refine xCond rfl rfl ?_ ?_
             · refine rSkip ?_
               refine rThen ?_
               refine xSeq [1, 3, 5, 10, 90, 91, 92] (graph_Parts_k9 F (graph_Parts_l8 F (fun x1 x3 x5 x10 => graph_Parts_k7 F x1 x3 x5 x10) k8) ) ?_ fun hj9 => ?_
               · intro x1 x3 x5 x10 x90 x91 x92
                 show OKc _ _ [(92, x92), (91, x91), (90, x90), (10, x10), (5, x5), (3, x3), (1, x1)] _ _
                 refine cLess [92, 91, 90, 10, 5, 3, 1] ?_
                 refine xR hE [1, 3, 5, 10, 90, 91, 92] rfl (graph_Parts_r31_ok F _ _ _ _ _ _ _ _) ?_
                 intro x1 x3 x5 x10 x90 x91 x92
                 show OKq _ _ _ [(92, x92), (91, x91), (90, x90), (10, x10), (5, x5), (3, x3), (1, x1)] _
                 exact qLess [92, 91, 90, 10, 5, 3, 1] (hI8 k8 x1 x3 x5 x10 x90 x91 x92)
               · refine rBlock ?_
                 refine rSeq ?_
                 refine cLess [92, 91, 90, 10, 5, 3, 1] ?_
                 refine xR hE [1, 3, 5, 10, 11, 12, 90, 91, 92] rfl (graph_Parts_r24_ok F _ _ _ _ _ _ _ _) ?_
                 intro x1 x3 x5 x10 x11 x12 x90 x91 x92
                 show OKq _ _ _ [(92, x92), (91, x91), (90, x90), (12, x12), (11, x11), (10, x10), (5, x5), (3, x3), (1, x1)] _
                 refine rThen ?_
                 refine rSeq ?_
                 refine cLess [92, 91, 90, 12, 11, 10, 5, 3, 1] ?_
                 refine xR hE [1, 3, 5, 10, 11, 90, 91, 92, 97, 98, 99] rfl (graph_Parts_r25_ok F _ _ _ _ _ _ _ _ _ _) ?_
                 intro x1 x3 x5 x10 x11 x90 x91 x92 x97 x98 x99
                 show OKq _ _ _ [(99, x99), (98, x98), (97, x97), (92, x92), (91, x91), (90, x90), (11, x11), (10, x10), (5, x5), (3, x3), (1, x1)] _
                 refine rThen ?_
                 refine rBlock ?_
                 refine cLess [99, 98, 97, 92, 91, 90, 11, 10, 5, 3, 1] ?_
                 refine xLoopAt [1, 3, 5, 10, 11, 90, 91, 92, 97, 98, 99] [] (fun k10 => graph_Parts_l10 F (fun x1 x3 x5 x10 x90 x91 x92 => graph_Parts_k9 F (graph_Parts_l8 F (fun x1 x3 x5 x10 => graph_Parts_k7 F x1 x3 x5 x10) k8) x1 x3 x5 x10 x90 x91 x92) k10) F [x1, x3, x5, x10, x11, x90, x91, x92, x97, x98, x99] rfl rfl (fun _ _ _ _ _ _ _ _ _ _ _ => rfl) fun I hI10 k10 => ?_
                 intro x1 x3 x5 x10 x11 x90 x91 x92 x97 x98 x99
                 show OKc _ _ [(99, x99), (98, x98), (97, x97), (92, x92), (91, x91), (90, x90), (11, x11), (10, x10), (5, x5), (3, x3), (1, x1)] _ _
                 refine cAs (graph_Parts_l10_s F _ _ _ _ _ _ _ _ _ _ _ _ _) ?_
                 refine rSeq ?_
                 refine cLess [99, 98, 97, 92, 91, 90, 11, 10, 5, 3, 1] ?_
                 refine xR hE [1, 3, 5, 10, 11, 90, 91, 92, 97, 98, 99, 100] rfl (graph_Parts_r26_ok F _ _ _ _ _ _ _ _ _ _ _ _) ?_
                 intro x1 x3 x5 x10 x11 x90 x91 x92 x97 x98 x99 x100
                 show OKq _ _ _ [(100, x100), (99, x99), (98, x98), (97, x97), (92, x92), (91, x91), (90, x90), (11, x11), (10, x10), (5, x5), (3, x3), (1, x1)] _
                 refine rThen ?_
                 refine rSeq ?_
                 refine xCond rfl rfl ?_ ?_
                 · refine rSkip ?_
                   refine rThen ?_
                   refine xSeq [1, 3, 5, 10, 11, 90, 91, 92, 97, 98, 99] (graph_Parts_k11 F (graph_Parts_l10 F (fun x1 x3 x5 x10 x90 x91 x92 => graph_Parts_k9 F (graph_Parts_l8 F (fun x1 x3 x5 x10 => graph_Parts_k7 F x1 x3 x5 x10) k8) x1 x3 x5 x10 x90 x91 x92) k10) ) ?_ fun hj11 => ?_
                   · intro x1 x3 x5 x10 x11 x90 x91 x92 x97 x98 x99
                     show OKc _ _ [(99, x99), (98, x98), (97, x97), (92, x92), (91, x91), (90, x90), (11, x11), (10, x10), (5, x5), (3, x3), (1, x1)] _ _
                     refine cLess [99, 98, 97, 92, 91, 90, 11, 10, 5, 3, 1] ?_
                     refine xR hE [1, 3, 5, 10, 11, 90, 91, 92, 97, 98, 99] rfl (graph_Parts_r30_ok F _ _ _ _ _ _ _ _ _ _ _ _) ?_
                     intro x1 x3 x5 x10 x11 x90 x91 x92 x97 x98 x99
                     show OKq _ _ _ [(99, x99), (98, x98), (97, x97), (92, x92), (91, x91), (90, x90), (11, x11), (10, x10), (5, x5), (3, x3), (1, x1)] _
                     exact qLess [99, 98, 97, 92, 91, 90, 11, 10, 5, 3, 1] (hI10 k10 x1 x3 x5 x10 x11 x90 x91 x92 x97 x98 x99)
                   · refine rBlock ?_
                     refine rSeq ?_
                     refine cLess [99, 98, 97, 92, 91, 90, 11, 10, 5, 3, 1] ?_
                     refine xR hE [1, 3, 5, 10, 11, 14, 90, 91, 92, 97, 98, 99] rfl (graph_Parts_r27_ok F _ _ _ _ _ _ _ _ _ _ _ _) ?_
                     intro x1 x3 x5 x10 x11 x14 x90 x91 x92 x97 x98 x99
                     show OKq _ _ _ [(99, x99), (98, x98), (97, x97), (92, x92), (91, x91), (90, x90), (14, x14), (11, x11), (10, x10), (5, x5), (3, x3), (1, x1)] _
                     refine rThen ?_
                     refine rSeq ?_
                     refine cLess [99, 98, 97, 92, 91, 90, 14, 11, 10, 5, 3, 1] ?_
                     refine xD Trydmix hE [1, 3, 5, 10, 11, 14, 90, 91, 92, 97, 98, 99, 111] rfl graph_Parts_r28_good (graph_Parts_r28_ok F _ _ _ _ _ _ _ _ _ _ _ _ _) ?_
                     intro x1 x3 x5 x10 x11 x14 x90 x91 x92 x97 x98 x99 x111
                     show OKq _ _ _ [(111, x111), (99, x99), (98, x98), (97, x97), (92, x92), (91, x91), (90, x90), (14, x14), (11, x11), (10, x10), (5, x5), (3, x3), (1, x1)] _
                     refine rThen ?_
                     refine xCond rfl rfl ?_ ?_
                     · refine cLess [99, 98, 97, 92, 91, 90, 14, 11, 10, 5, 3, 1] ?_
                       refine xR hE [1, 3, 5, 10, 11, 90, 91, 92, 97, 98, 99] rfl (graph_Parts_r29_ok F _ _ _ _ _ _ _ _ _ _ _ _ _) ?_
                       intro x1 x3 x5 x10 x11 x90 x91 x92 x97 x98 x99
                       show OKq _ _ _ [(99, x99), (98, x98), (97, x97), (92, x92), (91, x91), (90, x90), (11, x11), (10, x10), (5, x5), (3, x3), (1, x1)] _
                       refine xBlockN ?_
                       exact qLess [99, 98, 97, 92, 91, 90, 11, 10, 5, 3, 1] (hj11 x1 x3 x5 x10 x11 x90 x91 x92 x97 x98 x99)
                     · refine rSkip ?_
                       refine xBlockN ?_
                       exact qLess [99, 98, 97, 92, 91, 90, 11, 10, 5, 3, 1] (hj11 x1 x3 x5 x10 x11 x90 x91 x92 x97 x98 x99)
                 · refine rExit ?_
                   refine xThenX ?_
                   refine xThenX ?_
                   refine rOut ?_
                   refine xBlockN ?_
                   exact qLess [92, 91, 90, 10, 5, 3, 1] (hj9 x1 x3 x5 x10 x90 x91 x92)
             · refine rExit ?_
               refine xThenX ?_
               refine xThenX ?_
               refine rOut ?_
               exact qLess [10, 5, 3, 1] (hj7 x1 x3 x5 x10)
         · refine rSeq ?_
           refine cLess [5, 3, 1] ?_
           refine xR hE [1, 3, 5, 64, 65, 66] rfl (graph_Parts_r12_ok F _ _ _ _) ?_
           intro x1 x3 x5 x64 x65 x66
           show OKq _ _ _ [(66, x66), (65, x65), (64, x64), (5, x5), (3, x3), (1, x1)] _
           refine rThen ?_
           refine rBlock ?_
           refine cLess [66, 65, 64, 5, 3, 1] ?_
           refine xLoopAt [1, 3, 5, 64, 65, 66] [] (fun k13 => graph_Parts_l13 F (fun x1 x3 x5 => graph_Parts_k12 F x1 x3 x5) k13) F [x1, x3, x5, x64, x65, x66] rfl rfl (fun _ _ _ _ _ _ => rfl) fun I hI13 k13 => ?_
           intro x1 x3 x5 x64 x65 x66
           show OKc _ _ [(66, x66), (65, x65), (64, x64), (5, x5), (3, x3), (1, x1)] _ _
           refine cAs (graph_Parts_l13_s F _ _ _ _ _ _ _ _) ?_
           refine rSeq ?_
           refine cLess [66, 65, 64, 5, 3, 1] ?_
           refine xR hE [1, 3, 5, 64, 65, 66, 67] rfl (graph_Parts_r13_ok F _ _ _ _ _ _ _) ?_
           intro x1 x3 x5 x64 x65 x66 x67
           show OKq _ _ _ [(67, x67), (66, x66), (65, x65), (64, x64), (5, x5), (3, x3), (1, x1)] _
           refine rThen ?_
           refine rSeq ?_
           refine xCond rfl rfl ?_ ?_
           · refine rSkip ?_
             refine rThen ?_
             refine xSeq [1, 3, 5, 64, 65, 66] (graph_Parts_k14 F (graph_Parts_l13 F (fun x1 x3 x5 => graph_Parts_k12 F x1 x3 x5) k13) ) ?_ fun hj14 => ?_
             · intro x1 x3 x5 x64 x65 x66
               show OKc _ _ [(66, x66), (65, x65), (64, x64), (5, x5), (3, x3), (1, x1)] _ _
               refine cLess [66, 65, 64, 5, 3, 1] ?_
               refine xR hE [1, 3, 5, 64, 65, 66] rfl (graph_Parts_r20_ok F _ _ _ _ _ _ _) ?_
               intro x1 x3 x5 x64 x65 x66
               show OKq _ _ _ [(66, x66), (65, x65), (64, x64), (5, x5), (3, x3), (1, x1)] _
               exact qLess [66, 65, 64, 5, 3, 1] (hI13 k13 x1 x3 x5 x64 x65 x66)
             · refine rBlock ?_
               refine rSeq ?_
               refine cLess [66, 65, 64, 5, 3, 1] ?_
               refine xR hE [1, 3, 5, 6, 7, 64, 65, 66] rfl (graph_Parts_r14_ok F _ _ _ _ _ _ _) ?_
               intro x1 x3 x5 x6 x7 x64 x65 x66
               show OKq _ _ _ [(66, x66), (65, x65), (64, x64), (7, x7), (6, x6), (5, x5), (3, x3), (1, x1)] _
               refine rThen ?_
               refine rSeq ?_
               refine cLess [66, 65, 64, 7, 6, 5, 3, 1] ?_
               refine xR hE [1, 3, 5, 6, 64, 65, 66, 71, 72, 73] rfl (graph_Parts_r15_ok F _ _ _ _ _ _ _ _ _) ?_
               intro x1 x3 x5 x6 x64 x65 x66 x71 x72 x73
               show OKq _ _ _ [(73, x73), (72, x72), (71, x71), (66, x66), (65, x65), (64, x64), (6, x6), (5, x5), (3, x3), (1, x1)] _
               refine rThen ?_
               refine rBlock ?_
               refine cLess [73, 72, 71, 66, 65, 64, 6, 5, 3, 1] ?_
               refine xLoopAt [1, 3, 5, 6, 64, 65, 66, 71, 72, 73] [] (fun k15 => graph_Parts_l15 F (fun x1 x3 x5 x64 x65 x66 => graph_Parts_k14 F (graph_Parts_l13 F (fun x1 x3 x5 => graph_Parts_k12 F x1 x3 x5) k13) x1 x3 x5 x64 x65 x66) k15) F [x1, x3, x5, x6, x64, x65, x66, x71, x72, x73] rfl rfl (fun _ _ _ _ _ _ _ _ _ _ => rfl) fun I hI15 k15 => ?_
               intro x1 x3 x5 x6 x64 x65 x66 x71 x72 x73
               show OKc _ _ [(73, x73), (72, x72), (71, x71), (66, x66), (65, x65), (64, x64), (6, x6), (5, x5), (3, x3), (1, x1)] _ _
               refine cAs (graph_Parts_l15_s F _ _ _ _ _ _ _ _ _ _ _ _) ?_
               refine rSeq ?_
               refine cLess [73, 72, 71, 66, 65, 64, 6, 5, 3, 1] ?_
               refine xR hE [1, 3, 5, 6, 64, 65, 66, 71, 72, 73, 74] rfl (graph_Parts_r16_ok F _ _ _ _ _ _ _ _ _ _ _) ?_
               intro x1 x3 x5 x6 x64 x65 x66 x71 x72 x73 x74
               show OKq _ _ _ [(74, x74), (73, x73), (72, x72), (71, x71), (66, x66), (65, x65), (64, x64), (6, x6), (5, x5), (3, x3), (1, x1)] _
               refine rThen ?_
               refine rSeq ?_
               refine xCond rfl rfl ?_ ?_
               · refine rSkip ?_
                 refine rThen ?_
                 refine rSeq ?_
                 refine rBlock ?_
                 refine rSeq ?_
                 refine cLess [73, 72, 71, 66, 65, 64, 6, 5, 3, 1] ?_
                 refine xR hE [1, 3, 5, 6, 9, 64, 65, 66, 71, 72, 73] rfl (graph_Parts_r17_ok F _ _ _ _ _ _ _ _ _ _ _) ?_
                 intro x1 x3 x5 x6 x9 x64 x65 x66 x71 x72 x73
                 show OKq _ _ _ [(73, x73), (72, x72), (71, x71), (66, x66), (65, x65), (64, x64), (9, x9), (6, x6), (5, x5), (3, x3), (1, x1)] _
                 refine rThen ?_
                 refine cLess [73, 72, 71, 66, 65, 64, 9, 6, 5, 3, 1] ?_
                 refine xR hE [1, 3, 5, 6, 64, 65, 66, 71, 72, 73] rfl (graph_Parts_r18_ok F _ _ _ _ _ _ _ _ _ _ _ _) ?_
                 intro x1 x3 x5 x6 x64 x65 x66 x71 x72 x73
                 show OKq _ _ _ [(73, x73), (72, x72), (71, x71), (66, x66), (65, x65), (64, x64), (6, x6), (5, x5), (3, x3), (1, x1)] _
                 refine xBlockN ?_
                 refine rThen ?_
                 refine cLess [73, 72, 71, 66, 65, 64, 6, 5, 3, 1] ?_
                 refine xR hE [1, 3, 5, 6, 64, 65, 66, 71, 72, 73] rfl (graph_Parts_r19_ok F _ _ _ _ _ _ _ _ _ _ _) ?_
                 intro x1 x3 x5 x6 x64 x65 x66 x71 x72 x73
                 show OKq _ _ _ [(73, x73), (72, x72), (71, x71), (66, x66), (65, x65), (64, x64), (6, x6), (5, x5), (3, x3), (1, x1)] _
                 exact qLess [73, 72, 71, 66, 65, 64, 6, 5, 3, 1] (hI15 k15 x1 x3 x5 x6 x64 x65 x66 x71 x72 x73)
               · refine rExit ?_
                 refine xThenX ?_
                 refine xThenX ?_
                 refine rOut ?_
                 refine xBlockN ?_
                 exact qLess [66, 65, 64, 5, 3, 1] (hj14 x1 x3 x5 x64 x65 x66)
           · refine rExit ?_
             refine xThenX ?_
             refine xThenX ?_
             refine rOut ?_
             exact qLess [5, 3, 1] (hj12 x1 x3 x5)
       · refine rSeq ?_
         refine cLess [3, 1] ?_
         refine xR hE [1, 3, 37, 38] rfl (graph_Parts_r4_ok F _ _ _) ?_
         intro x1 x3 x37 x38
         show OKq _ _ _ [(38, x38), (37, x37), (3, x3), (1, x1)] _
         refine rThen ?_
         refine rBlock ?_
         refine cLess [38, 37, 3, 1] ?_
         refine xLoopAt [1, 3, 37, 38] [] (fun k17 => graph_Parts_l17 F (fun x1 x3 => graph_Parts_k16 F x1 x3) k17) F [x1, x3, x37, x38] rfl rfl (fun _ _ _ _ => rfl) fun I hI17 k17 => ?_
         intro x1 x3 x37 x38
         show OKc _ _ [(38, x38), (37, x37), (3, x3), (1, x1)] _ _
         refine cAs (graph_Parts_l17_s F _ _ _ _ _ _) ?_
         refine rSeq ?_
         refine cLess [38, 37, 3, 1] ?_
         refine xR hE [1, 3, 37, 38, 39] rfl (graph_Parts_r5_ok F _ _ _ _ _) ?_
         intro x1 x3 x37 x38 x39
         show OKq _ _ _ [(39, x39), (38, x38), (37, x37), (3, x3), (1, x1)] _
         refine rThen ?_
         refine rSeq ?_
         refine xCond rfl rfl ?_ ?_
         · refine rSkip ?_
           refine rThen ?_
           refine xSeq [1, 3, 37, 38] (graph_Parts_k18 F (graph_Parts_l17 F (fun x1 x3 => graph_Parts_k16 F x1 x3) k17) ) ?_ fun hj18 => ?_
           · intro x1 x3 x37 x38
             show OKc _ _ [(38, x38), (37, x37), (3, x3), (1, x1)] _ _
             refine cLess [38, 37, 3, 1] ?_
             refine xR hE [1, 3, 37, 38] rfl (graph_Parts_r9_ok F _ _ _ _ _) ?_
             intro x1 x3 x37 x38
             show OKq _ _ _ [(38, x38), (37, x37), (3, x3), (1, x1)] _
             exact qLess [38, 37, 3, 1] (hI17 k17 x1 x3 x37 x38)
           · refine rBlock ?_
             refine rSeq ?_
             refine cLess [38, 37, 3, 1] ?_
             refine xR hE [1, 3, 4, 37, 38] rfl (graph_Parts_r6_ok F _ _ _ _ _) ?_
             intro x1 x3 x4 x37 x38
             show OKq _ _ _ [(38, x38), (37, x37), (4, x4), (3, x3), (1, x1)] _
             refine rThen ?_
             refine rSeq ?_
             refine cLess [38, 37, 4, 3, 1] ?_
             refine xR hE [1, 3, 4, 37, 38, 48] rfl (graph_Parts_r7_ok F _ _ _ _ _ _) ?_
             intro x1 x3 x4 x37 x38 x48
             show OKq _ _ _ [(48, x48), (38, x38), (37, x37), (4, x4), (3, x3), (1, x1)] _
             refine rThen ?_
             refine xCond rfl rfl ?_ ?_
             · refine cLess [38, 37, 4, 3, 1] ?_
               refine xR hE [1, 3, 37, 38] rfl (graph_Parts_r8_ok F _ _ _ _ _ _) ?_
               intro x1 x3 x37 x38
               show OKq _ _ _ [(38, x38), (37, x37), (3, x3), (1, x1)] _
               refine xBlockN ?_
               exact qLess [38, 37, 3, 1] (hj18 x1 x3 x37 x38)
             · refine rSkip ?_
               refine xBlockN ?_
               exact qLess [38, 37, 3, 1] (hj18 x1 x3 x37 x38)
         · refine rExit ?_
           refine xThenX ?_
           refine xThenX ?_
           refine rOut ?_
           exact qLess [3, 1] (hj16 x1 x3)
   · exact rFail


/-! ### haruspex/graph.Path -/

def graph_Path_env (F : Nat) : Env := envOf [(32, graph_Turn_m F), (40, graph_May_m F)]

noncomputable def graph_Path_R (F : Nat) := rK Tryd.prog TrydG (graph_Path_env F) Tryd.f30
noncomputable def graph_Path_D (F : Nat) := dK Tryd.prog TrydG (graph_Path_env F) Tryd.f30

def graph_Path_r30 (F : Nat) (x12 : Value) (K : Value → M Value) : M Value :=
  K x12

theorem graph_Path_r30_ok (F : Nat) (x12 : Value) (K : Value → M Value) : graph_Path_r30 F x12 K = graph_Path_R F 30 [(12, x12)] [6] K := by kernel_rfl

def graph_Path_k0 (F : Nat) (x12 : Value) : M Value :=
  graph_Path_r30 F x12 (fun x6 => ret x6)

def graph_Path_r29 (F : Nat) (x2 x3 x7 x12 x13 : Value) (K : Value → Value → Value → Value → Value → M Value) : M Value :=
  bnd (opBuildSlice 1 (rep 1 [(.int .i64 (0))]) [(0, 1, false, x13)]) fun v139 => bnd (opAppend 1 8 x12 v139) fun v140 => K x2 x3 x7 v140 x13

theorem graph_Path_r29_ok (F : Nat) (x2 x3 x7 x12 x13 : Value) (K : Value → Value → Value → Value → Value → M Value) : graph_Path_r29 F x2 x3 x7 x12 x13 K = graph_Path_R F 29 [(13, x13), (12, x12), (7, x7), (3, x3), (2, x2)] [2, 3, 7, 12, 13] K := by kernel_rfl

def graph_Path_r28 (F : Nat) (x2 x3 x7 x12 x14 : Value) (K : Value → Value → Value → Value → Value → M Value) : M Value :=
  K x2 x3 x7 x12 x14

theorem graph_Path_r28_ok (F : Nat) (x2 x3 x7 x12 x14 : Value) (K : Value → Value → Value → Value → Value → M Value) : graph_Path_r28 F x2 x3 x7 x12 x14 K = graph_Path_R F 28 [(14, x14), (12, x12), (7, x7), (3, x3), (2, x2)] [2, 3, 7, 12, 13] K := by kernel_rfl

def graph_Path_k2 (F : Nat) (A1 : Value → Value → Value → Value → Value → M Value) (x2 x3 x7 x12 x14 : Value) : M Value :=
  graph_Path_r28 F x2 x3 x7 x12 x14 (fun x2 x3 x7 x12 x13 => graph_Path_r29 F x2 x3 x7 x12 x13 (fun x2 x3 x7 x12 x13 => A1 x2 x3 x7 x12 x13))

def graph_Path_r27 (F : Nat) (x2 x3 x7 x12 x13 x14 x102 x103 x104 : Value) (K : Value → Value → Value → Value → Value → Value → Value → Value → Value → M Value) : M Value :=
  bnd (opBin .add x104 (.int .i64 (1))) fun v135 => K x2 x3 x7 x12 x13 x14 x102 x103 v135

theorem graph_Path_r27_ok (F : Nat) (x2 x3 x7 x12 x13 x14 x102 x103 x104 : Value) (K : Value → Value → Value → Value → Value → Value → Value → Value → Value → M Value) : graph_Path_r27 F x2 x3 x7 x12 x13 x14 x102 x103 x104 K = graph_Path_R F 27 [(104, x104), (103, x103), (102, x102), (14, x14), (13, x13), (12, x12), (7, x7), (3, x3), (2, x2)] [2, 3, 7, 12, 13, 14, 102, 103, 104] K := by kernel_rfl

def graph_Path_k4 (F : Nat) (A3 : Value → Value → Value → Value → Value → Value → Value → Value → Value → M Value) (x2 x3 x7 x12 x13 x14 x102 x103 x104 : Value) : M Value :=
  graph_Path_r27 F x2 x3 x7 x12 x13 x14 x102 x103 x104 (fun x2 x3 x7 x12 x13 x14 x102 x103 x104 => A3 x2 x3 x7 x12 x13 x14 x102 x103 x104)

def graph_Path_r26 (F : Nat) (x2 x3 x7 x12 x13 x16 x102 x103 x104 : Value) (K : Value → Value → Value → Value → Value → Value → Value → Value → Value → M Value) : M Value :=
  K x2 x3 x7 x12 x13 x16 x102 x103 x104

theorem graph_Path_r26_ok (F : Nat) (x2 x3 x7 x12 x13 x16 x102 x103 x104 : Value) (K : Value → Value → Value → Value → Value → Value → Value → Value → Value → M Value) : graph_Path_r26 F x2 x3 x7 x12 x13 x16 x102 x103 x104 K = graph_Path_R F 26 [(104, x104), (103, x103), (102, x102), (16, x16), (13, x13), (12, x12), (7, x7), (3, x3), (2, x2)] [2, 3, 7, 12, 13, 14, 102, 103, 104] K := by kernel_rfl

def graph_Path_r25 (F : Nat) (x2 x3 x7 x12 x13 x14 x16 x102 x103 x104 : Value) (K : Value → Value → Value → Value → Value → Value → Value → Value → Value → Value → Value → M Value) : M Value :=
  bnd (opIndexAddr 1 x7 x16) fun v110 => bnd (opLoad v110) fun v111 => bnd (opIndexAddr 1 x7 x13) fun v114 => bnd (opLoad v114) fun v115 => bnd (opBin .sub v115 (.int .i64 (1))) fun v116 => bnd (opBin .eql v111 v116) fun v117 => onB v117 (bnd (opIndexAddr 1 x7 x16) fun v121 => bnd (opLoad v121) fun v122 => bnd (opBin .gtr v122 (.int .i64 (0))) fun v123 => onB v123 (bnd (opBin .lss x14 (.int .i64 (0))) fun v127 => onB v127 (K x2 x3 x7 x12 x13 x14 x16 x102 x103 x104 (.bool true)) (bnd (opBin .lss x16 x14) fun v131 => K x2 x3 x7 x12 x13 x14 x16 x102 x103 x104 v131)) (K x2 x3 x7 x12 x13 x14 x16 x102 x103 x104 (.bool false))) (K x2 x3 x7 x12 x13 x14 x16 x102 x103 x104 (.bool false))

theorem graph_Path_r25_ok (F : Nat) (x2 x3 x7 x12 x13 x14 x16 x102 x103 x104 : Value) (K : Value → Value → Value → Value → Value → Value → Value → Value → Value → Value → Value → M Value) : graph_Path_r25 F x2 x3 x7 x12 x13 x14 x16 x102 x103 x104 K = graph_Path_D F 25 [0, 1, 2, 3, 4, 5, 6, 7, 8, 9, 10, 11, 12, 13, 14, 15, 16, 17, 18, 19, 20, 21, 22, 23, 24, 25] [(104, x104), (103, x103), (102, x102), (16, x16), (14, x14), (13, x13), (12, x12), (7, x7), (3, x3), (2, x2)] [2, 3, 7, 12, 13, 14, 16, 102, 103, 104, 133] K := by kernel_rfl

theorem graph_Path_r25_good : goodOrder (opsOf Tryd.f30 25) [0, 1, 2, 3, 4, 5, 6, 7, 8, 9, 10, 11, 12, 13, 14, 15, 16, 17, 18, 19, 20, 21, 22, 23, 24, 25] = true := by kernel_rfl

def graph_Path_r24 (F : Nat) (x2 x3 x7 x12 x13 x14 x102 x103 x104 : Value) (K : Value → Value → Value → Value → Value → Value → Value → Value → Value → Value → M Value) : M Value :=
  bnd (opIndexAddr 1 x102 x104) fun v106 => bnd (opLoad v106) fun v107 => K x2 x3 x7 x12 x13 x14 v107 x102 x103 x104

theorem graph_Path_r24_ok (F : Nat) (x2 x3 x7 x12 x13 x14 x102 x103 x104 : Value) (K : Value → Value → Value → Value → Value → Value → Value → Value → Value → Value → M Value) : graph_Path_r24 F x2 x3 x7 x12 x13 x14 x102 x103 x104 K = graph_Path_R F 24 [(104, x104), (103, x103), (102, x102), (14, x14), (13, x13), (12, x12), (7, x7), (3, x3), (2, x2)] [2, 3, 7, 12, 13, 14, 16, 102, 103, 104] K := by kernel_rfl

def graph_Path_r23 (F : Nat) (x2 x3 x7 x12 x13 x14 x102 x103 x104 : Value) (K : Value → Value → Value → Value → Value → Value → Value → Value → Value → Value → M Value) : M Value :=
  bnd (opBin .lss x104 x103) fun v105 => K x2 x3 x7 x12 x13 x14 x102 x103 x104 v105

theorem graph_Path_r23_ok (F : Nat) (x2 x3 x7 x12 x13 x14 x102 x103 x104 : Value) (K : Value → Value → Value → Value → Value → Value → Value → Value → Value → Value → M Value) : graph_Path_r23 F x2 x3 x7 x12 x13 x14 x102 x103 x104 K = graph_Path_R F 23 [(104, x104), (103, x103), (102, x102), (14, x14), (13, x13), (12, x12), (7, x7), (3, x3), (2, x2)] [2, 3, 7, 12, 13, 14, 102, 103, 104, 105] K := by kernel_rfl

def graph_Path_b3 (F : Nat) (E3_6 : Value → Value → Value → Value → Value → M Value) (A3 : Value → Value → Value → Value → Value → Value → Value → Value → Value → M Value) (x2 x3 x7 x12 x13 x14 x102 x103 x104 : Value) : M Value :=
  graph_Path_r23 F x2 x3 x7 x12 x13 x14 x102 x103 x104 (fun x2 x3 x7 x12 x13 x14 x102 x103 x104 x105 => onB x105 (graph_Path_r24 F x2 x3 x7 x12 x13 x14 x102 x103 x104 (fun x2 x3 x7 x12 x13 x14 x16 x102 x103 x104 => graph_Path_r25 F x2 x3 x7 x12 x13 x14 x16 x102 x103 x104 (fun x2 x3 x7 x12 x13 x14 x16 x102 x103 x104 x133 => onB x133 (graph_Path_r26 F x2 x3 x7 x12 x13 x16 x102 x103 x104 (fun x2 x3 x7 x12 x13 x14 x102 x103 x104 => graph_Path_k4 F A3 x2 x3 x7 x12 x13 x14 x102 x103 x104)) (graph_Path_k4 F A3 x2 x3 x7 x12 x13 x14 x102 x103 x104)))) (E3_6 x2 x3 x7 x12 x14))

def graph_Path_l3 (F : Nat) (E3_6 : Value → Value → Value → Value → Value → M Value) : Nat → Value → Value → Value → Value → Value → Value → Value → Value → Value → M Value
  | 0, _, _, _, _, _, _, _, _, _ => fail
  | k3 + 1, x2, x3, x7, x12, x13, x14, x102, x103, x104 => graph_Path_b3 F E3_6 (graph_Path_l3 F E3_6 k3) x2 x3 x7 x12 x13 x14 x102 x103 x104

theorem graph_Path_l3_s (F : Nat) (E3_6 : Value → Value → Value → Value → Value → M Value) (k3 : Nat) (x2 x3 x7 x12 x13 x14 x102 x103 x104 : Value) : graph_Path_l3 F E3_6 (k3 + 1) x2 x3 x7 x12 x13 x14 x102 x103 x104 = graph_Path_b3 F E3_6 (graph_Path_l3 F E3_6 k3) x2 x3 x7 x12 x13 x14 x102 x103 x104 := rfl

def graph_Path_r22 (F : Nat) (x2 x3 x7 x12 x13 x14 : Value) (K : Value → Value → Value → Value → Value → Value → Value → Value → Value → M Value) : M Value :=
  bnd (opFieldAddr 1 x3) fun v98 => bnd (opLoad v98) fun v99 => bnd (opIndexAddr 1 v99 x13) fun v101 => bnd (opLoad v101) fun v102 => bnd (opLen v102) fun v103 => K x2 x3 x7 x12 x13 x14 v102 v103 (.int .i64 (0))

theorem graph_Path_r22_ok (F : Nat) (x2 x3 x7 x12 x13 x14 : Value) (K : Value → Value → Value → Value → Value → Value → Value → Value → Value → M Value) : graph_Path_r22 F x2 x3 x7 x12 x13 x14 K = graph_Path_R F 22 [(14, x14), (13, x13), (12, x12), (7, x7), (3, x3), (2, x2)] [2, 3, 7, 12, 13, 14, 102, 103, 104] K := by kernel_rfl

def graph_Path_r21 (F : Nat) (x2 x3 x7 x12 x13 : Value) (K : Value → Value → Value → Value → Value → Value → M Value) : M Value :=
  K x2 x3 x7 x12 x13 (.int .i64 (-1))

theorem graph_Path_r21_ok (F : Nat) (x2 x3 x7 x12 x13 : Value) (K : Value → Value → Value → Value → Value → Value → M Value) : graph_Path_r21 F x2 x3 x7 x12 x13 K = graph_Path_R F 21 [(13, x13), (12, x12), (7, x7), (3, x3), (2, x2)] [2, 3, 7, 12, 13, 14] K := by kernel_rfl

def graph_Path_r20 (F : Nat) (x2 x3 x7 x12 x13 : Value) (K : Value → Value → Value → Value → Value → Value → M Value) : M Value :=
  bnd (opBin .neq x13 x2) fun v97 => K x2 x3 x7 x12 x13 v97

theorem graph_Path_r20_ok (F : Nat) (x2 x3 x7 x12 x13 : Value) (K : Value → Value → Value → Value → Value → Value → M Value) : graph_Path_r20 F x2 x3 x7 x12 x13 K = graph_Path_R F 20 [(13, x13), (12, x12), (7, x7), (3, x3), (2, x2)] [2, 3, 7, 12, 13, 97] K := by kernel_rfl

def graph_Path_b1 (F : Nat) (E1_4 : Value → M Value) (A1 : Value → Value → Value → Value → Value → M Value) (x2 x3 x7 x12 x13 : Value) : M Value :=
  graph_Path_r20 F x2 x3 x7 x12 x13 (fun x2 x3 x7 x12 x13 x97 => onB x97 (graph_Path_r21 F x2 x3 x7 x12 x13 (fun x2 x3 x7 x12 x13 x14 => graph_Path_r22 F x2 x3 x7 x12 x13 x14 (fun x2 x3 x7 x12 x13 x14 x102 x103 x104 => graph_Path_l3 F (fun x2 x3 x7 x12 x14 => graph_Path_k2 F A1 x2 x3 x7 x12 x14) F x2 x3 x7 x12 x13 x14 x102 x103 x104))) (E1_4 x12))

def graph_Path_l1 (F : Nat) (E1_4 : Value → M Value) : Nat → Value → Value → Value → Value → Value → M Value
  | 0, _, _, _, _, _ => fail
  | k1 + 1, x2, x3, x7, x12, x13 => graph_Path_b1 F E1_4 (graph_Path_l1 F E1_4 k1) x2 x3 x7 x12 x13

theorem graph_Path_l1_s (F : Nat) (E1_4 : Value → M Value) (k1 : Nat) (x2 x3 x7 x12 x13 : Value) : graph_Path_l1 F E1_4 (k1 + 1) x2 x3 x7 x12 x13 = graph_Path_b1 F E1_4 (graph_Path_l1 F E1_4 k1) x2 x3 x7 x12 x13 := rfl

def graph_Path_r19 (F : Nat) (x1 x2 x3 x7 x12 : Value) (K : Value → Value → Value → Value → Value → M Value) : M Value :=
  K x2 x3 x7 x12 x1

theorem graph_Path_r19_ok (F : Nat) (x1 x2 x3 x7 x12 : Value) (K : Value → Value → Value → Value → Value → M Value) : graph_Path_r19 F x1 x2 x3 x7 x12 K = graph_Path_R F 19 [(12, x12), (7, x7), (3, x3), (2, x2), (1, x1)] [2, 3, 7, 12, 13] K := by kernel_rfl

def graph_Path_r18 (F : Nat) (x1 x2 x3 x7 : Value) (K : Value → Value → Value → Value → Value → M Value) : M Value :=
  bnd (opBuildSlice 1 (rep 1 [(.int .i64 (0))]) [(0, 1, false, x1)]) fun v93 => K x1 x2 x3 x7 v93

theorem graph_Path_r18_ok (F : Nat) (x1 x2 x3 x7 : Value) (K : Value → Value → Value → Value → Value → M Value) : graph_Path_r18 F x1 x2 x3 x7 K = graph_Path_R F 18 [(7, x7), (3, x3), (2, x2), (1, x1)] [1, 2, 3, 7, 12] K := by kernel_rfl

def graph_Path_r17 (F : Nat) (K : Value → M Value) : M Value :=
  K (.slice none 0 0)

theorem graph_Path_r17_ok (F : Nat) (K : Value → M Value) : graph_Path_r17 F K = graph_Path_R F 17 [] [6] K := by kernel_rfl

def graph_Path_r16 (F : Nat) (x1 x2 x3 x7 : Value) (K : Value → Value → Value → Value → Value → M Value) : M Value :=
  bnd (opIndexAddr 1 x7 x1) fun v89 => bnd (opLoad v89) fun v90 => bnd (opBin .eql v90 (.int .i64 (0))) fun v91 => K x1 x2 x3 x7 v91

theorem graph_Path_r16_ok (F : Nat) (x1 x2 x3 x7 : Value) (K : Value → Value → Value → Value → Value → M Value) : graph_Path_r16 F x1 x2 x3 x7 K = graph_Path_R F 16 [(7, x7), (3, x3), (2, x2), (1, x1)] [1, 2, 3, 7, 91] K := by kernel_rfl

def graph_Path_k5 (F : Nat) (x1 x2 x3 x7 : Value) : M Value :=
  graph_Path_r16 F x1 x2 x3 x7 (fun x1 x2 x3 x7 x91 => onB x91 (graph_Path_r17 F (fun x6 => ret x6)) (graph_Path_r18 F x1 x2 x3 x7 (fun x1 x2 x3 x7 x12 => graph_Path_r19 F x1 x2 x3 x7 x12 (fun x2 x3 x7 x12 x13 => graph_Path_l1 F (fun x12 => graph_Path_k0 F x12) F x2 x3 x7 x12 x13))))

def graph_Path_r8 (F : Nat) (x1 x2 x3 x7 x8 x9 : Value) (K : Value → Value → Value → Value → Value → Value → M Value) : M Value :=
  bnd (opSlice 1 x9 (some (.int .i64 (1))) none none) fun v54 => K x1 x2 x3 x7 x8 v54

theorem graph_Path_r8_ok (F : Nat) (x1 x2 x3 x7 x8 x9 : Value) (K : Value → Value → Value → Value → Value → Value → M Value) : graph_Path_r8 F x1 x2 x3 x7 x8 x9 K = graph_Path_R F 8 [(9, x9), (8, x8), (7, x7), (3, x3), (2, x2), (1, x1)] [1, 2, 3, 7, 8, 9] K := by kernel_rfl

def graph_Path_k7 (F : Nat) (A6 : Value → Value → Value → Value → Value → Value → M Value) (x1 x2 x3 x7 x8 x9 : Value) : M Value :=
  graph_Path_r8 F x1 x2 x3 x7 x8 x9 (fun x1 x2 x3 x7 x8 x9 => A6 x1 x2 x3 x7 x8 x9)

def graph_Path_r15 (F : Nat) (x1 x2 x3 x7 x8 x9 x61 x62 x63 : Value) (K : Value → Value → Value → Value → Value → Value → Value → Value → Value → M Value) : M Value :=
  bnd (opBin .add x63 (.int .i64 (1))) fun v86 => K x1 x2 x3 x7 x8 x9 x61 x62 v86

theorem graph_Path_r15_ok (F : Nat) (x1 x2 x3 x7 x8 x9 x61 x62 x63 : Value) (K : Value → Value → Value → Value → Value → Value → Value → Value → Value → M Value) : graph_Path_r15 F x1 x2 x3 x7 x8 x9 x61 x62 x63 K = graph_Path_R F 15 [(63, x63), (62, x62), (61, x61), (9, x9), (8, x8), (7, x7), (3, x3), (2, x2), (1, x1)] [1, 2, 3, 7, 8, 9, 61, 62, 63] K := by kernel_rfl

def graph_Path_k9 (F : Nat) (A8 : Value → Value → Value → Value → Value → Value → Value → Value → Value → M Value) (x1 x2 x3 x7 x8 x9 x61 x62 x63 : Value) : M Value :=
  graph_Path_r15 F x1 x2 x3 x7 x8 x9 x61 x62 x63 (fun x1 x2 x3 x7 x8 x9 x61 x62 x63 => A8 x1 x2 x3 x7 x8 x9 x61 x62 x63)

def graph_Path_r14 (F : Nat) (x1 x2 x3 x7 x8 x9 x11 x61 x62 x63 : Value) (K : Value → Value → Value → Value → Value → Value → Value → Value → Value → M Value) : M Value :=
  bnd (opBuildSlice 1 (rep 1 [(.int .i64 (0))]) [(0, 1, false, x11)]) fun v84 => bnd (opAppend 1 8 x9 v84) fun v85 => K x1 x2 x3 x7 x8 v85 x61 x62 x63

theorem graph_Path_r14_ok (F : Nat) (x1 x2 x3 x7 x8 x9 x11 x61 x62 x63 : Value) (K : Value → Value → Value → Value → Value → Value → Value → Value → Value → M Value) : graph_Path_r14 F x1 x2 x3 x7 x8 x9 x11 x61 x62 x63 K = graph_Path_R F 14 [(63, x63), (62, x62), (61, x61), (11, x11), (9, x9), (8, x8), (7, x7), (3, x3), (2, x2), (1, x1)] [1, 2, 3, 7, 8, 9, 61, 62, 63] K := by kernel_rfl

def graph_Path_r13 (F : Nat) (x1 x2 x3 x7 x8 x9 x11 x61 x62 x63 : Value) (K : Value → Value → Value → Value → Value → Value → Value → Value → Value → Value → M Value) : M Value :=
  bnd (opIndexAddr 1 x9 (.int .i64 (0))) fun v76 => bnd (opLoad v76) fun v77 => bnd (opIndexAddr 1 x7 v77) fun v78 => bnd (opLoad v78) fun v79 => bnd (opBin .add v79 (.int .i64 (1))) fun v80 => bnd (opIndexAddr 1 x7 x11) fun v81 => bnd (opStore v81 v80) fun _ => K x1 x2 x3 x7 x8 x9 x11 x61 x62 x63

theorem graph_Path_r13_ok (F : Nat) (x1 x2 x3 x7 x8 x9 x11 x61 x62 x63 : Value) (K : Value → Value → Value → Value → Value → Value → Value → Value → Value → Value → M Value) : graph_Path_r13 F x1 x2 x3 x7 x8 x9 x11 x61 x62 x63 K = graph_Path_R F 13 [(63, x63), (62, x62), (61, x61), (11, x11), (9, x9), (8, x8), (7, x7), (3, x3), (2, x2), (1, x1)] [1, 2, 3, 7, 8, 9, 11, 61, 62, 63] K := by kernel_rfl

def graph_Path_r12 (F : Nat) (x1 x2 x3 x7 x8 x9 x11 x61 x62 x63 : Value) (K : Value → Value → Value → Value → Value → Value → Value → Value → Value → Value → Value → M Value) : M Value :=
  bnd (opIndexAddr 1 x7 x11) fun v69 => bnd (opLoad v69) fun v70 => bnd (opBin .eql v70 (.int .i64 (0))) fun v71 => K x1 x2 x3 x7 x8 x9 x11 x61 x62 x63 v71

theorem graph_Path_r12_ok (F : Nat) (x1 x2 x3 x7 x8 x9 x11 x61 x62 x63 : Value) (K : Value → Value → Value → Value → Value → Value → Value → Value → Value → Value → Value → M Value) : graph_Path_r12 F x1 x2 x3 x7 x8 x9 x11 x61 x62 x63 K = graph_Path_R F 12 [(63, x63), (62, x62), (61, x61), (11, x11), (9, x9), (8, x8), (7, x7), (3, x3), (2, x2), (1, x1)] [1, 2, 3, 7, 8, 9, 11, 61, 62, 63, 71] K := by kernel_rfl

def graph_Path_r11 (F : Nat) (x1 x2 x3 x7 x8 x9 x61 x62 x63 : Value) (K : Value → Value → Value → Value → Value → Value → Value → Value → Value → Value → M Value) : M Value :=
  bnd (opIndexAddr 1 x61 x63) fun v65 => bnd (opLoad v65) fun v66 => K x1 x2 x3 x7 x8 x9 v66 x61 x62 x63

theorem graph_Path_r11_ok (F : Nat) (x1 x2 x3 x7 x8 x9 x61 x62 x63 : Value) (K : Value → Value → Value → Value → Value → Value → Value → Value → Value → Value → M Value) : graph_Path_r11 F x1 x2 x3 x7 x8 x9 x61 x62 x63 K = graph_Path_R F 11 [(63, x63), (62, x62), (61, x61), (9, x9), (8, x8), (7, x7), (3, x3), (2, x2), (1, x1)] [1, 2, 3, 7, 8, 9, 11, 61, 62, 63] K := by kernel_rfl

def graph_Path_r10 (F : Nat) (x1 x2 x3 x7 x8 x9 x61 x62 x63 : Value) (K : Value → Value → Value → Value → Value → Value → Value → Value → Value → Value → M Value) : M Value :=
  bnd (opBin .lss x63 x62) fun v64 => K x1 x2 x3 x7 x8 x9 x61 x62 x63 v64

theorem graph_Path_r10_ok (F : Nat) (x1 x2 x3 x7 x8 x9 x61 x62 x63 : Value) (K : Value → Value → Value → Value → Value → Value → Value → Value → Value → Value → M Value) : graph_Path_r10 F x1 x2 x3 x7 x8 x9 x61 x62 x63 K = graph_Path_R F 10 [(63, x63), (62, x62), (61, x61), (9, x9), (8, x8), (7, x7), (3, x3), (2, x2), (1, x1)] [1, 2, 3, 7, 8, 9, 61, 62, 63, 64] K := by kernel_rfl

def graph_Path_b8 (F : Nat) (E8_2 : Value → Value → Value → Value → Value → Value → M Value) (A8 : Value → Value → Value → Value → Value → Value → Value → Value → Value → M Value) (x1 x2 x3 x7 x8 x9 x61 x62 x63 : Value) : M Value :=
  graph_Path_r10 F x1 x2 x3 x7 x8 x9 x61 x62 x63 (fun x1 x2 x3 x7 x8 x9 x61 x62 x63 x64 => onB x64 (graph_Path_r11 F x1 x2 x3 x7 x8 x9 x61 x62 x63 (fun x1 x2 x3 x7 x8 x9 x11 x61 x62 x63 => graph_Path_r12 F x1 x2 x3 x7 x8 x9 x11 x61 x62 x63 (fun x1 x2 x3 x7 x8 x9 x11 x61 x62 x63 x71 => onB x71 (graph_Path_r13 F x1 x2 x3 x7 x8 x9 x11 x61 x62 x63 (fun x1 x2 x3 x7 x8 x9 x11 x61 x62 x63 => graph_Path_r14 F x1 x2 x3 x7 x8 x9 x11 x61 x62 x63 (fun x1 x2 x3 x7 x8 x9 x61 x62 x63 => graph_Path_k9 F A8 x1 x2 x3 x7 x8 x9 x61 x62 x63))) (graph_Path_k9 F A8 x1 x2 x3 x7 x8 x9 x61 x62 x63)))) (E8_2 x1 x2 x3 x7 x8 x9))

def graph_Path_l8 (F : Nat) (E8_2 : Value → Value → Value → Value → Value → Value → M Value) : Nat → Value → Value → Value → Value → Value → Value → Value → Value → Value → M Value
  | 0, _, _, _, _, _, _, _, _, _ => fail
  | k8 + 1, x1, x2, x3, x7, x8, x9, x61, x62, x63 => graph_Path_b8 F E8_2 (graph_Path_l8 F E8_2 k8) x1 x2 x3 x7 x8 x9 x61 x62 x63

theorem graph_Path_l8_s (F : Nat) (E8_2 : Value → Value → Value → Value → Value → Value → M Value) (k8 : Nat) (x1 x2 x3 x7 x8 x9 x61 x62 x63 : Value) : graph_Path_l8 F E8_2 (k8 + 1) x1 x2 x3 x7 x8 x9 x61 x62 x63 = graph_Path_b8 F E8_2 (graph_Path_l8 F E8_2 k8) x1 x2 x3 x7 x8 x9 x61 x62 x63 := rfl

def graph_Path_r9 (F : Nat) (x1 x2 x3 x7 x8 x9 : Value) (K : Value → Value → Value → Value → Value → Value → Value → Value → Value → M Value) : M Value :=
  bnd (opFieldAddr 1 x8) fun v55 => bnd (opLoad v55) fun v56 => bnd (opIndexAddr 1 x9 (.int .i64 (0))) fun v58 => bnd (opLoad v58) fun v59 => bnd (opIndexAddr 1 v56 v59) fun v60 => bnd (opLoad v60) fun v61 => bnd (opLen v61) fun v62 => K x1 x2 x3 x7 x8 x9 v61 v62 (.int .i64 (0))

theorem graph_Path_r9_ok (F : Nat) (x1 x2 x3 x7 x8 x9 : Value) (K : Value → Value → Value → Value → Value → Value → Value → Value → Value → M Value) : graph_Path_r9 F x1 x2 x3 x7 x8 x9 K = graph_Path_D F 9 [0, 1, 2, 3, 4, 5, 6, 7, 8] [(9, x9), (8, x8), (7, x7), (3, x3), (2, x2), (1, x1)] [1, 2, 3, 7, 8, 9, 61, 62, 63] K := by kernel_rfl

theorem graph_Path_r9_good : goodOrder (opsOf Tryd.f30 9) [0, 1, 2, 3, 4, 5, 6, 7, 8] = true := by kernel_rfl

def graph_Path_r7 (F : Nat) (x1 x2 x3 x7 x8 x9 : Value) (K : Value → Value → Value → Value → Value → Value → Value → M Value) : M Value :=
  bnd (opLen x9) fun v51 => bnd (opBin .gtr v51 (.int .i64 (0))) fun v52 => K x1 x2 x3 x7 x8 x9 v52

theorem graph_Path_r7_ok (F : Nat) (x1 x2 x3 x7 x8 x9 : Value) (K : Value → Value → Value → Value → Value → Value → Value → M Value) : graph_Path_r7 F x1 x2 x3 x7 x8 x9 K = graph_Path_R F 7 [(9, x9), (8, x8), (7, x7), (3, x3), (2, x2), (1, x1)] [1, 2, 3, 7, 8, 9, 52] K := by kernel_rfl

def graph_Path_b6 (F : Nat) (E6_0 : Value → Value → Value → Value → M Value) (A6 : Value → Value → Value → Value → Value → Value → M Value) (x1 x2 x3 x7 x8 x9 : Value) : M Value :=
  graph_Path_r7 F x1 x2 x3 x7 x8 x9 (fun x1 x2 x3 x7 x8 x9 x52 => onB x52 (graph_Path_r9 F x1 x2 x3 x7 x8 x9 (fun x1 x2 x3 x7 x8 x9 x61 x62 x63 => graph_Path_l8 F (fun x1 x2 x3 x7 x8 x9 => graph_Path_k7 F A6 x1 x2 x3 x7 x8 x9) F x1 x2 x3 x7 x8 x9 x61 x62 x63)) (E6_0 x1 x2 x3 x7))

def graph_Path_l6 (F : Nat) (E6_0 : Value → Value → Value → Value → M Value) : Nat → Value → Value → Value → Value → Value → Value → M Value
  | 0, _, _, _, _, _, _ => fail
  | k6 + 1, x1, x2, x3, x7, x8, x9 => graph_Path_b6 F E6_0 (graph_Path_l6 F E6_0 k6) x1 x2 x3 x7 x8 x9

theorem graph_Path_l6_s (F : Nat) (E6_0 : Value → Value → Value → Value → M Value) (k6 : Nat) (x1 x2 x3 x7 x8 x9 : Value) : graph_Path_l6 F E6_0 (k6 + 1) x1 x2 x3 x7 x8 x9 = graph_Path_b6 F E6_0 (graph_Path_l6 F E6_0 k6) x1 x2 x3 x7 x8 x9 := rfl

def graph_Path_r6 (F : Nat) (x1 x2 x3 x7 x8 : Value) (K : Value → Value → Value → Value → Value → Value → M Value) : M Value :=
  bnd (opBuildSlice 1 (rep 1 [(.int .i64 (0))]) [(0, 1, false, x2)]) fun v49 => K x1 x2 x3 x7 x8 v49

theorem graph_Path_r6_ok (F : Nat) (x1 x2 x3 x7 x8 : Value) (K : Value → Value → Value → Value → Value → Value → M Value) : graph_Path_r6 F x1 x2 x3 x7 x8 K = graph_Path_R F 6 [(8, x8), (7, x7), (3, x3), (2, x2), (1, x1)] [1, 2, 3, 7, 8, 9] K := by kernel_rfl

def graph_Path_r5 (F : Nat) (x1 x2 x3 x7 : Value) (K : Value → Value → Value → Value → Value → M Value) : M Value :=
  bnd (opLoadN 2 x3) fun v46 => bnd (graph_Turn F v46) fun v47 => bnd (opPtr [(.int .i64 (0)), (.slice none 0 0)]) fun v8 => bnd (opStoreN 2 v8 v47) fun _ => K x1 x2 x3 x7 v8

theorem graph_Path_r5_ok (F : Nat) (x1 x2 x3 x7 : Value) (K : Value → Value → Value → Value → Value → M Value) : graph_Path_r5 F x1 x2 x3 x7 K = graph_Path_R F 5 [(7, x7), (3, x3), (2, x2), (1, x1)] [1, 2, 3, 7, 8] K := by kernel_rfl

def graph_Path_r4 (F : Nat) (x1 x2 x3 x7 : Value) (K : Value → Value → Value → Value → M Value) : M Value :=
  bnd (opIndexAddr 1 x7 x2) fun v45 => bnd (opStore v45 (.int .i64 (1))) fun _ => K x1 x2 x3 x7

theorem graph_Path_r4_ok (F : Nat) (x1 x2 x3 x7 : Value) (K : Value → Value → Value → Value → M Value) : graph_Path_r4 F x1 x2 x3 x7 K = graph_Path_R F 4 [(7, x7), (3, x3), (2, x2), (1, x1)] [1, 2, 3, 7] K := by kernel_rfl

def graph_Path_r3 (F : Nat) (x1 x2 x3 : Value) (K : Value → Value → Value → Value → M Value) : M Value :=
  bnd (opFieldAddr 0 x3) fun v40 => bnd (opLoad v40) fun v41 => bnd (opMake 8 [(.int .i64 (0))] v41 v41) fun v42 => K x1 x2 x3 v42

theorem graph_Path_r3_ok (F : Nat) (x1 x2 x3 : Value) (K : Value → Value → Value → Value → M Value) : graph_Path_r3 F x1 x2 x3 K = graph_Path_R F 3 [(3, x3), (2, x2), (1, x1)] [1, 2, 3, 7] K := by kernel_rfl

def graph_Path_r2 (F : Nat) (K : Value → M Value) : M Value :=
  K (.slice none 0 0)

theorem graph_Path_r2_ok (F : Nat) (K : Value → M Value) : graph_Path_r2 F K = graph_Path_R F 2 [] [6] K := by kernel_rfl

def graph_Path_r1 (F : Nat) (x1 x2 x3 : Value) (K : Value → Value → Value → Value → M Value) : M Value :=
  bnd (opLoadN 2 x3) fun v17 => bnd (graph_May F v17) fun v18 => bnd (opNot v18) fun v19 => onB v19 (K x1 x2 x3 (.bool true)) (bnd (opBin .lss x1 (.int .i64 (0))) fun v22 => onB v22 (K x1 x2 x3 (.bool true)) (bnd (opFieldAddr 0 x3) fun v26 => bnd (opLoad v26) fun v27 => bnd (opBin .geq x1 v27) fun v28 => onB v28 (K x1 x2 x3 (.bool true)) (bnd (opBin .lss x2 (.int .i64 (0))) fun v32 => onB v32 (K x1 x2 x3 (.bool true)) (bnd (opFieldAddr 0 x3) fun v36 => bnd (opLoad v36) fun v37 => bnd (opBin .geq x2 v37) fun v38 => K x1 x2 x3 v38))))

theorem graph_Path_r1_ok (F : Nat) (x1 x2 x3 : Value) (K : Value → Value → Value → Value → M Value) : graph_Path_r1 F x1 x2 x3 K = graph_Path_R F 1 [(3, x3), (2, x2), (1, x1)] [1, 2, 3, 39] K := by kernel_rfl

def graph_Path_r0 (F : Nat) (x0 x1 x2 : Value) (K : Value → Value → Value → M Value) : M Value :=
  bnd (opBoxN x0) fun v3 => K x1 x2 v3

theorem graph_Path_r0_ok (F : Nat) (x0 x1 x2 : Value) (K : Value → Value → Value → M Value) : graph_Path_r0 F x0 x1 x2 K = graph_Path_R F 0 [(2, x2), (1, x1), (0, x0)] [1, 2, 3] K := by kernel_rfl

def graph_Path (F : Nat) (x0 x1 x2 : Value) : M Value :=
  graph_Path_r0 F x0 x1 x2 (fun x1 x2 x3 => graph_Path_r1 F x1 x2 x3 (fun x1 x2 x3 x39 => onB x39 (graph_Path_r2 F (fun x6 => ret x6)) (graph_Path_r3 F x1 x2 x3 (fun x1 x2 x3 x7 => graph_Path_r4 F x1 x2 x3 x7 (fun x1 x2 x3 x7 => graph_Path_r5 F x1 x2 x3 x7 (fun x1 x2 x3 x7 x8 => graph_Path_r6 F x1 x2 x3 x7 x8 (fun x1 x2 x3 x7 x8 x9 => graph_Path_l6 F (fun x1 x2 x3 x7 => graph_Path_k5 F x1 x2 x3 x7) F x1 x2 x3 x7 x8 x9)))))))

def graph_Path_m (F : Nat) : List Value → M Value
  | [x0, x1, x2] => graph_Path F x0 x1 x2
  | _ => fail

theorem graph_Path_body : Tryd.f30.body = some (.seq (.region 0 (opsOf Tryd.f30 0) false) (.seq (.seq (.region 1 (opsOf Tryd.f30 1) false) (.cond (.tmp 39) (.seq (.region 2 (opsOf Tryd.f30 2) false) .ret) .skip)) (.seq (.region 3 (opsOf Tryd.f30 3) false) (.seq (.region 4 (opsOf Tryd.f30 4) false) (.seq (.region 5 (opsOf Tryd.f30 5) false) (.seq (.seq (.region 6 (opsOf Tryd.f30 6) false) (.block 0 (.loop (.seq (.seq (.region 7 (opsOf Tryd.f30 7) false) (.cond (.tmp 52) .skip (.exit 0))) (.seq (.block 1 (.seq (.region 9 (opsOf Tryd.f30 9) true) (.block 2 (.loop (.seq (.region 10 (opsOf Tryd.f30 10) false) (.seq (.cond (.tmp 64) .skip (.exit 2)) (.seq (.block 3 (.seq (.region 11 (opsOf Tryd.f30 11) false) (.seq (.region 12 (opsOf Tryd.f30 12) false) (.cond (.tmp 71) (.seq (.region 13 (opsOf Tryd.f30 13) false) (.region 14 (opsOf Tryd.f30 14) false)) .skip)))) (.region 15 (opsOf Tryd.f30 15) false)))))))) (.region 8 (opsOf Tryd.f30 8) false)))))) (.seq (.seq (.region 16 (opsOf Tryd.f30 16) false) (.cond (.tmp 91) (.seq (.region 17 (opsOf Tryd.f30 17) false) .ret) .skip)) (.seq (.region 18 (opsOf Tryd.f30 18) false) (.seq (.seq (.region 19 (opsOf Tryd.f30 19) false) (.block 4 (.loop (.seq (.seq (.region 20 (opsOf Tryd.f30 20) false) (.cond (.tmp 97) .skip (.exit 4))) (.block 5 (.seq (.region 21 (opsOf Tryd.f30 21) false) (.seq (.seq (.region 22 (opsOf Tryd.f30 22) false) (.block 6 (.loop (.seq (.region 23 (opsOf Tryd.f30 23) false) (.seq (.cond (.tmp 105) .skip (.exit 6)) (.seq (.block 7 (.seq (.region 24 (opsOf Tryd.f30 24) false) (.seq (.region 25 (opsOf Tryd.f30 25) true) (.cond (.tmp 133) (.region 26 (opsOf Tryd.f30 26) false) .skip)))) (.region 27 (opsOf Tryd.f30 27) false))))))) (.seq (.region 28 (opsOf Tryd.f30 28) false) (.region 29 (opsOf Tryd.f30 29) false))))))))) (.seq (.region 30 (opsOf Tryd.f30 30) false) .ret)))))))))) := by kernel_rfl

theorem graph_Path_ok (F : Nat) : Sim Tryd.prog TrydG 30 (graph_Path_m F) := by
 have hE : EnvOK Tryd.prog TrydG (graph_Path_env F) := (EnvOK.cons (graph_Turn_ok F) (EnvOK.cons (graph_May_ok F) EnvOK.nil))
 refine Sim.of_body (E := graph_Path_env F) Tryd.func30 graph_Path_body Tryd.call30 ?_ ?_
 · intro args hl; unfold graph_Path_m; split
   · exact absurd hl (Nat.not_lt.2 (Nat.le_of_ble_eq_true rfl))
   · rfl
 · intro args ρ h w z; unfold graph_Path_m; split
   · rename_i x0 x1 x2; show OKc _ _ [(0, x0), (1, x1), (2, x2)] _ _
     refine rSeq ?_
     refine cLess [2, 1, 0] ?_
     refine xR hE [1, 2, 3] rfl (graph_Path_r0_ok F _ _ _ _) ?_
     intro x1 x2 x3
     show OKq _ _ _ [(3, x3), (2, x2), (1, x1)] _
     refine rThen ?_
     refine rSeq ?_
     refine rSeq ?_
     refine cLess [3, 2, 1] ?_
     refine xR hE [1, 2, 3, 39] rfl (graph_Path_r1_ok F _ _ _ _) ?_
     intro x1 x2 x3 x39
     show OKq _ _ _ [(39, x39), (3, x3), (2, x2), (1, x1)] _
     refine rThen ?_
     refine xCond rfl rfl ?_ ?_
     · refine rSeq ?_
       refine cLess [] ?_
       refine xR hE [6] rfl (graph_Path_r2_ok F _) ?_
       intro x6
       show OKq _ _ _ [(6, x6)] _
       refine rThen ?_
       refine rRet ?_
       refine xThenR ?_
       exact rDone (.inr rfl) rfl
     · refine rSkip ?_
       refine rThen ?_
       refine rSeq ?_
       refine cLess [3, 2, 1] ?_
       refine xR hE [1, 2, 3, 7] rfl (graph_Path_r3_ok F _ _ _ _) ?_
       intro x1 x2 x3 x7
       show OKq _ _ _ [(7, x7), (3, x3), (2, x2), (1, x1)] _
       refine rThen ?_
       refine rSeq ?_
       refine cLess [7, 3, 2, 1] ?_
       refine xR hE [1, 2, 3, 7] rfl (graph_Path_r4_ok F _ _ _ _ _) ?_
       intro x1 x2 x3 x7
       show OKq _ _ _ [(7, x7), (3, x3), (2, x2), (1, x1)] _
       refine rThen ?_
       refine rSeq ?_
       refine cLess [7, 3, 2, 1] ?_
       refine xR hE [1, 2, 3, 7, 8] rfl (graph_Path_r5_ok F _ _ _ _ _) ?_
       intro x1 x2 x3 x7 x8
       show OKq _ _ _ [(8, x8), (7, x7), (3, x3), (2, x2), (1, x1)] _
       refine rThen ?_
       refine xSeq [1, 2, 3, 7] (graph_Path_k5 F ) ?_ fun hj5 => ?_
       · intro x1 x2 x3 x7
         show OKc _ _ [(7, x7), (3, x3), (2, x2), (1, x1)] _ _
         refine rSeq ?_
         refine rSeq ?_
         refine cLess [7, 3, 2, 1] ?_
         refine xR hE [1, 2, 3, 7, 91] rfl (graph_Path_r16_ok F _ _ _ _ _) ?_
         intro x1 x2 x3 x7 x91
         show OKq _ _ _ [(91, x91), (7, x7), (3, x3), (2, x2), (1, x1)] _
         refine rThen ?_
         refine xCond rfl rfl ?_ ?_
         · refine rSeq ?_
           refine cLess [] ?_
           refine xR hE [6] rfl (graph_Path_r17_ok F _) ?_
           intro x6
           show OKq _ _ _ [(6, x6)] _
           refine rThen ?_
           refine rRet ?_
           refine xThenR ?_
           exact rDone (.inr rfl) rfl
         · refine rSkip ?_
           refine rThen ?_
           refine rSeq ?_
           refine cLess [7, 3, 2, 1] ?_
           refine xR hE [1, 2, 3, 7, 12] rfl (graph_Path_r18_ok F _ _ _ _ _) ?_
           intro x1 x2 x3 x7 x12
           show OKq _ _ _ [(12, x12), (7, x7), (3, x3), (2, x2), (1, x1)] _
           refine rThen ?_
           refine xSeq [12] (graph_Path_k0 F ) ?_ fun hj0 => ?_
           · intro x12
             show OKc _ _ [(12, x12)] _ _
             refine rSeq ?_
             refine cLess [12] ?_
             refine xR hE [6] rfl (graph_Path_r30_ok F _ _) ?_
             intro x6
             show OKq _ _ _ [(6, x6)] _
             refine rThen ?_
             refine rRet ?_
             exact rDone (.inr rfl) rfl
           · refine rSeq ?_
             refine cLess [12, 7, 3, 2, 1] ?_
             refine xR hE [2, 3, 7, 12, 13] rfl (graph_Path_r19_ok F _ _ _ _ _ _) ?_
             intro x2 x3 x7 x12 x13
             show OKq _ _ _ [(13, x13), (12, x12), (7, x7), (3, x3), (2, x2)] _
             refine rThen ?_
             refine rBlock ?_
             refine cLess [13, 12, 7, 3, 2] ?_
             refine xLoopAt [2, 3, 7, 12, 13] [] (fun k1 => graph_Path_l1 F (fun x12 => graph_Path_k0 F x12) k1) F [x2, x3, x7, x12, x13] rfl rfl (fun _ _ _ _ _ => rfl) fun I hI1 k1 => ?_
             intro x2 x3 x7 x12 x13
             show OKc _ _ [(13, x13), (12, x12), (7, x7), (3, x3), (2, x2)] _ _
             refine cAs (graph_Path_l1_s F _ _ _ _ _ _ _) ?_
             refine rSeq ?_
             refine rSeq ?_
             refine cLess [13, 12, 7, 3, 2] ?_
             refine xR hE [2, 3, 7, 12, 13, 97] rfl (graph_Path_r20_ok F _ _ _ _ _ _) ?_
             intro x2 x3 x7 x12 x13 x97
             show OKq _ _ _ [(97, x97), (13, x13), (12, x12), (7, x7), (3, x3), (2, x2)] _
             refine rThen ?_
             refine xCond rfl rfl ?_ ?_
             · refine rSkip ?_
               refine rThen ?_
               refine rBlock ?_
               refine rSeq ?_
               refine cLess [13, 12, 7, 3, 2] ?_
               refine xR hE [2, 3, 7, 12, 13, 14] rfl (graph_Path_r21_ok F _ _ _ _ _ _) ?_
               intro x2 x3 x7 x12 x13 x14
               show OKq _ _ _ [(14, x14), (13, x13), (12, x12), (7, x7), (3, x3), (2, x2)] _
               refine rThen ?_
               refine xSeq [2, 3, 7, 12, 14] (graph_Path_k2 F (graph_Path_l1 F (fun x12 => graph_Path_k0 F x12) k1) ) ?_ fun hj2 => ?_
               · intro x2 x3 x7 x12 x14
                 show OKc _ _ [(14, x14), (12, x12), (7, x7), (3, x3), (2, x2)] _ _
                 refine rSeq ?_
                 refine cLess [14, 12, 7, 3, 2] ?_
                 refine xR hE [2, 3, 7, 12, 13] rfl (graph_Path_r28_ok F _ _ _ _ _ _) ?_
                 intro x2 x3 x7 x12 x13
                 show OKq _ _ _ [(13, x13), (12, x12), (7, x7), (3, x3), (2, x2)] _
                 refine rThen ?_
                 refine cLess [13, 12, 7, 3, 2] ?_
                 refine xR hE [2, 3, 7, 12, 13] rfl (graph_Path_r29_ok F _ _ _ _ _ _) ?_
                 intro x2 x3 x7 x12 x13
                 show OKq _ _ _ [(13, x13), (12, x12), (7, x7), (3, x3), (2, x2)] _
                 refine xBlockN ?_
                 exact qLess [13, 12, 7, 3, 2] (hI1 k1 x2 x3 x7 x12 x13)
               · refine rSeq ?_
                 refine cLess [14, 13, 12, 7, 3, 2] ?_
                 refine xR hE [2, 3, 7, 12, 13, 14, 102, 103, 104] rfl (graph_Path_r22_ok F _ _ _ _ _ _ _) ?_
                 intro x2 x3 x7 x12 x13 x14 x102 x103 x104
                 show OKq _ _ _ [(104, x104), (103, x103), (102, x102), (14, x14), (13, x13), (12, x12), (7, x7), (3, x3), (2, x2)] _
                 refine rThen ?_
                 refine rBlock ?_
                 refine cLess [104, 103, 102, 14, 13, 12, 7, 3, 2] ?_
                 refine xLoopAt [2, 3, 7, 12, 13, 14, 102, 103, 104] [] (fun k3 => graph_Path_l3 F (fun x2 x3 x7 x12 x14 => graph_Path_k2 F (graph_Path_l1 F (fun x12 => graph_Path_k0 F x12) k1) x2 x3 x7 x12 x14) k3) F [x2, x3, x7, x12, x13, x14, x102, x103, x104] rfl rfl (fun _ _ _ _ _ _ _ _ _ => rfl) fun I hI3 k3 => ?_
                 intro x2 x3 x7 x12 x13 x14 x102 x103 x104
                 show OKc _ _ [(104, x104), (103, x103), (102, x102), (14, x14), (13, x13), (12, x12), (7, x7), (3, x3), (2, x2)] _ _
                 refine cAs (graph_Path_l3_s F _ _ _ _ _ _ _ _ _ _ _) ?_
                 refine rSeq ?_
                 refine cLess [104, 103, 102, 14, 13, 12, 7, 3, 2] ?_
                 refine xR hE [2, 3, 7, 12, 13, 14, 102, 103, 104, 105] rfl (graph_Path_r23_ok F _ _ _ _ _ _ _ _ _ _) ?_
                 intro x2 x3 x7 x12 x13 x14 x102 x103 x104 x105
                 show OKq _ _ _ [(105, x105), (104, x104), (103, x103), (102, x102), (14, x14), (13, x13), (12, x12), (7, x7), (3, x3), (2, x2)] _
                 refine rThen ?_
                 refine rSeq ?_
                 refine xCond rfl rfl ?_ ?_
                 · refine rSkip ?_
                   refine rThen ?_
                   refine xSeq [2, 3, 7, 12, 13, 14, 102, 103, 104] (graph_Path_k4 F (graph_Path_l3 F (fun x2 x3 x7 x12 x14 => graph_Path_k2 F (graph_Path_l1 F (fun x12 => graph_Path_k0 F x12) k1) x2 x3 x7 x12 x14) k3) ) ?_ fun hj4 => ?_
                   · intro x2 x3 x7 x12 x13 x14 x102 x103 x104
                     show OKc _ _ [(104, x104), (103, x103), (102, x102), (14, x14), (13, x13), (12, x12), (7, x7), (3, x3), (2, x2)] _ _
                     refine cLess [104, 103, 102, 14, 13, 12, 7, 3, 2] ?_
                     refine xR hE [2, 3, 7, 12, 13, 14, 102, 103, 104] rfl (graph_Path_r27_ok F _ _ _ _ _ _ _ _ _ _) ?_
                     intro x2 x3 x7 x12 x13 x14 x102 x103 x104
                     show OKq _ _ _ [(104, x104), (103, x103), (102, x102), (14, x14), (13, x13), (12, x12), (7, x7), (3, x3), (2, x2)] _
                     exact qLess [104, 103, 102, 14, 13, 12, 7, 3, 2] (hI3 k3 x2 x3 x7 x12 x13 x14 x102 x103 x104)
                   · refine rBlock ?_
                     refine rSeq ?_
                     refine cLess [104, 103, 102, 14, 13, 12, 7, 3, 2] ?_
                     refine xR hE [2, 3, 7, 12, 13, 14, 16, 102, 103, 104] rfl (graph_Path_r24_ok F _ _ _ _ _ _ _ _ _ _) ?_
                     intro x2 x3 x7 x12 x13 x14 x16 x102 x103 x104
                     show OKq _ _ _ [(104, x104), (103, x103), (102, x102), (16, x16), (14, x14), (13, x13), (12, x12), (7, x7), (3, x3), (2, x2)] _
                     refine rThen ?_
                     refine rSeq ?_
                     refine cLess [104, 103, 102, 16, 14, 13, 12, 7, 3, 2] ?_
                     refine xD Trydmix hE [2, 3, 7, 12, 13, 14, 16, 102, 103, 104, 133] rfl graph_Path_r25_good (graph_Path_r25_ok F _ _ _ _ _ _ _ _ _ _ _) ?_
                     intro x2 x3 x7 x12 x13 x14 x16 x102 x103 x104 x133
                     show OKq _ _ _ [(133, x133), (104, x104), (103, x103), (102, x102), (16, x16), (14, x14), (13, x13), (12, x12), (7, x7), (3, x3), (2, x2)] _
                     refine rThen ?_
                     refine xCond rfl rfl ?_ ?_
                     · refine cLess [104, 103, 102, 16, 13, 12, 7, 3, 2] ?_
                       refine xR hE [2, 3, 7, 12, 13, 14, 102, 103, 104] rfl (graph_Path_r26_ok F _ _ _ _ _ _ _ _ _ _) ?_
                       intro x2 x3 x7 x12 x13 x14 x102 x103 x104
                       show OKq _ _ _ [(104, x104), (103, x103), (102, x102), (14, x14), (13, x13), (12, x12), (7, x7), (3, x3), (2, x2)] _
                       refine xBlockN ?_
                       exact qLess [104, 103, 102, 14, 13, 12, 7, 3, 2] (hj4 x2 x3 x7 x12 x13 x14 x102 x103 x104)
                     · refine rSkip ?_
                       refine xBlockN ?_
                       exact qLess [104, 103, 102, 14, 13, 12, 7, 3, 2] (hj4 x2 x3 x7 x12 x13 x14 x102 x103 x104)
                 · refine rExit ?_
                   refine xThenX ?_
                   refine xThenX ?_
                   refine rOut ?_
                   exact qLess [14, 12, 7, 3, 2] (hj2 x2 x3 x7 x12 x14)
             · refine rExit ?_
               refine xThenX ?_
               refine xThenX ?_
               refine rOut ?_
               exact qLess [12] (hj0 x12)
       · refine rSeq ?_
         refine cLess [8, 7, 3, 2, 1] ?_
         refine xR hE [1, 2, 3, 7, 8, 9] rfl (graph_Path_r6_ok F _ _ _ _ _ _) ?_
         intro x1 x2 x3 x7 x8 x9
         show OKq _ _ _ [(9, x9), (8, x8), (7, x7), (3, x3), (2, x2), (1, x1)] _
         refine rThen ?_
         refine rBlock ?_
         refine cLess [9, 8, 7, 3, 2, 1] ?_
         refine xLoopAt [1, 2, 3, 7, 8, 9] [] (fun k6 => graph_Path_l6 F (fun x1 x2 x3 x7 => graph_Path_k5 F x1 x2 x3 x7) k6) F [x1, x2, x3, x7, x8, x9] rfl rfl (fun _ _ _ _ _ _ => rfl) fun I hI6 k6 => ?_
         intro x1 x2 x3 x7 x8 x9
         show OKc _ _ [(9, x9), (8, x8), (7, x7), (3, x3), (2, x2), (1, x1)] _ _
         refine cAs (graph_Path_l6_s F _ _ _ _ _ _ _ _) ?_
         refine rSeq ?_
         refine rSeq ?_
         refine cLess [9, 8, 7, 3, 2, 1] ?_
         refine xR hE [1, 2, 3, 7, 8, 9, 52] rfl (graph_Path_r7_ok F _ _ _ _ _ _ _) ?_
         intro x1 x2 x3 x7 x8 x9 x52
         show OKq _ _ _ [(52, x52), (9, x9), (8, x8), (7, x7), (3, x3), (2, x2), (1, x1)] _
         refine rThen ?_
         refine xCond rfl rfl ?_ ?_
         · refine rSkip ?_
           refine rThen ?_
           refine xSeq [1, 2, 3, 7, 8, 9] (graph_Path_k7 F (graph_Path_l6 F (fun x1 x2 x3 x7 => graph_Path_k5 F x1 x2 x3 x7) k6) ) ?_ fun hj7 => ?_
           · intro x1 x2 x3 x7 x8 x9
             show OKc _ _ [(9, x9), (8, x8), (7, x7), (3, x3), (2, x2), (1, x1)] _ _
             refine cLess [9, 8, 7, 3, 2, 1] ?_
             refine xR hE [1, 2, 3, 7, 8, 9] rfl (graph_Path_r8_ok F _ _ _ _ _ _ _) ?_
             intro x1 x2 x3 x7 x8 x9
             show OKq _ _ _ [(9, x9), (8, x8), (7, x7), (3, x3), (2, x2), (1, x1)] _
             exact qLess [9, 8, 7, 3, 2, 1] (hI6 k6 x1 x2 x3 x7 x8 x9)
           · refine rBlock ?_
             refine rSeq ?_
             refine cLess [9, 8, 7, 3, 2, 1] ?_
             refine xD Trydmix hE [1, 2, 3, 7, 8, 9, 61, 62, 63] rfl graph_Path_r9_good (graph_Path_r9_ok F _ _ _ _ _ _ _) ?_
             intro x1 x2 x3 x7 x8 x9 x61 x62 x63
             show OKq _ _ _ [(63, x63), (62, x62), (61, x61), (9, x9), (8, x8), (7, x7), (3, x3), (2, x2), (1, x1)] _
             refine rThen ?_
             refine rBlock ?_
             refine cLess [63, 62, 61, 9, 8, 7, 3, 2, 1] ?_
             refine xLoopAt [1, 2, 3, 7, 8, 9, 61, 62, 63] [] (fun k8 => graph_Path_l8 F (fun x1 x2 x3 x7 x8 x9 => graph_Path_k7 F (graph_Path_l6 F (fun x1 x2 x3 x7 => graph_Path_k5 F x1 x2 x3 x7) k6) x1 x2 x3 x7 x8 x9) k8) F [x1, x2, x3, x7, x8, x9, x61, x62, x63] rfl rfl (fun _ _ _ _ _ _ _ _ _ => rfl) fun I hI8 k8 => ?_
             intro x1 x2 x3 x7 x8 x9 x61 x62 x63
             show OKc _ _ [(63, x63), (62, x62), (61, x61), (9, x9), (8, x8), (7, x7), (3, x3), (2, x2), (1, x1)] _ _
             refine cAs (graph_Path_l8_s F _ _ _ _ _ _ _ _ _ _ _) ?_
             refine rSeq ?_
             refine cLess [63, 62, 61, 9, 8, 7, 3, 2, 1] ?_
             refine xR hE [1, 2, 3, 7, 8, 9, 61, 62, 63, 64] rfl (graph_Path_r10_ok F _ _ _ _ _ _ _ _ _ _) ?_
             intro x1 x2 x3 x7 x8 x9 x61 x62 x63 x64
             show OKq _ _ _ [(64, x64), (63, x63), (62, x62), (61, x61), (9, x9), (8, x8), (7, x7), (3, x3), (2, x2), (1, x1)] _
             refine rThen ?_
             refine rSeq ?_
             refine xCond rfl rfl ?_ ?_
             · refine rSkip ?_
               refine rThen ?_
               refine xSeq [1, 2, 3, 7, 8, 9, 61, 62, 63] (graph_Path_k9 F (graph_Path_l8 F (fun x1 x2 x3 x7 x8 x9 => graph_Path_k7 F (graph_Path_l6 F (fun x1 x2 x3 x7 => graph_Path_k5 F x1 x2 x3 x7) k6) x1 x2 x3 x7 x8 x9) k8) ) ?_ fun hj9 => ?_
               · intro x1 x2 x3 x7 x8 x9 x61 x62 x63
                 show OKc _ _ [(63, x63), (62, x62), (61, x61), (9, x9), (8, x8), (7, x7), (3, x3), (2, x2), (1, x1)] _ _
                 refine cLess [63, 62, 61, 9, 8, 7, 3, 2, 1] ?_
                 refine xR hE [1, 2, 3, 7, 8, 9, 61, 62, 63] rfl (graph_Path_r15_ok F _ _ _ _ _ _ _ _ _ _) ?_
                 intro x1 x2 x3 x7 x8 x9 x61 x62 x63
                 show OKq _ _ _ [(63, x63), (62, x62), (61, x61), (9, x9), (8, x8), (7, x7), (3, x3), (2, x2), (1, x1)] _
                 exact qLess [63, 62, 61, 9, 8, 7, 3, 2, 1] (hI8 k8 x1 x2 x3 x7 x8 x9 x61 x62 x63)
               · refine rBlock ?_
                 refine rSeq ?_
                 refine cLess [63, 62, 61, 9, 8, 7, 3, 2, 1] ?_
                 refine xR hE [1, 2, 3, 7, 8, 9, 11, 61, 62, 63] rfl (graph_Path_r11_ok F _ _ _ _ _ _ _ _ _ _) ?_
                 intro x1 x2 x3 x7 x8 x9 x11 x61 x62 x63
                 show OKq _ _ _ [(63, x63), (62, x62), (61, x61), (11, x11), (9, x9), (8, x8), (7, x7), (3, x3), (2, x2), (1, x1)] _
                 refine rThen ?_
                 refine rSeq ?_
                 refine cLess [63, 62, 61, 11, 9, 8, 7, 3, 2, 1] ?_
                 refine xR hE [1, 2, 3, 7, 8, 9, 11, 61, 62, 63, 71] rfl (graph_Path_r12_ok F _ _ _ _ _ _ _ _ _ _ _) ?_
                 intro x1 x2 x3 x7 x8 x9 x11 x61 x62 x63 x71
                 show OKq _ _ _ [(71, x71), (63, x63), (62, x62), (61, x61), (11, x11), (9, x9), (8, x8), (7, x7), (3, x3), (2, x2), (1, x1)] _
                 refine rThen ?_
                 refine xCond rfl rfl ?_ ?_
                 · refine rSeq ?_
                   refine cLess [63, 62, 61, 11, 9, 8, 7, 3, 2, 1] ?_
                   refine xR hE [1, 2, 3, 7, 8, 9, 11, 61, 62, 63] rfl (graph_Path_r13_ok F _ _ _ _ _ _ _ _ _ _ _) ?_
                   intro x1 x2 x3 x7 x8 x9 x11 x61 x62 x63
                   show OKq _ _ _ [(63, x63), (62, x62), (61, x61), (11, x11), (9, x9), (8, x8), (7, x7), (3, x3), (2, x2), (1, x1)] _
                   refine rThen ?_
                   refine cLess [63, 62, 61, 11, 9, 8, 7, 3, 2, 1] ?_
                   refine xR hE [1, 2, 3, 7, 8, 9, 61, 62, 63] rfl (graph_Path_r14_ok F _ _ _ _ _ _ _ _ _ _ _) ?_
                   intro x1 x2 x3 x7 x8 x9 x61 x62 x63
                   show OKq _ _ _ [(63, x63), (62, x62), (61, x61), (9, x9), (8, x8), (7, x7), (3, x3), (2, x2), (1, x1)] _
                   refine xBlockN ?_
                   exact qLess [63, 62, 61, 9, 8, 7, 3, 2, 1] (hj9 x1 x2 x3 x7 x8 x9 x61 x62 x63)
                 · refine rSkip ?_
                   refine xBlockN ?_
                   exact qLess [63, 62, 61, 9, 8, 7, 3, 2, 1] (hj9 x1 x2 x3 x7 x8 x9 x61 x62 x63)
             · refine rExit ?_
               refine xThenX ?_
               refine xThenX ?_
               refine rOut ?_
               refine xBlockN ?_
               exact qLess [9, 8, 7, 3, 2, 1] (hj7 x1 x2 x3 x7 x8 x9)
         · refine rExit ?_
           refine xThenX ?_
           refine xThenX ?_
           refine rOut ?_
           exact qLess [7, 3, 2, 1] (hj5 x1 x2 x3 x7)
   · exact rFail


/-! ### (*haruspex/bitset.Set).Has -/

def bitset_Set_Has_env (F : Nat) : Env := envOf [(56, bitset_Set_at_m F)]

noncomputable def bitset_Set_Has_R (F : Nat) := rK Tryd.prog TrydG (bitset_Set_Has_env F) Tryd.f33
noncomputable def bitset_Set_Has_D (F : Nat) := dK Tryd.prog TrydG (bitset_Set_Has_env F) Tryd.f33

def bitset_Set_Has_r1 (F : Nat) (x0 x1 : Value) (K : Value → M Value) : M Value :=
  bnd (opBin .geq x1 (.int .i64 (0))) fun v6 => onB v6 (bnd (opBin .lss x1 (.int .i64 (5000))) fun v9 => onB v9 (bnd (opBin .quo x1 (.int .i64 (64))) fun v14 => bnd (bitset_Set_at F x0 v14) fun v15 => bnd (opBin .rem x1 (.int .i64 (64))) fun v17 => bnd (opBin .shr v15 v17) fun v18 => bnd (opBin .and v18 (.int .u64 (1))) fun v19 => bnd (opBin .eql v19 (.int .u64 (1))) fun v20 => K v20) (K (.bool false))) (K (.bool false))

theorem bitset_Set_Has_r1_ok (F : Nat) (x0 x1 : Value) (K : Value → M Value) : bitset_Set_Has_r1 F x0 x1 K = bitset_Set_Has_R F 1 [(1, x1), (0, x0)] [4] K := by kernel_rfl

def bitset_Set_Has_r0 (F : Nat) (x0 x1 : Value) (K : Value → Value → M Value) : M Value :=
  K x0 x1

theorem bitset_Set_Has_r0_ok (F : Nat) (x0 x1 : Value) (K : Value → Value → M Value) : bitset_Set_Has_r0 F x0 x1 K = bitset_Set_Has_R F 0 [(1, x1), (0, x0)] [0, 1] K := by kernel_rfl

def bitset_Set_Has (F : Nat) (x0 x1 : Value) : M Value :=
  bitset_Set_Has_r0 F x0 x1 (fun x0 x1 => bitset_Set_Has_r1 F x0 x1 (fun x4 => ret x4))

def bitset_Set_Has_m (F : Nat) : List Value → M Value
  | [x0, x1] => bitset_Set_Has F x0 x1
  | _ => fail

theorem bitset_Set_Has_body : Tryd.f33.body = some (.seq (.region 0 (opsOf Tryd.f33 0) false) (.seq (.region 1 (opsOf Tryd.f33 1) false) .ret)) := by kernel_rfl

theorem bitset_Set_Has_ok (F : Nat) : Sim Tryd.prog TrydG 33 (bitset_Set_Has_m F) := by
 have hE : EnvOK Tryd.prog TrydG (bitset_Set_Has_env F) := (EnvOK.cons (bitset_Set_at_ok F) EnvOK.nil)
 refine Sim.of_body (E := bitset_Set_Has_env F) Tryd.func33 bitset_Set_Has_body Tryd.call33 ?_ ?_
 · intro args hl; unfold bitset_Set_Has_m; split
   · exact absurd hl (Nat.not_lt.2 (Nat.le_of_ble_eq_true rfl))
   · rfl
 · intro args ρ h w z; unfold bitset_Set_Has_m; split
   · rename_i x0 x1; show OKc _ _ [(0, x0), (1, x1)] _ _
     refine rSeq ?_
     refine cLess [1, 0] ?_
     refine xR hE [0, 1] rfl (bitset_Set_Has_r0_ok F _ _ _) ?_
     intro x0 x1
     show OKq _ _ _ [(1, x1), (0, x0)] _
     refine rThen ?_
     refine rSeq ?_
     refine cLess [1, 0] ?_
     refine xR hE [4] rfl (bitset_Set_Has_r1_ok F _ _ _) ?_
     intro x4
     show OKq _ _ _ [(4, x4)] _
     refine rThen ?_
     refine rRet ?_
     exact rDone (.inr rfl) rfl
   · exact rFail


/-! ### (*haruspex/bitset.Set).Add -/

def bitset_Set_Add_env (F : Nat) : Env := envOf [(33, bitset_Set_Has_m F)]

noncomputable def bitset_Set_Add_R (F : Nat) := rK Tryd.prog TrydG (bitset_Set_Add_env F) Tryd.f43
noncomputable def bitset_Set_Add_D (F : Nat) := dK Tryd.prog TrydG (bitset_Set_Add_env F) Tryd.f43

def bitset_Set_Add_r6 (F : Nat) (K : Value → M Value) : M Value :=
  K (.bool true)

theorem bitset_Set_Add_r6_ok (F : Nat) (K : Value → M Value) : bitset_Set_Add_r6 F K = bitset_Set_Add_R F 6 [] [4] K := by kernel_rfl

def bitset_Set_Add_r5 (F : Nat) (x0 x1 : Value) (K : M Value) : M Value :=
  bnd (opNil x0) fun v38 => bnd (opFieldAddr 0 v38) fun v39 => bnd (opLoad v39) fun v40 => bnd (opBin .quo x1 (.int .i64 (64))) fun v42 => bnd (opIndexAddr 1 v40 v42) fun v43 => bnd (opLoad v43) fun v44 => bnd (opBin .rem x1 (.int .i64 (64))) fun v46 => bnd (opBin .shl (.int .u64 (1)) v46) fun v47 => bnd (opBin .or v44 v47) fun v48 => bnd (opIndexAddr 1 v40 v42) fun v49 => bnd (opStore v49 v48) fun _ => K

theorem bitset_Set_Add_r5_ok (F : Nat) (x0 x1 : Value) (K : M Value) : bitset_Set_Add_r5 F x0 x1 K = bitset_Set_Add_D F 5 [0, 1, 2, 3, 4, 5, 6, 7, 8, 9, 10, 11, 12, 13] [(1, x1), (0, x0)] [] K := by kernel_rfl

theorem bitset_Set_Add_r5_good : goodOrder (opsOf Tryd.f43 5) [0, 1, 2, 3, 4, 5, 6, 7, 8, 9, 10, 11, 12, 13] = true := by kernel_rfl

def bitset_Set_Add_k0 (F : Nat) (x0 x1 : Value) : M Value :=
  bitset_Set_Add_r5 F x0 x1 (bitset_Set_Add_r6 F (fun x4 => ret x4))

def bitset_Set_Add_r4 (F : Nat) (x0 x1 : Value) (K : Value → Value → M Value) : M Value :=
  bnd (opNil x0) fun v30 => bnd (opFieldAddr 0 v30) fun v31 => bnd (opLoad v31) fun v32 => bnd (opBuildSlice 1 (rep 1 [(.int .u64 (0))]) [(0, 1, false, (.int .u64 (0)))]) fun v33 => bnd (opAppend 1 8 v32 v33) fun v34 => bnd (opNil x0) fun v35 => bnd (opFieldAddr 0 v35) fun v36 => bnd (opStore v36 v34) fun _ => K x0 x1

theorem bitset_Set_Add_r4_ok (F : Nat) (x0 x1 : Value) (K : Value → Value → M Value) : bitset_Set_Add_r4 F x0 x1 K = bitset_Set_Add_R F 4 [(1, x1), (0, x0)] [0, 1] K := by kernel_rfl

def bitset_Set_Add_r3 (F : Nat) (x0 x1 : Value) (K : Value → Value → Value → M Value) : M Value :=
  bnd (opNil x0) fun v21 => bnd (opFieldAddr 0 v21) fun v22 => bnd (opLoad v22) fun v23 => bnd (opLen v23) fun v24 => bnd (opBin .quo x1 (.int .i64 (64))) fun v26 => bnd (opBin .leq v24 v26) fun v27 => K x0 x1 v27

theorem bitset_Set_Add_r3_ok (F : Nat) (x0 x1 : Value) (K : Value → Value → Value → M Value) : bitset_Set_Add_r3 F x0 x1 K = bitset_Set_Add_R F 3 [(1, x1), (0, x0)] [0, 1, 27] K := by kernel_rfl

def bitset_Set_Add_b1 (F : Nat) (E1_0 : Value → Value → M Value) (A1 : Value → Value → M Value) (x0 x1 : Value) : M Value :=
  bitset_Set_Add_r3 F x0 x1 (fun x0 x1 x27 => onB x27 (bitset_Set_Add_r4 F x0 x1 (fun x0 x1 => A1 x0 x1)) (E1_0 x0 x1))

def bitset_Set_Add_l1 (F : Nat) (E1_0 : Value → Value → M Value) : Nat → Value → Value → M Value
  | 0, _, _ => fail
  | k1 + 1, x0, x1 => bitset_Set_Add_b1 F E1_0 (bitset_Set_Add_l1 F E1_0 k1) x0 x1

theorem bitset_Set_Add_l1_s (F : Nat) (E1_0 : Value → Value → M Value) (k1 : Nat) (x0 x1 : Value) : bitset_Set_Add_l1 F E1_0 (k1 + 1) x0 x1 = bitset_Set_Add_b1 F E1_0 (bitset_Set_Add_l1 F E1_0 k1) x0 x1 := rfl

def bitset_Set_Add_r2 (F : Nat) (K : Value → M Value) : M Value :=
  K (.bool false)

theorem bitset_Set_Add_r2_ok (F : Nat) (K : Value → M Value) : bitset_Set_Add_r2 F K = bitset_Set_Add_R F 2 [] [4] K := by kernel_rfl

def bitset_Set_Add_r1 (F : Nat) (x0 x1 : Value) (K : Value → Value → Value → M Value) : M Value :=
  bnd (opEq eqP false x0 (.pointer none)) fun v6 => onB v6 (K x0 x1 (.bool true)) (bnd (opBin .lss x1 (.int .i64 (0))) fun v9 => onB v9 (K x0 x1 (.bool true)) (bnd (opBin .geq x1 (.int .i64 (5000))) fun v13 => onB v13 (K x0 x1 (.bool true)) (bnd (bitset_Set_Has F x0 x1) fun v18 => K x0 x1 v18)))

theorem bitset_Set_Add_r1_ok (F : Nat) (x0 x1 : Value) (K : Value → Value → Value → M Value) : bitset_Set_Add_r1 F x0 x1 K = bitset_Set_Add_R F 1 [(1, x1), (0, x0)] [0, 1, 19] K := by kernel_rfl

def bitset_Set_Add_r0 (F : Nat) (x0 x1 : Value) (K : Value → Value → M Value) : M Value :=
  K x0 x1

theorem bitset_Set_Add_r0_ok (F : Nat) (x0 x1 : Value) (K : Value → Value → M Value) : bitset_Set_Add_r0 F x0 x1 K = bitset_Set_Add_R F 0 [(1, x1), (0, x0)] [0, 1] K := by kernel_rfl

def bitset_Set_Add (F : Nat) (x0 x1 : Value) : M Value :=
  bitset_Set_Add_r0 F x0 x1 (fun x0 x1 => bitset_Set_Add_r1 F x0 x1 (fun x0 x1 x19 => onB x19 (bitset_Set_Add_r2 F (fun x4 => ret x4)) (bitset_Set_Add_l1 F (fun x0 x1 => bitset_Set_Add_k0 F x0 x1) F x0 x1)))

def bitset_Set_Add_m (F : Nat) : List Value → M Value
  | [x0, x1] => bitset_Set_Add F x0 x1
  | _ => fail

theorem bitset_Set_Add_body : Tryd.f43.body = some (.seq (.region 0 (opsOf Tryd.f43 0) false) (.seq (.seq (.region 1 (opsOf Tryd.f43 1) false) (.cond (.tmp 19) (.seq (.region 2 (opsOf Tryd.f43 2) false) .ret) .skip)) (.seq (.block 0 (.loop (.seq (.seq (.region 3 (opsOf Tryd.f43 3) false) (.cond (.tmp 27) .skip (.exit 0))) (.block 1 (.region 4 (opsOf Tryd.f43 4) false))))) (.seq (.region 5 (opsOf Tryd.f43 5) true) (.seq (.region 6 (opsOf Tryd.f43 6) false) .ret))))) := by kernel_rfl

theorem bitset_Set_Add_ok (F : Nat) : Sim Tryd.prog TrydG 43 (bitset_Set_Add_m F) := by
 have hE : EnvOK Tryd.prog TrydG (bitset_Set_Add_env F) := (EnvOK.cons (bitset_Set_Has_ok F) EnvOK.nil)
 refine Sim.of_body (E := bitset_Set_Add_env F) Tryd.func43 bitset_Set_Add_body Tryd.call43 ?_ ?_
 · intro args hl; unfold bitset_Set_Add_m; split
   · exact absurd hl (Nat.not_lt.2 (Nat.le_of_ble_eq_true rfl))
   · rfl
 · intro args ρ h w z; unfold bitset_Set_Add_m; split
   · rename_i x0 x1; show OKc _ _ [(0, x0), (1, x1)] _ _
     refine rSeq ?_
     refine cLess [1, 0] ?_
     refine xR hE [0, 1] rfl (bitset_Set_Add_r0_ok F _ _ _) ?_
     intro x0 x1
     show OKq _ _ _ [(1, x1), (0, x0)] _
     refine rThen ?_
     refine rSeq ?_
     refine rSeq ?_
     refine cLess [1, 0] ?_
     refine xR hE [0, 1, 19] rfl (bitset_Set_Add_r1_ok F _ _ _) ?_
     intro x0 x1 x19
     show OKq _ _ _ [(19, x19), (1, x1), (0, x0)] _
     refine rThen ?_
     refine xCond rfl rfl ?_ ?_
     · refine rSeq ?_
       refine cLess [] ?_
       refine xR hE [4] rfl (bitset_Set_Add_r2_ok F _) ?_
       intro x4
       show OKq _ _ _ [(4, x4)] _
       refine rThen ?_
       refine rRet ?_
       refine xThenR ?_
       exact rDone (.inr rfl) rfl
     · refine rSkip ?_
       refine rThen ?_
       refine xSeq [0, 1] (bitset_Set_Add_k0 F ) ?_ fun hj0 => ?_
       · intro x0 x1
         show OKc _ _ [(1, x1), (0, x0)] _ _
         refine rSeq ?_
         refine cLess [1, 0] ?_
         refine xD Trydmix hE [] rfl bitset_Set_Add_r5_good (bitset_Set_Add_r5_ok F _ _ _) ?_
         show OKq _ _ _ [] _
         refine rThen ?_
         refine rSeq ?_
         refine cLess [] ?_
         refine xR hE [4] rfl (bitset_Set_Add_r6_ok F _) ?_
         intro x4
         show OKq _ _ _ [(4, x4)] _
         refine rThen ?_
         refine rRet ?_
         exact rDone (.inr rfl) rfl
       · refine rBlock ?_
         refine cLess [1, 0] ?_
         refine xLoopAt [0, 1] [] (fun k1 => bitset_Set_Add_l1 F (fun x0 x1 => bitset_Set_Add_k0 F x0 x1) k1) F [x0, x1] rfl rfl (fun _ _ => rfl) fun I hI1 k1 => ?_
         intro x0 x1
         show OKc _ _ [(1, x1), (0, x0)] _ _
         refine cAs (bitset_Set_Add_l1_s F _ _ _ _) ?_
         refine rSeq ?_
         refine rSeq ?_
         refine cLess [1, 0] ?_
         refine xR hE [0, 1, 27] rfl (bitset_Set_Add_r3_ok F _ _ _) ?_
         intro x0 x1 x27
         show OKq _ _ _ [(27, x27), (1, x1), (0, x0)] _
         refine rThen ?_
         refine xCond rfl rfl ?_ ?_
         · refine rSkip ?_
           refine rThen ?_
           refine rBlock ?_
           refine cLess [1, 0] ?_
           refine xR hE [0, 1] rfl (bitset_Set_Add_r4_ok F _ _ _) ?_
           intro x0 x1
           show OKq _ _ _ [(1, x1), (0, x0)] _
           refine xBlockN ?_
           exact qLess [1, 0] (hI1 k1 x0 x1)
         · refine rExit ?_
           refine xThenX ?_
           refine xThenX ?_
           refine rOut ?_
           exact qLess [1, 0] (hj0 x0 x1)
   · exact rFail


/-! ### haruspex/graph.Loops -/

def graph_Loops_env (F : Nat) : Env := envOf [(26, graph_Parts_m F), (43, bitset_Set_Add_m F), (46, slices_Contains_m F)]

noncomputable def graph_Loops_R (F : Nat) := rK Tryd.prog TrydG (graph_Loops_env F) Tryd.f23
noncomputable def graph_Loops_D (F : Nat) := dK Tryd.prog TrydG (graph_Loops_env F) Tryd.f23

def graph_Loops_r12 (F : Nat) (x3 : Value) (K : Value → M Value) : M Value :=
  K x3

theorem graph_Loops_r12_ok (F : Nat) (x3 : Value) (K : Value → M Value) : graph_Loops_r12 F x3 K = graph_Loops_R F 12 [(3, x3)] [2] K := by kernel_rfl

def graph_Loops_k0 (F : Nat) (x3 : Value) : M Value :=
  graph_Loops_r12 F x3 (fun x2 => ret x2)

def graph_Loops_r11 (F : Nat) (x1 x3 x11 x12 x13 : Value) (K : Value → Value → Value → Value → Value → M Value) : M Value :=
  bnd (opBin .add x13 (.int .i64 (1))) fun v39 => K x1 x3 x11 x12 v39

theorem graph_Loops_r11_ok (F : Nat) (x1 x3 x11 x12 x13 : Value) (K : Value → Value → Value → Value → Value → M Value) : graph_Loops_r11 F x1 x3 x11 x12 x13 K = graph_Loops_R F 11 [(13, x13), (12, x12), (11, x11), (3, x3), (1, x1)] [1, 3, 11, 12, 13] K := by kernel_rfl

def graph_Loops_k2 (F : Nat) (A1 : Value → Value → Value → Value → Value → M Value) (x1 x3 x11 x12 x13 : Value) : M Value :=
  graph_Loops_r11 F x1 x3 x11 x12 x13 (fun x1 x3 x11 x12 x13 => A1 x1 x3 x11 x12 x13)

def graph_Loops_r10 (F : Nat) (x1 x3 x5 x11 x12 x13 x17 x18 x19 : Value) (K : Value → Value → Value → Value → Value → Value → Value → Value → Value → M Value) : M Value :=
  bnd (opBin .add x19 (.int .i64 (1))) fun v38 => K x1 x3 x5 x11 x12 x13 x17 x18 v38

theorem graph_Loops_r10_ok (F : Nat) (x1 x3 x5 x11 x12 x13 x17 x18 x19 : Value) (K : Value → Value → Value → Value → Value → Value → Value → Value → Value → M Value) : graph_Loops_r10 F x1 x3 x5 x11 x12 x13 x17 x18 x19 K = graph_Loops_R F 10 [(19, x19), (18, x18), (17, x17), (13, x13), (12, x12), (11, x11), (5, x5), (3, x3), (1, x1)] [1, 3, 5, 11, 12, 13, 17, 18, 19] K := by kernel_rfl

def graph_Loops_k4 (F : Nat) (A3 : Value → Value → Value → Value → Value → Value → Value → Value → Value → M Value) (x1 x3 x5 x11 x12 x13 x17 x18 x19 : Value) : M Value :=
  graph_Loops_r10 F x1 x3 x5 x11 x12 x13 x17 x18 x19 (fun x1 x3 x5 x11 x12 x13 x17 x18 x19 => A3 x1 x3 x5 x11 x12 x13 x17 x18 x19)

def graph_Loops_r9 (F : Nat) (x1 x3 x5 x7 x11 x12 x13 x17 x18 x19 : Value) (K : Value → Value → Value → Value → Value → Value → Value → Value → Value → M Value) : M Value :=
  bnd (bitset_Set_Add F x3 x7) fun v37 => K x1 x3 x5 x11 x12 x13 x17 x18 x19

theorem graph_Loops_r9_ok (F : Nat) (x1 x3 x5 x7 x11 x12 x13 x17 x18 x19 : Value) (K : Value → Value → Value → Value → Value → Value → Value → Value → Value → M Value) : graph_Loops_r9 F x1 x3 x5 x7 x11 x12 x13 x17 x18 x19 K = graph_Loops_R F 9 [(19, x19), (18, x18), (17, x17), (13, x13), (12, x12), (11, x11), (7, x7), (5, x5), (3, x3), (1, x1)] [1, 3, 5, 11, 12, 13, 17, 18, 19] K := by kernel_rfl

def graph_Loops_r8 (F : Nat) (x1 x3 x5 x7 x11 x12 x13 x17 x18 x19 : Value) (K : Value → Value → Value → Value → Value → Value → Value → Value → Value → Value → Value → M Value) : M Value :=
  bnd (opLen x5) fun v24 => bnd (opBin .gtr v24 (.int .i64 (1))) fun v25 => onB v25 (K x1 x3 x5 x7 x11 x12 x13 x17 x18 x19 (.bool true)) (bnd (opFieldAddr 1 x1) fun v27 => bnd (opLoad v27) fun v28 => bnd (opIndexAddr 1 v28 x7) fun v30 => bnd (opLoad v30) fun v31 => bnd (slices_Contains F v31 x7) fun v33 => K x1 x3 x5 x7 x11 x12 x13 x17 x18 x19 v33)

theorem graph_Loops_r8_ok (F : Nat) (x1 x3 x5 x7 x11 x12 x13 x17 x18 x19 : Value) (K : Value → Value → Value → Value → Value → Value → Value → Value → Value → Value → Value → M Value) : graph_Loops_r8 F x1 x3 x5 x7 x11 x12 x13 x17 x18 x19 K = graph_Loops_R F 8 [(19, x19), (18, x18), (17, x17), (13, x13), (12, x12), (11, x11), (7, x7), (5, x5), (3, x3), (1, x1)] [1, 3, 5, 7, 11, 12, 13, 17, 18, 19, 34] K := by kernel_rfl

def graph_Loops_r7 (F : Nat) (x1 x3 x5 x11 x12 x13 x17 x18 x19 : Value) (K : Value → Value → Value → Value → Value → Value → Value → Value → Value → Value → M Value) : M Value :=
  bnd (opIndexAddr 1 x17 x19) fun v21 => bnd (opLoad v21) fun v22 => K x1 x3 x5 v22 x11 x12 x13 x17 x18 x19

theorem graph_Loops_r7_ok (F : Nat) (x1 x3 x5 x11 x12 x13 x17 x18 x19 : Value) (K : Value → Value → Value → Value → Value → Value → Value → Value → Value → Value → M Value) : graph_Loops_r7 F x1 x3 x5 x11 x12 x13 x17 x18 x19 K = graph_Loops_R F 7 [(19, x19), (18, x18), (17, x17), (13, x13), (12, x12), (11, x11), (5, x5), (3, x3), (1, x1)] [1, 3, 5, 7, 11, 12, 13, 17, 18, 19] K := by kernel_rfl

def graph_Loops_r6 (F : Nat) (x1 x3 x5 x11 x12 x13 x17 x18 x19 : Value) (K : Value → Value → Value → Value → Value → Value → Value → Value → Value → Value → M Value) : M Value :=
  bnd (opBin .lss x19 x18) fun v20 => K x1 x3 x5 x11 x12 x13 x17 x18 x19 v20

theorem graph_Loops_r6_ok (F : Nat) (x1 x3 x5 x11 x12 x13 x17 x18 x19 : Value) (K : Value → Value → Value → Value → Value → Value → Value → Value → Value → Value → M Value) : graph_Loops_r6 F x1 x3 x5 x11 x12 x13 x17 x18 x19 K = graph_Loops_R F 6 [(19, x19), (18, x18), (17, x17), (13, x13), (12, x12), (11, x11), (5, x5), (3, x3), (1, x1)] [1, 3, 5, 11, 12, 13, 17, 18, 19, 20] K := by kernel_rfl

def graph_Loops_b3 (F : Nat) (E3_2 : Value → Value → Value → Value → Value → M Value) (A3 : Value → Value → Value → Value → Value → Value → Value → Value → Value → M Value) (x1 x3 x5 x11 x12 x13 x17 x18 x19 : Value) : M Value :=
  graph_Loops_r6 F x1 x3 x5 x11 x12 x13 x17 x18 x19 (fun x1 x3 x5 x11 x12 x13 x17 x18 x19 x20 => onB x20 (graph_Loops_r7 F x1 x3 x5 x11 x12 x13 x17 x18 x19 (fun x1 x3 x5 x7 x11 x12 x13 x17 x18 x19 => graph_Loops_r8 F x1 x3 x5 x7 x11 x12 x13 x17 x18 x19 (fun x1 x3 x5 x7 x11 x12 x13 x17 x18 x19 x34 => onB x34 (graph_Loops_r9 F x1 x3 x5 x7 x11 x12 x13 x17 x18 x19 (fun x1 x3 x5 x11 x12 x13 x17 x18 x19 => graph_Loops_k4 F A3 x1 x3 x5 x11 x12 x13 x17 x18 x19)) (graph_Loops_k4 F A3 x1 x3 x5 x11 x12 x13 x17 x18 x19)))) (E3_2 x1 x3 x11 x12 x13))

def graph_Loops_l3 (F : Nat) (E3_2 : Value → Value → Value → Value → Value → M Value) : Nat → Value → Value → Value → Value → Value → Value → Value → Value → Value → M Value
  | 0, _, _, _, _, _, _, _, _, _ => fail
  | k3 + 1, x1, x3, x5, x11, x12, x13, x17, x18, x19 => graph_Loops_b3 F E3_2 (graph_Loops_l3 F E3_2 k3) x1 x3 x5 x11 x12 x13 x17 x18 x19

theorem graph_Loops_l3_s (F : Nat) (E3_2 : Value → Value → Value → Value → Value → M Value) (k3 : Nat) (x1 x3 x5 x11 x12 x13 x17 x18 x19 : Value) : graph_Loops_l3 F E3_2 (k3 + 1) x1 x3 x5 x11 x12 x13 x17 x18 x19 = graph_Loops_b3 F E3_2 (graph_Loops_l3 F E3_2 k3) x1 x3 x5 x11 x12 x13 x17 x18 x19 := rfl

def graph_Loops_r5 (F : Nat) (x1 x3 x5 x11 x12 x13 : Value) (K : Value → Value → Value → Value → Value → Value → Value → Value → Value → M Value) : M Value :=
  bnd (opLen x5) fun v18 => K x1 x3 x5 x11 x12 x13 x5 v18 (.int .i64 (0))

theorem graph_Loops_r5_ok (F : Nat) (x1 x3 x5 x11 x12 x13 : Value) (K : Value → Value → Value → Value → Value → Value → Value → Value → Value → M Value) : graph_Loops_r5 F x1 x3 x5 x11 x12 x13 K = graph_Loops_R F 5 [(13, x13), (12, x12), (11, x11), (5, x5), (3, x3), (1, x1)] [1, 3, 5, 11, 12, 13, 17, 18, 19] K := by kernel_rfl

def graph_Loops_r4 (F : Nat) (x1 x3 x11 x12 x13 : Value) (K : Value → Value → Value → Value → Value → Value → M Value) : M Value :=
  bnd (opIndexAddr 1 x11 x13) fun v15 => bnd (opLoad v15) fun v16 => K x1 x3 v16 x11 x12 x13

theorem graph_Loops_r4_ok (F : Nat) (x1 x3 x11 x12 x13 : Value) (K : Value → Value → Value → Value → Value → Value → M Value) : graph_Loops_r4 F x1 x3 x11 x12 x13 K = graph_Loops_R F 4 [(13, x13), (12, x12), (11, x11), (3, x3), (1, x1)] [1, 3, 5, 11, 12, 13] K := by kernel_rfl

def graph_Loops_r3 (F : Nat) (x1 x3 x11 x12 x13 : Value) (K : Value → Value → Value → Value → Value → Value → M Value) : M Value :=
  bnd (opBin .lss x13 x12) fun v14 => K x1 x3 x11 x12 x13 v14

theorem graph_Loops_r3_ok (F : Nat) (x1 x3 x11 x12 x13 : Value) (K : Value → Value → Value → Value → Value → Value → M Value) : graph_Loops_r3 F x1 x3 x11 x12 x13 K = graph_Loops_R F 3 [(13, x13), (12, x12), (11, x11), (3, x3), (1, x1)] [1, 3, 11, 12, 13, 14] K := by kernel_rfl

def graph_Loops_b1 (F : Nat) (E1_0 : Value → M Value) (A1 : Value → Value → Value → Value → Value → M Value) (x1 x3 x11 x12 x13 : Value) : M Value :=
  graph_Loops_r3 F x1 x3 x11 x12 x13 (fun x1 x3 x11 x12 x13 x14 => onB x14 (graph_Loops_r4 F x1 x3 x11 x12 x13 (fun x1 x3 x5 x11 x12 x13 => graph_Loops_r5 F x1 x3 x5 x11 x12 x13 (fun x1 x3 x5 x11 x12 x13 x17 x18 x19 => graph_Loops_l3 F (fun x1 x3 x11 x12 x13 => graph_Loops_k2 F A1 x1 x3 x11 x12 x13) F x1 x3 x5 x11 x12 x13 x17 x18 x19))) (E1_0 x3))

def graph_Loops_l1 (F : Nat) (E1_0 : Value → M Value) : Nat → Value → Value → Value → Value → Value → M Value
  | 0, _, _, _, _, _ => fail
  | k1 + 1, x1, x3, x11, x12, x13 => graph_Loops_b1 F E1_0 (graph_Loops_l1 F E1_0 k1) x1 x3 x11 x12 x13

theorem graph_Loops_l1_s (F : Nat) (E1_0 : Value → M Value) (k1 : Nat) (x1 x3 x11 x12 x13 : Value) : graph_Loops_l1 F E1_0 (k1 + 1) x1 x3 x11 x12 x13 = graph_Loops_b1 F E1_0 (graph_Loops_l1 F E1_0 k1) x1 x3 x11 x12 x13 := rfl

def graph_Loops_r2 (F : Nat) (x1 x3 : Value) (K : Value → Value → Value → Value → Value → M Value) : M Value :=
  bnd (opLoadN 2 x1) fun v10 => bnd (graph_Parts F v10) fun v11 => bnd (opLen v11) fun v12 => K x1 x3 v11 v12 (.int .i64 (0))

theorem graph_Loops_r2_ok (F : Nat) (x1 x3 : Value) (K : Value → Value → Value → Value → Value → M Value) : graph_Loops_r2 F x1 x3 K = graph_Loops_R F 2 [(3, x3), (1, x1)] [1, 3, 11, 12, 13] K := by kernel_rfl

def graph_Loops_r1 (F : Nat) (x1 : Value) (K : Value → Value → M Value) : M Value :=
  bnd (opBuild [(.slice none 0 0)] []) fun v8 => bnd (opBoxN v8) fun v9 => K x1 v9

theorem graph_Loops_r1_ok (F : Nat) (x1 : Value) (K : Value → Value → M Value) : graph_Loops_r1 F x1 K = graph_Loops_R F 1 [(1, x1)] [1, 3] K := by kernel_rfl

def graph_Loops_r0 (F : Nat) (x0 : Value) (K : Value → M Value) : M Value :=
  bnd (opBoxN x0) fun v1 => K v1

theorem graph_Loops_r0_ok (F : Nat) (x0 : Value) (K : Value → M Value) : graph_Loops_r0 F x0 K = graph_Loops_R F 0 [(0, x0)] [1] K := by kernel_rfl

def graph_Loops (F : Nat) (x0 : Value) : M Value :=
  graph_Loops_r0 F x0 (fun x1 => graph_Loops_r1 F x1 (fun x1 x3 => graph_Loops_r2 F x1 x3 (fun x1 x3 x11 x12 x13 => graph_Loops_l1 F (fun x3 => graph_Loops_k0 F x3) F x1 x3 x11 x12 x13)))

def graph_Loops_m (F : Nat) : List Value → M Value
  | [x0] => graph_Loops F x0
  | _ => fail

theorem graph_Loops_body : Tryd.f23.body = some (.seq (.region 0 (opsOf Tryd.f23 0) false) (.seq (.region 1 (opsOf Tryd.f23 1) false) (.seq (.seq (.region 2 (opsOf Tryd.f23 2) false) (.block 0 (.loop (.seq (.region 3 (opsOf Tryd.f23 3) false) (.seq (.cond (.tmp 14) .skip (.exit 0)) (.seq (.block 1 (.seq (.region 4 (opsOf Tryd.f23 4) false) (.seq (.region 5 (opsOf Tryd.f23 5) false) (.block 2 (.loop (.seq (.region 6 (opsOf Tryd.f23 6) false) (.seq (.cond (.tmp 20) .skip (.exit 2)) (.seq (.block 3 (.seq (.region 7 (opsOf Tryd.f23 7) false) (.seq (.region 8 (opsOf Tryd.f23 8) false) (.cond (.tmp 34) (.region 9 (opsOf Tryd.f23 9) false) .skip)))) (.region 10 (opsOf Tryd.f23 10) false))))))))) (.region 11 (opsOf Tryd.f23 11) false))))))) (.seq (.region 12 (opsOf Tryd.f23 12) false) .ret)))) := by kernel_rfl

theorem graph_Loops_ok (F : Nat) : Sim Tryd.prog TrydG 23 (graph_Loops_m F) := by
 have hE : EnvOK Tryd.prog TrydG (graph_Loops_env F) := (EnvOK.cons (graph_Parts_ok F) (EnvOK.cons (bitset_Set_Add_ok F) (EnvOK.cons (slices_Contains_ok F) EnvOK.nil)))
 refine Sim.of_body (E := graph_Loops_env F) Tryd.func23 graph_Loops_body Tryd.call23 ?_ ?_
 · intro args hl; unfold graph_Loops_m; split
   · exact absurd hl (Nat.not_lt.2 (Nat.le_of_ble_eq_true rfl))
   · rfl
 · intro args ρ h w z; unfold graph_Loops_m; split
   · rename_i x0; show OKc _ _ [(0, x0)] _ _
     refine rSeq ?_
     refine cLess [0] ?_
     refine xR hE [1] rfl (graph_Loops_r0_ok F _ _) ?_
     intro x1
     show OKq _ _ _ [(1, x1)] _
     refine rThen ?_
     refine rSeq ?_
     refine cLess [1] ?_
     refine xR hE [1, 3] rfl (graph_Loops_r1_ok F _ _) ?_
     intro x1 x3
     show OKq _ _ _ [(3, x3), (1, x1)] _
     refine rThen ?_
     refine xSeq [3] (graph_Loops_k0 F ) ?_ fun hj0 => ?_
     · intro x3
       show OKc _ _ [(3, x3)] _ _
       refine rSeq ?_
       refine cLess [3] ?_
       refine xR hE [2] rfl (graph_Loops_r12_ok F _ _) ?_
       intro x2
       show OKq _ _ _ [(2, x2)] _
       refine rThen ?_
       refine rRet ?_
       exact rDone (.inr rfl) rfl
     · refine rSeq ?_
       refine cLess [3, 1] ?_
       refine xR hE [1, 3, 11, 12, 13] rfl (graph_Loops_r2_ok F _ _ _) ?_
       intro x1 x3 x11 x12 x13
       show OKq _ _ _ [(13, x13), (12, x12), (11, x11), (3, x3), (1, x1)] _
       refine rThen ?_
       refine rBlock ?_
       refine cLess [13, 12, 11, 3, 1] ?_
       refine xLoopAt [1, 3, 11, 12, 13] [] (fun k1 => graph_Loops_l1 F (fun x3 => graph_Loops_k0 F x3) k1) F [x1, x3, x11, x12, x13] rfl rfl (fun _ _ _ _ _ => rfl) fun I hI1 k1 => ?_
       intro x1 x3 x11 x12 x13
       show OKc _ _ [(13, x13), (12, x12), (11, x11), (3, x3), (1, x1)] _ _
       refine cAs (graph_Loops_l1_s F _ _ _ _ _ _ _) ?_
       refine rSeq ?_
       refine cLess [13, 12, 11, 3, 1] ?_
       refine xR hE [1, 3, 11, 12, 13, 14] rfl (graph_Loops_r3_ok F _ _ _ _ _ _) ?_
       intro x1 x3 x11 x12 x13 x14
       show OKq _ _ _ [(14, x14), (13, x13), (12, x12), (11, x11), (3, x3), (1, x1)] _
       refine rThen ?_
       refine rSeq ?_
       refine xCond rfl rfl ?_ ?_
       · refine rSkip ?_
         refine rThen ?_
         refine xSeq [1, 3, 11, 12, 13] (graph_Loops_k2 F (graph_Loops_l1 F (fun x3 => graph_Loops_k0 F x3) k1) ) ?_ fun hj2 => ?_
         · intro x1 x3 x11 x12 x13
           show OKc _ _ [(13, x13), (12, x12), (11, x11), (3, x3), (1, x1)] _ _
           refine cLess [13, 12, 11, 3, 1] ?_
           refine xR hE [1, 3, 11, 12, 13] rfl (graph_Loops_r11_ok F _ _ _ _ _ _) ?_
           intro x1 x3 x11 x12 x13
           show OKq _ _ _ [(13, x13), (12, x12), (11, x11), (3, x3), (1, x1)] _
           exact qLess [13, 12, 11, 3, 1] (hI1 k1 x1 x3 x11 x12 x13)
         · refine rBlock ?_
           refine rSeq ?_
           refine cLess [13, 12, 11, 3, 1] ?_
           refine xR hE [1, 3, 5, 11, 12, 13] rfl (graph_Loops_r4_ok F _ _ _ _ _ _) ?_
           intro x1 x3 x5 x11 x12 x13
           show OKq _ _ _ [(13, x13), (12, x12), (11, x11), (5, x5), (3, x3), (1, x1)] _
           refine rThen ?_
           refine rSeq ?_
           refine cLess [13, 12, 11, 5, 3, 1] ?_
           refine xR hE [1, 3, 5, 11, 12, 13, 17, 18, 19] rfl (graph_Loops_r5_ok F _ _ _ _ _ _ _) ?_
           intro x1 x3 x5 x11 x12 x13 x17 x18 x19
           show OKq _ _ _ [(19, x19), (18, x18), (17, x17), (13, x13), (12, x12), (11, x11), (5, x5), (3, x3), (1, x1)] _
           refine rThen ?_
           refine rBlock ?_
           refine cLess [19, 18, 17, 13, 12, 11, 5, 3, 1] ?_
           refine xLoopAt [1, 3, 5, 11, 12, 13, 17, 18, 19] [] (fun k3 => graph_Loops_l3 F (fun x1 x3 x11 x12 x13 => graph_Loops_k2 F (graph_Loops_l1 F (fun x3 => graph_Loops_k0 F x3) k1) x1 x3 x11 x12 x13) k3) F [x1, x3, x5, x11, x12, x13, x17, x18, x19] rfl rfl (fun _ _ _ _ _ _ _ _ _ => rfl) fun I hI3 k3 => ?_
           intro x1 x3 x5 x11 x12 x13 x17 x18 x19
           show OKc _ _ [(19, x19), (18, x18), (17, x17), (13, x13), (12, x12), (11, x11), (5, x5), (3, x3), (1, x1)] _ _
           refine cAs (graph_Loops_l3_s F _ _ _ _ _ _ _ _ _ _ _) ?_
           refine rSeq ?_
           refine cLess [19, 18, 17, 13, 12, 11, 5, 3, 1] ?_
           refine xR hE [1, 3, 5, 11, 12, 13, 17, 18, 19, 20] rfl (graph_Loops_r6_ok F _ _ _ _ _ _ _ _ _ _) ?_
           intro x1 x3 x5 x11 x12 x13 x17 x18 x19 x20
           show OKq _ _ _ [(20, x20), (19, x19), (18, x18), (17, x17), (13, x13), (12, x12), (11, x11), (5, x5), (3, x3), (1, x1)] _
           refine rThen ?_
           refine rSeq ?_
           refine xCond rfl rfl ?_ ?_
           · refine rSkip ?_
             refine rThen ?_
             refine xSeq [1, 3, 5, 11, 12, 13, 17, 18, 19] (graph_Loops_k4 F (graph_Loops_l3 F (fun x1 x3 x11 x12 x13 => graph_Loops_k2 F (graph_Loops_l1 F (fun x3 => graph_Loops_k0 F x3) k1) x1 x3 x11 x12 x13) k3) ) ?_ fun hj4 => ?_
             · intro x1 x3 x5 x11 x12 x13 x17 x18 x19
               show OKc _ _ [(19, x19), (18, x18), (17, x17), (13, x13), (12, x12), (11, x11), (5, x5), (3, x3), (1, x1)] _ _
               refine cLess [19, 18, 17, 13, 12, 11, 5, 3, 1] ?_
               refine xR hE [1, 3, 5, 11, 12, 13, 17, 18, 19] rfl (graph_Loops_r10_ok F _ _ _ _ _ _ _ _ _ _) ?_
               intro x1 x3 x5 x11 x12 x13 x17 x18 x19
               show OKq _ _ _ [(19, x19), (18, x18), (17, x17), (13, x13), (12, x12), (11, x11), (5, x5), (3, x3), (1, x1)] _
               exact qLess [19, 18, 17, 13, 12, 11, 5, 3, 1] (hI3 k3 x1 x3 x5 x11 x12 x13 x17 x18 x19)
             · refine rBlock ?_
               refine rSeq ?_
               refine cLess [19, 18, 17, 13, 12, 11, 5, 3, 1] ?_
               refine xR hE [1, 3, 5, 7, 11, 12, 13, 17, 18, 19] rfl (graph_Loops_r7_ok F _ _ _ _ _ _ _ _ _ _) ?_
               intro x1 x3 x5 x7 x11 x12 x13 x17 x18 x19
               show OKq _ _ _ [(19, x19), (18, x18), (17, x17), (13, x13), (12, x12), (11, x11), (7, x7), (5, x5), (3, x3), (1, x1)] _
               refine rThen ?_
               refine rSeq ?_
               refine cLess [19, 18, 17, 13, 12, 11, 7, 5, 3, 1] ?_
               refine xR hE [1, 3, 5, 7, 11, 12, 13, 17, 18, 19, 34] rfl (graph_Loops_r8_ok F _ _ _ _ _ _ _ _ _ _ _) ?_
               intro x1 x3 x5 x7 x11 x12 x13 x17 x18 x19 x34
               show OKq _ _ _ [(34, x34), (19, x19), (18, x18), (17, x17), (13, x13), (12, x12), (11, x11), (7, x7), (5, x5), (3, x3), (1, x1)] _
               refine rThen ?_
               refine xCond rfl rfl ?_ ?_
               · refine cLess [19, 18, 17, 13, 12, 11, 7, 5, 3, 1] ?_
                 refine xR hE [1, 3, 5, 11, 12, 13, 17, 18, 19] rfl (graph_Loops_r9_ok F _ _ _ _ _ _ _ _ _ _ _) ?_
                 intro x1 x3 x5 x11 x12 x13 x17 x18 x19
                 show OKq _ _ _ [(19, x19), (18, x18), (17, x17), (13, x13), (12, x12), (11, x11), (5, x5), (3, x3), (1, x1)] _
                 refine xBlockN ?_
                 exact qLess [19, 18, 17, 13, 12, 11, 5, 3, 1] (hj4 x1 x3 x5 x11 x12 x13 x17 x18 x19)
               · refine rSkip ?_
                 refine xBlockN ?_
                 exact qLess [19, 18, 17, 13, 12, 11, 5, 3, 1] (hj4 x1 x3 x5 x11 x12 x13 x17 x18 x19)
           · refine rExit ?_
             refine xThenX ?_
             refine xThenX ?_
             refine rOut ?_
             refine xBlockN ?_
             exact qLess [13, 12, 11, 3, 1] (hj2 x1 x3 x11 x12 x13)
       · refine rExit ?_
         refine xThenX ?_
         refine xThenX ?_
         refine rOut ?_
         exact qLess [3] (hj0 x3)
   · exact rFail


/-! ### haruspex/graph.Reach$1 -/

def graph_Reach_1_env (F : Nat) : Env := envOf [(43, bitset_Set_Add_m F)]

noncomputable def graph_Reach_1_R (F : Nat) := rK Tryd.prog TrydG (graph_Reach_1_env F) Tryd.f42
noncomputable def graph_Reach_1_D (F : Nat) := dK Tryd.prog TrydG (graph_Reach_1_env F) Tryd.f42

def graph_Reach_1_r1 (F : Nat) (x0 x3 : Value) (K : M Value) : M Value :=
  bnd (opLoad x3) fun v18 => bnd (opBuildSlice 1 (rep 1 [(.int .i64 (0))]) [(0, 1, false, x0)]) fun v20 => bnd (opAppend 1 8 v18 v20) fun v21 => bnd (opStore x3 v21) fun _ => K

theorem graph_Reach_1_r1_ok (F : Nat) (x0 x3 : Value) (K : M Value) : graph_Reach_1_r1 F x0 x3 K = graph_Reach_1_R F 1 [(3, x3), (0, x0)] [] K := by kernel_rfl

def graph_Reach_1_r0 (F : Nat) (x0 x1 x2 x3 : Value) (K : Value → Value → Value → M Value) : M Value :=
  bnd (opBin .geq x0 (.int .i64 (0))) fun v6 => onB v6 (bnd (opFieldAddr 0 x1) fun v9 => bnd (opLoad v9) fun v10 => bnd (opBin .lss x0 v10) fun v11 => onB v11 (bnd (opLoad x2) fun v14 => bnd (bitset_Set_Add F v14 x0) fun v16 => K x0 x3 v16) (K x0 x3 (.bool false))) (K x0 x3 (.bool false))

theorem graph_Reach_1_r0_ok (F : Nat) (x0 x1 x2 x3 : Value) (K : Value → Value → Value → M Value) : graph_Reach_1_r0 F x0 x1 x2 x3 K = graph_Reach_1_R F 0 [(3, x3), (2, x2), (1, x1), (0, x0)] [0, 3, 17] K := by kernel_rfl

def graph_Reach_1 (F : Nat) (x0 x1 x2 x3 : Value) : M Value :=
  graph_Reach_1_r0 F x0 x1 x2 x3 (fun x0 x3 x17 => onB x17 (graph_Reach_1_r1 F x0 x3 (tupK [])) (tupK []))

def graph_Reach_1_m (F : Nat) : List Value → M Value
  | [x0, x1, x2, x3] => graph_Reach_1 F x0 x1 x2 x3
  | _ => fail

theorem graph_Reach_1_body : Tryd.f42.body = some (.seq (.region 0 (opsOf Tryd.f42 0) false) (.cond (.tmp 17) (.region 1 (opsOf Tryd.f42 1) false) .skip)) := by kernel_rfl

theorem graph_Reach_1_ok (F : Nat) : Sim Tryd.prog TrydG 42 (graph_Reach_1_m F) := by
 have hE : EnvOK Tryd.prog TrydG (graph_Reach_1_env F) := (EnvOK.cons (bitset_Set_Add_ok F) EnvOK.nil)
 refine Sim.of_body (E := graph_Reach_1_env F) Tryd.func42 graph_Reach_1_body Tryd.call42 ?_ ?_
 · intro args hl; unfold graph_Reach_1_m; split
   · exact absurd hl (Nat.not_lt.2 (Nat.le_of_ble_eq_true rfl))
   · rfl
 · intro args ρ h w z; unfold graph_Reach_1_m; split
   · rename_i x0 x1 x2 x3; show OKc _ _ [(0, x0), (1, x1), (2, x2), (3, x3)] _ _
     refine rSeq ?_
     refine cLess [3, 2, 1, 0] ?_
     refine xR hE [0, 3, 17] rfl (graph_Reach_1_r0_ok F _ _ _ _ _) ?_
     intro x0 x3 x17
     show OKq _ _ _ [(17, x17), (3, x3), (0, x0)] _
     refine rThen ?_
     refine xCond rfl rfl ?_ ?_
     · refine cLess [3, 0] ?_
       refine xR hE [] rfl (graph_Reach_1_r1_ok F _ _ _) ?_
       show OKq _ _ _ [] _
       exact rDone (.inl rfl) rfl
     · refine rSkip ?_
       exact rDone (.inl rfl) rfl
   · exact rFail


/-! ### haruspex/graph.behind -/

def graph_behind_a (rec : Value → Value → Value → Value → M Value) : List Value → M Value
  | [x0, x1, x2, x3] => rec x0 x1 x2 x3
  | _ => fail

def graph_behind_env (F : Nat) (rec : Value → Value → Value → Value → M Value) : Env := envOf [(51, graph_behind_a rec), (43, bitset_Set_Add_m F)]

noncomputable def graph_behind_R (F : Nat) (rec : Value → Value → Value → Value → M Value) := rK Tryd.prog TrydG (graph_behind_env F rec) Tryd.f51
noncomputable def graph_behind_D (F : Nat) (rec : Value → Value → Value → Value → M Value) := dK Tryd.prog TrydG (graph_behind_env F rec) Tryd.f51

def graph_behind_r8 (F : Nat) (rec : Value → Value → Value → Value → M Value) (x1 x3 : Value) (K : Value → M Value) : M Value :=
  bnd (opBuildSlice 1 (rep 1 [(.int .i64 (0))]) [(0, 1, false, x1)]) fun v34 => bnd (opAppend 1 8 x3 v34) fun v35 => K v35

theorem graph_behind_r8_ok (F : Nat) (rec : Value → Value → Value → Value → M Value) (x1 x3 : Value) (K : Value → M Value) : graph_behind_r8 F rec x1 x3 K = graph_behind_R F rec 8 [(3, x3), (1, x1)] [8] K := by kernel_rfl

def graph_behind_k0 (F : Nat) (rec : Value → Value → Value → Value → M Value) (x1 x3 : Value) : M Value :=
  graph_behind_r8 F rec x1 x3 (fun x8 => ret x8)

def graph_behind_r7 (F : Nat) (rec : Value → Value → Value → Value → M Value) (x1 x2 x3 x4 x20 x21 x22 : Value) (K : Value → Value → Value → Value → Value → Value → Value → M Value) : M Value :=
  bnd (opBin .add x22 (.int .i64 (1))) fun v31 => K x1 x2 x3 x4 x20 x21 v31

theorem graph_behind_r7_ok (F : Nat) (rec : Value → Value → Value → Value → M Value) (x1 x2 x3 x4 x20 x21 x22 : Value) (K : Value → Value → Value → Value → Value → Value → Value → M Value) : graph_behind_r7 F rec x1 x2 x3 x4 x20 x21 x22 K = graph_behind_R F rec 7 [(22, x22), (21, x21), (20, x20), (4, x4), (3, x3), (2, x2), (1, x1)] [1, 2, 3, 4, 20, 21, 22] K := by kernel_rfl

def graph_behind_r6 (F : Nat) (rec : Value → Value → Value → Value → M Value) (x1 x2 x3 x4 x10 x20 x21 x22 : Value) (K : Value → Value → Value → Value → Value → Value → Value → M Value) : M Value :=
  bnd (opLoadN 2 x4) fun v26 => bnd (rec v26 x10 x2 x3) fun v30 => K x1 x2 v30 x4 x20 x21 x22

theorem graph_behind_r6_ok (F : Nat) (rec : Value → Value → Value → Value → M Value) (x1 x2 x3 x4 x10 x20 x21 x22 : Value) (K : Value → Value → Value → Value → Value → Value → Value → M Value) : graph_behind_r6 F rec x1 x2 x3 x4 x10 x20 x21 x22 K = graph_behind_R F rec 6 [(22, x22), (21, x21), (20, x20), (10, x10), (4, x4), (3, x3), (2, x2), (1, x1)] [1, 2, 3, 4, 20, 21, 22] K := by kernel_rfl

def graph_behind_r5 (F : Nat) (rec : Value → Value → Value → Value → M Value) (x1 x2 x3 x4 x20 x21 x22 : Value) (K : Value → Value → Value → Value → Value → Value → Value → Value → M Value) : M Value :=
  bnd (opIndexAddr 1 x20 x22) fun v24 => bnd (opLoad v24) fun v25 => K x1 x2 x3 x4 v25 x20 x21 x22

theorem graph_behind_r5_ok (F : Nat) (rec : Value → Value → Value → Value → M Value) (x1 x2 x3 x4 x20 x21 x22 : Value) (K : Value → Value → Value → Value → Value → Value → Value → Value → M Value) : graph_behind_r5 F rec x1 x2 x3 x4 x20 x21 x22 K = graph_behind_R F rec 5 [(22, x22), (21, x21), (20, x20), (4, x4), (3, x3), (2, x2), (1, x1)] [1, 2, 3, 4, 10, 20, 21, 22] K := by kernel_rfl

def graph_behind_r4 (F : Nat) (rec : Value → Value → Value → Value → M Value) (x1 x2 x3 x4 x20 x21 x22 : Value) (K : Value → Value → Value → Value → Value → Value → Value → Value → M Value) : M Value :=
  bnd (opBin .lss x22 x21) fun v23 => K x1 x2 x3 x4 x20 x21 x22 v23

theorem graph_behind_r4_ok (F : Nat) (rec : Value → Value → Value → Value → M Value) (x1 x2 x3 x4 x20 x21 x22 : Value) (K : Value → Value → Value → Value → Value → Value → Value → Value → M Value) : graph_behind_r4 F rec x1 x2 x3 x4 x20 x21 x22 K = graph_behind_R F rec 4 [(22, x22), (21, x21), (20, x20), (4, x4), (3, x3), (2, x2), (1, x1)] [1, 2, 3, 4, 20, 21, 22, 23] K := by kernel_rfl

def graph_behind_b1 (F : Nat) (rec : Value → Value → Value → Value → M Value) (E1_0 : Value → Value → M Value) (A1 : Value → Value → Value → Value → Value → Value → Value → M Value) (x1 x2 x3 x4 x20 x21 x22 : Value) : M Value :=
  graph_behind_r4 F rec x1 x2 x3 x4 x20 x21 x22 (fun x1 x2 x3 x4 x20 x21 x22 x23 => onB x23 (graph_behind_r5 F rec x1 x2 x3 x4 x20 x21 x22 (fun x1 x2 x3 x4 x10 x20 x21 x22 => graph_behind_r6 F rec x1 x2 x3 x4 x10 x20 x21 x22 (fun x1 x2 x3 x4 x20 x21 x22 => graph_behind_r7 F rec x1 x2 x3 x4 x20 x21 x22 (fun x1 x2 x3 x4 x20 x21 x22 => A1 x1 x2 x3 x4 x20 x21 x22)))) (E1_0 x1 x3))

def graph_behind_l1 (F : Nat) (rec : Value → Value → Value → Value → M Value) (E1_0 : Value → Value → M Value) : Nat → Value → Value → Value → Value → Value → Value → Value → M Value
  | 0, _, _, _, _, _, _, _ => fail
  | k1 + 1, x1, x2, x3, x4, x20, x21, x22 => graph_behind_b1 F rec E1_0 (graph_behind_l1 F rec E1_0 k1) x1 x2 x3 x4 x20 x21 x22

theorem graph_behind_l1_s (F : Nat) (rec : Value → Value → Value → Value → M Value) (E1_0 : Value → Value → M Value) (k1 : Nat) (x1 x2 x3 x4 x20 x21 x22 : Value) : graph_behind_l1 F rec E1_0 (k1 + 1) x1 x2 x3 x4 x20 x21 x22 = graph_behind_b1 F rec E1_0 (graph_behind_l1 F rec E1_0 k1) x1 x2 x3 x4 x20 x21 x22 := rfl

def graph_behind_r3 (F : Nat) (rec : Value → Value → Value → Value → M Value) (x1 x2 x3 x4 : Value) (K : Value → Value → Value → Value → Value → Value → Value → M Value) : M Value :=
  bnd (opFieldAddr 1 x4) fun v16 => bnd (opLoad v16) fun v17 => bnd (opIndexAddr 1 v17 x1) fun v19 => bnd (opLoad v19) fun v20 => bnd (opLen v20) fun v21 => K x1 x2 x3 x4 v20 v21 (.int .i64 (0))

theorem graph_behind_r3_ok (F : Nat) (rec : Value → Value → Value → Value → M Value) (x1 x2 x3 x4 : Value) (K : Value → Value → Value → Value → Value → Value → Value → M Value) : graph_behind_r3 F rec x1 x2 x3 x4 K = graph_behind_R F rec 3 [(4, x4), (3, x3), (2, x2), (1, x1)] [1, 2, 3, 4, 20, 21, 22] K := by kernel_rfl

def graph_behind_r2 (F : Nat) (rec : Value → Value → Value → Value → M Value) (x3 : Value) (K : Value → M Value) : M Value :=
  K x3

theorem graph_behind_r2_ok (F : Nat) (rec : Value → Value → Value → Value → M Value) (x3 : Value) (K : Value → M Value) : graph_behind_r2 F rec x3 K = graph_behind_R F rec 2 [(3, x3)] [8] K := by kernel_rfl

def graph_behind_r1 (F : Nat) (rec : Value → Value → Value → Value → M Value) (x1 x2 x3 x4 : Value) (K : Value → Value → Value → Value → Value → M Value) : M Value :=
  bnd (bitset_Set_Add F x2 x1) fun v13 => bnd (opNot v13) fun v14 => K x1 x2 x3 x4 v14

theorem graph_behind_r1_ok (F : Nat) (rec : Value → Value → Value → Value → M Value) (x1 x2 x3 x4 : Value) (K : Value → Value → Value → Value → Value → M Value) : graph_behind_r1 F rec x1 x2 x3 x4 K = graph_behind_R F rec 1 [(4, x4), (3, x3), (2, x2), (1, x1)] [1, 2, 3, 4, 14] K := by kernel_rfl

def graph_behind_r0 (F : Nat) (rec : Value → Value → Value → Value → M Value) (x0 x1 x2 x3 : Value) (K : Value → Value → Value → Value → M Value) : M Value :=
  bnd (opBoxN x0) fun v4 => K x1 x2 x3 v4

theorem graph_behind_r0_ok (F : Nat) (rec : Value → Value → Value → Value → M Value) (x0 x1 x2 x3 : Value) (K : Value → Value → Value → Value → M Value) : graph_behind_r0 F rec x0 x1 x2 x3 K = graph_behind_R F rec 0 [(3, x3), (2, x2), (1, x1), (0, x0)] [1, 2, 3, 4] K := by kernel_rfl

def graph_behind_s (F : Nat) (rec : Value → Value → Value → Value → M Value) (x0 x1 x2 x3 : Value) : M Value :=
  graph_behind_r0 F rec x0 x1 x2 x3 (fun x1 x2 x3 x4 => graph_behind_r1 F rec x1 x2 x3 x4 (fun x1 x2 x3 x4 x14 => onB x14 (graph_behind_r2 F rec x3 (fun x8 => ret x8)) (graph_behind_r3 F rec x1 x2 x3 x4 (fun x1 x2 x3 x4 x20 x21 x22 => graph_behind_l1 F rec (fun x1 x3 => graph_behind_k0 F rec x1 x3) F x1 x2 x3 x4 x20 x21 x22))))

def graph_behind (F : Nat) : Nat → Value → Value → Value → Value → M Value
  | 0, _, _, _, _ => fail
  | k + 1, x0, x1, x2, x3 => graph_behind_s F (graph_behind F k) x0 x1 x2 x3

def graph_behind_m (F k : Nat) : List Value → M Value := graph_behind_a (graph_behind F k)

theorem graph_behind_body : Tryd.f51.body = some (.seq (.region 0 (opsOf Tryd.f51 0) false) (.seq (.seq (.region 1 (opsOf Tryd.f51 1) false) (.cond (.tmp 14) (.seq (.region 2 (opsOf Tryd.f51 2) false) .ret) .skip)) (.seq (.seq (.region 3 (opsOf Tryd.f51 3) false) (.block 0 (.loop (.seq (.region 4 (opsOf Tryd.f51 4) false) (.seq (.cond (.tmp 23) .skip (.exit 0)) (.seq (.block 1 (.seq (.region 5 (opsOf Tryd.f51 5) false) (.region 6 (opsOf Tryd.f51 6) false))) (.region 7 (opsOf Tryd.f51 7) false))))))) (.seq (.region 8 (opsOf Tryd.f51 8) false) .ret)))) := by kernel_rfl

theorem graph_behind_ok (F : Nat) : ∀ k, Sim Tryd.prog TrydG 51 (graph_behind_m F k)
  | 0 => Sim.of_fail Tryd.call51 (by intro args; unfold graph_behind_m graph_behind_a; split <;> rfl)
  | k + 1 => by
    have ih := graph_behind_ok F k
    have hE : EnvOK Tryd.prog TrydG (graph_behind_env F (graph_behind F k) ) := (EnvOK.cons ih (EnvOK.cons (bitset_Set_Add_ok F) EnvOK.nil))
    refine Sim.of_body (E := graph_behind_env F (graph_behind F k) ) Tryd.func51 graph_behind_body Tryd.call51 ?_ ?_
    · intro args hl; unfold graph_behind_m graph_behind_a; split
      · exact absurd hl (Nat.not_lt.2 (Nat.le_of_ble_eq_true rfl))
      · rfl
    · intro args ρ h w z; unfold graph_behind_m graph_behind_a; split
      · rename_i x0 x1 x2 x3; show OKc _ _ [(0, x0), (1, x1), (2, x2), (3, x3)] (graph_behind_s F (graph_behind F k) x0 x1 x2 x3) _
        refine rSeq ?_
        refine cLess [3, 2, 1, 0] ?_
        refine xR hE [1, 2, 3, 4] rfl (graph_behind_r0_ok F _ _ _ _ _ _) ?_
        intro x1 x2 x3 x4
        show OKq _ _ _ [(4, x4), (3, x3), (2, x2), (1, x1)] _
        refine rThen ?_
        refine rSeq ?_
        refine rSeq ?_
        refine cLess [4, 3, 2, 1] ?_
        refine xR hE [1, 2, 3, 4, 14] rfl (graph_behind_r1_ok F _ _ _ _ _ _) ?_
        intro x1 x2 x3 x4 x14
        show OKq _ _ _ [(14, x14), (4, x4), (3, x3), (2, x2), (1, x1)] _
        refine rThen ?_
        refine xCond rfl rfl ?_ ?_
        · refine rSeq ?_
          refine cLess [3] ?_
          refine xR hE [8] rfl (graph_behind_r2_ok F _ _ _) ?_
          intro x8
          show OKq _ _ _ [(8, x8)] _
          refine rThen ?_
          refine rRet ?_
          refine xThenR ?_
          exact rDone (.inr rfl) rfl
        · refine rSkip ?_
          refine rThen ?_
          refine xSeq [1, 3] (graph_behind_k0 F (graph_behind F k) ) ?_ fun hj0 => ?_
          · intro x1 x3
            show OKc _ _ [(3, x3), (1, x1)] _ _
            refine rSeq ?_
            refine cLess [3, 1] ?_
            refine xR hE [8] rfl (graph_behind_r8_ok F _ _ _ _) ?_
            intro x8
            show OKq _ _ _ [(8, x8)] _
            refine rThen ?_
            refine rRet ?_
            exact rDone (.inr rfl) rfl
          · refine rSeq ?_
            refine cLess [4, 3, 2, 1] ?_
            refine xR hE [1, 2, 3, 4, 20, 21, 22] rfl (graph_behind_r3_ok F _ _ _ _ _ _) ?_
            intro x1 x2 x3 x4 x20 x21 x22
            show OKq _ _ _ [(22, x22), (21, x21), (20, x20), (4, x4), (3, x3), (2, x2), (1, x1)] _
            refine rThen ?_
            refine rBlock ?_
            refine cLess [22, 21, 20, 4, 3, 2, 1] ?_
            refine xLoopAt [1, 2, 3, 4, 20, 21, 22] [] (fun k1 => graph_behind_l1 F (graph_behind F k) (fun x1 x3 => graph_behind_k0 F (graph_behind F k) x1 x3) k1) F [x1, x2, x3, x4, x20, x21, x22] rfl rfl (fun _ _ _ _ _ _ _ => rfl) fun I hI1 k1 => ?_
            intro x1 x2 x3 x4 x20 x21 x22
            show OKc _ _ [(22, x22), (21, x21), (20, x20), (4, x4), (3, x3), (2, x2), (1, x1)] _ _
            refine cAs (graph_behind_l1_s F _ _ _ _ _ _ _ _ _ _) ?_
            refine rSeq ?_
            refine cLess [22, 21, 20, 4, 3, 2, 1] ?_
            refine xR hE [1, 2, 3, 4, 20, 21, 22, 23] rfl (graph_behind_r4_ok F _ _ _ _ _ _ _ _ _) ?_
            intro x1 x2 x3 x4 x20 x21 x22 x23
            show OKq _ _ _ [(23, x23), (22, x22), (21, x21), (20, x20), (4, x4), (3, x3), (2, x2), (1, x1)] _
            refine rThen ?_
            refine rSeq ?_
            refine xCond rfl rfl ?_ ?_
            · refine rSkip ?_
              refine rThen ?_
              refine rSeq ?_
              refine rBlock ?_
              refine rSeq ?_
              refine cLess [22, 21, 20, 4, 3, 2, 1] ?_
              refine xR hE [1, 2, 3, 4, 10, 20, 21, 22] rfl (graph_behind_r5_ok F _ _ _ _ _ _ _ _ _) ?_
              intro x1 x2 x3 x4 x10 x20 x21 x22
              show OKq _ _ _ [(22, x22), (21, x21), (20, x20), (10, x10), (4, x4), (3, x3), (2, x2), (1, x1)] _
              refine rThen ?_
              refine cLess [22, 21, 20, 10, 4, 3, 2, 1] ?_
              refine xR hE [1, 2, 3, 4, 20, 21, 22] rfl (graph_behind_r6_ok F _ _ _ _ _ _ _ _ _ _) ?_
              intro x1 x2 x3 x4 x20 x21 x22
              show OKq _ _ _ [(22, x22), (21, x21), (20, x20), (4, x4), (3, x3), (2, x2), (1, x1)] _
              refine xBlockN ?_
              refine rThen ?_
              refine cLess [22, 21, 20, 4, 3, 2, 1] ?_
              refine xR hE [1, 2, 3, 4, 20, 21, 22] rfl (graph_behind_r7_ok F _ _ _ _ _ _ _ _ _) ?_
              intro x1 x2 x3 x4 x20 x21 x22
              show OKq _ _ _ [(22, x22), (21, x21), (20, x20), (4, x4), (3, x3), (2, x2), (1, x1)] _
              exact qLess [22, 21, 20, 4, 3, 2, 1] (hI1 k1 x1 x2 x3 x4 x20 x21 x22)
            · refine rExit ?_
              refine xThenX ?_
              refine xThenX ?_
              refine rOut ?_
              exact qLess [3, 1] (hj0 x1 x3)
      · exact rFail


/-! ### haruspex/graph.Reach -/

def graph_Reach_env (F : Nat) : Env := envOf [(40, graph_May_m F), (42, graph_Reach_1_m F), (49, graph_Parts_1_m F)]

noncomputable def graph_Reach_R (F : Nat) := rK Tryd.prog TrydG (graph_Reach_env F) Tryd.f19
noncomputable def graph_Reach_D (F : Nat) := dK Tryd.prog TrydG (graph_Reach_env F) Tryd.f19

def graph_Reach_r19 (F : Nat) (x5 : Value) (K : Value → M Value) : M Value :=
  bnd (opLoad x5) fun v58 => K v58

theorem graph_Reach_r19_ok (F : Nat) (x5 : Value) (K : Value → M Value) : graph_Reach_r19 F x5 K = graph_Reach_R F 19 [(5, x5)] [4] K := by kernel_rfl

def graph_Reach_k0 (F : Nat) (x5 : Value) : M Value :=
  graph_Reach_r19 F x5 (fun x4 => ret x4)

def graph_Reach_r18 (F : Nat) (x2 x5 x6 x7 x48 x49 x50 : Value) (K : Value → Value → Value → Value → Value → Value → Value → M Value) : M Value :=
  bnd (opBin .add x50 (.int .i64 (1))) fun v57 => K x2 x5 x6 x7 x48 x49 v57

theorem graph_Reach_r18_ok (F : Nat) (x2 x5 x6 x7 x48 x49 x50 : Value) (K : Value → Value → Value → Value → Value → Value → Value → M Value) : graph_Reach_r18 F x2 x5 x6 x7 x48 x49 x50 K = graph_Reach_R F 18 [(50, x50), (49, x49), (48, x48), (7, x7), (6, x6), (5, x5), (2, x2)] [2, 5, 6, 7, 48, 49, 50] K := by kernel_rfl

def graph_Reach_r17 (F : Nat) (x2 x5 x6 x7 x12 x48 x49 x50 : Value) (K : Value → Value → Value → Value → Value → Value → Value → M Value) : M Value :=
  bnd (opCall (graph_Reach_env F) x7 [x12]) fun v56 => K x2 x5 x6 x7 x48 x49 x50

theorem graph_Reach_r17_ok (F : Nat) (x2 x5 x6 x7 x12 x48 x49 x50 : Value) (K : Value → Value → Value → Value → Value → Value → Value → M Value) : graph_Reach_r17 F x2 x5 x6 x7 x12 x48 x49 x50 K = graph_Reach_R F 17 [(50, x50), (49, x49), (48, x48), (12, x12), (7, x7), (6, x6), (5, x5), (2, x2)] [2, 5, 6, 7, 48, 49, 50] K := by kernel_rfl

def graph_Reach_r16 (F : Nat) (x2 x5 x6 x7 x48 x49 x50 : Value) (K : Value → Value → Value → Value → Value → Value → Value → Value → M Value) : M Value :=
  bnd (opIndexAddr 1 x48 x50) fun v52 => bnd (opLoad v52) fun v53 => K x2 x5 x6 x7 v53 x48 x49 x50

theorem graph_Reach_r16_ok (F : Nat) (x2 x5 x6 x7 x48 x49 x50 : Value) (K : Value → Value → Value → Value → Value → Value → Value → Value → M Value) : graph_Reach_r16 F x2 x5 x6 x7 x48 x49 x50 K = graph_Reach_R F 16 [(50, x50), (49, x49), (48, x48), (7, x7), (6, x6), (5, x5), (2, x2)] [2, 5, 6, 7, 12, 48, 49, 50] K := by kernel_rfl

def graph_Reach_r15 (F : Nat) (x2 x5 x6 x7 x48 x49 x50 : Value) (K : Value → Value → Value → Value → Value → Value → Value → Value → M Value) : M Value :=
  bnd (opBin .lss x50 x49) fun v51 => K x2 x5 x6 x7 x48 x49 x50 v51

theorem graph_Reach_r15_ok (F : Nat) (x2 x5 x6 x7 x48 x49 x50 : Value) (K : Value → Value → Value → Value → Value → Value → Value → Value → M Value) : graph_Reach_r15 F x2 x5 x6 x7 x48 x49 x50 K = graph_Reach_R F 15 [(50, x50), (49, x49), (48, x48), (7, x7), (6, x6), (5, x5), (2, x2)] [2, 5, 6, 7, 48, 49, 50, 51] K := by kernel_rfl

def graph_Reach_b2 (F : Nat) (E2_4 : Value → Value → Value → Value → M Value) (A2 : Value → Value → Value → Value → Value → Value → Value → M Value) (x2 x5 x6 x7 x48 x49 x50 : Value) : M Value :=
  graph_Reach_r15 F x2 x5 x6 x7 x48 x49 x50 (fun x2 x5 x6 x7 x48 x49 x50 x51 => onB x51 (graph_Reach_r16 F x2 x5 x6 x7 x48 x49 x50 (fun x2 x5 x6 x7 x12 x48 x49 x50 => graph_Reach_r17 F x2 x5 x6 x7 x12 x48 x49 x50 (fun x2 x5 x6 x7 x48 x49 x50 => graph_Reach_r18 F x2 x5 x6 x7 x48 x49 x50 (fun x2 x5 x6 x7 x48 x49 x50 => A2 x2 x5 x6 x7 x48 x49 x50)))) (E2_4 x2 x5 x6 x7))

def graph_Reach_l2 (F : Nat) (E2_4 : Value → Value → Value → Value → M Value) : Nat → Value → Value → Value → Value → Value → Value → Value → M Value
  | 0, _, _, _, _, _, _, _ => fail
  | k2 + 1, x2, x5, x6, x7, x48, x49, x50 => graph_Reach_b2 F E2_4 (graph_Reach_l2 F E2_4 k2) x2 x5 x6 x7 x48 x49 x50

theorem graph_Reach_l2_s (F : Nat) (E2_4 : Value → Value → Value → Value → M Value) (k2 : Nat) (x2 x5 x6 x7 x48 x49 x50 : Value) : graph_Reach_l2 F E2_4 (k2 + 1) x2 x5 x6 x7 x48 x49 x50 = graph_Reach_b2 F E2_4 (graph_Reach_l2 F E2_4 k2) x2 x5 x6 x7 x48 x49 x50 := rfl

def graph_Reach_r14 (F : Nat) (x2 x5 x6 x7 x10 : Value) (K : Value → Value → Value → Value → Value → Value → Value → M Value) : M Value :=
  bnd (opFieldAddr 1 x2) fun v44 => bnd (opLoad v44) fun v45 => bnd (opIndexAddr 1 v45 x10) fun v47 => bnd (opLoad v47) fun v48 => bnd (opLen v48) fun v49 => K x2 x5 x6 x7 v48 v49 (.int .i64 (0))

theorem graph_Reach_r14_ok (F : Nat) (x2 x5 x6 x7 x10 : Value) (K : Value → Value → Value → Value → Value → Value → Value → M Value) : graph_Reach_r14 F x2 x5 x6 x7 x10 K = graph_Reach_R F 14 [(10, x10), (7, x7), (6, x6), (5, x5), (2, x2)] [2, 5, 6, 7, 48, 49, 50] K := by kernel_rfl

def graph_Reach_r13 (F : Nat) (x2 x5 x6 x7 x10 : Value) (K : Value → Value → Value → Value → Value → M Value) : M Value :=
  bnd (opLoad x6) fun v39 => bnd (opLoad x6) fun v40 => bnd (opLen v40) fun v41 => bnd (opBin .sub v41 (.int .i64 (1))) fun v42 => bnd (opSlice 1 v39 none (some v42) none) fun v43 => bnd (opStore x6 v43) fun _ => K x2 x5 x6 x7 x10

theorem graph_Reach_r13_ok (F : Nat) (x2 x5 x6 x7 x10 : Value) (K : Value → Value → Value → Value → Value → M Value) : graph_Reach_r13 F x2 x5 x6 x7 x10 K = graph_Reach_R F 13 [(10, x10), (7, x7), (6, x6), (5, x5), (2, x2)] [2, 5, 6, 7, 10] K := by kernel_rfl

def graph_Reach_r12 (F : Nat) (x2 x5 x6 x7 : Value) (K : Value → Value → Value → Value → Value → M Value) : M Value :=
  bnd (opLoad x6) fun v33 => bnd (opLoad x6) fun v34 => bnd (opLen v34) fun v35 => bnd (opBin .sub v35 (.int .i64 (1))) fun v36 => bnd (opIndexAddr 1 v33 v36) fun v37 => bnd (opLoad v37) fun v38 => K x2 x5 x6 x7 v38

theorem graph_Reach_r12_ok (F : Nat) (x2 x5 x6 x7 : Value) (K : Value → Value → Value → Value → Value → M Value) : graph_Reach_r12 F x2 x5 x6 x7 K = graph_Reach_R F 12 [(7, x7), (6, x6), (5, x5), (2, x2)] [2, 5, 6, 7, 10] K := by kernel_rfl

def graph_Reach_r11 (F : Nat) (x2 x5 x6 x7 : Value) (K : Value → Value → Value → Value → Value → M Value) : M Value :=
  bnd (opLoad x6) fun v30 => bnd (opLen v30) fun v31 => bnd (opBin .gtr v31 (.int .i64 (0))) fun v32 => K x2 x5 x6 x7 v32

theorem graph_Reach_r11_ok (F : Nat) (x2 x5 x6 x7 : Value) (K : Value → Value → Value → Value → Value → M Value) : graph_Reach_r11 F x2 x5 x6 x7 K = graph_Reach_R F 11 [(7, x7), (6, x6), (5, x5), (2, x2)] [2, 5, 6, 7, 32] K := by kernel_rfl

def graph_Reach_b1 (F : Nat) (E1_2 : Value → M Value) (A1 : Value → Value → Value → Value → M Value) (x2 x5 x6 x7 : Value) : M Value :=
  graph_Reach_r11 F x2 x5 x6 x7 (fun x2 x5 x6 x7 x32 => onB x32 (graph_Reach_r12 F x2 x5 x6 x7 (fun x2 x5 x6 x7 x10 => graph_Reach_r13 F x2 x5 x6 x7 x10 (fun x2 x5 x6 x7 x10 => graph_Reach_r14 F x2 x5 x6 x7 x10 (fun x2 x5 x6 x7 x48 x49 x50 => graph_Reach_l2 F (fun x2 x5 x6 x7 => A1 x2 x5 x6 x7) F x2 x5 x6 x7 x48 x49 x50)))) (E1_2 x5))

def graph_Reach_l1 (F : Nat) (E1_2 : Value → M Value) : Nat → Value → Value → Value → Value → M Value
  | 0, _, _, _, _ => fail
  | k1 + 1, x2, x5, x6, x7 => graph_Reach_b1 F E1_2 (graph_Reach_l1 F E1_2 k1) x2 x5 x6 x7

theorem graph_Reach_l1_s (F : Nat) (E1_2 : Value → M Value) (k1 : Nat) (x2 x5 x6 x7 : Value) : graph_Reach_l1 F E1_2 (k1 + 1) x2 x5 x6 x7 = graph_Reach_b1 F E1_2 (graph_Reach_l1 F E1_2 k1) x2 x5 x6 x7 := rfl

def graph_Reach_k3 (F : Nat) (x2 x5 x6 x7 : Value) : M Value :=
  graph_Reach_l1 F (fun x5 => graph_Reach_k0 F x5) F x2 x5 x6 x7

def graph_Reach_r10 (F : Nat) (x2 x5 x6 x7 x20 x21 x22 : Value) (K : Value → Value → Value → Value → Value → Value → Value → M Value) : M Value :=
  bnd (opBin .add x22 (.int .i64 (1))) fun v29 => K x2 x5 x6 x7 x20 x21 v29

theorem graph_Reach_r10_ok (F : Nat) (x2 x5 x6 x7 x20 x21 x22 : Value) (K : Value → Value → Value → Value → Value → Value → Value → M Value) : graph_Reach_r10 F x2 x5 x6 x7 x20 x21 x22 K = graph_Reach_R F 10 [(22, x22), (21, x21), (20, x20), (7, x7), (6, x6), (5, x5), (2, x2)] [2, 5, 6, 7, 20, 21, 22] K := by kernel_rfl

def graph_Reach_r9 (F : Nat) (x2 x5 x6 x7 x9 x20 x21 x22 : Value) (K : Value → Value → Value → Value → Value → Value → Value → M Value) : M Value :=
  bnd (opCall (graph_Reach_env F) x7 [x9]) fun v28 => K x2 x5 x6 x7 x20 x21 x22

theorem graph_Reach_r9_ok (F : Nat) (x2 x5 x6 x7 x9 x20 x21 x22 : Value) (K : Value → Value → Value → Value → Value → Value → Value → M Value) : graph_Reach_r9 F x2 x5 x6 x7 x9 x20 x21 x22 K = graph_Reach_R F 9 [(22, x22), (21, x21), (20, x20), (9, x9), (7, x7), (6, x6), (5, x5), (2, x2)] [2, 5, 6, 7, 20, 21, 22] K := by kernel_rfl

def graph_Reach_r8 (F : Nat) (x2 x5 x6 x7 x20 x21 x22 : Value) (K : Value → Value → Value → Value → Value → Value → Value → Value → M Value) : M Value :=
  bnd (opIndexAddr 1 x20 x22) fun v24 => bnd (opLoad v24) fun v25 => K x2 x5 x6 x7 v25 x20 x21 x22

theorem graph_Reach_r8_ok (F : Nat) (x2 x5 x6 x7 x20 x21 x22 : Value) (K : Value → Value → Value → Value → Value → Value → Value → Value → M Value) : graph_Reach_r8 F x2 x5 x6 x7 x20 x21 x22 K = graph_Reach_R F 8 [(22, x22), (21, x21), (20, x20), (7, x7), (6, x6), (5, x5), (2, x2)] [2, 5, 6, 7, 9, 20, 21, 22] K := by kernel_rfl

def graph_Reach_r7 (F : Nat) (x2 x5 x6 x7 x20 x21 x22 : Value) (K : Value → Value → Value → Value → Value → Value → Value → Value → M Value) : M Value :=
  bnd (opBin .lss x22 x21) fun v23 => K x2 x5 x6 x7 x20 x21 x22 v23

theorem graph_Reach_r7_ok (F : Nat) (x2 x5 x6 x7 x20 x21 x22 : Value) (K : Value → Value → Value → Value → Value → Value → Value → Value → M Value) : graph_Reach_r7 F x2 x5 x6 x7 x20 x21 x22 K = graph_Reach_R F 7 [(22, x22), (21, x21), (20, x20), (7, x7), (6, x6), (5, x5), (2, x2)] [2, 5, 6, 7, 20, 21, 22, 23] K := by kernel_rfl

def graph_Reach_b4 (F : Nat) (E4_0 : Value → Value → Value → Value → M Value) (A4 : Value → Value → Value → Value → Value → Value → Value → M Value) (x2 x5 x6 x7 x20 x21 x22 : Value) : M Value :=
  graph_Reach_r7 F x2 x5 x6 x7 x20 x21 x22 (fun x2 x5 x6 x7 x20 x21 x22 x23 => onB x23 (graph_Reach_r8 F x2 x5 x6 x7 x20 x21 x22 (fun x2 x5 x6 x7 x9 x20 x21 x22 => graph_Reach_r9 F x2 x5 x6 x7 x9 x20 x21 x22 (fun x2 x5 x6 x7 x20 x21 x22 => graph_Reach_r10 F x2 x5 x6 x7 x20 x21 x22 (fun x2 x5 x6 x7 x20 x21 x22 => A4 x2 x5 x6 x7 x20 x21 x22)))) (E4_0 x2 x5 x6 x7))

def graph_Reach_l4 (F : Nat) (E4_0 : Value → Value → Value → Value → M Value) : Nat → Value → Value → Value → Value → Value → Value → Value → M Value
  | 0, _, _, _, _, _, _, _ => fail
  | k4 + 1, x2, x5, x6, x7, x20, x21, x22 => graph_Reach_b4 F E4_0 (graph_Reach_l4 F E4_0 k4) x2 x5 x6 x7 x20 x21 x22

theorem graph_Reach_l4_s (F : Nat) (E4_0 : Value → Value → Value → Value → M Value) (k4 : Nat) (x2 x5 x6 x7 x20 x21 x22 : Value) : graph_Reach_l4 F E4_0 (k4 + 1) x2 x5 x6 x7 x20 x21 x22 = graph_Reach_b4 F E4_0 (graph_Reach_l4 F E4_0 k4) x2 x5 x6 x7 x20 x21 x22 := rfl

def graph_Reach_r6 (F : Nat) (x1 x2 x5 x6 x7 : Value) (K : Value → Value → Value → Value → Value → Value → Value → M Value) : M Value :=
  bnd (opLen x1) fun v21 => K x2 x5 x6 x7 x1 v21 (.int .i64 (0))

theorem graph_Reach_r6_ok (F : Nat) (x1 x2 x5 x6 x7 : Value) (K : Value → Value → Value → Value → Value → Value → Value → M Value) : graph_Reach_r6 F x1 x2 x5 x6 x7 K = graph_Reach_R F 6 [(7, x7), (6, x6), (5, x5), (2, x2), (1, x1)] [2, 5, 6, 7, 20, 21, 22] K := by kernel_rfl

def graph_Reach_r5 (F : Nat) (x1 x2 x5 x6 : Value) (K : Value → Value → Value → Value → Value → M Value) : M Value :=
  bnd (opFunc (.func 42) [x2, x5, x6]) fun v19 => K x1 x2 x5 x6 v19

theorem graph_Reach_r5_ok (F : Nat) (x1 x2 x5 x6 : Value) (K : Value → Value → Value → Value → Value → M Value) : graph_Reach_r5 F x1 x2 x5 x6 K = graph_Reach_R F 5 [(6, x6), (5, x5), (2, x2), (1, x1)] [1, 2, 5, 6, 7] K := by kernel_rfl

def graph_Reach_r4 (F : Nat) (x1 x2 x5 : Value) (K : Value → Value → Value → Value → M Value) : M Value :=
  bnd (opPtr [(.slice none 0 0)]) fun v6 => K x1 x2 x5 v6

theorem graph_Reach_r4_ok (F : Nat) (x1 x2 x5 : Value) (K : Value → Value → Value → Value → M Value) : graph_Reach_r4 F x1 x2 x5 K = graph_Reach_R F 4 [(5, x5), (2, x2), (1, x1)] [1, 2, 5, 6] K := by kernel_rfl

def graph_Reach_r3 (F : Nat) (x5 : Value) (K : Value → M Value) : M Value :=
  bnd (opLoad x5) fun v18 => K v18

theorem graph_Reach_r3_ok (F : Nat) (x5 : Value) (K : Value → M Value) : graph_Reach_r3 F x5 K = graph_Reach_R F 3 [(5, x5)] [4] K := by kernel_rfl

def graph_Reach_r2 (F : Nat) (x1 x2 x5 : Value) (K : Value → Value → Value → Value → M Value) : M Value :=
  bnd (opLoadN 2 x2) fun v15 => bnd (graph_May F v15) fun v16 => bnd (opNot v16) fun v17 => K x1 x2 x5 v17

theorem graph_Reach_r2_ok (F : Nat) (x1 x2 x5 : Value) (K : Value → Value → Value → Value → M Value) : graph_Reach_r2 F x1 x2 x5 K = graph_Reach_R F 2 [(5, x5), (2, x2), (1, x1)] [1, 2, 5, 17] K := by kernel_rfl

def graph_Reach_r1 (F : Nat) (x1 x2 : Value) (K : Value → Value → Value → M Value) : M Value :=
  bnd (opBuild [(.slice none 0 0)] []) fun v13 => bnd (opBoxN v13) fun v14 => bnd (opPtr [(.pointer none)]) fun v5 => bnd (opStore v5 v14) fun _ => K x1 x2 v5

theorem graph_Reach_r1_ok (F : Nat) (x1 x2 : Value) (K : Value → Value → Value → M Value) : graph_Reach_r1 F x1 x2 K = graph_Reach_R F 1 [(2, x2), (1, x1)] [1, 2, 5] K := by kernel_rfl

def graph_Reach_r0 (F : Nat) (x0 x1 : Value) (K : Value → Value → M Value) : M Value :=
  bnd (opBoxN x0) fun v2 => K x1 v2

theorem graph_Reach_r0_ok (F : Nat) (x0 x1 : Value) (K : Value → Value → M Value) : graph_Reach_r0 F x0 x1 K = graph_Reach_R F 0 [(1, x1), (0, x0)] [1, 2] K := by kernel_rfl

def graph_Reach (F : Nat) (x0 x1 : Value) : M Value :=
  graph_Reach_r0 F x0 x1 (fun x1 x2 => graph_Reach_r1 F x1 x2 (fun x1 x2 x5 => graph_Reach_r2 F x1 x2 x5 (fun x1 x2 x5 x17 => onB x17 (graph_Reach_r3 F x5 (fun x4 => ret x4)) (graph_Reach_r4 F x1 x2 x5 (fun x1 x2 x5 x6 => graph_Reach_r5 F x1 x2 x5 x6 (fun x1 x2 x5 x6 x7 => graph_Reach_r6 F x1 x2 x5 x6 x7 (fun x2 x5 x6 x7 x20 x21 x22 => graph_Reach_l4 F (fun x2 x5 x6 x7 => graph_Reach_k3 F x2 x5 x6 x7) F x2 x5 x6 x7 x20 x21 x22)))))))

def graph_Reach_m (F : Nat) : List Value → M Value
  | [x0, x1] => graph_Reach F x0 x1
  | _ => fail

theorem graph_Reach_body : Tryd.f19.body = some (.seq (.region 0 (opsOf Tryd.f19 0) false) (.seq (.region 1 (opsOf Tryd.f19 1) false) (.seq (.seq (.region 2 (opsOf Tryd.f19 2) false) (.cond (.tmp 17) (.seq (.region 3 (opsOf Tryd.f19 3) false) .ret) .skip)) (.seq (.region 4 (opsOf Tryd.f19 4) false) (.seq (.region 5 (opsOf Tryd.f19 5) false) (.seq (.seq (.region 6 (opsOf Tryd.f19 6) false) (.block 0 (.loop (.seq (.region 7 (opsOf Tryd.f19 7) false) (.seq (.cond (.tmp 23) .skip (.exit 0)) (.seq (.block 1 (.seq (.region 8 (opsOf Tryd.f19 8) false) (.region 9 (opsOf Tryd.f19 9) false))) (.region 10 (opsOf Tryd.f19 10) false))))))) (.seq (.block 2 (.loop (.seq (.seq (.region 11 (opsOf Tryd.f19 11) false) (.cond (.tmp 32) .skip (.exit 2))) (.block 3 (.seq (.region 12 (opsOf Tryd.f19 12) false) (.seq (.region 13 (opsOf Tryd.f19 13) false) (.seq (.region 14 (opsOf Tryd.f19 14) false) (.block 4 (.loop (.seq (.region 15 (opsOf Tryd.f19 15) false) (.seq (.cond (.tmp 51) .skip (.exit 4)) (.seq (.block 5 (.seq (.region 16 (opsOf Tryd.f19 16) false) (.region 17 (opsOf Tryd.f19 17) false))) (.region 18 (opsOf Tryd.f19 18) false))))))))))))) (.seq (.region 19 (opsOf Tryd.f19 19) false) .ret)))))))) := by kernel_rfl

theorem graph_Reach_ok (F : Nat) : Sim Tryd.prog TrydG 19 (graph_Reach_m F) := by
 have hE : EnvOK Tryd.prog TrydG (graph_Reach_env F) := (EnvOK.cons (graph_May_ok F) (EnvOK.cons (graph_Reach_1_ok F) (EnvOK.cons (graph_Parts_1_ok F) EnvOK.nil)))
 refine Sim.of_body (E := graph_Reach_env F) Tryd.func19 graph_Reach_body Tryd.call19 ?_ ?_
 · intro args hl; unfold graph_Reach_m; split
   · exact absurd hl (Nat.not_lt.2 (Nat.le_of_ble_eq_true rfl))
   · rfl
 · intro args ρ h w z; unfold graph_Reach_m; split
   · rename_i x0 x1; show OKc _ _ [(0, x0), (1, x1)] _ _
     refine rSeq ?_
     refine cLess [1, 0] ?_
     refine xR hE [1, 2] rfl (graph_Reach_r0_ok F _ _ _) ?_
     intro x1 x2
     show OKq _ _ _ [(2, x2), (1, x1)] _
     refine rThen ?_
     refine rSeq ?_
     refine cLess [2, 1] ?_
     refine xR hE [1, 2, 5] rfl (graph_Reach_r1_ok F _ _ _) ?_
     intro x1 x2 x5
     show OKq _ _ _ [(5, x5), (2, x2), (1, x1)] _
     refine rThen ?_
     refine rSeq ?_
     refine rSeq ?_
     refine cLess [5, 2, 1] ?_
     refine xR hE [1, 2, 5, 17] rfl (graph_Reach_r2_ok F _ _ _ _) ?_
     intro x1 x2 x5 x17
     show OKq _ _ _ [(17, x17), (5, x5), (2, x2), (1, x1)] _
     refine rThen ?_
     refine xCond rfl rfl ?_ ?_
     · refine rSeq ?_
       refine cLess [5] ?_
       refine xR hE [4] rfl (graph_Reach_r3_ok F _ _) ?_
       intro x4
       show OKq _ _ _ [(4, x4)] _
       refine rThen ?_
       refine rRet ?_
       refine xThenR ?_
       exact rDone (.inr rfl) rfl
     · refine rSkip ?_
       refine rThen ?_
       refine rSeq ?_
       refine cLess [5, 2, 1] ?_
       refine xR hE [1, 2, 5, 6] rfl (graph_Reach_r4_ok F _ _ _ _) ?_
       intro x1 x2 x5 x6
       show OKq _ _ _ [(6, x6), (5, x5), (2, x2), (1, x1)] _
       refine rThen ?_
       refine rSeq ?_
       refine cLess [6, 5, 2, 1] ?_
       refine xR hE [1, 2, 5, 6, 7] rfl (graph_Reach_r5_ok F _ _ _ _ _) ?_
       intro x1 x2 x5 x6 x7
       show OKq _ _ _ [(7, x7), (6, x6), (5, x5), (2, x2), (1, x1)] _
       refine rThen ?_
       refine xSeq [2, 5, 6, 7] (graph_Reach_k3 F ) ?_ fun hj3 => ?_
       · intro x2 x5 x6 x7
         show OKc _ _ [(7, x7), (6, x6), (5, x5), (2, x2)] _ _
         refine xSeq [5] (graph_Reach_k0 F ) ?_ fun hj0 => ?_
         · intro x5
           show OKc _ _ [(5, x5)] _ _
           refine rSeq ?_
           refine cLess [5] ?_
           refine xR hE [4] rfl (graph_Reach_r19_ok F _ _) ?_
           intro x4
           show OKq _ _ _ [(4, x4)] _
           refine rThen ?_
           refine rRet ?_
           exact rDone (.inr rfl) rfl
         · refine rBlock ?_
           refine cLess [7, 6, 5, 2] ?_
           refine xLoopAt [2, 5, 6, 7] [] (fun k1 => graph_Reach_l1 F (fun x5 => graph_Reach_k0 F x5) k1) F [x2, x5, x6, x7] rfl rfl (fun _ _ _ _ => rfl) fun I hI1 k1 => ?_
           intro x2 x5 x6 x7
           show OKc _ _ [(7, x7), (6, x6), (5, x5), (2, x2)] _ _
           refine cAs (graph_Reach_l1_s F _ _ _ _ _ _) ?_
           refine rSeq ?_
           refine rSeq ?_
           refine cLess [7, 6, 5, 2] ?_
           refine xR hE [2, 5, 6, 7, 32] rfl (graph_Reach_r11_ok F _ _ _ _ _) ?_
           intro x2 x5 x6 x7 x32
           show OKq _ _ _ [(32, x32), (7, x7), (6, x6), (5, x5), (2, x2)] _
           refine rThen ?_
           refine xCond rfl rfl ?_ ?_
           · refine rSkip ?_
             refine rThen ?_
             refine rBlock ?_
             refine rSeq ?_
             refine cLess [7, 6, 5, 2] ?_
             refine xR hE [2, 5, 6, 7, 10] rfl (graph_Reach_r12_ok F _ _ _ _ _) ?_
             intro x2 x5 x6 x7 x10
             show OKq _ _ _ [(10, x10), (7, x7), (6, x6), (5, x5), (2, x2)] _
             refine rThen ?_
             refine rSeq ?_
             refine cLess [10, 7, 6, 5, 2] ?_
             refine xR hE [2, 5, 6, 7, 10] rfl (graph_Reach_r13_ok F _ _ _ _ _ _) ?_
             intro x2 x5 x6 x7 x10
             show OKq _ _ _ [(10, x10), (7, x7), (6, x6), (5, x5), (2, x2)] _
             refine rThen ?_
             refine rSeq ?_
             refine cLess [10, 7, 6, 5, 2] ?_
             refine xR hE [2, 5, 6, 7, 48, 49, 50] rfl (graph_Reach_r14_ok F _ _ _ _ _ _) ?_
             intro x2 x5 x6 x7 x48 x49 x50
             show OKq _ _ _ [(50, x50), (49, x49), (48, x48), (7, x7), (6, x6), (5, x5), (2, x2)] _
             refine rThen ?_
             refine rBlock ?_
             refine cLess [50, 49, 48, 7, 6, 5, 2] ?_
             refine xLoopAt [2, 5, 6, 7, 48, 49, 50] [] (fun k2 => graph_Reach_l2 F (fun x2 x5 x6 x7 => (graph_Reach_l1 F (fun x5 => graph_Reach_k0 F x5) k1) x2 x5 x6 x7) k2) F [x2, x5, x6, x7, x48, x49, x50] rfl rfl (fun _ _ _ _ _ _ _ => rfl) fun I hI2 k2 => ?_
             intro x2 x5 x6 x7 x48 x49 x50
             show OKc _ _ [(50, x50), (49, x49), (48, x48), (7, x7), (6, x6), (5, x5), (2, x2)] _ _
             refine cAs (graph_Reach_l2_s F _ _ _ _ _ _ _ _ _) ?_
             refine rSeq ?_
             refine cLess [50, 49, 48, 7, 6, 5, 2] ?_
             refine xR hE [2, 5, 6, 7, 48, 49, 50, 51] rfl (graph_Reach_r15_ok F _ _ _ _ _ _ _ _) ?_
             intro x2 x5 x6 x7 x48 x49 x50 x51
             show OKq _ _ _ [(51, x51), (50, x50), (49, x49), (48, x48), (7, x7), (6, x6), (5, x5), (2, x2)] _
             refine rThen ?_
             refine rSeq ?_
             refine xCond rfl rfl ?_ ?_
             · refine rSkip ?_
               refine rThen ?_
               refine rSeq ?_
               refine rBlock ?_
               refine rSeq ?_
               refine cLess [50, 49, 48, 7, 6, 5, 2] ?_
               refine xR hE [2, 5, 6, 7, 12, 48, 49, 50] rfl (graph_Reach_r16_ok F _ _ _ _ _ _ _ _) ?_
               intro x2 x5 x6 x7 x12 x48 x49 x50
               show OKq _ _ _ [(50, x50), (49, x49), (48, x48), (12, x12), (7, x7), (6, x6), (5, x5), (2, x2)] _
               refine rThen ?_
               refine cLess [50, 49, 48, 12, 7, 6, 5, 2] ?_
               refine xR hE [2, 5, 6, 7, 48, 49, 50] rfl (graph_Reach_r17_ok F _ _ _ _ _ _ _ _ _) ?_
               intro x2 x5 x6 x7 x48 x49 x50
               show OKq _ _ _ [(50, x50), (49, x49), (48, x48), (7, x7), (6, x6), (5, x5), (2, x2)] _
               refine xBlockN ?_
               refine rThen ?_
               refine cLess [50, 49, 48, 7, 6, 5, 2] ?_
               refine xR hE [2, 5, 6, 7, 48, 49, 50] rfl (graph_Reach_r18_ok F _ _ _ _ _ _ _ _) ?_
               intro x2 x5 x6 x7 x48 x49 x50
               show OKq _ _ _ [(50, x50), (49, x49), (48, x48), (7, x7), (6, x6), (5, x5), (2, x2)] _
               exact qLess [50, 49, 48, 7, 6, 5, 2] (hI2 k2 x2 x5 x6 x7 x48 x49 x50)
             · refine rExit ?_
               refine xThenX ?_
               refine xThenX ?_
               refine rOut ?_
               refine xBlockN ?_
               exact qLess [7, 6, 5, 2] (hI1 k1 x2 x5 x6 x7)
           · refine rExit ?_
             refine xThenX ?_
             refine xThenX ?_
             refine rOut ?_
             exact qLess [5] (hj0 x5)
       · refine rSeq ?_
         refine cLess [7, 6, 5, 2, 1] ?_
         refine xR hE [2, 5, 6, 7, 20, 21, 22] rfl (graph_Reach_r6_ok F _ _ _ _ _ _) ?_
         intro x2 x5 x6 x7 x20 x21 x22
         show OKq _ _ _ [(22, x22), (21, x21), (20, x20), (7, x7), (6, x6), (5, x5), (2, x2)] _
         refine rThen ?_
         refine rBlock ?_
         refine cLess [22, 21, 20, 7, 6, 5, 2] ?_
         refine xLoopAt [2, 5, 6, 7, 20, 21, 22] [] (fun k4 => graph_Reach_l4 F (fun x2 x5 x6 x7 => graph_Reach_k3 F x2 x5 x6 x7) k4) F [x2, x5, x6, x7, x20, x21, x22] rfl rfl (fun _ _ _ _ _ _ _ => rfl) fun I hI4 k4 => ?_
         intro x2 x5 x6 x7 x20 x21 x22
         show OKc _ _ [(22, x22), (21, x21), (20, x20), (7, x7), (6, x6), (5, x5), (2, x2)] _ _
         refine cAs (graph_Reach_l4_s F _ _ _ _ _ _ _ _ _) ?_
         refine rSeq ?_
         refine cLess [22, 21, 20, 7, 6, 5, 2] ?_
         refine xR hE [2, 5, 6, 7, 20, 21, 22, 23] rfl (graph_Reach_r7_ok F _ _ _ _ _ _ _ _) ?_
         intro x2 x5 x6 x7 x20 x21 x22 x23
         show OKq _ _ _ [(23, x23), (22, x22), (21, x21), (20, x20), (7, x7), (6, x6), (5, x5), (2, x2)] _
         refine rThen ?_
         refine rSeq ?_
         refine xCond rfl rfl ?_ ?_
         · refine rSkip ?_
           refine rThen ?_
           refine rSeq ?_
           refine rBlock ?_
           refine rSeq ?_
           refine cLess [22, 21, 20, 7, 6, 5, 2] ?_
           refine xR hE [2, 5, 6, 7, 9, 20, 21, 22] rfl (graph_Reach_r8_ok F _ _ _ _ _ _ _ _) ?_
           intro x2 x5 x6 x7 x9 x20 x21 x22
           show OKq _ _ _ [(22, x22), (21, x21), (20, x20), (9, x9), (7, x7), (6, x6), (5, x5), (2, x2)] _
           refine rThen ?_
           refine cLess [22, 21, 20, 9, 7, 6, 5, 2] ?_
           refine xR hE [2, 5, 6, 7, 20, 21, 22] rfl (graph_Reach_r9_ok F _ _ _ _ _ _ _ _ _) ?_
           intro x2 x5 x6 x7 x20 x21 x22
           show OKq _ _ _ [(22, x22), (21, x21), (20, x20), (7, x7), (6, x6), (5, x5), (2, x2)] _
           refine xBlockN ?_
           refine rThen ?_
           refine cLess [22, 21, 20, 7, 6, 5, 2] ?_
           refine xR hE [2, 5, 6, 7, 20, 21, 22] rfl (graph_Reach_r10_ok F _ _ _ _ _ _ _ _) ?_
           intro x2 x5 x6 x7 x20 x21 x22
           show OKq _ _ _ [(22, x22), (21, x21), (20, x20), (7, x7), (6, x6), (5, x5), (2, x2)] _
           exact qLess [22, 21, 20, 7, 6, 5, 2] (hI4 k4 x2 x5 x6 x7 x20 x21 x22)
         · refine rExit ?_
           refine xThenX ?_
           refine xThenX ?_
           refine rOut ?_
           exact qLess [7, 6, 5, 2] (hj3 x2 x5 x6 x7)
   · exact rFail



end Go.Fw
