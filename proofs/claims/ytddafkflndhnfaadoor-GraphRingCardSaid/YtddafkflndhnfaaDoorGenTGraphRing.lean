/-
  What this law comes to.
-/
import Derived.Test.YtddafkflndhnfaaDoorGenT
set_option linter.unusedVariables false
set_option maxRecDepth 20000
namespace Go.Fw
open Go.Proofs

/-! ### haruspex/haruspexlaw5.GraphRing -/

def L5_GraphRing_env (F : Nat) : Env := envOf [(16, L5_begun_m F), (23, graph_Loops_m F), (26, graph_Parts_m F), (30, graph_Path_m F), (41, bitset_Set_Len_m F)]

noncomputable def L5_GraphRing_R (F : Nat) := rK Tryd.prog TrydG (L5_GraphRing_env F) Tryd.f14
noncomputable def L5_GraphRing_D (F : Nat) := dK Tryd.prog TrydG (L5_GraphRing_env F) Tryd.f14

def L5_GraphRing_r19 (F : Nat) (K : Value → M Value) : M Value :=
  K (.bool true)

theorem L5_GraphRing_r19_ok (F : Nat) (K : Value → M Value) : L5_GraphRing_r19 F K = L5_GraphRing_R F 19 [] [6] K := by kernel_rfl

def L5_GraphRing_k0 (F : Nat) : M Value :=
  L5_GraphRing_r19 F (fun x6 => ret x6)

def L5_GraphRing_r16 (F : Nat) (x0 x1 x10 x11 : Value) (K : Value → Value → Value → Value → M Value) : M Value :=
  bnd (opBin .add x11 (.int .i64 (1))) fun v90 => K x0 x1 x10 v90

theorem L5_GraphRing_r16_ok (F : Nat) (x0 x1 x10 x11 : Value) (K : Value → Value → Value → Value → M Value) : L5_GraphRing_r16 F x0 x1 x10 x11 K = L5_GraphRing_R F 16 [(11, x11), (10, x10), (1, x1), (0, x0)] [0, 1, 10, 11] K := by kernel_rfl

def L5_GraphRing_r18 (F : Nat) (K : Value → M Value) : M Value :=
  K (.bool false)

theorem L5_GraphRing_r18_ok (F : Nat) (K : Value → M Value) : L5_GraphRing_r18 F K = L5_GraphRing_R F 18 [] [6] K := by kernel_rfl

def L5_GraphRing_r17 (F : Nat) (x0 x1 x10 x11 : Value) (K : Value → Value → Value → Value → Value → M Value) : M Value :=
  bnd (opIndexAddr 1 x10 x11) fun v93 => bnd (opLoad v93) fun v94 => bnd (opBin .add x1 x11) fun v97 => bnd (opBin .rem v97 x0) fun v99 => bnd (opBin .neq v94 v99) fun v100 => K x0 x1 x10 x11 v100

theorem L5_GraphRing_r17_ok (F : Nat) (x0 x1 x10 x11 : Value) (K : Value → Value → Value → Value → Value → M Value) : L5_GraphRing_r17 F x0 x1 x10 x11 K = L5_GraphRing_D F 17 [0, 1, 2, 3, 4, 5, 6, 7, 8, 9] [(11, x11), (10, x10), (1, x1), (0, x0)] [0, 1, 10, 11, 100] K := by kernel_rfl

theorem L5_GraphRing_r17_good : goodOrder (opsOf Tryd.f14 17) [0, 1, 2, 3, 4, 5, 6, 7, 8, 9] = true := by kernel_rfl

def L5_GraphRing_r15 (F : Nat) (x0 x1 x10 x11 : Value) (K : Value → Value → Value → Value → Value → M Value) : M Value :=
  bnd (opLen x10) fun v87 => bnd (opBin .lss x11 v87) fun v88 => K x0 x1 x10 x11 v88

theorem L5_GraphRing_r15_ok (F : Nat) (x0 x1 x10 x11 : Value) (K : Value → Value → Value → Value → Value → M Value) : L5_GraphRing_r15 F x0 x1 x10 x11 K = L5_GraphRing_R F 15 [(11, x11), (10, x10), (1, x1), (0, x0)] [0, 1, 10, 11, 88] K := by kernel_rfl

def L5_GraphRing_b1 (F : Nat) (E1_2 : M Value) (A1 : Value → Value → Value → Value → M Value) (x0 x1 x10 x11 : Value) : M Value :=
  L5_GraphRing_r15 F x0 x1 x10 x11 (fun x0 x1 x10 x11 x88 => onB x88 (L5_GraphRing_r17 F x0 x1 x10 x11 (fun x0 x1 x10 x11 x100 => onB x100 (L5_GraphRing_r18 F (fun x6 => ret x6)) (L5_GraphRing_r16 F x0 x1 x10 x11 (fun x0 x1 x10 x11 => A1 x0 x1 x10 x11)))) (E1_2 ))

def L5_GraphRing_l1 (F : Nat) (E1_2 : M Value) : Nat → Value → Value → Value → Value → M Value
  | 0, _, _, _, _ => fail
  | k1 + 1, x0, x1, x10, x11 => L5_GraphRing_b1 F E1_2 (L5_GraphRing_l1 F E1_2 k1) x0 x1 x10 x11

theorem L5_GraphRing_l1_s (F : Nat) (E1_2 : M Value) (k1 : Nat) (x0 x1 x10 x11 : Value) : L5_GraphRing_l1 F E1_2 (k1 + 1) x0 x1 x10 x11 = L5_GraphRing_b1 F E1_2 (L5_GraphRing_l1 F E1_2 k1) x0 x1 x10 x11 := rfl

def L5_GraphRing_r14 (F : Nat) (x0 x1 x10 : Value) (K : Value → Value → Value → Value → M Value) : M Value :=
  K x0 x1 x10 (.int .i64 (0))

theorem L5_GraphRing_r14_ok (F : Nat) (x0 x1 x10 : Value) (K : Value → Value → Value → Value → M Value) : L5_GraphRing_r14 F x0 x1 x10 K = L5_GraphRing_R F 14 [(10, x10), (1, x1), (0, x0)] [0, 1, 10, 11] K := by kernel_rfl

def L5_GraphRing_r13 (F : Nat) (K : Value → M Value) : M Value :=
  K (.bool false)

theorem L5_GraphRing_r13_ok (F : Nat) (K : Value → M Value) : L5_GraphRing_r13 F K = L5_GraphRing_R F 13 [] [6] K := by kernel_rfl

def L5_GraphRing_r12 (F : Nat) (x0 x1 x2 x8 x10 : Value) (K : Value → Value → Value → Value → M Value) : M Value :=
  bnd (opLen x10) fun v62 => bnd (opBin .sub x2 x1) fun v65 => bnd (opBin .add v65 x0) fun v67 => bnd (opBin .rem v67 x0) fun v69 => bnd (opBin .add v69 (.int .i64 (1))) fun v70 => bnd (opBin .neq v62 v70) fun v71 => onB v71 (K x0 x1 x10 (.bool true)) (bnd (opLoadN 2 x8) fun v73 => bnd (graph_Parts F v73) fun v74 => bnd (opLen v74) fun v75 => bnd (opBin .neq v75 (.int .i64 (1))) fun v76 => onB v76 (K x0 x1 x10 (.bool true)) (bnd (opLoadN 2 x8) fun v79 => bnd (graph_Loops F v79) fun v80 => bnd (bitset_Set_Len F v80) fun v81 => bnd (opBin .neq v81 x0) fun v83 => K x0 x1 x10 v83))

theorem L5_GraphRing_r12_ok (F : Nat) (x0 x1 x2 x8 x10 : Value) (K : Value → Value → Value → Value → M Value) : L5_GraphRing_r12 F x0 x1 x2 x8 x10 K = L5_GraphRing_R F 12 [(10, x10), (8, x8), (2, x2), (1, x1), (0, x0)] [0, 1, 10, 84] K := by kernel_rfl

def L5_GraphRing_r11 (F : Nat) (x0 x1 x2 x8 : Value) (K : Value → Value → Value → Value → Value → M Value) : M Value :=
  bnd (opLoadN 2 x8) fun v57 => bnd (graph_Path F v57 x1 x2) fun v60 => K x0 x1 x2 x8 v60

theorem L5_GraphRing_r11_ok (F : Nat) (x0 x1 x2 x8 : Value) (K : Value → Value → Value → Value → Value → M Value) : L5_GraphRing_r11 F x0 x1 x2 x8 K = L5_GraphRing_R F 11 [(8, x8), (2, x2), (1, x1), (0, x0)] [0, 1, 2, 8, 10] K := by kernel_rfl

def L5_GraphRing_k2 (F : Nat) (x0 x1 x2 x8 : Value) : M Value :=
  L5_GraphRing_r11 F x0 x1 x2 x8 (fun x0 x1 x2 x8 x10 => L5_GraphRing_r12 F x0 x1 x2 x8 x10 (fun x0 x1 x10 x84 => onB x84 (L5_GraphRing_r13 F (fun x6 => ret x6)) (L5_GraphRing_r14 F x0 x1 x10 (fun x0 x1 x10 x11 => L5_GraphRing_l1 F (L5_GraphRing_k0 F ) F x0 x1 x10 x11))))

def L5_GraphRing_r9 (F : Nat) (x0 x1 x2 x8 x9 : Value) (K : Value → Value → Value → Value → Value → M Value) : M Value :=
  bnd (opBin .add x9 (.int .i64 (1))) fun v47 => K x0 x1 x2 x8 v47

theorem L5_GraphRing_r9_ok (F : Nat) (x0 x1 x2 x8 x9 : Value) (K : Value → Value → Value → Value → Value → M Value) : L5_GraphRing_r9 F x0 x1 x2 x8 x9 K = L5_GraphRing_R F 9 [(9, x9), (8, x8), (2, x2), (1, x1), (0, x0)] [0, 1, 2, 8, 9] K := by kernel_rfl

def L5_GraphRing_r10 (F : Nat) (x0 x1 x2 x8 x9 : Value) (K : Value → Value → Value → Value → Value → M Value) : M Value :=
  bnd (opFieldAddr 1 x8) fun v48 => bnd (opLoad v48) fun v49 => bnd (opBin .add x9 (.int .i64 (1))) fun v52 => bnd (opBin .rem v52 x0) fun v54 => bnd (opBuildSlice 1 (rep 1 [(.int .i64 (0))]) [(0, 1, false, v54)]) fun v55 => bnd (opIndexAddr 1 v49 x9) fun v56 => bnd (opStore v56 v55) fun _ => K x0 x1 x2 x8 x9

theorem L5_GraphRing_r10_ok (F : Nat) (x0 x1 x2 x8 x9 : Value) (K : Value → Value → Value → Value → Value → M Value) : L5_GraphRing_r10 F x0 x1 x2 x8 x9 K = L5_GraphRing_D F 10 [0, 1, 2, 3, 4, 5, 6, 7, 8, 9] [(9, x9), (8, x8), (2, x2), (1, x1), (0, x0)] [0, 1, 2, 8, 9] K := by kernel_rfl

theorem L5_GraphRing_r10_good : goodOrder (opsOf Tryd.f14 10) [0, 1, 2, 3, 4, 5, 6, 7, 8, 9] = true := by kernel_rfl

def L5_GraphRing_r8 (F : Nat) (x0 x1 x2 x8 x9 : Value) (K : Value → Value → Value → Value → Value → Value → M Value) : M Value :=
  bnd (opBin .lss x9 x0) fun v45 => K x0 x1 x2 x8 x9 v45

theorem L5_GraphRing_r8_ok (F : Nat) (x0 x1 x2 x8 x9 : Value) (K : Value → Value → Value → Value → Value → Value → M Value) : L5_GraphRing_r8 F x0 x1 x2 x8 x9 K = L5_GraphRing_R F 8 [(9, x9), (8, x8), (2, x2), (1, x1), (0, x0)] [0, 1, 2, 8, 9, 45] K := by kernel_rfl

def L5_GraphRing_b3 (F : Nat) (E3_0 : Value → Value → Value → Value → M Value) (A3 : Value → Value → Value → Value → Value → M Value) (x0 x1 x2 x8 x9 : Value) : M Value :=
  L5_GraphRing_r8 F x0 x1 x2 x8 x9 (fun x0 x1 x2 x8 x9 x45 => onB x45 (L5_GraphRing_r10 F x0 x1 x2 x8 x9 (fun x0 x1 x2 x8 x9 => L5_GraphRing_r9 F x0 x1 x2 x8 x9 (fun x0 x1 x2 x8 x9 => A3 x0 x1 x2 x8 x9))) (E3_0 x0 x1 x2 x8))

def L5_GraphRing_l3 (F : Nat) (E3_0 : Value → Value → Value → Value → M Value) : Nat → Value → Value → Value → Value → Value → M Value
  | 0, _, _, _, _, _ => fail
  | k3 + 1, x0, x1, x2, x8, x9 => L5_GraphRing_b3 F E3_0 (L5_GraphRing_l3 F E3_0 k3) x0 x1 x2 x8 x9

theorem L5_GraphRing_l3_s (F : Nat) (E3_0 : Value → Value → Value → Value → M Value) (k3 : Nat) (x0 x1 x2 x8 x9 : Value) : L5_GraphRing_l3 F E3_0 (k3 + 1) x0 x1 x2 x8 x9 = L5_GraphRing_b3 F E3_0 (L5_GraphRing_l3 F E3_0 k3) x0 x1 x2 x8 x9 := rfl

def L5_GraphRing_r7 (F : Nat) (x0 x1 x2 x8 : Value) (K : Value → Value → Value → Value → Value → M Value) : M Value :=
  K x0 x1 x2 x8 (.int .i64 (0))

theorem L5_GraphRing_r7_ok (F : Nat) (x0 x1 x2 x8 : Value) (K : Value → Value → Value → Value → Value → M Value) : L5_GraphRing_r7 F x0 x1 x2 x8 K = L5_GraphRing_R F 7 [(8, x8), (2, x2), (1, x1), (0, x0)] [0, 1, 2, 8, 9] K := by kernel_rfl

def L5_GraphRing_r6 (F : Nat) (x0 x1 x2 : Value) (K : Value → Value → Value → Value → M Value) : M Value :=
  bnd (opMake 24 [(.slice none 0 0)] x0 x0) fun v41 => bnd (opBuild [(.int .i64 (0)), (.slice none 0 0)] [(0, 1, false, x0), (1, 1, false, v41)]) fun v42 => bnd (opPtr [(.int .i64 (0)), (.slice none 0 0)]) fun v8 => bnd (opStoreN 2 v8 v42) fun _ => K x0 x1 x2 v8

theorem L5_GraphRing_r6_ok (F : Nat) (x0 x1 x2 : Value) (K : Value → Value → Value → Value → M Value) : L5_GraphRing_r6 F x0 x1 x2 K = L5_GraphRing_R F 6 [(2, x2), (1, x1), (0, x0)] [0, 1, 2, 8] K := by kernel_rfl

def L5_GraphRing_r5 (F : Nat) (K : Value → M Value) : M Value :=
  K (.bool true)

theorem L5_GraphRing_r5_ok (F : Nat) (K : Value → M Value) : L5_GraphRing_r5 F K = L5_GraphRing_R F 5 [] [6] K := by kernel_rfl

def L5_GraphRing_r4 (F : Nat) (x0 x1 x2 : Value) (K : Value → Value → Value → Value → M Value) : M Value :=
  bnd (opBin .lss x0 (.int .i64 (1))) fun v16 => onB v16 (K x0 x1 x2 (.bool true)) (bnd (opBin .gtr x0 (.int .i64 (100))) fun v19 => onB v19 (K x0 x1 x2 (.bool true)) (bnd (opBin .lss x1 (.int .i64 (0))) fun v23 => onB v23 (K x0 x1 x2 (.bool true)) (bnd (opBin .geq x1 x0) fun v28 => onB v28 (K x0 x1 x2 (.bool true)) (bnd (opBin .lss x2 (.int .i64 (0))) fun v32 => onB v32 (K x0 x1 x2 (.bool true)) (bnd (opBin .geq x2 x0) fun v37 => K x0 x1 x2 v37)))))

theorem L5_GraphRing_r4_ok (F : Nat) (x0 x1 x2 : Value) (K : Value → Value → Value → Value → M Value) : L5_GraphRing_r4 F x0 x1 x2 K = L5_GraphRing_R F 4 [(2, x2), (1, x1), (0, x0)] [0, 1, 2, 38] K := by kernel_rfl

def L5_GraphRing_r3 (F : Nat) (K : Value → M Value) : M Value :=
  K (.bool false)

theorem L5_GraphRing_r3_ok (F : Nat) (K : Value → M Value) : L5_GraphRing_r3 F K = L5_GraphRing_R F 3 [] [6] K := by kernel_rfl

def L5_GraphRing_r2 (F : Nat) (x0 x1 x2 x7 : Value) (K : Value → Value → Value → Value → M Value) : M Value :=
  bnd (opNot x7) fun v14 => K x0 x1 x2 v14

theorem L5_GraphRing_r2_ok (F : Nat) (x0 x1 x2 x7 : Value) (K : Value → Value → Value → Value → M Value) : L5_GraphRing_r2 F x0 x1 x2 x7 K = L5_GraphRing_R F 2 [(7, x7), (2, x2), (1, x1), (0, x0)] [0, 1, 2, 14] K := by kernel_rfl

def L5_GraphRing_r1 (F : Nat) (x0 x1 x2 : Value) (K : Value → Value → Value → Value → M Value) : M Value :=
  bnd (L5_begun F) fun v12 => K x0 x1 x2 v12

theorem L5_GraphRing_r1_ok (F : Nat) (x0 x1 x2 : Value) (K : Value → Value → Value → Value → M Value) : L5_GraphRing_r1 F x0 x1 x2 K = L5_GraphRing_R F 1 [(2, x2), (1, x1), (0, x0)] [0, 1, 2, 7] K := by kernel_rfl

def L5_GraphRing_r0 (F : Nat) (x0 x1 x2 : Value) (K : Value → Value → Value → M Value) : M Value :=
  K x0 x1 x2

theorem L5_GraphRing_r0_ok (F : Nat) (x0 x1 x2 : Value) (K : Value → Value → Value → M Value) : L5_GraphRing_r0 F x0 x1 x2 K = L5_GraphRing_R F 0 [(2, x2), (1, x1), (0, x0)] [0, 1, 2] K := by kernel_rfl

def L5_GraphRing (F : Nat) (x0 x1 x2 : Value) : M Value :=
  L5_GraphRing_r0 F x0 x1 x2 (fun x0 x1 x2 => L5_GraphRing_r1 F x0 x1 x2 (fun x0 x1 x2 x7 => L5_GraphRing_r2 F x0 x1 x2 x7 (fun x0 x1 x2 x14 => onB x14 (L5_GraphRing_r3 F (fun x6 => ret x6)) (L5_GraphRing_r4 F x0 x1 x2 (fun x0 x1 x2 x38 => onB x38 (L5_GraphRing_r5 F (fun x6 => ret x6)) (L5_GraphRing_r6 F x0 x1 x2 (fun x0 x1 x2 x8 => L5_GraphRing_r7 F x0 x1 x2 x8 (fun x0 x1 x2 x8 x9 => L5_GraphRing_l3 F (fun x0 x1 x2 x8 => L5_GraphRing_k2 F x0 x1 x2 x8) F x0 x1 x2 x8 x9))))))))

def L5_GraphRing_m (F : Nat) : List Value → M Value
  | [x0, x1, x2] => L5_GraphRing F x0 x1 x2
  | _ => fail

theorem L5_GraphRing_body : Tryd.f14.body = some (.seq (.region 0 (opsOf Tryd.f14 0) false) (.seq (.region 1 (opsOf Tryd.f14 1) false) (.seq (.seq (.region 2 (opsOf Tryd.f14 2) false) (.cond (.tmp 14) (.seq (.region 3 (opsOf Tryd.f14 3) false) .ret) .skip)) (.seq (.seq (.region 4 (opsOf Tryd.f14 4) false) (.cond (.tmp 38) (.seq (.region 5 (opsOf Tryd.f14 5) false) .ret) .skip)) (.seq (.region 6 (opsOf Tryd.f14 6) false) (.seq (.seq (.region 7 (opsOf Tryd.f14 7) false) (.block 0 (.loop (.seq (.seq (.region 8 (opsOf Tryd.f14 8) false) (.cond (.tmp 45) .skip (.exit 0))) (.seq (.block 1 (.region 10 (opsOf Tryd.f14 10) true)) (.region 9 (opsOf Tryd.f14 9) false)))))) (.seq (.region 11 (opsOf Tryd.f14 11) false) (.seq (.seq (.region 12 (opsOf Tryd.f14 12) false) (.cond (.tmp 84) (.seq (.region 13 (opsOf Tryd.f14 13) false) .ret) .skip)) (.seq (.seq (.region 14 (opsOf Tryd.f14 14) false) (.block 2 (.loop (.seq (.seq (.region 15 (opsOf Tryd.f14 15) false) (.cond (.tmp 88) .skip (.exit 2))) (.seq (.block 3 (.seq (.region 17 (opsOf Tryd.f14 17) true) (.cond (.tmp 100) (.seq (.region 18 (opsOf Tryd.f14 18) false) .ret) .skip))) (.region 16 (opsOf Tryd.f14 16) false)))))) (.seq (.region 19 (opsOf Tryd.f14 19) false) .ret)))))))))) := by kernel_rfl

theorem L5_GraphRing_ok (F : Nat) : Sim Tryd.prog TrydG 14 (L5_GraphRing_m F) := by
 have hE : EnvOK Tryd.prog TrydG (L5_GraphRing_env F) := (EnvOK.cons (L5_begun_ok F) (EnvOK.cons (graph_Loops_ok F) (EnvOK.cons (graph_Parts_ok F) (EnvOK.cons (graph_Path_ok F) (EnvOK.cons (bitset_Set_Len_ok F) EnvOK.nil)))))
 refine Sim.of_body (E := L5_GraphRing_env F) Tryd.func14 L5_GraphRing_body Tryd.call14 ?_ ?_
 · intro args hl; unfold L5_GraphRing_m; split
   · exact absurd hl (Nat.not_lt.2 (Nat.le_of_ble_eq_true rfl))
   · rfl
 · intro args ρ h w z; unfold L5_GraphRing_m; split
   · rename_i x0 x1 x2; show OKc _ _ [(0, x0), (1, x1), (2, x2)] _ _
     refine rSeq ?_
     refine cLess [2, 1, 0] ?_
     refine xR hE [0, 1, 2] rfl (L5_GraphRing_r0_ok F _ _ _ _) ?_
     intro x0 x1 x2
     show OKq _ _ _ [(2, x2), (1, x1), (0, x0)] _
     refine rThen ?_
     refine rSeq ?_
     refine cLess [2, 1, 0] ?_
     refine xR hE [0, 1, 2, 7] rfl (L5_GraphRing_r1_ok F _ _ _ _) ?_
     intro x0 x1 x2 x7
     show OKq _ _ _ [(7, x7), (2, x2), (1, x1), (0, x0)] _
     refine rThen ?_
     refine rSeq ?_
     refine rSeq ?_
     refine cLess [7, 2, 1, 0] ?_
     refine xR hE [0, 1, 2, 14] rfl (L5_GraphRing_r2_ok F _ _ _ _ _) ?_
     intro x0 x1 x2 x14
     show OKq _ _ _ [(14, x14), (2, x2), (1, x1), (0, x0)] _
     refine rThen ?_
     refine xCond rfl rfl ?_ ?_
     · refine rSeq ?_
       refine cLess [] ?_
       refine xR hE [6] rfl (L5_GraphRing_r3_ok F _) ?_
       intro x6
       show OKq _ _ _ [(6, x6)] _
       refine rThen ?_
       refine rRet ?_
       refine xThenR ?_
       exact rDone (.inr rfl) rfl
     · refine rSkip ?_
       refine rThen ?_
       refine rSeq ?_
       refine rSeq ?_
       refine cLess [2, 1, 0] ?_
       refine xR hE [0, 1, 2, 38] rfl (L5_GraphRing_r4_ok F _ _ _ _) ?_
       intro x0 x1 x2 x38
       show OKq _ _ _ [(38, x38), (2, x2), (1, x1), (0, x0)] _
       refine rThen ?_
       refine xCond rfl rfl ?_ ?_
       · refine rSeq ?_
         refine cLess [] ?_
         refine xR hE [6] rfl (L5_GraphRing_r5_ok F _) ?_
         intro x6
         show OKq _ _ _ [(6, x6)] _
         refine rThen ?_
         refine rRet ?_
         refine xThenR ?_
         exact rDone (.inr rfl) rfl
       · refine rSkip ?_
         refine rThen ?_
         refine rSeq ?_
         refine cLess [2, 1, 0] ?_
         refine xR hE [0, 1, 2, 8] rfl (L5_GraphRing_r6_ok F _ _ _ _) ?_
         intro x0 x1 x2 x8
         show OKq _ _ _ [(8, x8), (2, x2), (1, x1), (0, x0)] _
         refine rThen ?_
         refine xSeq [0, 1, 2, 8] (L5_GraphRing_k2 F ) ?_ fun hj2 => ?_
         · intro x0 x1 x2 x8
           show OKc _ _ [(8, x8), (2, x2), (1, x1), (0, x0)] _ _
           refine rSeq ?_
           refine cLess [8, 2, 1, 0] ?_
           refine xR hE [0, 1, 2, 8, 10] rfl (L5_GraphRing_r11_ok F _ _ _ _ _) ?_
           intro x0 x1 x2 x8 x10
           show OKq _ _ _ [(10, x10), (8, x8), (2, x2), (1, x1), (0, x0)] _
           refine rThen ?_
           refine rSeq ?_
           refine rSeq ?_
           refine cLess [10, 8, 2, 1, 0] ?_
           refine xR hE [0, 1, 10, 84] rfl (L5_GraphRing_r12_ok F _ _ _ _ _ _) ?_
           intro x0 x1 x10 x84
           show OKq _ _ _ [(84, x84), (10, x10), (1, x1), (0, x0)] _
           refine rThen ?_
           refine xCond rfl rfl ?_ ?_
           · refine rSeq ?_
             refine cLess [] ?_
             refine xR hE [6] rfl (L5_GraphRing_r13_ok F _) ?_
             intro x6
             show OKq _ _ _ [(6, x6)] _
             refine rThen ?_
             refine rRet ?_
             refine xThenR ?_
             exact rDone (.inr rfl) rfl
           · refine rSkip ?_
             refine rThen ?_
             refine xSeq [] (L5_GraphRing_k0 F ) ?_ fun hj0 => ?_
             · show OKc _ _ [] _ _
               refine rSeq ?_
               refine cLess [] ?_
               refine xR hE [6] rfl (L5_GraphRing_r19_ok F _) ?_
               intro x6
               show OKq _ _ _ [(6, x6)] _
               refine rThen ?_
               refine rRet ?_
               exact rDone (.inr rfl) rfl
             · refine rSeq ?_
               refine cLess [10, 1, 0] ?_
               refine xR hE [0, 1, 10, 11] rfl (L5_GraphRing_r14_ok F _ _ _ _) ?_
               intro x0 x1 x10 x11
               show OKq _ _ _ [(11, x11), (10, x10), (1, x1), (0, x0)] _
               refine rThen ?_
               refine rBlock ?_
               refine cLess [11, 10, 1, 0] ?_
               refine xLoopAt [0, 1, 10, 11] [] (fun k1 => L5_GraphRing_l1 F (L5_GraphRing_k0 F ) k1) F [x0, x1, x10, x11] rfl rfl (fun _ _ _ _ => rfl) fun I hI1 k1 => ?_
               intro x0 x1 x10 x11
               show OKc _ _ [(11, x11), (10, x10), (1, x1), (0, x0)] _ _
               refine cAs (L5_GraphRing_l1_s F _ _ _ _ _ _) ?_
               refine rSeq ?_
               refine rSeq ?_
               refine cLess [11, 10, 1, 0] ?_
               refine xR hE [0, 1, 10, 11, 88] rfl (L5_GraphRing_r15_ok F _ _ _ _ _) ?_
               intro x0 x1 x10 x11 x88
               show OKq _ _ _ [(88, x88), (11, x11), (10, x10), (1, x1), (0, x0)] _
               refine rThen ?_
               refine xCond rfl rfl ?_ ?_
               · refine rSkip ?_
                 refine rThen ?_
                 refine rSeq ?_
                 refine rBlock ?_
                 refine rSeq ?_
                 refine cLess [11, 10, 1, 0] ?_
                 refine xD Trydmix hE [0, 1, 10, 11, 100] rfl L5_GraphRing_r17_good (L5_GraphRing_r17_ok F _ _ _ _ _) ?_
                 intro x0 x1 x10 x11 x100
                 show OKq _ _ _ [(100, x100), (11, x11), (10, x10), (1, x1), (0, x0)] _
                 refine rThen ?_
                 refine xCond rfl rfl ?_ ?_
                 · refine rSeq ?_
                   refine cLess [] ?_
                   refine xR hE [6] rfl (L5_GraphRing_r18_ok F _) ?_
                   intro x6
                   show OKq _ _ _ [(6, x6)] _
                   refine rThen ?_
                   refine rRet ?_
                   refine xBlockR ?_
                   refine xThenR ?_
                   refine xThenR ?_
                   refine xBlockR ?_
                   refine xThenR ?_
                   exact rDone (.inr rfl) rfl
                 · refine rSkip ?_
                   refine xBlockN ?_
                   refine rThen ?_
                   refine cLess [11, 10, 1, 0] ?_
                   refine xR hE [0, 1, 10, 11] rfl (L5_GraphRing_r16_ok F _ _ _ _ _) ?_
                   intro x0 x1 x10 x11
                   show OKq _ _ _ [(11, x11), (10, x10), (1, x1), (0, x0)] _
                   exact qLess [11, 10, 1, 0] (hI1 k1 x0 x1 x10 x11)
               · refine rExit ?_
                 refine xThenX ?_
                 refine xThenX ?_
                 refine rOut ?_
                 exact qLess [] (hj0 )
         · refine rSeq ?_
           refine cLess [8, 2, 1, 0] ?_
           refine xR hE [0, 1, 2, 8, 9] rfl (L5_GraphRing_r7_ok F _ _ _ _ _) ?_
           intro x0 x1 x2 x8 x9
           show OKq _ _ _ [(9, x9), (8, x8), (2, x2), (1, x1), (0, x0)] _
           refine rThen ?_
           refine rBlock ?_
           refine cLess [9, 8, 2, 1, 0] ?_
           refine xLoopAt [0, 1, 2, 8, 9] [] (fun k3 => L5_GraphRing_l3 F (fun x0 x1 x2 x8 => L5_GraphRing_k2 F x0 x1 x2 x8) k3) F [x0, x1, x2, x8, x9] rfl rfl (fun _ _ _ _ _ => rfl) fun I hI3 k3 => ?_
           intro x0 x1 x2 x8 x9
           show OKc _ _ [(9, x9), (8, x8), (2, x2), (1, x1), (0, x0)] _ _
           refine cAs (L5_GraphRing_l3_s F _ _ _ _ _ _ _) ?_
           refine rSeq ?_
           refine rSeq ?_
           refine cLess [9, 8, 2, 1, 0] ?_
           refine xR hE [0, 1, 2, 8, 9, 45] rfl (L5_GraphRing_r8_ok F _ _ _ _ _ _) ?_
           intro x0 x1 x2 x8 x9 x45
           show OKq _ _ _ [(45, x45), (9, x9), (8, x8), (2, x2), (1, x1), (0, x0)] _
           refine rThen ?_
           refine xCond rfl rfl ?_ ?_
           · refine rSkip ?_
             refine rThen ?_
             refine rSeq ?_
             refine rBlock ?_
             refine cLess [9, 8, 2, 1, 0] ?_
             refine xD Trydmix hE [0, 1, 2, 8, 9] rfl L5_GraphRing_r10_good (L5_GraphRing_r10_ok F _ _ _ _ _ _) ?_
             intro x0 x1 x2 x8 x9
             show OKq _ _ _ [(9, x9), (8, x8), (2, x2), (1, x1), (0, x0)] _
             refine xBlockN ?_
             refine rThen ?_
             refine cLess [9, 8, 2, 1, 0] ?_
             refine xR hE [0, 1, 2, 8, 9] rfl (L5_GraphRing_r9_ok F _ _ _ _ _ _) ?_
             intro x0 x1 x2 x8 x9
             show OKq _ _ _ [(9, x9), (8, x8), (2, x2), (1, x1), (0, x0)] _
             exact qLess [9, 8, 2, 1, 0] (hI3 k3 x0 x1 x2 x8 x9)
           · refine rExit ?_
             refine xThenX ?_
             refine xThenX ?_
             refine rOut ?_
             exact qLess [8, 2, 1, 0] (hj2 x0 x1 x2 x8)
   · exact rFail


end Go.Fw
