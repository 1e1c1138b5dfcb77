/-
  What this law comes to.
-/
import Derived.Test.YtddafkflndhnfaaDoorGenD
set_option linter.unusedVariables false
set_option maxRecDepth 20000
namespace Go.Fw
open Go.Proofs

/-! ### haruspex/haruspexlaw5.GraphGreat -/

def L5_GraphGreat_env (F : Nat) : Env := envOf [(16, L5_begun_m F), (18, R1_Eq_m F), (19, graph_Reach_m F), (28, graph_Order_m F), (30, graph_Path_m F), (40, graph_May_m F), (41, bitset_Set_Len_m F)]

noncomputable def L5_GraphGreat_R (F : Nat) := rK Tryd.prog TrydG (L5_GraphGreat_env F) Tryd.f15
noncomputable def L5_GraphGreat_D (F : Nat) := dK Tryd.prog TrydG (L5_GraphGreat_env F) Tryd.f15

def L5_GraphGreat_r22 (F : Nat) (x0 x4 x7 : Value) (K : Value → M Value) : M Value :=
  bnd (opLen x7) fun v65 => bnd (opBin .eql v65 x0) fun v67 => onB v67 (bnd (opLoadN 2 x4) fun v69 => bnd (opBuildSlice 1 (rep 1 [(.int .i64 (0))]) [(0, 1, false, (.int .i64 (0)))]) fun v70 => bnd (graph_Reach F v69 v70) fun v71 => bnd (bitset_Set_Len F v71) fun v72 => bnd (opBin .eql v72 x0) fun v74 => onB v74 (bnd (opLoadN 2 x4) fun v77 => bnd (opBin .sub x0 (.int .i64 (1))) fun v79 => bnd (graph_Path F v77 (.int .i64 (0)) v79) fun v80 => bnd (opLen v80) fun v81 => bnd (opBin .eql v81 x0) fun v83 => onB v83 (bnd (opLoadN 2 x4) fun v86 => bnd (opBin .sub x0 (.int .i64 (1))) fun v88 => bnd (graph_Path F v86 v88 (.int .i64 (0))) fun v89 => bnd (R1_Eq F v89 (.slice none 0 0)) fun v90 => bnd (opBin .gtr x0 (.int .i64 (1))) fun v92 => bnd (opEq eqB false v90 v92) fun v93 => K v93) (K (.bool false))) (K (.bool false))) (K (.bool false))

theorem L5_GraphGreat_r22_ok (F : Nat) (x0 x4 x7 : Value) (K : Value → M Value) : L5_GraphGreat_r22 F x0 x4 x7 K = L5_GraphGreat_R F 22 [(7, x7), (4, x4), (0, x0)] [2] K := by kernel_rfl

def L5_GraphGreat_k0 (F : Nat) (x0 x4 x7 : Value) : M Value :=
  L5_GraphGreat_r22 F x0 x4 x7 (fun x2 => ret x2)

def L5_GraphGreat_r19 (F : Nat) (x0 x4 x7 x8 : Value) (K : Value → Value → Value → Value → M Value) : M Value :=
  bnd (opBin .add x8 (.int .i64 (1))) fun v57 => K x0 x4 x7 v57

theorem L5_GraphGreat_r19_ok (F : Nat) (x0 x4 x7 x8 : Value) (K : Value → Value → Value → Value → M Value) : L5_GraphGreat_r19 F x0 x4 x7 x8 K = L5_GraphGreat_R F 19 [(8, x8), (7, x7), (4, x4), (0, x0)] [0, 4, 7, 8] K := by kernel_rfl

def L5_GraphGreat_r21 (F : Nat) (K : Value → M Value) : M Value :=
  K (.bool false)

theorem L5_GraphGreat_r21_ok (F : Nat) (K : Value → M Value) : L5_GraphGreat_r21 F K = L5_GraphGreat_R F 21 [] [2] K := by kernel_rfl

def L5_GraphGreat_r20 (F : Nat) (x0 x4 x7 x8 : Value) (K : Value → Value → Value → Value → Value → M Value) : M Value :=
  bnd (opIndexAddr 1 x7 x8) fun v60 => bnd (opLoad v60) fun v61 => bnd (opBin .neq v61 x8) fun v63 => K x0 x4 x7 x8 v63

theorem L5_GraphGreat_r20_ok (F : Nat) (x0 x4 x7 x8 : Value) (K : Value → Value → Value → Value → Value → M Value) : L5_GraphGreat_r20 F x0 x4 x7 x8 K = L5_GraphGreat_R F 20 [(8, x8), (7, x7), (4, x4), (0, x0)] [0, 4, 7, 8, 63] K := by kernel_rfl

def L5_GraphGreat_r18 (F : Nat) (x0 x4 x7 x8 : Value) (K : Value → Value → Value → Value → Value → M Value) : M Value :=
  bnd (opBin .lss x8 x0) fun v55 => K x0 x4 x7 x8 v55

theorem L5_GraphGreat_r18_ok (F : Nat) (x0 x4 x7 x8 : Value) (K : Value → Value → Value → Value → Value → M Value) : L5_GraphGreat_r18 F x0 x4 x7 x8 K = L5_GraphGreat_R F 18 [(8, x8), (7, x7), (4, x4), (0, x0)] [0, 4, 7, 8, 55] K := by kernel_rfl

def L5_GraphGreat_b1 (F : Nat) (E1_2 : Value → Value → Value → M Value) (A1 : Value → Value → Value → Value → M Value) (x0 x4 x7 x8 : Value) : M Value :=
  L5_GraphGreat_r18 F x0 x4 x7 x8 (fun x0 x4 x7 x8 x55 => onB x55 (L5_GraphGreat_r20 F x0 x4 x7 x8 (fun x0 x4 x7 x8 x63 => onB x63 (L5_GraphGreat_r21 F (fun x2 => ret x2)) (L5_GraphGreat_r19 F x0 x4 x7 x8 (fun x0 x4 x7 x8 => A1 x0 x4 x7 x8)))) (E1_2 x0 x4 x7))

def L5_GraphGreat_l1 (F : Nat) (E1_2 : Value → Value → Value → M Value) : Nat → Value → Value → Value → Value → M Value
  | 0, _, _, _, _ => fail
  | k1 + 1, x0, x4, x7, x8 => L5_GraphGreat_b1 F E1_2 (L5_GraphGreat_l1 F E1_2 k1) x0 x4 x7 x8

theorem L5_GraphGreat_l1_s (F : Nat) (E1_2 : Value → Value → Value → M Value) (k1 : Nat) (x0 x4 x7 x8 : Value) : L5_GraphGreat_l1 F E1_2 (k1 + 1) x0 x4 x7 x8 = L5_GraphGreat_b1 F E1_2 (L5_GraphGreat_l1 F E1_2 k1) x0 x4 x7 x8 := rfl

def L5_GraphGreat_r17 (F : Nat) (x0 x4 x7 : Value) (K : Value → Value → Value → Value → M Value) : M Value :=
  K x0 x4 x7 (.int .i64 (0))

theorem L5_GraphGreat_r17_ok (F : Nat) (x0 x4 x7 : Value) (K : Value → Value → Value → Value → M Value) : L5_GraphGreat_r17 F x0 x4 x7 K = L5_GraphGreat_R F 17 [(7, x7), (4, x4), (0, x0)] [0, 4, 7, 8] K := by kernel_rfl

def L5_GraphGreat_r16 (F : Nat) (x0 x4 : Value) (K : Value → Value → Value → M Value) : M Value :=
  bnd (opLoadN 2 x4) fun v51 => bnd (graph_Order F v51 (.int .i64 (0))) fun v52 => K x0 x4 v52

theorem L5_GraphGreat_r16_ok (F : Nat) (x0 x4 : Value) (K : Value → Value → Value → M Value) : L5_GraphGreat_r16 F x0 x4 K = L5_GraphGreat_R F 16 [(4, x4), (0, x0)] [0, 4, 7] K := by kernel_rfl

def L5_GraphGreat_r15 (F : Nat) (x4 : Value) (K : Value → M Value) : M Value :=
  bnd (opLoadN 2 x4) fun v47 => bnd (graph_Order F v47 (.int .i64 (0))) fun v48 => bnd (opLen v48) fun v49 => bnd (opBin .eql v49 (.int .i64 (0))) fun v50 => K v50

theorem L5_GraphGreat_r15_ok (F : Nat) (x4 : Value) (K : Value → M Value) : L5_GraphGreat_r15 F x4 K = L5_GraphGreat_R F 15 [(4, x4)] [2] K := by kernel_rfl

def L5_GraphGreat_r14 (F : Nat) (x0 x4 x6 : Value) (K : Value → Value → Value → M Value) : M Value :=
  bnd (opNot x6) fun v42 => onB v42 (K x0 x4 (.bool true)) (bnd (opBin .eql x0 (.int .i64 (0))) fun v45 => K x0 x4 v45)

theorem L5_GraphGreat_r14_ok (F : Nat) (x0 x4 x6 : Value) (K : Value → Value → Value → M Value) : L5_GraphGreat_r14 F x0 x4 x6 K = L5_GraphGreat_R F 14 [(6, x6), (4, x4), (0, x0)] [0, 4, 46] K := by kernel_rfl

def L5_GraphGreat_r13 (F : Nat) (K : Value → M Value) : M Value :=
  K (.bool false)

theorem L5_GraphGreat_r13_ok (F : Nat) (K : Value → M Value) : L5_GraphGreat_r13 F K = L5_GraphGreat_R F 13 [] [2] K := by kernel_rfl

def L5_GraphGreat_r12 (F : Nat) (x0 x4 x6 : Value) (K : Value → Value → Value → Value → M Value) : M Value :=
  bnd (opLoadN 2 x4) fun v37 => bnd (graph_May F v37) fun v38 => bnd (opEq eqB true v38 x6) fun v40 => K x0 x4 x6 v40

theorem L5_GraphGreat_r12_ok (F : Nat) (x0 x4 x6 : Value) (K : Value → Value → Value → Value → M Value) : L5_GraphGreat_r12 F x0 x4 x6 K = L5_GraphGreat_R F 12 [(6, x6), (4, x4), (0, x0)] [0, 4, 6, 40] K := by kernel_rfl

def L5_GraphGreat_r11 (F : Nat) (x0 x4 : Value) (K : Value → Value → Value → M Value) : M Value :=
  bnd (opBin .leq x0 (.int .i64 (600))) fun v36 => K x0 x4 v36

theorem L5_GraphGreat_r11_ok (F : Nat) (x0 x4 : Value) (K : Value → Value → Value → M Value) : L5_GraphGreat_r11 F x0 x4 K = L5_GraphGreat_R F 11 [(4, x4), (0, x0)] [0, 4, 6] K := by kernel_rfl

def L5_GraphGreat_k2 (F : Nat) (x0 x4 : Value) : M Value :=
  L5_GraphGreat_r11 F x0 x4 (fun x0 x4 x6 => L5_GraphGreat_r12 F x0 x4 x6 (fun x0 x4 x6 x40 => onB x40 (L5_GraphGreat_r13 F (fun x2 => ret x2)) (L5_GraphGreat_r14 F x0 x4 x6 (fun x0 x4 x46 => onB x46 (L5_GraphGreat_r15 F x4 (fun x2 => ret x2)) (L5_GraphGreat_r16 F x0 x4 (fun x0 x4 x7 => L5_GraphGreat_r17 F x0 x4 x7 (fun x0 x4 x7 x8 => L5_GraphGreat_l1 F (fun x0 x4 x7 => L5_GraphGreat_k0 F x0 x4 x7) F x0 x4 x7 x8)))))))

def L5_GraphGreat_r9 (F : Nat) (x0 x4 x5 : Value) (K : Value → Value → Value → M Value) : M Value :=
  bnd (opBin .add x5 (.int .i64 (1))) fun v27 => K x0 x4 v27

theorem L5_GraphGreat_r9_ok (F : Nat) (x0 x4 x5 : Value) (K : Value → Value → Value → M Value) : L5_GraphGreat_r9 F x0 x4 x5 K = L5_GraphGreat_R F 9 [(5, x5), (4, x4), (0, x0)] [0, 4, 5] K := by kernel_rfl

def L5_GraphGreat_r10 (F : Nat) (x0 x4 x5 : Value) (K : Value → Value → Value → M Value) : M Value :=
  bnd (opFieldAddr 1 x4) fun v28 => bnd (opLoad v28) fun v29 => bnd (opBin .add x5 (.int .i64 (1))) fun v32 => bnd (opBuildSlice 1 (rep 1 [(.int .i64 (0))]) [(0, 1, false, v32)]) fun v33 => bnd (opIndexAddr 1 v29 x5) fun v34 => bnd (opStore v34 v33) fun _ => K x0 x4 x5

theorem L5_GraphGreat_r10_ok (F : Nat) (x0 x4 x5 : Value) (K : Value → Value → Value → M Value) : L5_GraphGreat_r10 F x0 x4 x5 K = L5_GraphGreat_R F 10 [(5, x5), (4, x4), (0, x0)] [0, 4, 5] K := by kernel_rfl

def L5_GraphGreat_r8 (F : Nat) (x0 x4 x5 : Value) (K : Value → Value → Value → Value → M Value) : M Value :=
  bnd (opBin .add x5 (.int .i64 (1))) fun v23 => bnd (opBin .lss v23 x0) fun v25 => K x0 x4 x5 v25

theorem L5_GraphGreat_r8_ok (F : Nat) (x0 x4 x5 : Value) (K : Value → Value → Value → Value → M Value) : L5_GraphGreat_r8 F x0 x4 x5 K = L5_GraphGreat_R F 8 [(5, x5), (4, x4), (0, x0)] [0, 4, 5, 25] K := by kernel_rfl

def L5_GraphGreat_b3 (F : Nat) (E3_0 : Value → Value → M Value) (A3 : Value → Value → Value → M Value) (x0 x4 x5 : Value) : M Value :=
  L5_GraphGreat_r8 F x0 x4 x5 (fun x0 x4 x5 x25 => onB x25 (L5_GraphGreat_r10 F x0 x4 x5 (fun x0 x4 x5 => L5_GraphGreat_r9 F x0 x4 x5 (fun x0 x4 x5 => A3 x0 x4 x5))) (E3_0 x0 x4))

def L5_GraphGreat_l3 (F : Nat) (E3_0 : Value → Value → M Value) : Nat → Value → Value → Value → M Value
  | 0, _, _, _ => fail
  | k3 + 1, x0, x4, x5 => L5_GraphGreat_b3 F E3_0 (L5_GraphGreat_l3 F E3_0 k3) x0 x4 x5

theorem L5_GraphGreat_l3_s (F : Nat) (E3_0 : Value → Value → M Value) (k3 : Nat) (x0 x4 x5 : Value) : L5_GraphGreat_l3 F E3_0 (k3 + 1) x0 x4 x5 = L5_GraphGreat_b3 F E3_0 (L5_GraphGreat_l3 F E3_0 k3) x0 x4 x5 := rfl

def L5_GraphGreat_r7 (F : Nat) (x0 x4 : Value) (K : Value → Value → Value → M Value) : M Value :=
  K x0 x4 (.int .i64 (0))

theorem L5_GraphGreat_r7_ok (F : Nat) (x0 x4 : Value) (K : Value → Value → Value → M Value) : L5_GraphGreat_r7 F x0 x4 K = L5_GraphGreat_R F 7 [(4, x4), (0, x0)] [0, 4, 5] K := by kernel_rfl

def L5_GraphGreat_r6 (F : Nat) (x0 : Value) (K : Value → Value → M Value) : M Value :=
  bnd (opMake 24 [(.slice none 0 0)] x0 x0) fun v20 => bnd (opBuild [(.int .i64 (0)), (.slice none 0 0)] [(0, 1, false, x0), (1, 1, false, v20)]) fun v21 => bnd (opPtr [(.int .i64 (0)), (.slice none 0 0)]) fun v4 => bnd (opStoreN 2 v4 v21) fun _ => K x0 v4

theorem L5_GraphGreat_r6_ok (F : Nat) (x0 : Value) (K : Value → Value → M Value) : L5_GraphGreat_r6 F x0 K = L5_GraphGreat_R F 6 [(0, x0)] [0, 4] K := by kernel_rfl

def L5_GraphGreat_r5 (F : Nat) (K : Value → M Value) : M Value :=
  K (.bool true)

theorem L5_GraphGreat_r5_ok (F : Nat) (K : Value → M Value) : L5_GraphGreat_r5 F K = L5_GraphGreat_R F 5 [] [2] K := by kernel_rfl

def L5_GraphGreat_r4 (F : Nat) (x0 : Value) (K : Value → Value → M Value) : M Value :=
  bnd (opBin .lss x0 (.int .i64 (0))) fun v13 => onB v13 (K x0 (.bool true)) (bnd (opBin .gtr x0 (.int .i64 (700))) fun v16 => K x0 v16)

theorem L5_GraphGreat_r4_ok (F : Nat) (x0 : Value) (K : Value → Value → M Value) : L5_GraphGreat_r4 F x0 K = L5_GraphGreat_R F 4 [(0, x0)] [0, 17] K := by kernel_rfl

def L5_GraphGreat_r3 (F : Nat) (K : Value → M Value) : M Value :=
  K (.bool false)

theorem L5_GraphGreat_r3_ok (F : Nat) (K : Value → M Value) : L5_GraphGreat_r3 F K = L5_GraphGreat_R F 3 [] [2] K := by kernel_rfl

def L5_GraphGreat_r2 (F : Nat) (x0 x3 : Value) (K : Value → Value → M Value) : M Value :=
  bnd (opNot x3) fun v11 => K x0 v11

theorem L5_GraphGreat_r2_ok (F : Nat) (x0 x3 : Value) (K : Value → Value → M Value) : L5_GraphGreat_r2 F x0 x3 K = L5_GraphGreat_R F 2 [(3, x3), (0, x0)] [0, 11] K := by kernel_rfl

def L5_GraphGreat_r1 (F : Nat) (x0 : Value) (K : Value → Value → M Value) : M Value :=
  bnd (L5_begun F) fun v9 => K x0 v9

theorem L5_GraphGreat_r1_ok (F : Nat) (x0 : Value) (K : Value → Value → M Value) : L5_GraphGreat_r1 F x0 K = L5_GraphGreat_R F 1 [(0, x0)] [0, 3] K := by kernel_rfl

def L5_GraphGreat_r0 (F : Nat) (x0 : Value) (K : Value → M Value) : M Value :=
  K x0

theorem L5_GraphGreat_r0_ok (F : Nat) (x0 : Value) (K : Value → M Value) : L5_GraphGreat_r0 F x0 K = L5_GraphGreat_R F 0 [(0, x0)] [0] K := by kernel_rfl

def L5_GraphGreat (F : Nat) (x0 : Value) : M Value :=
  L5_GraphGreat_r0 F x0 (fun x0 => L5_GraphGreat_r1 F x0 (fun x0 x3 => L5_GraphGreat_r2 F x0 x3 (fun x0 x11 => onB x11 (L5_GraphGreat_r3 F (fun x2 => ret x2)) (L5_GraphGreat_r4 F x0 (fun x0 x17 => onB x17 (L5_GraphGreat_r5 F (fun x2 => ret x2)) (L5_GraphGreat_r6 F x0 (fun x0 x4 => L5_GraphGreat_r7 F x0 x4 (fun x0 x4 x5 => L5_GraphGreat_l3 F (fun x0 x4 => L5_GraphGreat_k2 F x0 x4) F x0 x4 x5))))))))

def L5_GraphGreat_m (F : Nat) : List Value → M Value
  | [x0] => L5_GraphGreat F x0
  | _ => fail

theorem L5_GraphGreat_body : Tryd.f15.body = some (.seq (.region 0 (opsOf Tryd.f15 0) false) (.seq (.region 1 (opsOf Tryd.f15 1) false) (.seq (.seq (.region 2 (opsOf Tryd.f15 2) false) (.cond (.tmp 11) (.seq (.region 3 (opsOf Tryd.f15 3) false) .ret) .skip)) (.seq (.seq (.region 4 (opsOf Tryd.f15 4) false) (.cond (.tmp 17) (.seq (.region 5 (opsOf Tryd.f15 5) false) .ret) .skip)) (.seq (.region 6 (opsOf Tryd.f15 6) false) (.seq (.seq (.region 7 (opsOf Tryd.f15 7) false) (.block 0 (.loop (.seq (.seq (.region 8 (opsOf Tryd.f15 8) false) (.cond (.tmp 25) .skip (.exit 0))) (.seq (.block 1 (.region 10 (opsOf Tryd.f15 10) false)) (.region 9 (opsOf Tryd.f15 9) false)))))) (.seq (.region 11 (opsOf Tryd.f15 11) false) (.seq (.seq (.region 12 (opsOf Tryd.f15 12) false) (.cond (.tmp 40) (.seq (.region 13 (opsOf Tryd.f15 13) false) .ret) .skip)) (.seq (.seq (.region 14 (opsOf Tryd.f15 14) false) (.cond (.tmp 46) (.seq (.region 15 (opsOf Tryd.f15 15) false) .ret) .skip)) (.seq (.region 16 (opsOf Tryd.f15 16) false) (.seq (.seq (.region 17 (opsOf Tryd.f15 17) false) (.block 2 (.loop (.seq (.seq (.region 18 (opsOf Tryd.f15 18) false) (.cond (.tmp 55) .skip (.exit 2))) (.seq (.block 3 (.seq (.region 20 (opsOf Tryd.f15 20) false) (.cond (.tmp 63) (.seq (.region 21 (opsOf Tryd.f15 21) false) .ret) .skip))) (.region 19 (opsOf Tryd.f15 19) false)))))) (.seq (.region 22 (opsOf Tryd.f15 22) false) .ret)))))))))))) := by kernel_rfl

theorem L5_GraphGreat_ok (F : Nat) : Sim Tryd.prog TrydG 15 (L5_GraphGreat_m F) := by
 have hE : EnvOK Tryd.prog TrydG (L5_GraphGreat_env F) := (EnvOK.cons (L5_begun_ok F) (EnvOK.cons (R1_Eq_ok F) (EnvOK.cons (graph_Reach_ok F) (EnvOK.cons (graph_Order_ok F) (EnvOK.cons (graph_Path_ok F) (EnvOK.cons (graph_May_ok F) (EnvOK.cons (bitset_Set_Len_ok F) EnvOK.nil)))))))
 refine Sim.of_body (E := L5_GraphGreat_env F) Tryd.func15 L5_GraphGreat_body Tryd.call15 ?_ ?_
 · intro args hl; unfold L5_GraphGreat_m; split
   · exact absurd hl (Nat.not_lt.2 (Nat.le_of_ble_eq_true rfl))
   · rfl
 · intro args ρ h w z; unfold L5_GraphGreat_m; split
   · rename_i x0; show OKc _ _ [(0, x0)] _ _
     refine rSeq ?_
     refine cLess [0] ?_
     refine xR hE [0] rfl (L5_GraphGreat_r0_ok F _ _) ?_
     intro x0
     show OKq _ _ _ [(0, x0)] _
     refine rThen ?_
     refine rSeq ?_
     refine cLess [0] ?_
     refine xR hE [0, 3] rfl (L5_GraphGreat_r1_ok F _ _) ?_
     intro x0 x3
     show OKq _ _ _ [(3, x3), (0, x0)] _
     refine rThen ?_
     refine rSeq ?_
     refine rSeq ?_
     refine cLess [3, 0] ?_
     refine xR hE [0, 11] rfl (L5_GraphGreat_r2_ok F _ _ _) ?_
     intro x0 x11
     show OKq _ _ _ [(11, x11), (0, x0)] _
     refine rThen ?_
     refine xCond rfl rfl ?_ ?_
     · refine rSeq ?_
       refine cLess [] ?_
       refine xR hE [2] rfl (L5_GraphGreat_r3_ok F _) ?_
       intro x2
       show OKq _ _ _ [(2, x2)] _
       refine rThen ?_
       refine rRet ?_
       refine xThenR ?_
       exact rDone (.inr rfl) rfl
     · refine rSkip ?_
       refine rThen ?_
       refine rSeq ?_
       refine rSeq ?_
       refine cLess [0] ?_
       refine xR hE [0, 17] rfl (L5_GraphGreat_r4_ok F _ _) ?_
       intro x0 x17
       show OKq _ _ _ [(17, x17), (0, x0)] _
       refine rThen ?_
       refine xCond rfl rfl ?_ ?_
       · refine rSeq ?_
         refine cLess [] ?_
         refine xR hE [2] rfl (L5_GraphGreat_r5_ok F _) ?_
         intro x2
         show OKq _ _ _ [(2, x2)] _
         refine rThen ?_
         refine rRet ?_
         refine xThenR ?_
         exact rDone (.inr rfl) rfl
       · refine rSkip ?_
         refine rThen ?_
         refine rSeq ?_
         refine cLess [0] ?_
         refine xR hE [0, 4] rfl (L5_GraphGreat_r6_ok F _ _) ?_
         intro x0 x4
         show OKq _ _ _ [(4, x4), (0, x0)] _
         refine rThen ?_
         refine xSeq [0, 4] (L5_GraphGreat_k2 F ) ?_ fun hj2 => ?_
         · intro x0 x4
           show OKc _ _ [(4, x4), (0, x0)] _ _
           refine rSeq ?_
           refine cLess [4, 0] ?_
           refine xR hE [0, 4, 6] rfl (L5_GraphGreat_r11_ok F _ _ _) ?_
           intro x0 x4 x6
           show OKq _ _ _ [(6, x6), (4, x4), (0, x0)] _
           refine rThen ?_
           refine rSeq ?_
           refine rSeq ?_
           refine cLess [6, 4, 0] ?_
           refine xR hE [0, 4, 6, 40] rfl (L5_GraphGreat_r12_ok F _ _ _ _) ?_
           intro x0 x4 x6 x40
           show OKq _ _ _ [(40, x40), (6, x6), (4, x4), (0, x0)] _
           refine rThen ?_
           refine xCond rfl rfl ?_ ?_
           · refine rSeq ?_
             refine cLess [] ?_
             refine xR hE [2] rfl (L5_GraphGreat_r13_ok F _) ?_
             intro x2
             show OKq _ _ _ [(2, x2)] _
             refine rThen ?_
             refine rRet ?_
             refine xThenR ?_
             exact rDone (.inr rfl) rfl
           · refine rSkip ?_
             refine rThen ?_
             refine rSeq ?_
             refine rSeq ?_
             refine cLess [6, 4, 0] ?_
             refine xR hE [0, 4, 46] rfl (L5_GraphGreat_r14_ok F _ _ _ _) ?_
             intro x0 x4 x46
             show OKq _ _ _ [(46, x46), (4, x4), (0, x0)] _
             refine rThen ?_
             refine xCond rfl rfl ?_ ?_
             · refine rSeq ?_
               refine cLess [4] ?_
               refine xR hE [2] rfl (L5_GraphGreat_r15_ok F _ _) ?_
               intro x2
               show OKq _ _ _ [(2, x2)] _
               refine rThen ?_
               refine rRet ?_
               refine xThenR ?_
               exact rDone (.inr rfl) rfl
             · refine rSkip ?_
               refine rThen ?_
               refine rSeq ?_
               refine cLess [4, 0] ?_
               refine xR hE [0, 4, 7] rfl (L5_GraphGreat_r16_ok F _ _ _) ?_
               intro x0 x4 x7
               show OKq _ _ _ [(7, x7), (4, x4), (0, x0)] _
               refine rThen ?_
               refine xSeq [0, 4, 7] (L5_GraphGreat_k0 F ) ?_ fun hj0 => ?_
               · intro x0 x4 x7
                 show OKc _ _ [(7, x7), (4, x4), (0, x0)] _ _
                 refine rSeq ?_
                 refine cLess [7, 4, 0] ?_
                 refine xR hE [2] rfl (L5_GraphGreat_r22_ok F _ _ _ _) ?_
                 intro x2
                 show OKq _ _ _ [(2, x2)] _
                 refine rThen ?_
                 refine rRet ?_
                 exact rDone (.inr rfl) rfl
               · refine rSeq ?_
                 refine cLess [7, 4, 0] ?_
                 refine xR hE [0, 4, 7, 8] rfl (L5_GraphGreat_r17_ok F _ _ _ _) ?_
                 intro x0 x4 x7 x8
                 show OKq _ _ _ [(8, x8), (7, x7), (4, x4), (0, x0)] _
                 refine rThen ?_
                 refine rBlock ?_
                 refine cLess [8, 7, 4, 0] ?_
                 refine xLoopAt [0, 4, 7, 8] [] (fun k1 => L5_GraphGreat_l1 F (fun x0 x4 x7 => L5_GraphGreat_k0 F x0 x4 x7) k1) F [x0, x4, x7, x8] rfl rfl (fun _ _ _ _ => rfl) fun I hI1 k1 => ?_
                 intro x0 x4 x7 x8
                 show OKc _ _ [(8, x8), (7, x7), (4, x4), (0, x0)] _ _
                 refine cAs (L5_GraphGreat_l1_s F _ _ _ _ _ _) ?_
                 refine rSeq ?_
                 refine rSeq ?_
                 refine cLess [8, 7, 4, 0] ?_
                 refine xR hE [0, 4, 7, 8, 55] rfl (L5_GraphGreat_r18_ok F _ _ _ _ _) ?_
                 intro x0 x4 x7 x8 x55
                 show OKq _ _ _ [(55, x55), (8, x8), (7, x7), (4, x4), (0, x0)] _
                 refine rThen ?_
                 refine xCond rfl rfl ?_ ?_
                 · refine rSkip ?_
                   refine rThen ?_
                   refine rSeq ?_
                   refine rBlock ?_
                   refine rSeq ?_
                   refine cLess [8, 7, 4, 0] ?_
                   refine xR hE [0, 4, 7, 8, 63] rfl (L5_GraphGreat_r20_ok F _ _ _ _ _) ?_
                   intro x0 x4 x7 x8 x63
                   show OKq _ _ _ [(63, x63), (8, x8), (7, x7), (4, x4), (0, x0)] _
                   refine rThen ?_
                   refine xCond rfl rfl ?_ ?_
                   · refine rSeq ?_
                     refine cLess [] ?_
                     refine xR hE [2] rfl (L5_GraphGreat_r21_ok F _) ?_
                     intro x2
                     show OKq _ _ _ [(2, x2)] _
                     refine rThen ?_
                     refine rRet ?_
                     refine xBlockR ?_
                     refine xThenR ?_
                     refine xThenR ?_
                     refine xBlockR ?_
                     refine xThenR ?_
                     exact rDone (.inr rfl) rfl
                   · refine rSkip ?_
                     refine xBlockN ?_
                     refine rThen ?_
                     refine cLess [8, 7, 4, 0] ?_
                     refine xR hE [0, 4, 7, 8] rfl (L5_GraphGreat_r19_ok F _ _ _ _ _) ?_
                     intro x0 x4 x7 x8
                     show OKq _ _ _ [(8, x8), (7, x7), (4, x4), (0, x0)] _
                     exact qLess [8, 7, 4, 0] (hI1 k1 x0 x4 x7 x8)
                 · refine rExit ?_
                   refine xThenX ?_
                   refine xThenX ?_
                   refine rOut ?_
                   exact qLess [7, 4, 0] (hj0 x0 x4 x7)
         · refine rSeq ?_
           refine cLess [4, 0] ?_
           refine xR hE [0, 4, 5] rfl (L5_GraphGreat_r7_ok F _ _ _) ?_
           intro x0 x4 x5
           show OKq _ _ _ [(5, x5), (4, x4), (0, x0)] _
           refine rThen ?_
           refine rBlock ?_
           refine cLess [5, 4, 0] ?_
           refine xLoopAt [0, 4, 5] [] (fun k3 => L5_GraphGreat_l3 F (fun x0 x4 => L5_GraphGreat_k2 F x0 x4) k3) F [x0, x4, x5] rfl rfl (fun _ _ _ => rfl) fun I hI3 k3 => ?_
           intro x0 x4 x5
           show OKc _ _ [(5, x5), (4, x4), (0, x0)] _ _
           refine cAs (L5_GraphGreat_l3_s F _ _ _ _ _) ?_
           refine rSeq ?_
           refine rSeq ?_
           refine cLess [5, 4, 0] ?_
           refine xR hE [0, 4, 5, 25] rfl (L5_GraphGreat_r8_ok F _ _ _ _) ?_
           intro x0 x4 x5 x25
           show OKq _ _ _ [(25, x25), (5, x5), (4, x4), (0, x0)] _
           refine rThen ?_
           refine xCond rfl rfl ?_ ?_
           · refine rSkip ?_
             refine rThen ?_
             refine rSeq ?_
             refine rBlock ?_
             refine cLess [5, 4, 0] ?_
             refine xR hE [0, 4, 5] rfl (L5_GraphGreat_r10_ok F _ _ _ _) ?_
             intro x0 x4 x5
             show OKq _ _ _ [(5, x5), (4, x4), (0, x0)] _
             refine xBlockN ?_
             refine rThen ?_
             refine cLess [5, 4, 0] ?_
             refine xR hE [0, 4, 5] rfl (L5_GraphGreat_r9_ok F _ _ _ _) ?_
             intro x0 x4 x5
             show OKq _ _ _ [(5, x5), (4, x4), (0, x0)] _
             exact qLess [5, 4, 0] (hI3 k3 x0 x4 x5)
           · refine rExit ?_
             refine xThenX ?_
             refine xThenX ?_
             refine rOut ?_
             exact qLess [4, 0] (hj2 x0 x4)
   · exact rFail


end Go.Fw
