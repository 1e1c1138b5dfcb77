/-
  What this law comes to.
-/
import Derived.Test.YtddafkflndhnfaaDoorGenD
set_option linter.unusedVariables false
set_option maxRecDepth 20000
namespace Go.Fw
open Go.Proofs

/-! ### haruspex/haruspexlaw5.GraphMore -/

def L5_GraphMore_env (F : Nat) : Env := envOf [(16, L5_begun_m F), (17, L5_Made_m F), (19, graph_Reach_m F), (33, bitset_Set_Has_m F), (36, bitset_Set_In_m F), (37, bitset_Set_Join_m F), (38, bitset_Set_Eq_m F)]

noncomputable def L5_GraphMore_R (F : Nat) := rK Tryd.prog TrydG (L5_GraphMore_env F) Tryd.f12
noncomputable def L5_GraphMore_D (F : Nat) := dK Tryd.prog TrydG (L5_GraphMore_env F) Tryd.f12

def L5_GraphMore_r17 (F : Nat) (K : Value → M Value) : M Value :=
  K (.bool true)

theorem L5_GraphMore_r17_ok (F : Nat) (K : Value → M Value) : L5_GraphMore_r17 F K = L5_GraphMore_R F 17 [] [8] K := by kernel_rfl

def L5_GraphMore_k0 (F : Nat) : M Value :=
  L5_GraphMore_r17 F (fun x8 => ret x8)

def L5_GraphMore_r9 (F : Nat) (x10 x11 x12 x13 x14 : Value) (K : Value → Value → Value → Value → Value → M Value) : M Value :=
  bnd (opBin .add x14 (.int .i64 (1))) fun v63 => K x10 x11 x12 x13 v63

theorem L5_GraphMore_r9_ok (F : Nat) (x10 x11 x12 x13 x14 : Value) (K : Value → Value → Value → Value → Value → M Value) : L5_GraphMore_r9 F x10 x11 x12 x13 x14 K = L5_GraphMore_R F 9 [(14, x14), (13, x13), (12, x12), (11, x11), (10, x10)] [10, 11, 12, 13, 14] K := by kernel_rfl

def L5_GraphMore_r16 (F : Nat) (K : Value → M Value) : M Value :=
  K (.bool false)

theorem L5_GraphMore_r16_ok (F : Nat) (K : Value → M Value) : L5_GraphMore_r16 F K = L5_GraphMore_R F 16 [] [8] K := by kernel_rfl

def L5_GraphMore_r15 (F : Nat) (x10 x11 x12 x13 x14 x15 x16 : Value) (K : Value → Value → Value → Value → Value → Value → M Value) : M Value :=
  bnd (bitset_Set_Eq F x15 x16) fun v98 => bnd (opNot v98) fun v99 => K x10 x11 x12 x13 x14 v99

theorem L5_GraphMore_r15_ok (F : Nat) (x10 x11 x12 x13 x14 x15 x16 : Value) (K : Value → Value → Value → Value → Value → Value → M Value) : L5_GraphMore_r15 F x10 x11 x12 x13 x14 x15 x16 K = L5_GraphMore_R F 15 [(16, x16), (15, x15), (14, x14), (13, x13), (12, x12), (11, x11), (10, x10)] [10, 11, 12, 13, 14, 99] K := by kernel_rfl

def L5_GraphMore_k2 (F : Nat) (A1 : Value → Value → Value → Value → Value → M Value) (x10 x11 x12 x13 x14 x15 x16 : Value) : M Value :=
  L5_GraphMore_r15 F x10 x11 x12 x13 x14 x15 x16 (fun x10 x11 x12 x13 x14 x99 => onB x99 (L5_GraphMore_r16 F (fun x8 => ret x8)) (L5_GraphMore_r9 F x10 x11 x12 x13 x14 (fun x10 x11 x12 x13 x14 => A1 x10 x11 x12 x13 x14)))

def L5_GraphMore_r14 (F : Nat) (x10 x11 x12 x13 x14 x15 x16 : Value) (K : Value → Value → Value → Value → Value → Value → Value → M Value) : M Value :=
  bnd (opLoadN 2 x10) fun v91 => bnd (opBuildSlice 1 (rep 1 [(.int .i64 (0))]) [(0, 1, false, x13)]) fun v93 => bnd (graph_Reach F v91 v93) fun v94 => bnd (bitset_Set_Join F x15 v94) fun v95 => K x10 x11 x12 x13 x14 x15 x16

theorem L5_GraphMore_r14_ok (F : Nat) (x10 x11 x12 x13 x14 x15 x16 : Value) (K : Value → Value → Value → Value → Value → Value → Value → M Value) : L5_GraphMore_r14 F x10 x11 x12 x13 x14 x15 x16 K = L5_GraphMore_R F 14 [(16, x16), (15, x15), (14, x14), (13, x13), (12, x12), (11, x11), (10, x10)] [10, 11, 12, 13, 14, 15, 16] K := by kernel_rfl

def L5_GraphMore_r13 (F : Nat) (x10 x11 x12 x13 x14 x15 x16 : Value) (K : Value → Value → Value → Value → Value → Value → Value → Value → M Value) : M Value :=
  bnd (bitset_Set_Has F x15 x12) fun v89 => K x10 x11 x12 x13 x14 x15 x16 v89

theorem L5_GraphMore_r13_ok (F : Nat) (x10 x11 x12 x13 x14 x15 x16 : Value) (K : Value → Value → Value → Value → Value → Value → Value → Value → M Value) : L5_GraphMore_r13 F x10 x11 x12 x13 x14 x15 x16 K = L5_GraphMore_R F 13 [(16, x16), (15, x15), (14, x14), (13, x13), (12, x12), (11, x11), (10, x10)] [10, 11, 12, 13, 14, 15, 16, 89] K := by kernel_rfl

def L5_GraphMore_r12 (F : Nat) (K : Value → M Value) : M Value :=
  K (.bool false)

theorem L5_GraphMore_r12_ok (F : Nat) (K : Value → M Value) : L5_GraphMore_r12 F K = L5_GraphMore_R F 12 [] [8] K := by kernel_rfl

def L5_GraphMore_r11 (F : Nat) (x10 x11 x12 x13 x14 x15 x16 : Value) (K : Value → Value → Value → Value → Value → Value → Value → Value → M Value) : M Value :=
  bnd (bitset_Set_In F x15 x16) fun v74 => bnd (opNot v74) fun v75 => onB v75 (K x10 x11 x12 x13 x14 x15 x16 (.bool true)) (bnd (bitset_Set_Has F x15 x12) fun v79 => onB v79 (bnd (bitset_Set_Has F x16 x13) fun v83 => bnd (opNot v83) fun v84 => K x10 x11 x12 x13 x14 x15 x16 v84) (K x10 x11 x12 x13 x14 x15 x16 (.bool false)))

theorem L5_GraphMore_r11_ok (F : Nat) (x10 x11 x12 x13 x14 x15 x16 : Value) (K : Value → Value → Value → Value → Value → Value → Value → Value → M Value) : L5_GraphMore_r11 F x10 x11 x12 x13 x14 x15 x16 K = L5_GraphMore_R F 11 [(16, x16), (15, x15), (14, x14), (13, x13), (12, x12), (11, x11), (10, x10)] [10, 11, 12, 13, 14, 15, 16, 86] K := by kernel_rfl

def L5_GraphMore_r10 (F : Nat) (x10 x11 x12 x13 x14 : Value) (K : Value → Value → Value → Value → Value → Value → Value → M Value) : M Value :=
  bnd (opLoadN 2 x10) fun v64 => bnd (opLoadN 2 x11) fun v68 => bnd (opBuildSlice 1 (rep 1 [(.int .i64 (0))]) [(0, 1, false, x14)]) fun v66 => bnd (graph_Reach F v64 v66) fun v67 => bnd (opChk true x11 v68) fun _ => bnd (opBuildSlice 1 (rep 1 [(.int .i64 (0))]) [(0, 1, false, x14)]) fun v70 => bnd (graph_Reach F v68 v70) fun v71 => K x10 x11 x12 x13 x14 v67 v71

theorem L5_GraphMore_r10_ok (F : Nat) (x10 x11 x12 x13 x14 : Value) (K : Value → Value → Value → Value → Value → Value → Value → M Value) : L5_GraphMore_r10 F x10 x11 x12 x13 x14 K = L5_GraphMore_D F 10 [0, 1, 4, 5, 2, 3, 6, 7, 8, 9] [(14, x14), (13, x13), (12, x12), (11, x11), (10, x10)] [10, 11, 12, 13, 14, 15, 16] K := by kernel_rfl

theorem L5_GraphMore_r10_good : goodOrder (opsOf Tryd.f12 10) [0, 1, 4, 5, 2, 3, 6, 7, 8, 9] = true := by kernel_rfl

def L5_GraphMore_r8 (F : Nat) (x10 x11 x12 x13 x14 : Value) (K : Value → Value → Value → Value → Value → Value → M Value) : M Value :=
  bnd (opFieldAddr 0 x10) fun v59 => bnd (opLoad v59) fun v60 => bnd (opBin .lss x14 v60) fun v61 => K x10 x11 x12 x13 x14 v61

theorem L5_GraphMore_r8_ok (F : Nat) (x10 x11 x12 x13 x14 : Value) (K : Value → Value → Value → Value → Value → Value → M Value) : L5_GraphMore_r8 F x10 x11 x12 x13 x14 K = L5_GraphMore_R F 8 [(14, x14), (13, x13), (12, x12), (11, x11), (10, x10)] [10, 11, 12, 13, 14, 61] K := by kernel_rfl

def L5_GraphMore_b1 (F : Nat) (E1_0 : M Value) (A1 : Value → Value → Value → Value → Value → M Value) (x10 x11 x12 x13 x14 : Value) : M Value :=
  L5_GraphMore_r8 F x10 x11 x12 x13 x14 (fun x10 x11 x12 x13 x14 x61 => onB x61 (L5_GraphMore_r10 F x10 x11 x12 x13 x14 (fun x10 x11 x12 x13 x14 x15 x16 => L5_GraphMore_r11 F x10 x11 x12 x13 x14 x15 x16 (fun x10 x11 x12 x13 x14 x15 x16 x86 => onB x86 (L5_GraphMore_r12 F (fun x8 => ret x8)) (L5_GraphMore_r13 F x10 x11 x12 x13 x14 x15 x16 (fun x10 x11 x12 x13 x14 x15 x16 x89 => onB x89 (L5_GraphMore_r14 F x10 x11 x12 x13 x14 x15 x16 (fun x10 x11 x12 x13 x14 x15 x16 => L5_GraphMore_k2 F A1 x10 x11 x12 x13 x14 x15 x16)) (L5_GraphMore_k2 F A1 x10 x11 x12 x13 x14 x15 x16)))))) (E1_0 ))

def L5_GraphMore_l1 (F : Nat) (E1_0 : M Value) : Nat → Value → Value → Value → Value → Value → M Value
  | 0, _, _, _, _, _ => fail
  | k1 + 1, x10, x11, x12, x13, x14 => L5_GraphMore_b1 F E1_0 (L5_GraphMore_l1 F E1_0 k1) x10 x11 x12 x13 x14

theorem L5_GraphMore_l1_s (F : Nat) (E1_0 : M Value) (k1 : Nat) (x10 x11 x12 x13 x14 : Value) : L5_GraphMore_l1 F E1_0 (k1 + 1) x10 x11 x12 x13 x14 = L5_GraphMore_b1 F E1_0 (L5_GraphMore_l1 F E1_0 k1) x10 x11 x12 x13 x14 := rfl

def L5_GraphMore_r7 (F : Nat) (x10 x11 x12 x13 : Value) (K : Value → Value → Value → Value → Value → M Value) : M Value :=
  K x10 x11 x12 x13 (.int .i64 (0))

theorem L5_GraphMore_r7_ok (F : Nat) (x10 x11 x12 x13 : Value) (K : Value → Value → Value → Value → Value → M Value) : L5_GraphMore_r7 F x10 x11 x12 x13 K = L5_GraphMore_R F 7 [(13, x13), (12, x12), (11, x11), (10, x10)] [10, 11, 12, 13, 14] K := by kernel_rfl

def L5_GraphMore_r6 (F : Nat) (x10 x11 x12 x13 : Value) (K : Value → Value → Value → Value → M Value) : M Value :=
  bnd (opFieldAddr 1 x11) fun v46 => bnd (opLoad v46) fun v47 => bnd (opFieldAddr 1 x11) fun v49 => bnd (opLoad v49) fun v50 => bnd (opIndexAddr 1 v50 x12) fun v52 => bnd (opLoad v52) fun v53 => bnd (opBuildSlice 1 (rep 1 [(.int .i64 (0))]) [(0, 1, false, x13)]) fun v55 => bnd (opAppend 1 8 v53 v55) fun v56 => bnd (opChk false v46 v47) fun _ => bnd (opIndexAddr 1 v47 x12) fun v57 => bnd (opStore v57 v56) fun _ => K x10 x11 x12 x13

theorem L5_GraphMore_r6_ok (F : Nat) (x10 x11 x12 x13 : Value) (K : Value → Value → Value → Value → M Value) : L5_GraphMore_r6 F x10 x11 x12 x13 K = L5_GraphMore_D F 6 [0, 1, 2, 3, 4, 5, 6, 7, 8, 9, 10, 11, 12] [(13, x13), (12, x12), (11, x11), (10, x10)] [10, 11, 12, 13] K := by kernel_rfl

theorem L5_GraphMore_r6_good : goodOrder (opsOf Tryd.f12 6) [0, 1, 2, 3, 4, 5, 6, 7, 8, 9, 10, 11, 12] = true := by kernel_rfl

def L5_GraphMore_r5 (F : Nat) (x2 x3 x10 x11 : Value) (K : Value → Value → Value → Value → M Value) : M Value :=
  bnd (opFieldAddr 0 x10) fun v27 => bnd (opLoad v27) fun v28 => bnd (opBin .rem x2 v28) fun v29 => bnd (opFieldAddr 0 x10) fun v30 => bnd (opLoad v30) fun v31 => bnd (opBin .add v29 v31) fun v32 => bnd (opFieldAddr 0 x10) fun v33 => bnd (opLoad v33) fun v34 => bnd (opBin .rem v32 v34) fun v35 => bnd (opFieldAddr 0 x10) fun v37 => bnd (opLoad v37) fun v38 => bnd (opBin .rem x3 v38) fun v39 => bnd (opFieldAddr 0 x10) fun v40 => bnd (opLoad v40) fun v41 => bnd (opBin .add v39 v41) fun v42 => bnd (opFieldAddr 0 x10) fun v43 => bnd (opLoad v43) fun v44 => bnd (opBin .rem v42 v44) fun v45 => K x10 x11 v35 v45

theorem L5_GraphMore_r5_ok (F : Nat) (x2 x3 x10 x11 : Value) (K : Value → Value → Value → Value → M Value) : L5_GraphMore_r5 F x2 x3 x10 x11 K = L5_GraphMore_D F 5 [0, 1, 2, 3, 4, 5, 6, 7, 8, 9, 10, 11, 12, 13, 14, 15, 16, 17, 18, 19, 20, 21] [(11, x11), (10, x10), (3, x3), (2, x2)] [10, 11, 12, 13] K := by kernel_rfl

theorem L5_GraphMore_r5_good : goodOrder (opsOf Tryd.f12 5) [0, 1, 2, 3, 4, 5, 6, 7, 8, 9, 10, 11, 12, 13, 14, 15, 16, 17, 18, 19, 20, 21] = true := by kernel_rfl

def L5_GraphMore_r4 (F : Nat) (x0 x1 x2 x3 : Value) (K : Value → Value → Value → Value → M Value) : M Value :=
  bnd (L5_Made F x0 x1) fun v22 => bnd (L5_Made F x0 x1) fun v25 => bnd (opPtr [(.int .i64 (0)), (.slice none 0 0)]) fun v10 => bnd (opPtr [(.int .i64 (0)), (.slice none 0 0)]) fun v11 => bnd (opStoreN 2 v10 v22) fun _ => bnd (opStoreN 2 v11 v25) fun _ => K x2 x3 v10 v11

theorem L5_GraphMore_r4_ok (F : Nat) (x0 x1 x2 x3 : Value) (K : Value → Value → Value → Value → M Value) : L5_GraphMore_r4 F x0 x1 x2 x3 K = L5_GraphMore_R F 4 [(3, x3), (2, x2), (1, x1), (0, x0)] [2, 3, 10, 11] K := by kernel_rfl

def L5_GraphMore_r3 (F : Nat) (K : Value → M Value) : M Value :=
  K (.bool false)

theorem L5_GraphMore_r3_ok (F : Nat) (K : Value → M Value) : L5_GraphMore_r3 F K = L5_GraphMore_R F 3 [] [8] K := by kernel_rfl

def L5_GraphMore_r2 (F : Nat) (x0 x1 x2 x3 x9 : Value) (K : Value → Value → Value → Value → Value → M Value) : M Value :=
  bnd (opNot x9) fun v19 => K x0 x1 x2 x3 v19

theorem L5_GraphMore_r2_ok (F : Nat) (x0 x1 x2 x3 x9 : Value) (K : Value → Value → Value → Value → Value → M Value) : L5_GraphMore_r2 F x0 x1 x2 x3 x9 K = L5_GraphMore_R F 2 [(9, x9), (3, x3), (2, x2), (1, x1), (0, x0)] [0, 1, 2, 3, 19] K := by kernel_rfl

def L5_GraphMore_r1 (F : Nat) (x0 x1 x2 x3 : Value) (K : Value → Value → Value → Value → Value → M Value) : M Value :=
  bnd (L5_begun F) fun v17 => K x0 x1 x2 x3 v17

theorem L5_GraphMore_r1_ok (F : Nat) (x0 x1 x2 x3 : Value) (K : Value → Value → Value → Value → Value → M Value) : L5_GraphMore_r1 F x0 x1 x2 x3 K = L5_GraphMore_R F 1 [(3, x3), (2, x2), (1, x1), (0, x0)] [0, 1, 2, 3, 9] K := by kernel_rfl

def L5_GraphMore_r0 (F : Nat) (x0 x1 x2 x3 : Value) (K : Value → Value → Value → Value → M Value) : M Value :=
  K x0 x1 x2 x3

theorem L5_GraphMore_r0_ok (F : Nat) (x0 x1 x2 x3 : Value) (K : Value → Value → Value → Value → M Value) : L5_GraphMore_r0 F x0 x1 x2 x3 K = L5_GraphMore_R F 0 [(3, x3), (2, x2), (1, x1), (0, x0)] [0, 1, 2, 3] K := by kernel_rfl

def L5_GraphMore (F : Nat) (x0 x1 x2 x3 : Value) : M Value :=
  L5_GraphMore_r0 F x0 x1 x2 x3 (fun x0 x1 x2 x3 => L5_GraphMore_r1 F x0 x1 x2 x3 (fun x0 x1 x2 x3 x9 => L5_GraphMore_r2 F x0 x1 x2 x3 x9 (fun x0 x1 x2 x3 x19 => onB x19 (L5_GraphMore_r3 F (fun x8 => ret x8)) (L5_GraphMore_r4 F x0 x1 x2 x3 (fun x2 x3 x10 x11 => L5_GraphMore_r5 F x2 x3 x10 x11 (fun x10 x11 x12 x13 => L5_GraphMore_r6 F x10 x11 x12 x13 (fun x10 x11 x12 x13 => L5_GraphMore_r7 F x10 x11 x12 x13 (fun x10 x11 x12 x13 x14 => L5_GraphMore_l1 F (L5_GraphMore_k0 F ) F x10 x11 x12 x13 x14))))))))

def L5_GraphMore_m (F : Nat) : List Value → M Value
  | [x0, x1, x2, x3] => L5_GraphMore F x0 x1 x2 x3
  | _ => fail

theorem L5_GraphMore_body : Tryd.f12.body = some (.seq (.region 0 (opsOf Tryd.f12 0) false) (.seq (.region 1 (opsOf Tryd.f12 1) false) (.seq (.seq (.region 2 (opsOf Tryd.f12 2) false) (.cond (.tmp 19) (.seq (.region 3 (opsOf Tryd.f12 3) false) .ret) .skip)) (.seq (.region 4 (opsOf Tryd.f12 4) false) (.seq (.region 5 (opsOf Tryd.f12 5) true) (.seq (.region 6 (opsOf Tryd.f12 6) true) (.seq (.seq (.region 7 (opsOf Tryd.f12 7) false) (.block 0 (.loop (.seq (.seq (.region 8 (opsOf Tryd.f12 8) false) (.cond (.tmp 61) .skip (.exit 0))) (.seq (.block 1 (.seq (.region 10 (opsOf Tryd.f12 10) true) (.seq (.seq (.region 11 (opsOf Tryd.f12 11) false) (.cond (.tmp 86) (.seq (.region 12 (opsOf Tryd.f12 12) false) .ret) .skip)) (.seq (.seq (.region 13 (opsOf Tryd.f12 13) false) (.cond (.tmp 89) (.region 14 (opsOf Tryd.f12 14) false) .skip)) (.seq (.region 15 (opsOf Tryd.f12 15) false) (.cond (.tmp 99) (.seq (.region 16 (opsOf Tryd.f12 16) false) .ret) .skip)))))) (.region 9 (opsOf Tryd.f12 9) false)))))) (.seq (.region 17 (opsOf Tryd.f12 17) false) .ret)))))))) := by kernel_rfl

theorem L5_GraphMore_ok (F : Nat) : Sim Tryd.prog TrydG 12 (L5_GraphMore_m F) := by
 have hE : EnvOK Tryd.prog TrydG (L5_GraphMore_env F) := (EnvOK.cons (L5_begun_ok F) (EnvOK.cons (L5_Made_ok F) (EnvOK.cons (graph_Reach_ok F) (EnvOK.cons (bitset_Set_Has_ok F) (EnvOK.cons (bitset_Set_In_ok F) (EnvOK.cons (bitset_Set_Join_ok F) (EnvOK.cons (bitset_Set_Eq_ok F) EnvOK.nil)))))))
 refine Sim.of_body (E := L5_GraphMore_env F) Tryd.func12 L5_GraphMore_body Tryd.call12 ?_ ?_
 · intro args hl; unfold L5_GraphMore_m; split
   · exact absurd hl (Nat.not_lt.2 (Nat.le_of_ble_eq_true rfl))
   · rfl
 · intro args ρ h w z; unfold L5_GraphMore_m; split
   · rename_i x0 x1 x2 x3; show OKc _ _ [(0, x0), (1, x1), (2, x2), (3, x3)] _ _
     refine rSeq ?_
     refine cLess [3, 2, 1, 0] ?_
     refine xR hE [0, 1, 2, 3] rfl (L5_GraphMore_r0_ok F _ _ _ _ _) ?_
     intro x0 x1 x2 x3
     show OKq _ _ _ [(3, x3), (2, x2), (1, x1), (0, x0)] _
     refine rThen ?_
     refine rSeq ?_
     refine cLess [3, 2, 1, 0] ?_
     refine xR hE [0, 1, 2, 3, 9] rfl (L5_GraphMore_r1_ok F _ _ _ _ _) ?_
     intro x0 x1 x2 x3 x9
     show OKq _ _ _ [(9, x9), (3, x3), (2, x2), (1, x1), (0, x0)] _
     refine rThen ?_
     refine rSeq ?_
     refine rSeq ?_
     refine cLess [9, 3, 2, 1, 0] ?_
     refine xR hE [0, 1, 2, 3, 19] rfl (L5_GraphMore_r2_ok F _ _ _ _ _ _) ?_
     intro x0 x1 x2 x3 x19
     show OKq _ _ _ [(19, x19), (3, x3), (2, x2), (1, x1), (0, x0)] _
     refine rThen ?_
     refine xCond rfl rfl ?_ ?_
     · refine rSeq ?_
       refine cLess [] ?_
       refine xR hE [8] rfl (L5_GraphMore_r3_ok F _) ?_
       intro x8
       show OKq _ _ _ [(8, x8)] _
       refine rThen ?_
       refine rRet ?_
       refine xThenR ?_
       exact rDone (.inr rfl) rfl
     · refine rSkip ?_
       refine rThen ?_
       refine rSeq ?_
       refine cLess [3, 2, 1, 0] ?_
       refine xR hE [2, 3, 10, 11] rfl (L5_GraphMore_r4_ok F _ _ _ _ _) ?_
       intro x2 x3 x10 x11
       show OKq _ _ _ [(11, x11), (10, x10), (3, x3), (2, x2)] _
       refine rThen ?_
       refine rSeq ?_
       refine cLess [11, 10, 3, 2] ?_
       refine xD Trydmix hE [10, 11, 12, 13] rfl L5_GraphMore_r5_good (L5_GraphMore_r5_ok F _ _ _ _ _) ?_
       intro x10 x11 x12 x13
       show OKq _ _ _ [(13, x13), (12, x12), (11, x11), (10, x10)] _
       refine rThen ?_
       refine rSeq ?_
       refine cLess [13, 12, 11, 10] ?_
       refine xD Trydmix hE [10, 11, 12, 13] rfl L5_GraphMore_r6_good (L5_GraphMore_r6_ok F _ _ _ _ _) ?_
       intro x10 x11 x12 x13
       show OKq _ _ _ [(13, x13), (12, x12), (11, x11), (10, x10)] _
       refine rThen ?_
       refine xSeq [] (L5_GraphMore_k0 F ) ?_ fun hj0 => ?_
       · show OKc _ _ [] _ _
         refine rSeq ?_
         refine cLess [] ?_
         refine xR hE [8] rfl (L5_GraphMore_r17_ok F _) ?_
         intro x8
         show OKq _ _ _ [(8, x8)] _
         refine rThen ?_
         refine rRet ?_
         exact rDone (.inr rfl) rfl
       · refine rSeq ?_
         refine cLess [13, 12, 11, 10] ?_
         refine xR hE [10, 11, 12, 13, 14] rfl (L5_GraphMore_r7_ok F _ _ _ _ _) ?_
         intro x10 x11 x12 x13 x14
         show OKq _ _ _ [(14, x14), (13, x13), (12, x12), (11, x11), (10, x10)] _
         refine rThen ?_
         refine rBlock ?_
         refine cLess [14, 13, 12, 11, 10] ?_
         refine xLoopAt [10, 11, 12, 13, 14] [] (fun k1 => L5_GraphMore_l1 F (L5_GraphMore_k0 F ) k1) F [x10, x11, x12, x13, x14] rfl rfl (fun _ _ _ _ _ => rfl) fun I hI1 k1 => ?_
         intro x10 x11 x12 x13 x14
         show OKc _ _ [(14, x14), (13, x13), (12, x12), (11, x11), (10, x10)] _ _
         refine cAs (L5_GraphMore_l1_s F _ _ _ _ _ _ _) ?_
         refine rSeq ?_
         refine rSeq ?_
         refine cLess [14, 13, 12, 11, 10] ?_
         refine xR hE [10, 11, 12, 13, 14, 61] rfl (L5_GraphMore_r8_ok F _ _ _ _ _ _) ?_
         intro x10 x11 x12 x13 x14 x61
         show OKq _ _ _ [(61, x61), (14, x14), (13, x13), (12, x12), (11, x11), (10, x10)] _
         refine rThen ?_
         refine xCond rfl rfl ?_ ?_
         · refine rSkip ?_
           refine rThen ?_
           refine rSeq ?_
           refine rBlock ?_
           refine rSeq ?_
           refine cLess [14, 13, 12, 11, 10] ?_
           refine xD Trydmix hE [10, 11, 12, 13, 14, 15, 16] rfl L5_GraphMore_r10_good (L5_GraphMore_r10_ok F _ _ _ _ _ _) ?_
           intro x10 x11 x12 x13 x14 x15 x16
           show OKq _ _ _ [(16, x16), (15, x15), (14, x14), (13, x13), (12, x12), (11, x11), (10, x10)] _
           refine rThen ?_
           refine rSeq ?_
           refine rSeq ?_
           refine cLess [16, 15, 14, 13, 12, 11, 10] ?_
           refine xR hE [10, 11, 12, 13, 14, 15, 16, 86] rfl (L5_GraphMore_r11_ok F _ _ _ _ _ _ _ _) ?_
           intro x10 x11 x12 x13 x14 x15 x16 x86
           show OKq _ _ _ [(86, x86), (16, x16), (15, x15), (14, x14), (13, x13), (12, x12), (11, x11), (10, x10)] _
           refine rThen ?_
           refine xCond rfl rfl ?_ ?_
           · refine rSeq ?_
             refine cLess [] ?_
             refine xR hE [8] rfl (L5_GraphMore_r12_ok F _) ?_
             intro x8
             show OKq _ _ _ [(8, x8)] _
             refine rThen ?_
             refine rRet ?_
             refine xThenR ?_
             refine xBlockR ?_
             refine xThenR ?_
             refine xThenR ?_
             refine xBlockR ?_
             refine xThenR ?_
             exact rDone (.inr rfl) rfl
           · refine rSkip ?_
             refine rThen ?_
             refine xSeq [10, 11, 12, 13, 14, 15, 16] (L5_GraphMore_k2 F (L5_GraphMore_l1 F (L5_GraphMore_k0 F ) k1) ) ?_ fun hj2 => ?_
             · intro x10 x11 x12 x13 x14 x15 x16
               show OKc _ _ [(16, x16), (15, x15), (14, x14), (13, x13), (12, x12), (11, x11), (10, x10)] _ _
               refine rSeq ?_
               refine cLess [16, 15, 14, 13, 12, 11, 10] ?_
               refine xR hE [10, 11, 12, 13, 14, 99] rfl (L5_GraphMore_r15_ok F _ _ _ _ _ _ _ _) ?_
               intro x10 x11 x12 x13 x14 x99
               show OKq _ _ _ [(99, x99), (14, x14), (13, x13), (12, x12), (11, x11), (10, x10)] _
               refine rThen ?_
               refine xCond rfl rfl ?_ ?_
               · refine rSeq ?_
                 refine cLess [] ?_
                 refine xR hE [8] rfl (L5_GraphMore_r16_ok F _) ?_
                 intro x8
                 show OKq _ _ _ [(8, x8)] _
                 refine rThen ?_
                 refine rRet ?_
                 refine xBlockR ?_
                 refine xThenR ?_
                 refine xThenR ?_
                 refine xBlockR ?_
                 refine xThenR ?_
                 exact rDone (.inr rfl) rfl
               · refine rSkip ?_
                 refine xBlockN ?_
                 refine rThen ?_
                 refine cLess [14, 13, 12, 11, 10] ?_
                 refine xR hE [10, 11, 12, 13, 14] rfl (L5_GraphMore_r9_ok F _ _ _ _ _ _) ?_
                 intro x10 x11 x12 x13 x14
                 show OKq _ _ _ [(14, x14), (13, x13), (12, x12), (11, x11), (10, x10)] _
                 exact qLess [14, 13, 12, 11, 10] (hI1 k1 x10 x11 x12 x13 x14)
             · refine rSeq ?_
               refine cLess [16, 15, 14, 13, 12, 11, 10] ?_
               refine xR hE [10, 11, 12, 13, 14, 15, 16, 89] rfl (L5_GraphMore_r13_ok F _ _ _ _ _ _ _ _) ?_
               intro x10 x11 x12 x13 x14 x15 x16 x89
               show OKq _ _ _ [(89, x89), (16, x16), (15, x15), (14, x14), (13, x13), (12, x12), (11, x11), (10, x10)] _
               refine rThen ?_
               refine xCond rfl rfl ?_ ?_
               · refine cLess [16, 15, 14, 13, 12, 11, 10] ?_
                 refine xR hE [10, 11, 12, 13, 14, 15, 16] rfl (L5_GraphMore_r14_ok F _ _ _ _ _ _ _ _) ?_
                 intro x10 x11 x12 x13 x14 x15 x16
                 show OKq _ _ _ [(16, x16), (15, x15), (14, x14), (13, x13), (12, x12), (11, x11), (10, x10)] _
                 exact qLess [16, 15, 14, 13, 12, 11, 10] (hj2 x10 x11 x12 x13 x14 x15 x16)
               · refine rSkip ?_
                 exact qLess [16, 15, 14, 13, 12, 11, 10] (hj2 x10 x11 x12 x13 x14 x15 x16)
         · refine rExit ?_
           refine xThenX ?_
           refine xThenX ?_
           refine rOut ?_
           exact qLess [] (hj0 )
   · exact rFail



end Go.Fw
