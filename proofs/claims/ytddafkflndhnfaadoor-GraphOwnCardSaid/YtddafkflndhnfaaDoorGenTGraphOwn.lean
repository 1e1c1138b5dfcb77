/-
  What this law comes to.
-/
import Derived.Test.YtddafkflndhnfaaDoorGenT
set_option linter.unusedVariables false
set_option maxRecDepth 20000
namespace Go.Fw
open Go.Proofs

/-! ### haruspex/haruspexlaw5.GraphOwn -/

def L5_GraphOwn_env (F : Nat) : Env := envOf [(16, L5_begun_m F), (17, L5_Made_m F), (25, R1_EqAll_m F), (26, graph_Parts_m F), (28, graph_Order_m F), (30, graph_Path_m F), (32, graph_Turn_m F)]

noncomputable def L5_GraphOwn_R (F : Nat) := rK Tryd.prog TrydG (L5_GraphOwn_env F) Tryd.f11
noncomputable def L5_GraphOwn_D (F : Nat) := dK Tryd.prog TrydG (L5_GraphOwn_env F) Tryd.f11

def L5_GraphOwn_r16 (F : Nat) (x8 x9 : Value) (K : Value → M Value) : M Value :=
  bnd (opFieldAddr 1 x8) fun v56 => bnd (opLoad v56) fun v57 => bnd (opFieldAddr 1 x9) fun v58 => bnd (opLoad v58) fun v59 => bnd (R1_EqAll F v57 v59) fun v60 => K v60

theorem L5_GraphOwn_r16_ok (F : Nat) (x8 x9 : Value) (K : Value → M Value) : L5_GraphOwn_r16 F x8 x9 K = L5_GraphOwn_R F 16 [(9, x9), (8, x8)] [6] K := by kernel_rfl

def L5_GraphOwn_r15 (F : Nat) (x2 x8 x9 : Value) (K : Value → Value → M Value) : M Value :=
  bnd (opLoadN 2 x8) fun v53 => bnd (graph_Path F v53 (.int .i64 (0)) x2) fun v55 => K x8 x9

theorem L5_GraphOwn_r15_ok (F : Nat) (x2 x8 x9 : Value) (K : Value → Value → M Value) : L5_GraphOwn_r15 F x2 x8 x9 K = L5_GraphOwn_R F 15 [(9, x9), (8, x8), (2, x2)] [8, 9] K := by kernel_rfl

def L5_GraphOwn_r14 (F : Nat) (x2 x8 x9 : Value) (K : Value → Value → Value → M Value) : M Value :=
  bnd (opLoadN 2 x8) fun v50 => bnd (graph_Order F v50 x2) fun v52 => K x2 x8 x9

theorem L5_GraphOwn_r14_ok (F : Nat) (x2 x8 x9 : Value) (K : Value → Value → Value → M Value) : L5_GraphOwn_r14 F x2 x8 x9 K = L5_GraphOwn_R F 14 [(9, x9), (8, x8), (2, x2)] [2, 8, 9] K := by kernel_rfl

def L5_GraphOwn_r13 (F : Nat) (x2 x8 x9 : Value) (K : Value → Value → Value → M Value) : M Value :=
  bnd (opLoadN 2 x8) fun v48 => bnd (graph_Parts F v48) fun v49 => K x2 x8 x9

theorem L5_GraphOwn_r13_ok (F : Nat) (x2 x8 x9 : Value) (K : Value → Value → Value → M Value) : L5_GraphOwn_r13 F x2 x8 x9 K = L5_GraphOwn_R F 13 [(9, x9), (8, x8), (2, x2)] [2, 8, 9] K := by kernel_rfl

def L5_GraphOwn_k0 (F : Nat) (x2 x8 x9 : Value) : M Value :=
  L5_GraphOwn_r13 F x2 x8 x9 (fun x2 x8 x9 => L5_GraphOwn_r14 F x2 x8 x9 (fun x2 x8 x9 => L5_GraphOwn_r15 F x2 x8 x9 (fun x8 x9 => L5_GraphOwn_r16 F x8 x9 (fun x6 => ret x6))))

def L5_GraphOwn_r8 (F : Nat) (x2 x8 x9 x10 x11 : Value) (K : Value → Value → Value → Value → Value → M Value) : M Value :=
  bnd (opBin .add x11 (.int .i64 (1))) fun v30 => K x2 x8 x9 x10 v30

theorem L5_GraphOwn_r8_ok (F : Nat) (x2 x8 x9 x10 x11 : Value) (K : Value → Value → Value → Value → Value → M Value) : L5_GraphOwn_r8 F x2 x8 x9 x10 x11 K = L5_GraphOwn_R F 8 [(11, x11), (10, x10), (9, x9), (8, x8), (2, x2)] [2, 8, 9, 10, 11] K := by kernel_rfl

def L5_GraphOwn_k2 (F : Nat) (A1 : Value → Value → Value → Value → Value → M Value) (x2 x8 x9 x10 x11 : Value) : M Value :=
  L5_GraphOwn_r8 F x2 x8 x9 x10 x11 (fun x2 x8 x9 x10 x11 => A1 x2 x8 x9 x10 x11)

def L5_GraphOwn_r11 (F : Nat) (x2 x8 x9 x10 x11 x12 : Value) (K : Value → Value → Value → Value → Value → Value → M Value) : M Value :=
  bnd (opBin .add x12 (.int .i64 (1))) fun v40 => K x2 x8 x9 x10 x11 v40

theorem L5_GraphOwn_r11_ok (F : Nat) (x2 x8 x9 x10 x11 x12 : Value) (K : Value → Value → Value → Value → Value → Value → M Value) : L5_GraphOwn_r11 F x2 x8 x9 x10 x11 x12 K = L5_GraphOwn_R F 11 [(12, x12), (11, x11), (10, x10), (9, x9), (8, x8), (2, x2)] [2, 8, 9, 10, 11, 12] K := by kernel_rfl

def L5_GraphOwn_r12 (F : Nat) (x2 x8 x9 x10 x11 x12 : Value) (K : Value → Value → Value → Value → Value → Value → M Value) : M Value :=
  bnd (opFieldAddr 1 x10) fun v41 => bnd (opLoad v41) fun v42 => bnd (opIndexAddr 1 v42 x11) fun v44 => bnd (opLoad v44) fun v45 => bnd (opIndexAddr 1 v45 x12) fun v47 => bnd (opStore v47 (.int .i64 (0))) fun _ => K x2 x8 x9 x10 x11 x12

theorem L5_GraphOwn_r12_ok (F : Nat) (x2 x8 x9 x10 x11 x12 : Value) (K : Value → Value → Value → Value → Value → Value → M Value) : L5_GraphOwn_r12 F x2 x8 x9 x10 x11 x12 K = L5_GraphOwn_R F 12 [(12, x12), (11, x11), (10, x10), (9, x9), (8, x8), (2, x2)] [2, 8, 9, 10, 11, 12] K := by kernel_rfl

def L5_GraphOwn_r10 (F : Nat) (x2 x8 x9 x10 x11 x12 : Value) (K : Value → Value → Value → Value → Value → Value → Value → M Value) : M Value :=
  bnd (opFieldAddr 1 x10) fun v32 => bnd (opLoad v32) fun v33 => bnd (opIndexAddr 1 v33 x11) fun v35 => bnd (opLoad v35) fun v36 => bnd (opLen v36) fun v37 => bnd (opBin .lss x12 v37) fun v38 => K x2 x8 x9 x10 x11 x12 v38

theorem L5_GraphOwn_r10_ok (F : Nat) (x2 x8 x9 x10 x11 x12 : Value) (K : Value → Value → Value → Value → Value → Value → Value → M Value) : L5_GraphOwn_r10 F x2 x8 x9 x10 x11 x12 K = L5_GraphOwn_R F 10 [(12, x12), (11, x11), (10, x10), (9, x9), (8, x8), (2, x2)] [2, 8, 9, 10, 11, 12, 38] K := by kernel_rfl

def L5_GraphOwn_b3 (F : Nat) (E3_2 : Value → Value → Value → Value → Value → M Value) (A3 : Value → Value → Value → Value → Value → Value → M Value) (x2 x8 x9 x10 x11 x12 : Value) : M Value :=
  L5_GraphOwn_r10 F x2 x8 x9 x10 x11 x12 (fun x2 x8 x9 x10 x11 x12 x38 => onB x38 (L5_GraphOwn_r12 F x2 x8 x9 x10 x11 x12 (fun x2 x8 x9 x10 x11 x12 => L5_GraphOwn_r11 F x2 x8 x9 x10 x11 x12 (fun x2 x8 x9 x10 x11 x12 => A3 x2 x8 x9 x10 x11 x12))) (E3_2 x2 x8 x9 x10 x11))

def L5_GraphOwn_l3 (F : Nat) (E3_2 : Value → Value → Value → Value → Value → M Value) : Nat → Value → Value → Value → Value → Value → Value → M Value
  | 0, _, _, _, _, _, _ => fail
  | k3 + 1, x2, x8, x9, x10, x11, x12 => L5_GraphOwn_b3 F E3_2 (L5_GraphOwn_l3 F E3_2 k3) x2 x8 x9 x10 x11 x12

theorem L5_GraphOwn_l3_s (F : Nat) (E3_2 : Value → Value → Value → Value → Value → M Value) (k3 : Nat) (x2 x8 x9 x10 x11 x12 : Value) : L5_GraphOwn_l3 F E3_2 (k3 + 1) x2 x8 x9 x10 x11 x12 = L5_GraphOwn_b3 F E3_2 (L5_GraphOwn_l3 F E3_2 k3) x2 x8 x9 x10 x11 x12 := rfl

def L5_GraphOwn_r9 (F : Nat) (x2 x8 x9 x10 x11 : Value) (K : Value → Value → Value → Value → Value → Value → M Value) : M Value :=
  K x2 x8 x9 x10 x11 (.int .i64 (0))

theorem L5_GraphOwn_r9_ok (F : Nat) (x2 x8 x9 x10 x11 : Value) (K : Value → Value → Value → Value → Value → Value → M Value) : L5_GraphOwn_r9 F x2 x8 x9 x10 x11 K = L5_GraphOwn_R F 9 [(11, x11), (10, x10), (9, x9), (8, x8), (2, x2)] [2, 8, 9, 10, 11, 12] K := by kernel_rfl

def L5_GraphOwn_r7 (F : Nat) (x2 x8 x9 x10 x11 : Value) (K : Value → Value → Value → Value → Value → Value → M Value) : M Value :=
  bnd (opFieldAddr 1 x10) fun v25 => bnd (opLoad v25) fun v26 => bnd (opLen v26) fun v27 => bnd (opBin .lss x11 v27) fun v28 => K x2 x8 x9 x10 x11 v28

theorem L5_GraphOwn_r7_ok (F : Nat) (x2 x8 x9 x10 x11 : Value) (K : Value → Value → Value → Value → Value → Value → M Value) : L5_GraphOwn_r7 F x2 x8 x9 x10 x11 K = L5_GraphOwn_R F 7 [(11, x11), (10, x10), (9, x9), (8, x8), (2, x2)] [2, 8, 9, 10, 11, 28] K := by kernel_rfl

def L5_GraphOwn_b1 (F : Nat) (E1_0 : Value → Value → Value → M Value) (A1 : Value → Value → Value → Value → Value → M Value) (x2 x8 x9 x10 x11 : Value) : M Value :=
  L5_GraphOwn_r7 F x2 x8 x9 x10 x11 (fun x2 x8 x9 x10 x11 x28 => onB x28 (L5_GraphOwn_r9 F x2 x8 x9 x10 x11 (fun x2 x8 x9 x10 x11 x12 => L5_GraphOwn_l3 F (fun x2 x8 x9 x10 x11 => L5_GraphOwn_k2 F A1 x2 x8 x9 x10 x11) F x2 x8 x9 x10 x11 x12)) (E1_0 x2 x8 x9))

def L5_GraphOwn_l1 (F : Nat) (E1_0 : Value → Value → Value → M Value) : Nat → Value → Value → Value → Value → Value → M Value
  | 0, _, _, _, _, _ => fail
  | k1 + 1, x2, x8, x9, x10, x11 => L5_GraphOwn_b1 F E1_0 (L5_GraphOwn_l1 F E1_0 k1) x2 x8 x9 x10 x11

theorem L5_GraphOwn_l1_s (F : Nat) (E1_0 : Value → Value → Value → M Value) (k1 : Nat) (x2 x8 x9 x10 x11 : Value) : L5_GraphOwn_l1 F E1_0 (k1 + 1) x2 x8 x9 x10 x11 = L5_GraphOwn_b1 F E1_0 (L5_GraphOwn_l1 F E1_0 k1) x2 x8 x9 x10 x11 := rfl

def L5_GraphOwn_r6 (F : Nat) (x2 x8 x9 x10 : Value) (K : Value → Value → Value → Value → Value → M Value) : M Value :=
  K x2 x8 x9 x10 (.int .i64 (0))

theorem L5_GraphOwn_r6_ok (F : Nat) (x2 x8 x9 x10 : Value) (K : Value → Value → Value → Value → Value → M Value) : L5_GraphOwn_r6 F x2 x8 x9 x10 K = L5_GraphOwn_R F 6 [(10, x10), (9, x9), (8, x8), (2, x2)] [2, 8, 9, 10, 11] K := by kernel_rfl

def L5_GraphOwn_r5 (F : Nat) (x2 x8 x9 : Value) (K : Value → Value → Value → Value → M Value) : M Value :=
  bnd (opLoadN 2 x8) fun v22 => bnd (graph_Turn F v22) fun v23 => bnd (opPtr [(.int .i64 (0)), (.slice none 0 0)]) fun v10 => bnd (opStoreN 2 v10 v23) fun _ => K x2 x8 x9 v10

theorem L5_GraphOwn_r5_ok (F : Nat) (x2 x8 x9 : Value) (K : Value → Value → Value → Value → M Value) : L5_GraphOwn_r5 F x2 x8 x9 K = L5_GraphOwn_R F 5 [(9, x9), (8, x8), (2, x2)] [2, 8, 9, 10] K := by kernel_rfl

def L5_GraphOwn_r4 (F : Nat) (x0 x1 x2 : Value) (K : Value → Value → Value → M Value) : M Value :=
  bnd (L5_Made F x0 x1) fun v18 => bnd (L5_Made F x0 x1) fun v21 => bnd (opPtr [(.int .i64 (0)), (.slice none 0 0)]) fun v8 => bnd (opPtr [(.int .i64 (0)), (.slice none 0 0)]) fun v9 => bnd (opStoreN 2 v8 v18) fun _ => bnd (opStoreN 2 v9 v21) fun _ => K x2 v8 v9

theorem L5_GraphOwn_r4_ok (F : Nat) (x0 x1 x2 : Value) (K : Value → Value → Value → M Value) : L5_GraphOwn_r4 F x0 x1 x2 K = L5_GraphOwn_R F 4 [(2, x2), (1, x1), (0, x0)] [2, 8, 9] K := by kernel_rfl

def L5_GraphOwn_r3 (F : Nat) (K : Value → M Value) : M Value :=
  K (.bool false)

theorem L5_GraphOwn_r3_ok (F : Nat) (K : Value → M Value) : L5_GraphOwn_r3 F K = L5_GraphOwn_R F 3 [] [6] K := by kernel_rfl

def L5_GraphOwn_r2 (F : Nat) (x0 x1 x2 x7 : Value) (K : Value → Value → Value → Value → M Value) : M Value :=
  bnd (opNot x7) fun v15 => K x0 x1 x2 v15

theorem L5_GraphOwn_r2_ok (F : Nat) (x0 x1 x2 x7 : Value) (K : Value → Value → Value → Value → M Value) : L5_GraphOwn_r2 F x0 x1 x2 x7 K = L5_GraphOwn_R F 2 [(7, x7), (2, x2), (1, x1), (0, x0)] [0, 1, 2, 15] K := by kernel_rfl

def L5_GraphOwn_r1 (F : Nat) (x0 x1 x2 : Value) (K : Value → Value → Value → Value → M Value) : M Value :=
  bnd (L5_begun F) fun v13 => K x0 x1 x2 v13

theorem L5_GraphOwn_r1_ok (F : Nat) (x0 x1 x2 : Value) (K : Value → Value → Value → Value → M Value) : L5_GraphOwn_r1 F x0 x1 x2 K = L5_GraphOwn_R F 1 [(2, x2), (1, x1), (0, x0)] [0, 1, 2, 7] K := by kernel_rfl

def L5_GraphOwn_r0 (F : Nat) (x0 x1 x2 : Value) (K : Value → Value → Value → M Value) : M Value :=
  K x0 x1 x2

theorem L5_GraphOwn_r0_ok (F : Nat) (x0 x1 x2 : Value) (K : Value → Value → Value → M Value) : L5_GraphOwn_r0 F x0 x1 x2 K = L5_GraphOwn_R F 0 [(2, x2), (1, x1), (0, x0)] [0, 1, 2] K := by kernel_rfl

def L5_GraphOwn (F : Nat) (x0 x1 x2 : Value) : M Value :=
  L5_GraphOwn_r0 F x0 x1 x2 (fun x0 x1 x2 => L5_GraphOwn_r1 F x0 x1 x2 (fun x0 x1 x2 x7 => L5_GraphOwn_r2 F x0 x1 x2 x7 (fun x0 x1 x2 x15 => onB x15 (L5_GraphOwn_r3 F (fun x6 => ret x6)) (L5_GraphOwn_r4 F x0 x1 x2 (fun x2 x8 x9 => L5_GraphOwn_r5 F x2 x8 x9 (fun x2 x8 x9 x10 => L5_GraphOwn_r6 F x2 x8 x9 x10 (fun x2 x8 x9 x10 x11 => L5_GraphOwn_l1 F (fun x2 x8 x9 => L5_GraphOwn_k0 F x2 x8 x9) F x2 x8 x9 x10 x11)))))))

def L5_GraphOwn_m (F : Nat) : List Value → M Value
  | [x0, x1, x2] => L5_GraphOwn F x0 x1 x2
  | _ => fail

theorem L5_GraphOwn_body : Tryd.f11.body = some (.seq (.region 0 (opsOf Tryd.f11 0) false) (.seq (.region 1 (opsOf Tryd.f11 1) false) (.seq (.seq (.region 2 (opsOf Tryd.f11 2) false) (.cond (.tmp 15) (.seq (.region 3 (opsOf Tryd.f11 3) false) .ret) .skip)) (.seq (.region 4 (opsOf Tryd.f11 4) false) (.seq (.region 5 (opsOf Tryd.f11 5) false) (.seq (.seq (.region 6 (opsOf Tryd.f11 6) false) (.block 0 (.loop (.seq (.seq (.region 7 (opsOf Tryd.f11 7) false) (.cond (.tmp 28) .skip (.exit 0))) (.seq (.block 1 (.seq (.region 9 (opsOf Tryd.f11 9) false) (.block 2 (.loop (.seq (.seq (.region 10 (opsOf Tryd.f11 10) false) (.cond (.tmp 38) .skip (.exit 2))) (.seq (.block 3 (.region 12 (opsOf Tryd.f11 12) false)) (.region 11 (opsOf Tryd.f11 11) false))))))) (.region 8 (opsOf Tryd.f11 8) false)))))) (.seq (.region 13 (opsOf Tryd.f11 13) false) (.seq (.region 14 (opsOf Tryd.f11 14) false) (.seq (.region 15 (opsOf Tryd.f11 15) false) (.seq (.region 16 (opsOf Tryd.f11 16) false) .ret)))))))))) := by kernel_rfl

theorem L5_GraphOwn_ok (F : Nat) : Sim Tryd.prog TrydG 11 (L5_GraphOwn_m F) := by
 have hE : EnvOK Tryd.prog TrydG (L5_GraphOwn_env F) := (EnvOK.cons (L5_begun_ok F) (EnvOK.cons (L5_Made_ok F) (EnvOK.cons (R1_EqAll_ok F) (EnvOK.cons (graph_Parts_ok F) (EnvOK.cons (graph_Order_ok F) (EnvOK.cons (graph_Path_ok F) (EnvOK.cons (graph_Turn_ok F) EnvOK.nil)))))))
 refine Sim.of_body (E := L5_GraphOwn_env F) Tryd.func11 L5_GraphOwn_body Tryd.call11 ?_ ?_
 · intro args hl; unfold L5_GraphOwn_m; split
   · exact absurd hl (Nat.not_lt.2 (Nat.le_of_ble_eq_true rfl))
   · rfl
 · intro args ρ h w z; unfold L5_GraphOwn_m; split
   · rename_i x0 x1 x2; show OKc _ _ [(0, x0), (1, x1), (2, x2)] _ _
     refine rSeq ?_
     refine cLess [2, 1, 0] ?_
     refine xR hE [0, 1, 2] rfl (L5_GraphOwn_r0_ok F _ _ _ _) ?_
     intro x0 x1 x2
     show OKq _ _ _ [(2, x2), (1, x1), (0, x0)] _
     refine rThen ?_
     refine rSeq ?_
     refine cLess [2, 1, 0] ?_
     refine xR hE [0, 1, 2, 7] rfl (L5_GraphOwn_r1_ok F _ _ _ _) ?_
     intro x0 x1 x2 x7
     show OKq _ _ _ [(7, x7), (2, x2), (1, x1), (0, x0)] _
     refine rThen ?_
     refine rSeq ?_
     refine rSeq ?_
     refine cLess [7, 2, 1, 0] ?_
     refine xR hE [0, 1, 2, 15] rfl (L5_GraphOwn_r2_ok F _ _ _ _ _) ?_
     intro x0 x1 x2 x15
     show OKq _ _ _ [(15, x15), (2, x2), (1, x1), (0, x0)] _
     refine rThen ?_
     refine xCond rfl rfl ?_ ?_
     · refine rSeq ?_
       refine cLess [] ?_
       refine xR hE [6] rfl (L5_GraphOwn_r3_ok F _) ?_
       intro x6
       show OKq _ _ _ [(6, x6)] _
       refine rThen ?_
       refine rRet ?_
       refine xThenR ?_
       exact rDone (.inr rfl) rfl
     · refine rSkip ?_
       refine rThen ?_
       refine rSeq ?_
       refine cLess [2, 1, 0] ?_
       refine xR hE [2, 8, 9] rfl (L5_GraphOwn_r4_ok F _ _ _ _) ?_
       intro x2 x8 x9
       show OKq _ _ _ [(9, x9), (8, x8), (2, x2)] _
       refine rThen ?_
       refine rSeq ?_
       refine cLess [9, 8, 2] ?_
       refine xR hE [2, 8, 9, 10] rfl (L5_GraphOwn_r5_ok F _ _ _ _) ?_
       intro x2 x8 x9 x10
       show OKq _ _ _ [(10, x10), (9, x9), (8, x8), (2, x2)] _
       refine rThen ?_
       refine xSeq [2, 8, 9] (L5_GraphOwn_k0 F ) ?_ fun hj0 => ?_
       · intro x2 x8 x9
         show OKc _ _ [(9, x9), (8, x8), (2, x2)] _ _
         refine rSeq ?_
         refine cLess [9, 8, 2] ?_
         refine xR hE [2, 8, 9] rfl (L5_GraphOwn_r13_ok F _ _ _ _) ?_
         intro x2 x8 x9
         show OKq _ _ _ [(9, x9), (8, x8), (2, x2)] _
         refine rThen ?_
         refine rSeq ?_
         refine cLess [9, 8, 2] ?_
         refine xR hE [2, 8, 9] rfl (L5_GraphOwn_r14_ok F _ _ _ _) ?_
         intro x2 x8 x9
         show OKq _ _ _ [(9, x9), (8, x8), (2, x2)] _
         refine rThen ?_
         refine rSeq ?_
         refine cLess [9, 8, 2] ?_
         refine xR hE [8, 9] rfl (L5_GraphOwn_r15_ok F _ _ _ _) ?_
         intro x8 x9
         show OKq _ _ _ [(9, x9), (8, x8)] _
         refine rThen ?_
         refine rSeq ?_
         refine cLess [9, 8] ?_
         refine xR hE [6] rfl (L5_GraphOwn_r16_ok F _ _ _) ?_
         intro x6
         show OKq _ _ _ [(6, x6)] _
         refine rThen ?_
         refine rRet ?_
         exact rDone (.inr rfl) rfl
       · refine rSeq ?_
         refine cLess [10, 9, 8, 2] ?_
         refine xR hE [2, 8, 9, 10, 11] rfl (L5_GraphOwn_r6_ok F _ _ _ _ _) ?_
         intro x2 x8 x9 x10 x11
         show OKq _ _ _ [(11, x11), (10, x10), (9, x9), (8, x8), (2, x2)] _
         refine rThen ?_
         refine rBlock ?_
         refine cLess [11, 10, 9, 8, 2] ?_
         refine xLoopAt [2, 8, 9, 10, 11] [] (fun k1 => L5_GraphOwn_l1 F (fun x2 x8 x9 => L5_GraphOwn_k0 F x2 x8 x9) k1) F [x2, x8, x9, x10, x11] rfl rfl (fun _ _ _ _ _ => rfl) fun I hI1 k1 => ?_
         intro x2 x8 x9 x10 x11
         show OKc _ _ [(11, x11), (10, x10), (9, x9), (8, x8), (2, x2)] _ _
         refine cAs (L5_GraphOwn_l1_s F _ _ _ _ _ _ _) ?_
         refine rSeq ?_
         refine rSeq ?_
         refine cLess [11, 10, 9, 8, 2] ?_
         refine xR hE [2, 8, 9, 10, 11, 28] rfl (L5_GraphOwn_r7_ok F _ _ _ _ _ _) ?_
         intro x2 x8 x9 x10 x11 x28
         show OKq _ _ _ [(28, x28), (11, x11), (10, x10), (9, x9), (8, x8), (2, x2)] _
         refine rThen ?_
         refine xCond rfl rfl ?_ ?_
         · refine rSkip ?_
           refine rThen ?_
           refine xSeq [2, 8, 9, 10, 11] (L5_GraphOwn_k2 F (L5_GraphOwn_l1 F (fun x2 x8 x9 => L5_GraphOwn_k0 F x2 x8 x9) k1) ) ?_ fun hj2 => ?_
           · intro x2 x8 x9 x10 x11
             show OKc _ _ [(11, x11), (10, x10), (9, x9), (8, x8), (2, x2)] _ _
             refine cLess [11, 10, 9, 8, 2] ?_
             refine xR hE [2, 8, 9, 10, 11] rfl (L5_GraphOwn_r8_ok F _ _ _ _ _ _) ?_
             intro x2 x8 x9 x10 x11
             show OKq _ _ _ [(11, x11), (10, x10), (9, x9), (8, x8), (2, x2)] _
             exact qLess [11, 10, 9, 8, 2] (hI1 k1 x2 x8 x9 x10 x11)
           · refine rBlock ?_
             refine rSeq ?_
             refine cLess [11, 10, 9, 8, 2] ?_
             refine xR hE [2, 8, 9, 10, 11, 12] rfl (L5_GraphOwn_r9_ok F _ _ _ _ _ _) ?_
             intro x2 x8 x9 x10 x11 x12
             show OKq _ _ _ [(12, x12), (11, x11), (10, x10), (9, x9), (8, x8), (2, x2)] _
             refine rThen ?_
             refine rBlock ?_
             refine cLess [12, 11, 10, 9, 8, 2] ?_
             refine xLoopAt [2, 8, 9, 10, 11, 12] [] (fun k3 => L5_GraphOwn_l3 F (fun x2 x8 x9 x10 x11 => L5_GraphOwn_k2 F (L5_GraphOwn_l1 F (fun x2 x8 x9 => L5_GraphOwn_k0 F x2 x8 x9) k1) x2 x8 x9 x10 x11) k3) F [x2, x8, x9, x10, x11, x12] rfl rfl (fun _ _ _ _ _ _ => rfl) fun I hI3 k3 => ?_
             intro x2 x8 x9 x10 x11 x12
             show OKc _ _ [(12, x12), (11, x11), (10, x10), (9, x9), (8, x8), (2, x2)] _ _
             refine cAs (L5_GraphOwn_l3_s F _ _ _ _ _ _ _ _) ?_
             refine rSeq ?_
             refine rSeq ?_
             refine cLess [12, 11, 10, 9, 8, 2] ?_
             refine xR hE [2, 8, 9, 10, 11, 12, 38] rfl (L5_GraphOwn_r10_ok F _ _ _ _ _ _ _) ?_
             intro x2 x8 x9 x10 x11 x12 x38
             show OKq _ _ _ [(38, x38), (12, x12), (11, x11), (10, x10), (9, x9), (8, x8), (2, x2)] _
             refine rThen ?_
             refine xCond rfl rfl ?_ ?_
             · refine rSkip ?_
               refine rThen ?_
               refine rSeq ?_
               refine rBlock ?_
               refine cLess [12, 11, 10, 9, 8, 2] ?_
               refine xR hE [2, 8, 9, 10, 11, 12] rfl (L5_GraphOwn_r12_ok F _ _ _ _ _ _ _) ?_
               intro x2 x8 x9 x10 x11 x12
               show OKq _ _ _ [(12, x12), (11, x11), (10, x10), (9, x9), (8, x8), (2, x2)] _
               refine xBlockN ?_
               refine rThen ?_
               refine cLess [12, 11, 10, 9, 8, 2] ?_
               refine xR hE [2, 8, 9, 10, 11, 12] rfl (L5_GraphOwn_r11_ok F _ _ _ _ _ _ _) ?_
               intro x2 x8 x9 x10 x11 x12
               show OKq _ _ _ [(12, x12), (11, x11), (10, x10), (9, x9), (8, x8), (2, x2)] _
               exact qLess [12, 11, 10, 9, 8, 2] (hI3 k3 x2 x8 x9 x10 x11 x12)
             · refine rExit ?_
               refine xThenX ?_
               refine xThenX ?_
               refine rOut ?_
               refine xBlockN ?_
               exact qLess [11, 10, 9, 8, 2] (hj2 x2 x8 x9 x10 x11)
         · refine rExit ?_
           refine xThenX ?_
           refine xThenX ?_
           refine rOut ?_
           exact qLess [9, 8, 2] (hj0 x2 x8 x9)
   · exact rFail



end Go.Fw
