/-
  What this law comes to.
-/
import Derived.Test.YtddafkflndhnfaaDoorGenT
set_option linter.unusedVariables false
set_option maxRecDepth 20000
namespace Go.Fw
open Go.Proofs

/-! ### haruspex/haruspexlaw5.GraphReach -/

def L5_GraphReach_env (F : Nat) : Env := envOf [(16, L5_begun_m F), (17, L5_Made_m F), (18, R1_Eq_m F), (19, graph_Reach_m F), (20, bitset_Set_All_m F), (21, R1_Set_m F), (22, R1_Reach_m F), (23, graph_Loops_m F), (24, R1_Loops_m F)]

noncomputable def L5_GraphReach_R (F : Nat) := rK Tryd.prog TrydG (L5_GraphReach_env F) Tryd.f3
noncomputable def L5_GraphReach_D (F : Nat) := dK Tryd.prog TrydG (L5_GraphReach_env F) Tryd.f3

def L5_GraphReach_r7 (F : Nat) (x2 x8 : Value) (K : Value → M Value) : M Value :=
  bnd (opLoadN 2 x8) fun v20 => bnd (opFieldAddr 1 x8) fun v24 => bnd (opLoad v24) fun v25 => bnd (graph_Reach F v20 x2) fun v22 => bnd (opChk false v24 v25) fun _ => bnd (bitset_Set_All F v22) fun v23 => bnd (opChk false v24 v25) fun _ => bnd (R1_Reach F v25 x2 (.int .i64 (-1))) fun v27 => bnd (R1_Set F v27) fun v28 => bnd (R1_Eq F v23 v28) fun v29 => onB v29 (bnd (opLoadN 2 x8) fun v31 => bnd (opFieldAddr 1 x8) fun v34 => bnd (opLoad v34) fun v35 => bnd (graph_Loops F v31) fun v32 => bnd (opChk false v34 v35) fun _ => bnd (bitset_Set_All F v32) fun v33 => bnd (opChk false v34 v35) fun _ => bnd (R1_Loops F v35) fun v36 => bnd (R1_Eq F v33 v36) fun v37 => K v37) (K (.bool false))

theorem L5_GraphReach_r7_ok (F : Nat) (x2 x8 : Value) (K : Value → M Value) : L5_GraphReach_r7 F x2 x8 K = L5_GraphReach_D F 7 [0, 1, 4, 5, 6, 2, 3, 7, 8, 9, 10, 11, 14, 15, 12, 13, 16, 17, 18, 19] [(8, x8), (2, x2)] [6] K := by kernel_rfl

theorem L5_GraphReach_r7_good : goodOrder (opsOf Tryd.f3 7) [0, 1, 4, 5, 6, 2, 3, 7, 8, 9, 10, 11, 14, 15, 12, 13, 16, 17, 18, 19] = true := by kernel_rfl

def L5_GraphReach_k0 (F : Nat) (x2 x8 : Value) : M Value :=
  L5_GraphReach_r7 F x2 x8 (fun x6 => ret x6)

def L5_GraphReach_r6 (F : Nat) (x2 x8 : Value) (K : Value → Value → M Value) : M Value :=
  bnd (opSlice 1 x2 none (some (.int .i64 (10))) none) fun v19 => K v19 x8

theorem L5_GraphReach_r6_ok (F : Nat) (x2 x8 : Value) (K : Value → Value → M Value) : L5_GraphReach_r6 F x2 x8 K = L5_GraphReach_R F 6 [(8, x8), (2, x2)] [2, 8] K := by kernel_rfl

def L5_GraphReach_r5 (F : Nat) (x2 x8 : Value) (K : Value → Value → Value → M Value) : M Value :=
  bnd (opLen x2) fun v16 => bnd (opBin .gtr v16 (.int .i64 (10))) fun v17 => K x2 x8 v17

theorem L5_GraphReach_r5_ok (F : Nat) (x2 x8 : Value) (K : Value → Value → Value → M Value) : L5_GraphReach_r5 F x2 x8 K = L5_GraphReach_R F 5 [(8, x8), (2, x2)] [2, 8, 17] K := by kernel_rfl

def L5_GraphReach_r4 (F : Nat) (x0 x1 x2 : Value) (K : Value → Value → M Value) : M Value :=
  bnd (L5_Made F x0 x1) fun v14 => bnd (opPtr [(.int .i64 (0)), (.slice none 0 0)]) fun v8 => bnd (opStoreN 2 v8 v14) fun _ => K x2 v8

theorem L5_GraphReach_r4_ok (F : Nat) (x0 x1 x2 : Value) (K : Value → Value → M Value) : L5_GraphReach_r4 F x0 x1 x2 K = L5_GraphReach_R F 4 [(2, x2), (1, x1), (0, x0)] [2, 8] K := by kernel_rfl

def L5_GraphReach_r3 (F : Nat) (K : Value → M Value) : M Value :=
  K (.bool false)

theorem L5_GraphReach_r3_ok (F : Nat) (K : Value → M Value) : L5_GraphReach_r3 F K = L5_GraphReach_R F 3 [] [6] K := by kernel_rfl

def L5_GraphReach_r2 (F : Nat) (x0 x1 x2 x7 : Value) (K : Value → Value → Value → Value → M Value) : M Value :=
  bnd (opNot x7) fun v11 => K x0 x1 x2 v11

theorem L5_GraphReach_r2_ok (F : Nat) (x0 x1 x2 x7 : Value) (K : Value → Value → Value → Value → M Value) : L5_GraphReach_r2 F x0 x1 x2 x7 K = L5_GraphReach_R F 2 [(7, x7), (2, x2), (1, x1), (0, x0)] [0, 1, 2, 11] K := by kernel_rfl

def L5_GraphReach_r1 (F : Nat) (x0 x1 x2 : Value) (K : Value → Value → Value → Value → M Value) : M Value :=
  bnd (L5_begun F) fun v9 => K x0 x1 x2 v9

theorem L5_GraphReach_r1_ok (F : Nat) (x0 x1 x2 : Value) (K : Value → Value → Value → Value → M Value) : L5_GraphReach_r1 F x0 x1 x2 K = L5_GraphReach_R F 1 [(2, x2), (1, x1), (0, x0)] [0, 1, 2, 7] K := by kernel_rfl

def L5_GraphReach_r0 (F : Nat) (x0 x1 x2 : Value) (K : Value → Value → Value → M Value) : M Value :=
  K x0 x1 x2

theorem L5_GraphReach_r0_ok (F : Nat) (x0 x1 x2 : Value) (K : Value → Value → Value → M Value) : L5_GraphReach_r0 F x0 x1 x2 K = L5_GraphReach_R F 0 [(2, x2), (1, x1), (0, x0)] [0, 1, 2] K := by kernel_rfl

def L5_GraphReach (F : Nat) (x0 x1 x2 : Value) : M Value :=
  L5_GraphReach_r0 F x0 x1 x2 (fun x0 x1 x2 => L5_GraphReach_r1 F x0 x1 x2 (fun x0 x1 x2 x7 => L5_GraphReach_r2 F x0 x1 x2 x7 (fun x0 x1 x2 x11 => onB x11 (L5_GraphReach_r3 F (fun x6 => ret x6)) (L5_GraphReach_r4 F x0 x1 x2 (fun x2 x8 => L5_GraphReach_r5 F x2 x8 (fun x2 x8 x17 => onB x17 (L5_GraphReach_r6 F x2 x8 (fun x2 x8 => L5_GraphReach_k0 F x2 x8)) (L5_GraphReach_k0 F x2 x8)))))))

def L5_GraphReach_m (F : Nat) : List Value → M Value
  | [x0, x1, x2] => L5_GraphReach F x0 x1 x2
  | _ => fail

theorem L5_GraphReach_body : Tryd.f3.body = some (.seq (.region 0 (opsOf Tryd.f3 0) false) (.seq (.region 1 (opsOf Tryd.f3 1) false) (.seq (.seq (.region 2 (opsOf Tryd.f3 2) false) (.cond (.tmp 11) (.seq (.region 3 (opsOf Tryd.f3 3) false) .ret) .skip)) (.seq (.region 4 (opsOf Tryd.f3 4) false) (.seq (.seq (.region 5 (opsOf Tryd.f3 5) false) (.cond (.tmp 17) (.region 6 (opsOf Tryd.f3 6) false) .skip)) (.seq (.region 7 (opsOf Tryd.f3 7) true) .ret)))))) := by kernel_rfl

theorem L5_GraphReach_ok (F : Nat) : Sim Tryd.prog TrydG 3 (L5_GraphReach_m F) := by
 have hE : EnvOK Tryd.prog TrydG (L5_GraphReach_env F) := (EnvOK.cons (L5_begun_ok F) (EnvOK.cons (L5_Made_ok F) (EnvOK.cons (R1_Eq_ok F) (EnvOK.cons (graph_Reach_ok F) (EnvOK.cons (bitset_Set_All_ok F) (EnvOK.cons (R1_Set_ok F) (EnvOK.cons (R1_Reach_ok F) (EnvOK.cons (graph_Loops_ok F) (EnvOK.cons (R1_Loops_ok F) EnvOK.nil)))))))))
 refine Sim.of_body (E := L5_GraphReach_env F) Tryd.func3 L5_GraphReach_body Tryd.call3 ?_ ?_
 · intro args hl; unfold L5_GraphReach_m; split
   · exact absurd hl (Nat.not_lt.2 (Nat.le_of_ble_eq_true rfl))
   · rfl
 · intro args ρ h w z; unfold L5_GraphReach_m; split
   · rename_i x0 x1 x2; show OKc _ _ [(0, x0), (1, x1), (2, x2)] _ _
     refine rSeq ?_
     refine cLess [2, 1, 0] ?_
     refine xR hE [0, 1, 2] rfl (L5_GraphReach_r0_ok F _ _ _ _) ?_
     intro x0 x1 x2
     show OKq _ _ _ [(2, x2), (1, x1), (0, x0)] _
     refine rThen ?_
     refine rSeq ?_
     refine cLess [2, 1, 0] ?_
     refine xR hE [0, 1, 2, 7] rfl (L5_GraphReach_r1_ok F _ _ _ _) ?_
     intro x0 x1 x2 x7
     show OKq _ _ _ [(7, x7), (2, x2), (1, x1), (0, x0)] _
     refine rThen ?_
     refine rSeq ?_
     refine rSeq ?_
     refine cLess [7, 2, 1, 0] ?_
     refine xR hE [0, 1, 2, 11] rfl (L5_GraphReach_r2_ok F _ _ _ _ _) ?_
     intro x0 x1 x2 x11
     show OKq _ _ _ [(11, x11), (2, x2), (1, x1), (0, x0)] _
     refine rThen ?_
     refine xCond rfl rfl ?_ ?_
     · refine rSeq ?_
       refine cLess [] ?_
       refine xR hE [6] rfl (L5_GraphReach_r3_ok F _) ?_
       intro x6
       show OKq _ _ _ [(6, x6)] _
       refine rThen ?_
       refine rRet ?_
       refine xThenR ?_
       exact rDone (.inr rfl) rfl
     · refine rSkip ?_
       refine rThen ?_
       refine rSeq ?_
       refine cLess [2, 1, 0] ?_
       refine xR hE [2, 8] rfl (L5_GraphReach_r4_ok F _ _ _ _) ?_
       intro x2 x8
       show OKq _ _ _ [(8, x8), (2, x2)] _
       refine rThen ?_
       refine xSeq [2, 8] (L5_GraphReach_k0 F ) ?_ fun hj0 => ?_
       · intro x2 x8
         show OKc _ _ [(8, x8), (2, x2)] _ _
         refine rSeq ?_
         refine cLess [8, 2] ?_
         refine xD Trydmix hE [6] rfl L5_GraphReach_r7_good (L5_GraphReach_r7_ok F _ _ _) ?_
         intro x6
         show OKq _ _ _ [(6, x6)] _
         refine rThen ?_
         refine rRet ?_
         exact rDone (.inr rfl) rfl
       · refine rSeq ?_
         refine cLess [8, 2] ?_
         refine xR hE [2, 8, 17] rfl (L5_GraphReach_r5_ok F _ _ _) ?_
         intro x2 x8 x17
         show OKq _ _ _ [(17, x17), (8, x8), (2, x2)] _
         refine rThen ?_
         refine xCond rfl rfl ?_ ?_
         · refine cLess [8, 2] ?_
           refine xR hE [2, 8] rfl (L5_GraphReach_r6_ok F _ _ _) ?_
           intro x2 x8
           show OKq _ _ _ [(8, x8), (2, x2)] _
           exact qLess [8, 2] (hj0 x2 x8)
         · refine rSkip ?_
           exact qLess [8, 2] (hj0 x2 x8)
   · exact rFail



end Go.Fw
