/-
  What this law comes to.
-/
import Derived.Test.YtddafkflndhnfaaDoorGenD
set_option linter.unusedVariables false
set_option maxRecDepth 20000
namespace Go.Fw
open Go.Proofs

/-! ### haruspex/haruspexlaw5.GraphPath -/

def L5_GraphPath_env (F : Nat) : Env := envOf [(16, L5_begun_m F), (17, L5_Made_m F), (18, R1_Eq_m F), (30, graph_Path_m F), (31, R1_Path_m F)]

noncomputable def L5_GraphPath_R (F : Nat) := rK Tryd.prog TrydG (L5_GraphPath_env F) Tryd.f6
noncomputable def L5_GraphPath_D (F : Nat) := dK Tryd.prog TrydG (L5_GraphPath_env F) Tryd.f6

def L5_GraphPath_r5 (F : Nat) (x2 x3 x10 : Value) (K : Value → M Value) : M Value :=
  bnd (opLoadN 2 x10) fun v17 => bnd (opFieldAddr 1 x10) fun v21 => bnd (opLoad v21) fun v22 => bnd (graph_Path F v17 x2 x3) fun v20 => bnd (opChk false v21 v22) fun _ => bnd (R1_Path F v22 x2 x3) fun v25 => bnd (R1_Eq F v20 v25) fun v26 => K v26

theorem L5_GraphPath_r5_ok (F : Nat) (x2 x3 x10 : Value) (K : Value → M Value) : L5_GraphPath_r5 F x2 x3 x10 K = L5_GraphPath_D F 5 [0, 1, 2, 4, 5, 6, 7, 3, 8, 9, 10] [(10, x10), (3, x3), (2, x2)] [8] K := by kernel_rfl

theorem L5_GraphPath_r5_good : goodOrder (opsOf Tryd.f6 5) [0, 1, 2, 4, 5, 6, 7, 3, 8, 9, 10] = true := by kernel_rfl

def L5_GraphPath_r4 (F : Nat) (x0 x1 x2 x3 : Value) (K : Value → Value → Value → M Value) : M Value :=
  bnd (L5_Made F x0 x1) fun v16 => bnd (opPtr [(.int .i64 (0)), (.slice none 0 0)]) fun v10 => bnd (opStoreN 2 v10 v16) fun _ => K x2 x3 v10

theorem L5_GraphPath_r4_ok (F : Nat) (x0 x1 x2 x3 : Value) (K : Value → Value → Value → M Value) : L5_GraphPath_r4 F x0 x1 x2 x3 K = L5_GraphPath_R F 4 [(3, x3), (2, x2), (1, x1), (0, x0)] [2, 3, 10] K := by kernel_rfl

def L5_GraphPath_r3 (F : Nat) (K : Value → M Value) : M Value :=
  K (.bool false)

theorem L5_GraphPath_r3_ok (F : Nat) (K : Value → M Value) : L5_GraphPath_r3 F K = L5_GraphPath_R F 3 [] [8] K := by kernel_rfl

def L5_GraphPath_r2 (F : Nat) (x0 x1 x2 x3 x9 : Value) (K : Value → Value → Value → Value → Value → M Value) : M Value :=
  bnd (opNot x9) fun v13 => K x0 x1 x2 x3 v13

theorem L5_GraphPath_r2_ok (F : Nat) (x0 x1 x2 x3 x9 : Value) (K : Value → Value → Value → Value → Value → M Value) : L5_GraphPath_r2 F x0 x1 x2 x3 x9 K = L5_GraphPath_R F 2 [(9, x9), (3, x3), (2, x2), (1, x1), (0, x0)] [0, 1, 2, 3, 13] K := by kernel_rfl

def L5_GraphPath_r1 (F : Nat) (x0 x1 x2 x3 : Value) (K : Value → Value → Value → Value → Value → M Value) : M Value :=
  bnd (L5_begun F) fun v11 => K x0 x1 x2 x3 v11

theorem L5_GraphPath_r1_ok (F : Nat) (x0 x1 x2 x3 : Value) (K : Value → Value → Value → Value → Value → M Value) : L5_GraphPath_r1 F x0 x1 x2 x3 K = L5_GraphPath_R F 1 [(3, x3), (2, x2), (1, x1), (0, x0)] [0, 1, 2, 3, 9] K := by kernel_rfl

def L5_GraphPath_r0 (F : Nat) (x0 x1 x2 x3 : Value) (K : Value → Value → Value → Value → M Value) : M Value :=
  K x0 x1 x2 x3

theorem L5_GraphPath_r0_ok (F : Nat) (x0 x1 x2 x3 : Value) (K : Value → Value → Value → Value → M Value) : L5_GraphPath_r0 F x0 x1 x2 x3 K = L5_GraphPath_R F 0 [(3, x3), (2, x2), (1, x1), (0, x0)] [0, 1, 2, 3] K := by kernel_rfl

def L5_GraphPath (F : Nat) (x0 x1 x2 x3 : Value) : M Value :=
  L5_GraphPath_r0 F x0 x1 x2 x3 (fun x0 x1 x2 x3 => L5_GraphPath_r1 F x0 x1 x2 x3 (fun x0 x1 x2 x3 x9 => L5_GraphPath_r2 F x0 x1 x2 x3 x9 (fun x0 x1 x2 x3 x13 => onB x13 (L5_GraphPath_r3 F (fun x8 => ret x8)) (L5_GraphPath_r4 F x0 x1 x2 x3 (fun x2 x3 x10 => L5_GraphPath_r5 F x2 x3 x10 (fun x8 => ret x8))))))

def L5_GraphPath_m (F : Nat) : List Value → M Value
  | [x0, x1, x2, x3] => L5_GraphPath F x0 x1 x2 x3
  | _ => fail

theorem L5_GraphPath_body : Tryd.f6.body = some (.seq (.region 0 (opsOf Tryd.f6 0) false) (.seq (.region 1 (opsOf Tryd.f6 1) false) (.seq (.seq (.region 2 (opsOf Tryd.f6 2) false) (.cond (.tmp 13) (.seq (.region 3 (opsOf Tryd.f6 3) false) .ret) .skip)) (.seq (.region 4 (opsOf Tryd.f6 4) false) (.seq (.region 5 (opsOf Tryd.f6 5) true) .ret))))) := by kernel_rfl

theorem L5_GraphPath_ok (F : Nat) : Sim Tryd.prog TrydG 6 (L5_GraphPath_m F) := by
 have hE : EnvOK Tryd.prog TrydG (L5_GraphPath_env F) := (EnvOK.cons (L5_begun_ok F) (EnvOK.cons (L5_Made_ok F) (EnvOK.cons (R1_Eq_ok F) (EnvOK.cons (graph_Path_ok F) (EnvOK.cons (R1_Path_ok F) EnvOK.nil)))))
 refine Sim.of_body (E := L5_GraphPath_env F) Tryd.func6 L5_GraphPath_body Tryd.call6 ?_ ?_
 · intro args hl; unfold L5_GraphPath_m; split
   · exact absurd hl (Nat.not_lt.2 (Nat.le_of_ble_eq_true rfl))
   · rfl
 · intro args ρ h w z; unfold L5_GraphPath_m; split
   · rename_i x0 x1 x2 x3; show OKc _ _ [(0, x0), (1, x1), (2, x2), (3, x3)] _ _
     refine rSeq ?_
     refine cLess [3, 2, 1, 0] ?_
     refine xR hE [0, 1, 2, 3] rfl (L5_GraphPath_r0_ok F _ _ _ _ _) ?_
     intro x0 x1 x2 x3
     show OKq _ _ _ [(3, x3), (2, x2), (1, x1), (0, x0)] _
     refine rThen ?_
     refine rSeq ?_
     refine cLess [3, 2, 1, 0] ?_
     refine xR hE [0, 1, 2, 3, 9] rfl (L5_GraphPath_r1_ok F _ _ _ _ _) ?_
     intro x0 x1 x2 x3 x9
     show OKq _ _ _ [(9, x9), (3, x3), (2, x2), (1, x1), (0, x0)] _
     refine rThen ?_
     refine rSeq ?_
     refine rSeq ?_
     refine cLess [9, 3, 2, 1, 0] ?_
     refine xR hE [0, 1, 2, 3, 13] rfl (L5_GraphPath_r2_ok F _ _ _ _ _ _) ?_
     intro x0 x1 x2 x3 x13
     show OKq _ _ _ [(13, x13), (3, x3), (2, x2), (1, x1), (0, x0)] _
     refine rThen ?_
     refine xCond rfl rfl ?_ ?_
     · refine rSeq ?_
       refine cLess [] ?_
       refine xR hE [8] rfl (L5_GraphPath_r3_ok F _) ?_
       intro x8
       show OKq _ _ _ [(8, x8)] _
       refine rThen ?_
       refine rRet ?_
       refine xThenR ?_
       exact rDone (.inr rfl) rfl
     · refine rSkip ?_
       refine rThen ?_
       refine rSeq ?_
       refine cLess [3, 2, 1, 0] ?_
       refine xR hE [2, 3, 10] rfl (L5_GraphPath_r4_ok F _ _ _ _ _) ?_
       intro x2 x3 x10
       show OKq _ _ _ [(10, x10), (3, x3), (2, x2)] _
       refine rThen ?_
       refine rSeq ?_
       refine cLess [10, 3, 2] ?_
       refine xD Trydmix hE [8] rfl L5_GraphPath_r5_good (L5_GraphPath_r5_ok F _ _ _ _) ?_
       intro x8
       show OKq _ _ _ [(8, x8)] _
       refine rThen ?_
       refine rRet ?_
       exact rDone (.inr rfl) rfl
   · exact rFail



end Go.Fw
