/-
  What this law comes to.
-/
import Derived.Test.YtddafkflndhnfaaDoorGenT
set_option linter.unusedVariables false
set_option maxRecDepth 20000
namespace Go.Fw
open Go.Proofs

/-! ### haruspex/haruspexlaw5.GraphParts -/

def L5_GraphParts_env (F : Nat) : Env := envOf [(16, L5_begun_m F), (17, L5_Made_m F), (25, R1_EqAll_m F), (26, graph_Parts_m F), (27, R1_Parts_m F)]

noncomputable def L5_GraphParts_R (F : Nat) := rK Tryd.prog TrydG (L5_GraphParts_env F) Tryd.f4
noncomputable def L5_GraphParts_D (F : Nat) := dK Tryd.prog TrydG (L5_GraphParts_env F) Tryd.f4

def L5_GraphParts_r5 (F : Nat) (x6 : Value) (K : Value → M Value) : M Value :=
  bnd (opLoadN 2 x6) fun v13 => bnd (opFieldAddr 1 x6) fun v15 => bnd (opLoad v15) fun v16 => bnd (graph_Parts F v13) fun v14 => bnd (opChk false v15 v16) fun _ => bnd (R1_Parts F v16) fun v17 => bnd (R1_EqAll F v14 v17) fun v18 => K v18

theorem L5_GraphParts_r5_ok (F : Nat) (x6 : Value) (K : Value → M Value) : L5_GraphParts_r5 F x6 K = L5_GraphParts_D F 5 [0, 2, 3, 1, 4, 5, 6] [(6, x6)] [4] K := by kernel_rfl

theorem L5_GraphParts_r5_good : goodOrder (opsOf Tryd.f4 5) [0, 2, 3, 1, 4, 5, 6] = true := by kernel_rfl

def L5_GraphParts_r4 (F : Nat) (x0 x1 : Value) (K : Value → M Value) : M Value :=
  bnd (L5_Made F x0 x1) fun v12 => bnd (opPtr [(.int .i64 (0)), (.slice none 0 0)]) fun v6 => bnd (opStoreN 2 v6 v12) fun _ => K v6

theorem L5_GraphParts_r4_ok (F : Nat) (x0 x1 : Value) (K : Value → M Value) : L5_GraphParts_r4 F x0 x1 K = L5_GraphParts_R F 4 [(1, x1), (0, x0)] [6] K := by kernel_rfl

def L5_GraphParts_r3 (F : Nat) (K : Value → M Value) : M Value :=
  K (.bool false)

theorem L5_GraphParts_r3_ok (F : Nat) (K : Value → M Value) : L5_GraphParts_r3 F K = L5_GraphParts_R F 3 [] [4] K := by kernel_rfl

def L5_GraphParts_r2 (F : Nat) (x0 x1 x5 : Value) (K : Value → Value → Value → M Value) : M Value :=
  bnd (opNot x5) fun v9 => K x0 x1 v9

theorem L5_GraphParts_r2_ok (F : Nat) (x0 x1 x5 : Value) (K : Value → Value → Value → M Value) : L5_GraphParts_r2 F x0 x1 x5 K = L5_GraphParts_R F 2 [(5, x5), (1, x1), (0, x0)] [0, 1, 9] K := by kernel_rfl

def L5_GraphParts_r1 (F : Nat) (x0 x1 : Value) (K : Value → Value → Value → M Value) : M Value :=
  bnd (L5_begun F) fun v7 => K x0 x1 v7

theorem L5_GraphParts_r1_ok (F : Nat) (x0 x1 : Value) (K : Value → Value → Value → M Value) : L5_GraphParts_r1 F x0 x1 K = L5_GraphParts_R F 1 [(1, x1), (0, x0)] [0, 1, 5] K := by kernel_rfl

def L5_GraphParts_r0 (F : Nat) (x0 x1 : Value) (K : Value → Value → M Value) : M Value :=
  K x0 x1

theorem L5_GraphParts_r0_ok (F : Nat) (x0 x1 : Value) (K : Value → Value → M Value) : L5_GraphParts_r0 F x0 x1 K = L5_GraphParts_R F 0 [(1, x1), (0, x0)] [0, 1] K := by kernel_rfl

def L5_GraphParts (F : Nat) (x0 x1 : Value) : M Value :=
  L5_GraphParts_r0 F x0 x1 (fun x0 x1 => L5_GraphParts_r1 F x0 x1 (fun x0 x1 x5 => L5_GraphParts_r2 F x0 x1 x5 (fun x0 x1 x9 => onB x9 (L5_GraphParts_r3 F (fun x4 => ret x4)) (L5_GraphParts_r4 F x0 x1 (fun x6 => L5_GraphParts_r5 F x6 (fun x4 => ret x4))))))

def L5_GraphParts_m (F : Nat) : List Value → M Value
  | [x0, x1] => L5_GraphParts F x0 x1
  | _ => fail

theorem L5_GraphParts_body : Tryd.f4.body = some (.seq (.region 0 (opsOf Tryd.f4 0) false) (.seq (.region 1 (opsOf Tryd.f4 1) false) (.seq (.seq (.region 2 (opsOf Tryd.f4 2) false) (.cond (.tmp 9) (.seq (.region 3 (opsOf Tryd.f4 3) false) .ret) .skip)) (.seq (.region 4 (opsOf Tryd.f4 4) false) (.seq (.region 5 (opsOf Tryd.f4 5) true) .ret))))) := by kernel_rfl

theorem L5_GraphParts_ok (F : Nat) : Sim Tryd.prog TrydG 4 (L5_GraphParts_m F) := by
 have hE : EnvOK Tryd.prog TrydG (L5_GraphParts_env F) := (EnvOK.cons (L5_begun_ok F) (EnvOK.cons (L5_Made_ok F) (EnvOK.cons (R1_EqAll_ok F) (EnvOK.cons (graph_Parts_ok F) (EnvOK.cons (R1_Parts_ok F) EnvOK.nil)))))
 refine Sim.of_body (E := L5_GraphParts_env F) Tryd.func4 L5_GraphParts_body Tryd.call4 ?_ ?_
 · intro args hl; unfold L5_GraphParts_m; split
   · exact absurd hl (Nat.not_lt.2 (Nat.le_of_ble_eq_true rfl))
   · rfl
 · intro args ρ h w z; unfold L5_GraphParts_m; split
   · rename_i x0 x1; show OKc _ _ [(0, x0), (1, x1)] _ _
     refine rSeq ?_
     refine cLess [1, 0] ?_
     refine xR hE [0, 1] rfl (L5_GraphParts_r0_ok F _ _ _) ?_
     intro x0 x1
     show OKq _ _ _ [(1, x1), (0, x0)] _
     refine rThen ?_
     refine rSeq ?_
     refine cLess [1, 0] ?_
     refine xR hE [0, 1, 5] rfl (L5_GraphParts_r1_ok F _ _ _) ?_
     intro x0 x1 x5
     show OKq _ _ _ [(5, x5), (1, x1), (0, x0)] _
     refine rThen ?_
     refine rSeq ?_
     refine rSeq ?_
     refine cLess [5, 1, 0] ?_
     refine xR hE [0, 1, 9] rfl (L5_GraphParts_r2_ok F _ _ _ _) ?_
     intro x0 x1 x9
     show OKq _ _ _ [(9, x9), (1, x1), (0, x0)] _
     refine rThen ?_
     refine xCond rfl rfl ?_ ?_
     · refine rSeq ?_
       refine cLess [] ?_
       refine xR hE [4] rfl (L5_GraphParts_r3_ok F _) ?_
       intro x4
       show OKq _ _ _ [(4, x4)] _
       refine rThen ?_
       refine rRet ?_
       refine xThenR ?_
       exact rDone (.inr rfl) rfl
     · refine rSkip ?_
       refine rThen ?_
       refine rSeq ?_
       refine cLess [1, 0] ?_
       refine xR hE [6] rfl (L5_GraphParts_r4_ok F _ _ _) ?_
       intro x6
       show OKq _ _ _ [(6, x6)] _
       refine rThen ?_
       refine rSeq ?_
       refine cLess [6] ?_
       refine xD Trydmix hE [4] rfl L5_GraphParts_r5_good (L5_GraphParts_r5_ok F _ _) ?_
       intro x4
       show OKq _ _ _ [(4, x4)] _
       refine rThen ?_
       refine rRet ?_
       exact rDone (.inr rfl) rfl
   · exact rFail



end Go.Fw
