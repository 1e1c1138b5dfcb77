/-
  What this law comes to.
-/
import Derived.Test.YtddafkflndhnfaaDoorGenD
set_option linter.unusedVariables false
set_option maxRecDepth 20000
namespace Go.Fw
open Go.Proofs

/-! ### haruspex/haruspexlaw5.GraphOrder -/

def L5_GraphOrder_env (F : Nat) : Env := envOf [(16, L5_begun_m F), (17, L5_Made_m F), (18, R1_Eq_m F), (28, graph_Order_m F), (29, R1_Order_m F)]

noncomputable def L5_GraphOrder_R (F : Nat) := rK Tryd.prog TrydG (L5_GraphOrder_env F) Tryd.f5
noncomputable def L5_GraphOrder_D (F : Nat) := dK Tryd.prog TrydG (L5_GraphOrder_env F) Tryd.f5

def L5_GraphOrder_r5 (F : Nat) (x2 x8 : Value) (K : Value → M Value) : M Value :=
  bnd (opLoadN 2 x8) fun v15 => bnd (opFieldAddr 1 x8) fun v18 => bnd (opLoad v18) fun v19 => bnd (graph_Order F v15 x2) fun v17 => bnd (opChk false v18 v19) fun _ => bnd (R1_Order F v19 x2) fun v21 => bnd (R1_Eq F v17 v21) fun v22 => K v22

theorem L5_GraphOrder_r5_ok (F : Nat) (x2 x8 : Value) (K : Value → M Value) : L5_GraphOrder_r5 F x2 x8 K = L5_GraphOrder_D F 5 [0, 1, 3, 4, 5, 2, 6, 7, 8] [(8, x8), (2, x2)] [6] K := by kernel_rfl

theorem L5_GraphOrder_r5_good : goodOrder (opsOf Tryd.f5 5) [0, 1, 3, 4, 5, 2, 6, 7, 8] = true := by kernel_rfl

def L5_GraphOrder_r4 (F : Nat) (x0 x1 x2 : Value) (K : Value → Value → M Value) : M Value :=
  bnd (L5_Made F x0 x1) fun v14 => bnd (opPtr [(.int .i64 (0)), (.slice none 0 0)]) fun v8 => bnd (opStoreN 2 v8 v14) fun _ => K x2 v8

theorem L5_GraphOrder_r4_ok (F : Nat) (x0 x1 x2 : Value) (K : Value → Value → M Value) : L5_GraphOrder_r4 F x0 x1 x2 K = L5_GraphOrder_R F 4 [(2, x2), (1, x1), (0, x0)] [2, 8] K := by kernel_rfl

def L5_GraphOrder_r3 (F : Nat) (K : Value → M Value) : M Value :=
  K (.bool false)

theorem L5_GraphOrder_r3_ok (F : Nat) (K : Value → M Value) : L5_GraphOrder_r3 F K = L5_GraphOrder_R F 3 [] [6] K := by kernel_rfl

def L5_GraphOrder_r2 (F : Nat) (x0 x1 x2 x7 : Value) (K : Value → Value → Value → Value → M Value) : M Value :=
  bnd (opNot x7) fun v11 => K x0 x1 x2 v11

theorem L5_GraphOrder_r2_ok (F : Nat) (x0 x1 x2 x7 : Value) (K : Value → Value → Value → Value → M Value) : L5_GraphOrder_r2 F x0 x1 x2 x7 K = L5_GraphOrder_R F 2 [(7, x7), (2, x2), (1, x1), (0, x0)] [0, 1, 2, 11] K := by kernel_rfl

def L5_GraphOrder_r1 (F : Nat) (x0 x1 x2 : Value) (K : Value → Value → Value → Value → M Value) : M Value :=
  bnd (L5_begun F) fun v9 => K x0 x1 x2 v9

theorem L5_GraphOrder_r1_ok (F : Nat) (x0 x1 x2 : Value) (K : Value → Value → Value → Value → M Value) : L5_GraphOrder_r1 F x0 x1 x2 K = L5_GraphOrder_R F 1 [(2, x2), (1, x1), (0, x0)] [0, 1, 2, 7] K := by kernel_rfl

def L5_GraphOrder_r0 (F : Nat) (x0 x1 x2 : Value) (K : Value → Value → Value → M Value) : M Value :=
  K x0 x1 x2

theorem L5_GraphOrder_r0_ok (F : Nat) (x0 x1 x2 : Value) (K : Value → Value → Value → M Value) : L5_GraphOrder_r0 F x0 x1 x2 K = L5_GraphOrder_R F 0 [(2, x2), (1, x1), (0, x0)] [0, 1, 2] K := by kernel_rfl

def L5_GraphOrder (F : Nat) (x0 x1 x2 : Value) : M Value :=
  L5_GraphOrder_r0 F x0 x1 x2 (fun x0 x1 x2 => L5_GraphOrder_r1 F x0 x1 x2 (fun x0 x1 x2 x7 => L5_GraphOrder_r2 F x0 x1 x2 x7 (fun x0 x1 x2 x11 => onB x11 (L5_GraphOrder_r3 F (fun x6 => ret x6)) (L5_GraphOrder_r4 F x0 x1 x2 (fun x2 x8 => L5_GraphOrder_r5 F x2 x8 (fun x6 => ret x6))))))

def L5_GraphOrder_m (F : Nat) : List Value → M Value
  | [x0, x1, x2] => L5_GraphOrder F x0 x1 x2
  | _ => fail

theorem L5_GraphOrder_body : Tryd.f5.body = some (.seq (.region 0 (opsOf Tryd.f5 0) false) (.seq (.region 1 (opsOf Tryd.f5 1) false) (.seq (.seq (.region 2 (opsOf Tryd.f5 2) false) (.cond (.tmp 11) (.seq (.region 3 (opsOf Tryd.f5 3) false) .ret) .skip)) (.seq (.region 4 (opsOf Tryd.f5 4) false) (.seq (.region 5 (opsOf Tryd.f5 5) true) .ret))))) := by kernel_rfl

theorem L5_GraphOrder_ok (F : Nat) : Sim Tryd.prog TrydG 5 (L5_GraphOrder_m F) := by
 have hE : EnvOK Tryd.prog TrydG (L5_GraphOrder_env F) := (EnvOK.cons (L5_begun_ok F) (EnvOK.cons (L5_Made_ok F) (EnvOK.cons (R1_Eq_ok F) (EnvOK.cons (graph_Order_ok F) (EnvOK.cons (R1_Order_ok F) EnvOK.nil)))))
 refine Sim.of_body (E := L5_GraphOrder_env F) Tryd.func5 L5_GraphOrder_body Tryd.call5 ?_ ?_
 · intro args hl; unfold L5_GraphOrder_m; split
   · exact absurd hl (Nat.not_lt.2 (Nat.le_of_ble_eq_true rfl))
   · rfl
 · intro args ρ h w z; unfold L5_GraphOrder_m; split
   · rename_i x0 x1 x2; show OKc _ _ [(0, x0), (1, x1), (2, x2)] _ _
     refine rSeq ?_
     refine cLess [2, 1, 0] ?_
     refine xR hE [0, 1, 2] rfl (L5_GraphOrder_r0_ok F _ _ _ _) ?_
     intro x0 x1 x2
     show OKq _ _ _ [(2, x2), (1, x1), (0, x0)] _
     refine rThen ?_
     refine rSeq ?_
     refine cLess [2, 1, 0] ?_
     refine xR hE [0, 1, 2, 7] rfl (L5_GraphOrder_r1_ok F _ _ _ _) ?_
     intro x0 x1 x2 x7
     show OKq _ _ _ [(7, x7), (2, x2), (1, x1), (0, x0)] _
     refine rThen ?_
     refine rSeq ?_
     refine rSeq ?_
     refine cLess [7, 2, 1, 0] ?_
     refine xR hE [0, 1, 2, 11] rfl (L5_GraphOrder_r2_ok F _ _ _ _ _) ?_
     intro x0 x1 x2 x11
     show OKq _ _ _ [(11, x11), (2, x2), (1, x1), (0, x0)] _
     refine rThen ?_
     refine xCond rfl rfl ?_ ?_
     · refine rSeq ?_
       refine cLess [] ?_
       refine xR hE [6] rfl (L5_GraphOrder_r3_ok F _) ?_
       intro x6
       show OKq _ _ _ [(6, x6)] _
       refine rThen ?_
       refine rRet ?_
       refine xThenR ?_
       exact rDone (.inr rfl) rfl
     · refine rSkip ?_
       refine rThen ?_
       refine rSeq ?_
       refine cLess [2, 1, 0] ?_
       refine xR hE [2, 8] rfl (L5_GraphOrder_r4_ok F _ _ _ _) ?_
       intro x2 x8
       show OKq _ _ _ [(8, x8), (2, x2)] _
       refine rThen ?_
       refine rSeq ?_
       refine cLess [8, 2] ?_
       refine xD Trydmix hE [6] rfl L5_GraphOrder_r5_good (L5_GraphOrder_r5_ok F _ _ _) ?_
       intro x6
       show OKq _ _ _ [(6, x6)] _
       refine rThen ?_
       refine rRet ?_
       exact rDone (.inr rfl) rfl
   · exact rFail



end Go.Fw
