/-
  What functions of this seat come to, and that they do: part 3.
-/
import Derived.Test.YtddafkflndhnfaaDoorGenT2
set_option linter.unusedVariables false
set_option maxRecDepth 20000
namespace Go.Fw
open Go.Proofs

/-! ### haruspex/graph.Order -/

def graph_Order_env (F : Nat) : Env := envOf [(40, graph_May_m F), (51, graph_behind_m F F), (52, slices_Reverse_m F)]

noncomputable def graph_Order_R (F : Nat) := rK Tryd.prog TrydG (graph_Order_env F) Tryd.f28
noncomputable def graph_Order_D (F : Nat) := dK Tryd.prog TrydG (graph_Order_env F) Tryd.f28

def graph_Order_r5 (F : Nat) (x5 : Value) (K : Value → M Value) : M Value :=
  K x5

theorem graph_Order_r5_ok (F : Nat) (x5 : Value) (K : Value → M Value) : graph_Order_r5 F x5 K = graph_Order_R F 5 [(5, x5)] [4] K := by kernel_rfl

def graph_Order_r4 (F : Nat) (x5 : Value) (K : Value → M Value) : M Value :=
  bnd (slices_Reverse F x5) fun v25 => K x5

theorem graph_Order_r4_ok (F : Nat) (x5 : Value) (K : Value → M Value) : graph_Order_r4 F x5 K = graph_Order_R F 4 [(5, x5)] [5] K := by kernel_rfl

def graph_Order_r3 (F : Nat) (x1 x2 : Value) (K : Value → M Value) : M Value :=
  bnd (opLoadN 2 x2) fun v19 => bnd (opBuild [(.slice none 0 0)] []) fun v21 => bnd (opBoxN v21) fun v22 => bnd (graph_behind F F v19 x1 v22 (.slice none 0 0)) fun v23 => K v23

theorem graph_Order_r3_ok (F : Nat) (x1 x2 : Value) (K : Value → M Value) : graph_Order_r3 F x1 x2 K = graph_Order_R F 3 [(2, x2), (1, x1)] [5] K := by kernel_rfl

def graph_Order_r2 (F : Nat) (K : Value → M Value) : M Value :=
  K (.slice none 0 0)

theorem graph_Order_r2_ok (F : Nat) (K : Value → M Value) : graph_Order_r2 F K = graph_Order_R F 2 [] [4] K := by kernel_rfl

def graph_Order_r1 (F : Nat) (x1 x2 : Value) (K : Value → Value → Value → M Value) : M Value :=
  bnd (opLoadN 2 x2) fun v6 => bnd (graph_May F v6) fun v7 => bnd (opNot v7) fun v8 => onB v8 (K x1 x2 (.bool true)) (bnd (opBin .lss x1 (.int .i64 (0))) fun v11 => onB v11 (K x1 x2 (.bool true)) (bnd (opFieldAddr 0 x2) fun v15 => bnd (opLoad v15) fun v16 => bnd (opBin .geq x1 v16) fun v17 => K x1 x2 v17))

theorem graph_Order_r1_ok (F : Nat) (x1 x2 : Value) (K : Value → Value → Value → M Value) : graph_Order_r1 F x1 x2 K = graph_Order_R F 1 [(2, x2), (1, x1)] [1, 2, 18] K := by kernel_rfl

def graph_Order_r0 (F : Nat) (x0 x1 : Value) (K : Value → Value → M Value) : M Value :=
  bnd (opBoxN x0) fun v2 => K x1 v2

theorem graph_Order_r0_ok (F : Nat) (x0 x1 : Value) (K : Value → Value → M Value) : graph_Order_r0 F x0 x1 K = graph_Order_R F 0 [(1, x1), (0, x0)] [1, 2] K := by kernel_rfl

def graph_Order (F : Nat) (x0 x1 : Value) : M Value :=
  graph_Order_r0 F x0 x1 (fun x1 x2 => graph_Order_r1 F x1 x2 (fun x1 x2 x18 => onB x18 (graph_Order_r2 F (fun x4 => ret x4)) (graph_Order_r3 F x1 x2 (fun x5 => graph_Order_r4 F x5 (fun x5 => graph_Order_r5 F x5 (fun x4 => ret x4))))))

def graph_Order_m (F : Nat) : List Value → M Value
  | [x0, x1] => graph_Order F x0 x1
  | _ => fail

theorem graph_Order_body : Tryd.f28.body = some (.seq (.region 0 (opsOf Tryd.f28 0) false) (.seq (.seq (.region 1 (opsOf Tryd.f28 1) false) (.cond (.tmp 18) (.seq (.region 2 (opsOf Tryd.f28 2) false) .ret) .skip)) (.seq (.region 3 (opsOf Tryd.f28 3) false) (.seq (.region 4 (opsOf Tryd.f28 4) false) (.seq (.region 5 (opsOf Tryd.f28 5) false) .ret))))) := by kernel_rfl

theorem graph_Order_ok (F : Nat) : Sim Tryd.prog TrydG 28 (graph_Order_m F) := by
 have hE : EnvOK Tryd.prog TrydG (graph_Order_env F) := (EnvOK.cons (graph_May_ok F) (EnvOK.cons (graph_behind_ok F F) (EnvOK.cons (slices_Reverse_ok F) EnvOK.nil)))
 refine Sim.of_body (E := graph_Order_env F) Tryd.func28 graph_Order_body Tryd.call28 ?_ ?_
 · intro args hl; unfold graph_Order_m; split
   · exact absurd hl (Nat.not_lt.2 (Nat.le_of_ble_eq_true rfl))
   · rfl
 · intro args ρ h w z; unfold graph_Order_m; split
   · rename_i x0 x1; show OKc _ _ [(0, x0), (1, x1)] _ _
     refine rSeq ?_
     refine cLess [1, 0] ?_
     refine xR hE [1, 2] rfl (graph_Order_r0_ok F _ _ _) ?_
     intro x1 x2
     show OKq _ _ _ [(2, x2), (1, x1)] _
     refine rThen ?_
     refine rSeq ?_
     refine rSeq ?_
     refine cLess [2, 1] ?_
     refine xR hE [1, 2, 18] rfl (graph_Order_r1_ok F _ _ _) ?_
     intro x1 x2 x18
     show OKq _ _ _ [(18, x18), (2, x2), (1, x1)] _
     refine rThen ?_
     refine xCond rfl rfl ?_ ?_
     · refine rSeq ?_
       refine cLess [] ?_
       refine xR hE [4] rfl (graph_Order_r2_ok F _) ?_
       intro x4
       show OKq _ _ _ [(4, x4)] _
       refine rThen ?_
       refine rRet ?_
       refine xThenR ?_
       exact rDone (.inr rfl) rfl
     · refine rSkip ?_
       refine rThen ?_
       refine rSeq ?_
       refine cLess [2, 1] ?_
       refine xR hE [5] rfl (graph_Order_r3_ok F _ _ _) ?_
       intro x5
       show OKq _ _ _ [(5, x5)] _
       refine rThen ?_
       refine rSeq ?_
       refine cLess [5] ?_
       refine xR hE [5] rfl (graph_Order_r4_ok F _ _) ?_
       intro x5
       show OKq _ _ _ [(5, x5)] _
       refine rThen ?_
       refine rSeq ?_
       refine cLess [5] ?_
       refine xR hE [4] rfl (graph_Order_r5_ok F _ _) ?_
       intro x4
       show OKq _ _ _ [(4, x4)] _
       refine rThen ?_
       refine rRet ?_
       exact rDone (.inr rfl) rfl
   · exact rFail


/-! ### haruspex/haruspexlaw5.begun -/

def L5_begun_env (F : Nat) : Env := envOf [(18, R1_Eq_m F), (19, graph_Reach_m F), (20, bitset_Set_All_m F), (23, graph_Loops_m F), (25, R1_EqAll_m F), (26, graph_Parts_m F), (28, graph_Order_m F), (30, graph_Path_m F), (40, graph_May_m F)]

noncomputable def L5_begun_R (F : Nat) := rK Tryd.prog TrydG (L5_begun_env F) Tryd.f16
noncomputable def L5_begun_D (F : Nat) := dK Tryd.prog TrydG (L5_begun_env F) Tryd.f16

def L5_begun_r2 (F : Nat) (x1 : Value) (K : Value → M Value) : M Value :=
  bnd (opLoadN 2 x1) fun v6 => bnd (graph_May F v6) fun v7 => onB v7 (bnd (opLoadN 2 x1) fun v9 => bnd (opBuildSlice 1 (rep 1 [(.int .i64 (0))]) [(0, 1, false, (.int .i64 (2)))]) fun v10 => bnd (graph_Reach F v9 v10) fun v11 => bnd (bitset_Set_All F v11) fun v12 => bnd (opBuildSlice 1 (rep 1 [(.int .i64 (0))]) [(0, 1, false, (.int .i64 (2)))]) fun v13 => bnd (R1_Eq F v12 v13) fun v14 => onB v14 (bnd (opLoadN 2 x1) fun v17 => bnd (graph_Parts F v17) fun v18 => bnd (opBuildSlice 2 (rep 2 [(.int .i64 (0))]) [(0, 1, false, (.int .i64 (0))), (1, 1, false, (.int .i64 (1)))]) fun v19 => bnd (opBuildSlice 1 (rep 1 [(.int .i64 (0))]) [(0, 1, false, (.int .i64 (2)))]) fun v20 => bnd (opBuildSlice 2 (rep 2 [(.slice none 0 0)]) [(0, 1, false, v19), (1, 1, false, v20)]) fun v21 => bnd (R1_EqAll F v18 v21) fun v22 => onB v22 (bnd (opLoadN 2 x1) fun v25 => bnd (graph_Path F v25 (.int .i64 (0)) (.int .i64 (2))) fun v26 => bnd (opBuildSlice 3 (rep 3 [(.int .i64 (0))]) [(0, 1, false, (.int .i64 (0))), (1, 1, false, (.int .i64 (1))), (2, 1, false, (.int .i64 (2)))]) fun v27 => bnd (R1_Eq F v26 v27) fun v28 => onB v28 (bnd (opLoadN 2 x1) fun v31 => bnd (graph_Loops F v31) fun v32 => bnd (bitset_Set_All F v32) fun v33 => bnd (opBuildSlice 2 (rep 2 [(.int .i64 (0))]) [(0, 1, false, (.int .i64 (0))), (1, 1, false, (.int .i64 (1)))]) fun v34 => bnd (R1_Eq F v33 v34) fun v35 => onB v35 (bnd (opLoadN 2 x1) fun v38 => bnd (graph_Order F v38 (.int .i64 (0))) fun v39 => bnd (opBuildSlice 3 (rep 3 [(.int .i64 (0))]) [(0, 1, false, (.int .i64 (0))), (1, 1, false, (.int .i64 (1))), (2, 1, false, (.int .i64 (2)))]) fun v40 => bnd (R1_Eq F v39 v40) fun v41 => K v41) (K (.bool false))) (K (.bool false))) (K (.bool false))) (K (.bool false))) (K (.bool false))

theorem L5_begun_r2_ok (F : Nat) (x1 : Value) (K : Value → M Value) : L5_begun_r2 F x1 K = L5_begun_R F 2 [(1, x1)] [0] K := by kernel_rfl

def L5_begun_r1 (F : Nat) (K : Value → M Value) : M Value :=
  bnd (opBuildSlice 1 (rep 1 [(.int .i64 (0))]) [(0, 1, false, (.int .i64 (1)))]) fun v2 => bnd (opBuildSlice 2 (rep 2 [(.int .i64 (0))]) [(0, 1, false, (.int .i64 (0))), (1, 1, false, (.int .i64 (2)))]) fun v3 => bnd (opBuildSlice 3 (rep 3 [(.slice none 0 0)]) [(0, 1, false, v2), (1, 1, false, v3), (2, 1, false, (.slice none 0 0))]) fun v4 => bnd (opBuild [(.int .i64 (0)), (.slice none 0 0)] [(0, 1, false, (.int .i64 (3))), (1, 1, false, v4)]) fun v5 => bnd (opPtr [(.int .i64 (0)), (.slice none 0 0)]) fun v1 => bnd (opStoreN 2 v1 v5) fun _ => K v1

theorem L5_begun_r1_ok (F : Nat) (K : Value → M Value) : L5_begun_r1 F K = L5_begun_R F 1 [] [1] K := by kernel_rfl

def L5_begun_r0 (F : Nat) (K : M Value) : M Value :=
  K

theorem L5_begun_r0_ok (F : Nat) (K : M Value) : L5_begun_r0 F K = L5_begun_R F 0 [] [] K := by kernel_rfl

def L5_begun (F : Nat) : M Value :=
  L5_begun_r0 F (L5_begun_r1 F (fun x1 => L5_begun_r2 F x1 (fun x0 => ret x0)))

def L5_begun_m (F : Nat) : List Value → M Value
  | [] => L5_begun F
  | _ => fail

theorem L5_begun_body : Tryd.f16.body = some (.seq (.region 0 (opsOf Tryd.f16 0) false) (.seq (.region 1 (opsOf Tryd.f16 1) false) (.seq (.region 2 (opsOf Tryd.f16 2) false) .ret))) := by kernel_rfl

theorem L5_begun_ok (F : Nat) : Sim Tryd.prog TrydG 16 (L5_begun_m F) := by
 have hE : EnvOK Tryd.prog TrydG (L5_begun_env F) := (EnvOK.cons (R1_Eq_ok F) (EnvOK.cons (graph_Reach_ok F) (EnvOK.cons (bitset_Set_All_ok F) (EnvOK.cons (graph_Loops_ok F) (EnvOK.cons (R1_EqAll_ok F) (EnvOK.cons (graph_Parts_ok F) (EnvOK.cons (graph_Order_ok F) (EnvOK.cons (graph_Path_ok F) (EnvOK.cons (graph_May_ok F) EnvOK.nil)))))))))
 refine Sim.of_body (E := L5_begun_env F) Tryd.func16 L5_begun_body Tryd.call16 ?_ ?_
 · intro args hl; unfold L5_begun_m; split
   · exact absurd hl (Nat.not_lt.2 (Nat.le_of_ble_eq_true rfl))
   · rfl
 · intro args ρ h w z; unfold L5_begun_m; split
   · show OKc _ _ [] _ _
     refine rSeq ?_
     refine cLess [] ?_
     refine xR hE [] rfl (L5_begun_r0_ok F _) ?_
     show OKq _ _ _ [] _
     refine rThen ?_
     refine rSeq ?_
     refine cLess [] ?_
     refine xR hE [1] rfl (L5_begun_r1_ok F _) ?_
     intro x1
     show OKq _ _ _ [(1, x1)] _
     refine rThen ?_
     refine rSeq ?_
     refine cLess [1] ?_
     refine xR hE [0] rfl (L5_begun_r2_ok F _ _) ?_
     intro x0
     show OKq _ _ _ [(0, x0)] _
     refine rThen ?_
     refine rRet ?_
     exact rDone (.inr rfl) rfl
   · exact rFail



end Go.Fw
