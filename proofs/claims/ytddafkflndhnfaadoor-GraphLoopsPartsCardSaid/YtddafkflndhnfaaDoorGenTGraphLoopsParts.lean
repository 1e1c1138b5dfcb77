/-
  What this law comes to.
-/
import Derived.Test.YtddafkflndhnfaaDoorGenT
set_option linter.unusedVariables false
set_option maxRecDepth 20000
namespace Go.Fw
open Go.Proofs

/-! ### haruspex/haruspexlaw5.GraphLoopsParts -/

def L5_GraphLoopsParts_env (F : Nat) : Env := envOf [(16, L5_begun_m F), (17, L5_Made_m F), (23, graph_Loops_m F), (26, graph_Parts_m F), (33, bitset_Set_Has_m F), (34, R1_In_m F)]

noncomputable def L5_GraphLoopsParts_R (F : Nat) := rK Tryd.prog TrydG (L5_GraphLoopsParts_env F) Tryd.f8
noncomputable def L5_GraphLoopsParts_D (F : Nat) := dK Tryd.prog TrydG (L5_GraphLoopsParts_env F) Tryd.f8

def L5_GraphLoopsParts_r16 (F : Nat) (K : Value → M Value) : M Value :=
  K (.bool true)

theorem L5_GraphLoopsParts_r16_ok (F : Nat) (K : Value → M Value) : L5_GraphLoopsParts_r16 F K = L5_GraphLoopsParts_R F 16 [] [4] K := by kernel_rfl

def L5_GraphLoopsParts_k0 (F : Nat) : M Value :=
  L5_GraphLoopsParts_r16 F (fun x4 => ret x4)

def L5_GraphLoopsParts_r9 (F : Nat) (x6 x7 x8 x9 : Value) (K : Value → Value → Value → Value → M Value) : M Value :=
  bnd (opBin .add x9 (.int .i64 (1))) fun v27 => K x6 x7 x8 v27

theorem L5_GraphLoopsParts_r9_ok (F : Nat) (x6 x7 x8 x9 : Value) (K : Value → Value → Value → Value → M Value) : L5_GraphLoopsParts_r9 F x6 x7 x8 x9 K = L5_GraphLoopsParts_R F 9 [(9, x9), (8, x8), (7, x7), (6, x6)] [6, 7, 8, 9] K := by kernel_rfl

def L5_GraphLoopsParts_k2 (F : Nat) (A1 : Value → Value → Value → Value → M Value) (x6 x7 x8 x9 : Value) : M Value :=
  L5_GraphLoopsParts_r9 F x6 x7 x8 x9 (fun x6 x7 x8 x9 => A1 x6 x7 x8 x9)

def L5_GraphLoopsParts_r12 (F : Nat) (x6 x7 x8 x9 x10 : Value) (K : Value → Value → Value → Value → Value → M Value) : M Value :=
  bnd (opBin .add x10 (.int .i64 (1))) fun v36 => K x6 x7 x8 x9 v36

theorem L5_GraphLoopsParts_r12_ok (F : Nat) (x6 x7 x8 x9 x10 : Value) (K : Value → Value → Value → Value → Value → M Value) : L5_GraphLoopsParts_r12 F x6 x7 x8 x9 x10 K = L5_GraphLoopsParts_R F 12 [(10, x10), (9, x9), (8, x8), (7, x7), (6, x6)] [6, 7, 8, 9, 10] K := by kernel_rfl

def L5_GraphLoopsParts_r15 (F : Nat) (K : Value → M Value) : M Value :=
  K (.bool false)

theorem L5_GraphLoopsParts_r15_ok (F : Nat) (K : Value → M Value) : L5_GraphLoopsParts_r15 F K = L5_GraphLoopsParts_R F 15 [] [4] K := by kernel_rfl

def L5_GraphLoopsParts_r14 (F : Nat) (x6 x7 x8 x9 x10 x11 : Value) (K : Value → Value → Value → Value → Value → Value → M Value) : M Value :=
  bnd (opIndexAddr 1 x8 x9) fun v49 => bnd (opLoad v49) fun v50 => bnd (opLen v50) fun v51 => bnd (opBin .gtr v51 (.int .i64 (1))) fun v52 => bnd (bitset_Set_Has F x7 x11) fun v46 => bnd (opChk false v49 v50) fun _ => onB v52 (bnd (opEq eqB true v46 (.bool true)) fun v62 => K x6 x7 x8 x9 x10 v62) (bnd (opFieldAddr 1 x6) fun v54 => bnd (opLoad v54) fun v55 => bnd (opIndexAddr 1 v55 x11) fun v57 => bnd (opLoad v57) fun v58 => bnd (R1_In F v58 x11) fun v60 => bnd (opEq eqB true v46 v60) fun v62 => K x6 x7 x8 x9 x10 v62)

theorem L5_GraphLoopsParts_r14_ok (F : Nat) (x6 x7 x8 x9 x10 x11 : Value) (K : Value → Value → Value → Value → Value → Value → M Value) : L5_GraphLoopsParts_r14 F x6 x7 x8 x9 x10 x11 K = L5_GraphLoopsParts_D F 14 [0, 1, 3, 4, 5, 6, 7, 8, 2, 9, 10, 11, 12, 13, 14, 15, 16, 17, 18] [(11, x11), (10, x10), (9, x9), (8, x8), (7, x7), (6, x6)] [6, 7, 8, 9, 10, 62] K := by kernel_rfl

theorem L5_GraphLoopsParts_r14_good : goodOrder (opsOf Tryd.f8 14) [0, 1, 3, 4, 5, 6, 7, 8, 2, 9, 10, 11, 12, 13, 14, 15, 16, 17, 18] = true := by kernel_rfl

def L5_GraphLoopsParts_r13 (F : Nat) (x6 x7 x8 x9 x10 : Value) (K : Value → Value → Value → Value → Value → Value → M Value) : M Value :=
  bnd (opIndexAddr 1 x8 x9) fun v39 => bnd (opLoad v39) fun v40 => bnd (opIndexAddr 1 v40 x10) fun v42 => bnd (opLoad v42) fun v43 => K x6 x7 x8 x9 x10 v43

theorem L5_GraphLoopsParts_r13_ok (F : Nat) (x6 x7 x8 x9 x10 : Value) (K : Value → Value → Value → Value → Value → Value → M Value) : L5_GraphLoopsParts_r13 F x6 x7 x8 x9 x10 K = L5_GraphLoopsParts_R F 13 [(10, x10), (9, x9), (8, x8), (7, x7), (6, x6)] [6, 7, 8, 9, 10, 11] K := by kernel_rfl

def L5_GraphLoopsParts_r11 (F : Nat) (x6 x7 x8 x9 x10 : Value) (K : Value → Value → Value → Value → Value → Value → M Value) : M Value :=
  bnd (opIndexAddr 1 x8 x9) fun v31 => bnd (opLoad v31) fun v32 => bnd (opLen v32) fun v33 => bnd (opBin .lss x10 v33) fun v34 => K x6 x7 x8 x9 x10 v34

theorem L5_GraphLoopsParts_r11_ok (F : Nat) (x6 x7 x8 x9 x10 : Value) (K : Value → Value → Value → Value → Value → Value → M Value) : L5_GraphLoopsParts_r11 F x6 x7 x8 x9 x10 K = L5_GraphLoopsParts_R F 11 [(10, x10), (9, x9), (8, x8), (7, x7), (6, x6)] [6, 7, 8, 9, 10, 34] K := by kernel_rfl

def L5_GraphLoopsParts_b3 (F : Nat) (E3_2 : Value → Value → Value → Value → M Value) (A3 : Value → Value → Value → Value → Value → M Value) (x6 x7 x8 x9 x10 : Value) : M Value :=
  L5_GraphLoopsParts_r11 F x6 x7 x8 x9 x10 (fun x6 x7 x8 x9 x10 x34 => onB x34 (L5_GraphLoopsParts_r13 F x6 x7 x8 x9 x10 (fun x6 x7 x8 x9 x10 x11 => L5_GraphLoopsParts_r14 F x6 x7 x8 x9 x10 x11 (fun x6 x7 x8 x9 x10 x62 => onB x62 (L5_GraphLoopsParts_r15 F (fun x4 => ret x4)) (L5_GraphLoopsParts_r12 F x6 x7 x8 x9 x10 (fun x6 x7 x8 x9 x10 => A3 x6 x7 x8 x9 x10))))) (E3_2 x6 x7 x8 x9))

def L5_GraphLoopsParts_l3 (F : Nat) (E3_2 : Value → Value → Value → Value → M Value) : Nat → Value → Value → Value → Value → Value → M Value
  | 0, _, _, _, _, _ => fail
  | k3 + 1, x6, x7, x8, x9, x10 => L5_GraphLoopsParts_b3 F E3_2 (L5_GraphLoopsParts_l3 F E3_2 k3) x6 x7 x8 x9 x10

theorem L5_GraphLoopsParts_l3_s (F : Nat) (E3_2 : Value → Value → Value → Value → M Value) (k3 : Nat) (x6 x7 x8 x9 x10 : Value) : L5_GraphLoopsParts_l3 F E3_2 (k3 + 1) x6 x7 x8 x9 x10 = L5_GraphLoopsParts_b3 F E3_2 (L5_GraphLoopsParts_l3 F E3_2 k3) x6 x7 x8 x9 x10 := rfl

def L5_GraphLoopsParts_r10 (F : Nat) (x6 x7 x8 x9 : Value) (K : Value → Value → Value → Value → Value → M Value) : M Value :=
  K x6 x7 x8 x9 (.int .i64 (0))

theorem L5_GraphLoopsParts_r10_ok (F : Nat) (x6 x7 x8 x9 : Value) (K : Value → Value → Value → Value → Value → M Value) : L5_GraphLoopsParts_r10 F x6 x7 x8 x9 K = L5_GraphLoopsParts_R F 10 [(9, x9), (8, x8), (7, x7), (6, x6)] [6, 7, 8, 9, 10] K := by kernel_rfl

def L5_GraphLoopsParts_r8 (F : Nat) (x6 x7 x8 x9 : Value) (K : Value → Value → Value → Value → Value → M Value) : M Value :=
  bnd (opLen x8) fun v24 => bnd (opBin .lss x9 v24) fun v25 => K x6 x7 x8 x9 v25

theorem L5_GraphLoopsParts_r8_ok (F : Nat) (x6 x7 x8 x9 : Value) (K : Value → Value → Value → Value → Value → M Value) : L5_GraphLoopsParts_r8 F x6 x7 x8 x9 K = L5_GraphLoopsParts_R F 8 [(9, x9), (8, x8), (7, x7), (6, x6)] [6, 7, 8, 9, 25] K := by kernel_rfl

def L5_GraphLoopsParts_b1 (F : Nat) (E1_0 : M Value) (A1 : Value → Value → Value → Value → M Value) (x6 x7 x8 x9 : Value) : M Value :=
  L5_GraphLoopsParts_r8 F x6 x7 x8 x9 (fun x6 x7 x8 x9 x25 => onB x25 (L5_GraphLoopsParts_r10 F x6 x7 x8 x9 (fun x6 x7 x8 x9 x10 => L5_GraphLoopsParts_l3 F (fun x6 x7 x8 x9 => L5_GraphLoopsParts_k2 F A1 x6 x7 x8 x9) F x6 x7 x8 x9 x10)) (E1_0 ))

def L5_GraphLoopsParts_l1 (F : Nat) (E1_0 : M Value) : Nat → Value → Value → Value → Value → M Value
  | 0, _, _, _, _ => fail
  | k1 + 1, x6, x7, x8, x9 => L5_GraphLoopsParts_b1 F E1_0 (L5_GraphLoopsParts_l1 F E1_0 k1) x6 x7 x8 x9

theorem L5_GraphLoopsParts_l1_s (F : Nat) (E1_0 : M Value) (k1 : Nat) (x6 x7 x8 x9 : Value) : L5_GraphLoopsParts_l1 F E1_0 (k1 + 1) x6 x7 x8 x9 = L5_GraphLoopsParts_b1 F E1_0 (L5_GraphLoopsParts_l1 F E1_0 k1) x6 x7 x8 x9 := rfl

def L5_GraphLoopsParts_r7 (F : Nat) (x6 x7 x8 : Value) (K : Value → Value → Value → Value → M Value) : M Value :=
  K x6 x7 x8 (.int .i64 (0))

theorem L5_GraphLoopsParts_r7_ok (F : Nat) (x6 x7 x8 : Value) (K : Value → Value → Value → Value → M Value) : L5_GraphLoopsParts_r7 F x6 x7 x8 K = L5_GraphLoopsParts_R F 7 [(8, x8), (7, x7), (6, x6)] [6, 7, 8, 9] K := by kernel_rfl

def L5_GraphLoopsParts_r6 (F : Nat) (x6 x7 : Value) (K : Value → Value → Value → M Value) : M Value :=
  bnd (opLoadN 2 x6) fun v20 => bnd (graph_Parts F v20) fun v21 => K x6 x7 v21

theorem L5_GraphLoopsParts_r6_ok (F : Nat) (x6 x7 : Value) (K : Value → Value → Value → M Value) : L5_GraphLoopsParts_r6 F x6 x7 K = L5_GraphLoopsParts_R F 6 [(7, x7), (6, x6)] [6, 7, 8] K := by kernel_rfl

def L5_GraphLoopsParts_r5 (F : Nat) (x6 : Value) (K : Value → Value → M Value) : M Value :=
  bnd (opLoadN 2 x6) fun v18 => bnd (graph_Loops F v18) fun v19 => K x6 v19

theorem L5_GraphLoopsParts_r5_ok (F : Nat) (x6 : Value) (K : Value → Value → M Value) : L5_GraphLoopsParts_r5 F x6 K = L5_GraphLoopsParts_R F 5 [(6, x6)] [6, 7] K := by kernel_rfl

def L5_GraphLoopsParts_r4 (F : Nat) (x0 x1 : Value) (K : Value → M Value) : M Value :=
  bnd (L5_Made F x0 x1) fun v17 => bnd (opPtr [(.int .i64 (0)), (.slice none 0 0)]) fun v6 => bnd (opStoreN 2 v6 v17) fun _ => K v6

theorem L5_GraphLoopsParts_r4_ok (F : Nat) (x0 x1 : Value) (K : Value → M Value) : L5_GraphLoopsParts_r4 F x0 x1 K = L5_GraphLoopsParts_R F 4 [(1, x1), (0, x0)] [6] K := by kernel_rfl

def L5_GraphLoopsParts_r3 (F : Nat) (K : Value → M Value) : M Value :=
  K (.bool false)

theorem L5_GraphLoopsParts_r3_ok (F : Nat) (K : Value → M Value) : L5_GraphLoopsParts_r3 F K = L5_GraphLoopsParts_R F 3 [] [4] K := by kernel_rfl

def L5_GraphLoopsParts_r2 (F : Nat) (x0 x1 x5 : Value) (K : Value → Value → Value → M Value) : M Value :=
  bnd (opNot x5) fun v14 => K x0 x1 v14

theorem L5_GraphLoopsParts_r2_ok (F : Nat) (x0 x1 x5 : Value) (K : Value → Value → Value → M Value) : L5_GraphLoopsParts_r2 F x0 x1 x5 K = L5_GraphLoopsParts_R F 2 [(5, x5), (1, x1), (0, x0)] [0, 1, 14] K := by kernel_rfl

def L5_GraphLoopsParts_r1 (F : Nat) (x0 x1 : Value) (K : Value → Value → Value → M Value) : M Value :=
  bnd (L5_begun F) fun v12 => K x0 x1 v12

theorem L5_GraphLoopsParts_r1_ok (F : Nat) (x0 x1 : Value) (K : Value → Value → Value → M Value) : L5_GraphLoopsParts_r1 F x0 x1 K = L5_GraphLoopsParts_R F 1 [(1, x1), (0, x0)] [0, 1, 5] K := by kernel_rfl

def L5_GraphLoopsParts_r0 (F : Nat) (x0 x1 : Value) (K : Value → Value → M Value) : M Value :=
  K x0 x1

theorem L5_GraphLoopsParts_r0_ok (F : Nat) (x0 x1 : Value) (K : Value → Value → M Value) : L5_GraphLoopsParts_r0 F x0 x1 K = L5_GraphLoopsParts_R F 0 [(1, x1), (0, x0)] [0, 1] K := by kernel_rfl

def L5_GraphLoopsParts (F : Nat) (x0 x1 : Value) : M Value :=
  L5_GraphLoopsParts_r0 F x0 x1 (fun x0 x1 => L5_GraphLoopsParts_r1 F x0 x1 (fun x0 x1 x5 => L5_GraphLoopsParts_r2 F x0 x1 x5 (fun x0 x1 x14 => onB x14 (L5_GraphLoopsParts_r3 F (fun x4 => ret x4)) (L5_GraphLoopsParts_r4 F x0 x1 (fun x6 => L5_GraphLoopsParts_r5 F x6 (fun x6 x7 => L5_GraphLoopsParts_r6 F x6 x7 (fun x6 x7 x8 => L5_GraphLoopsParts_r7 F x6 x7 x8 (fun x6 x7 x8 x9 => L5_GraphLoopsParts_l1 F (L5_GraphLoopsParts_k0 F ) F x6 x7 x8 x9))))))))

def L5_GraphLoopsParts_m (F : Nat) : List Value → M Value
  | [x0, x1] => L5_GraphLoopsParts F x0 x1
  | _ => fail

theorem L5_GraphLoopsParts_body : Tryd.f8.body = some (.seq (.region 0 (opsOf Tryd.f8 0) false) (.seq (.region 1 (opsOf Tryd.f8 1) false) (.seq (.seq (.region 2 (opsOf Tryd.f8 2) false) (.cond (.tmp 14) (.seq (.region 3 (opsOf Tryd.f8 3) false) .ret) .skip)) (.seq (.region 4 (opsOf Tryd.f8 4) false) (.seq (.region 5 (opsOf Tryd.f8 5) false) (.seq (.region 6 (opsOf Tryd.f8 6) false) (.seq (.seq (.region 7 (opsOf Tryd.f8 7) false) (.block 0 (.loop (.seq (.seq (.region 8 (opsOf Tryd.f8 8) false) (.cond (.tmp 25) .skip (.exit 0))) (.seq (.block 1 (.seq (.region 10 (opsOf Tryd.f8 10) false) (.block 2 (.loop (.seq (.seq (.region 11 (opsOf Tryd.f8 11) false) (.cond (.tmp 34) .skip (.exit 2))) (.seq (.block 3 (.seq (.region 13 (opsOf Tryd.f8 13) false) (.seq (.region 14 (opsOf Tryd.f8 14) true) (.cond (.tmp 62) (.seq (.region 15 (opsOf Tryd.f8 15) false) .ret) .skip)))) (.region 12 (opsOf Tryd.f8 12) false))))))) (.region 9 (opsOf Tryd.f8 9) false)))))) (.seq (.region 16 (opsOf Tryd.f8 16) false) .ret)))))))) := by kernel_rfl

theorem L5_GraphLoopsParts_ok (F : Nat) : Sim Tryd.prog TrydG 8 (L5_GraphLoopsParts_m F) := by
 have hE : EnvOK Tryd.prog TrydG (L5_GraphLoopsParts_env F) := (EnvOK.cons (L5_begun_ok F) (EnvOK.cons (L5_Made_ok F) (EnvOK.cons (graph_Loops_ok F) (EnvOK.cons (graph_Parts_ok F) (EnvOK.cons (bitset_Set_Has_ok F) (EnvOK.cons (R1_In_ok F) EnvOK.nil))))))
 refine Sim.of_body (E := L5_GraphLoopsParts_env F) Tryd.func8 L5_GraphLoopsParts_body Tryd.call8 ?_ ?_
 · intro args hl; unfold L5_GraphLoopsParts_m; split
   · exact absurd hl (Nat.not_lt.2 (Nat.le_of_ble_eq_true rfl))
   · rfl
 · intro args ρ h w z; unfold L5_GraphLoopsParts_m; split
   · rename_i x0 x1; show OKc _ _ [(0, x0), (1, x1)] _ _
     refine rSeq ?_
     refine cLess [1, 0] ?_
     refine xR hE [0, 1] rfl (L5_GraphLoopsParts_r0_ok F _ _ _) ?_
     intro x0 x1
     show OKq _ _ _ [(1, x1), (0, x0)] _
     refine rThen ?_
     refine rSeq ?_
     refine cLess [1, 0] ?_
     refine xR hE [0, 1, 5] rfl (L5_GraphLoopsParts_r1_ok F _ _ _) ?_
     intro x0 x1 x5
     show OKq _ _ _ [(5, x5), (1, x1), (0, x0)] _
     refine rThen ?_
     refine rSeq ?_
     refine rSeq ?_
     refine cLess [5, 1, 0] ?_
     refine xR hE [0, 1, 14] rfl (L5_GraphLoopsParts_r2_ok F _ _ _ _) ?_
     intro x0 x1 x14
     show OKq _ _ _ [(14, x14), (1, x1), (0, x0)] _
     refine rThen ?_
     refine xCond rfl rfl ?_ ?_
     · refine rSeq ?_
       refine cLess [] ?_
       refine xR hE [4] rfl (L5_GraphLoopsParts_r3_ok F _) ?_
       intro x4
       show OKq _ _ _ [(4, x4)] _
       refine rThen ?_
       refine rRet ?_
       refine xThenR ?_
       exact rDone (.inr rfl) rfl
     · refine rSkip ?_
       refine rThen ?_
       refine rSeq ?_
       refine cLess [1, 0] ?_
       refine xR hE [6] rfl (L5_GraphLoopsParts_r4_ok F _ _ _) ?_
       intro x6
       show OKq _ _ _ [(6, x6)] _
       refine rThen ?_
       refine rSeq ?_
       refine cLess [6] ?_
       refine xR hE [6, 7] rfl (L5_GraphLoopsParts_r5_ok F _ _) ?_
       intro x6 x7
       show OKq _ _ _ [(7, x7), (6, x6)] _
       refine rThen ?_
       refine rSeq ?_
       refine cLess [7, 6] ?_
       refine xR hE [6, 7, 8] rfl (L5_GraphLoopsParts_r6_ok F _ _ _) ?_
       intro x6 x7 x8
       show OKq _ _ _ [(8, x8), (7, x7), (6, x6)] _
       refine rThen ?_
       refine xSeq [] (L5_GraphLoopsParts_k0 F ) ?_ fun hj0 => ?_
       · show OKc _ _ [] _ _
         refine rSeq ?_
         refine cLess [] ?_
         refine xR hE [4] rfl (L5_GraphLoopsParts_r16_ok F _) ?_
         intro x4
         show OKq _ _ _ [(4, x4)] _
         refine rThen ?_
         refine rRet ?_
         exact rDone (.inr rfl) rfl
       · refine rSeq ?_
         refine cLess [8, 7, 6] ?_
         refine xR hE [6, 7, 8, 9] rfl (L5_GraphLoopsParts_r7_ok F _ _ _ _) ?_
         intro x6 x7 x8 x9
         show OKq _ _ _ [(9, x9), (8, x8), (7, x7), (6, x6)] _
         refine rThen ?_
         refine rBlock ?_
         refine cLess [9, 8, 7, 6] ?_
         refine xLoopAt [6, 7, 8, 9] [] (fun k1 => L5_GraphLoopsParts_l1 F (L5_GraphLoopsParts_k0 F ) k1) F [x6, x7, x8, x9] rfl rfl (fun _ _ _ _ => rfl) fun I hI1 k1 => ?_
         intro x6 x7 x8 x9
         show OKc _ _ [(9, x9), (8, x8), (7, x7), (6, x6)] _ _
         refine cAs (L5_GraphLoopsParts_l1_s F _ _ _ _ _ _) ?_
         refine rSeq ?_
         refine rSeq ?_
         refine cLess [9, 8, 7, 6] ?_
         refine xR hE [6, 7, 8, 9, 25] rfl (L5_GraphLoopsParts_r8_ok F _ _ _ _ _) ?_
         intro x6 x7 x8 x9 x25
         show OKq _ _ _ [(25, x25), (9, x9), (8, x8), (7, x7), (6, x6)] _
         refine rThen ?_
         refine xCond rfl rfl ?_ ?_
         · refine rSkip ?_
           refine rThen ?_
           refine xSeq [6, 7, 8, 9] (L5_GraphLoopsParts_k2 F (L5_GraphLoopsParts_l1 F (L5_GraphLoopsParts_k0 F ) k1) ) ?_ fun hj2 => ?_
           · intro x6 x7 x8 x9
             show OKc _ _ [(9, x9), (8, x8), (7, x7), (6, x6)] _ _
             refine cLess [9, 8, 7, 6] ?_
             refine xR hE [6, 7, 8, 9] rfl (L5_GraphLoopsParts_r9_ok F _ _ _ _ _) ?_
             intro x6 x7 x8 x9
             show OKq _ _ _ [(9, x9), (8, x8), (7, x7), (6, x6)] _
             exact qLess [9, 8, 7, 6] (hI1 k1 x6 x7 x8 x9)
           · refine rBlock ?_
             refine rSeq ?_
             refine cLess [9, 8, 7, 6] ?_
             refine xR hE [6, 7, 8, 9, 10] rfl (L5_GraphLoopsParts_r10_ok F _ _ _ _ _) ?_
             intro x6 x7 x8 x9 x10
             show OKq _ _ _ [(10, x10), (9, x9), (8, x8), (7, x7), (6, x6)] _
             refine rThen ?_
             refine rBlock ?_
             refine cLess [10, 9, 8, 7, 6] ?_
             refine xLoopAt [6, 7, 8, 9, 10] [] (fun k3 => L5_GraphLoopsParts_l3 F (fun x6 x7 x8 x9 => L5_GraphLoopsParts_k2 F (L5_GraphLoopsParts_l1 F (L5_GraphLoopsParts_k0 F ) k1) x6 x7 x8 x9) k3) F [x6, x7, x8, x9, x10] rfl rfl (fun _ _ _ _ _ => rfl) fun I hI3 k3 => ?_
             intro x6 x7 x8 x9 x10
             show OKc _ _ [(10, x10), (9, x9), (8, x8), (7, x7), (6, x6)] _ _
             refine cAs (L5_GraphLoopsParts_l3_s F _ _ _ _ _ _ _) ?_
             refine rSeq ?_
             refine rSeq ?_
             refine cLess [10, 9, 8, 7, 6] ?_
             refine xR hE [6, 7, 8, 9, 10, 34] rfl (L5_GraphLoopsParts_r11_ok F _ _ _ _ _ _) ?_
             intro x6 x7 x8 x9 x10 x34
             show OKq _ _ _ [(34, x34), (10, x10), (9, x9), (8, x8), (7, x7), (6, x6)] _
             refine rThen ?_
             refine xCond rfl rfl ?_ ?_
             · refine rSkip ?_
               refine rThen ?_
               refine rSeq ?_
               refine rBlock ?_
               refine rSeq ?_
               refine cLess [10, 9, 8, 7, 6] ?_
               refine xR hE [6, 7, 8, 9, 10, 11] rfl (L5_GraphLoopsParts_r13_ok F _ _ _ _ _ _) ?_
               intro x6 x7 x8 x9 x10 x11
               show OKq _ _ _ [(11, x11), (10, x10), (9, x9), (8, x8), (7, x7), (6, x6)] _
               refine rThen ?_
               refine rSeq ?_
               refine cLess [11, 10, 9, 8, 7, 6] ?_
               refine xD Trydmix hE [6, 7, 8, 9, 10, 62] rfl L5_GraphLoopsParts_r14_good (L5_GraphLoopsParts_r14_ok F _ _ _ _ _ _ _) ?_
               intro x6 x7 x8 x9 x10 x62
               show OKq _ _ _ [(62, x62), (10, x10), (9, x9), (8, x8), (7, x7), (6, x6)] _
               refine rThen ?_
               refine xCond rfl rfl ?_ ?_
               · refine rSeq ?_
                 refine cLess [] ?_
                 refine xR hE [4] rfl (L5_GraphLoopsParts_r15_ok F _) ?_
                 intro x4
                 show OKq _ _ _ [(4, x4)] _
                 refine rThen ?_
                 refine rRet ?_
                 refine xBlockR ?_
                 refine xThenR ?_
                 refine xThenR ?_
                 refine xBlockR ?_
                 refine xBlockR ?_
                 refine xThenR ?_
                 refine xThenR ?_
                 refine xBlockR ?_
                 refine xThenR ?_
                 exact rDone (.inr rfl) rfl
               · refine rSkip ?_
                 refine xBlockN ?_
                 refine rThen ?_
                 refine cLess [10, 9, 8, 7, 6] ?_
                 refine xR hE [6, 7, 8, 9, 10] rfl (L5_GraphLoopsParts_r12_ok F _ _ _ _ _ _) ?_
                 intro x6 x7 x8 x9 x10
                 show OKq _ _ _ [(10, x10), (9, x9), (8, x8), (7, x7), (6, x6)] _
                 exact qLess [10, 9, 8, 7, 6] (hI3 k3 x6 x7 x8 x9 x10)
             · refine rExit ?_
               refine xThenX ?_
               refine xThenX ?_
               refine rOut ?_
               refine xBlockN ?_
               exact qLess [9, 8, 7, 6] (hj2 x6 x7 x8 x9)
         · refine rExit ?_
           refine xThenX ?_
           refine xThenX ?_
           refine rOut ?_
           exact qLess [] (hj0 )
   · exact rFail



end Go.Fw
