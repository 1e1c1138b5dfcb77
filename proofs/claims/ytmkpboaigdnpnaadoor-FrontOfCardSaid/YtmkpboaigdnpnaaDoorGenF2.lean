/-
  What functions of this seat come to, and that they do: part 2.
-/
import Derived.Test.YtmkpboaigdnpnaaDoorGenF1
set_option linter.unusedVariables false
set_option maxRecDepth 20000
namespace Go.Fw
open Go.Proofs

/-! ### haruspex/front.Closure -/

def front_Closure_env (F : Nat) : Env := envOf [(13, bitset_Set_All_m F), (27, bitset_Set_Add_m F)]

noncomputable def front_Closure_R (F : Nat) := rK Tryd.prog TrydG (front_Closure_env F) Tryd.f16
noncomputable def front_Closure_D (F : Nat) := dK Tryd.prog TrydG (front_Closure_env F) Tryd.f16

def front_Closure_r13 (F : Nat) (x5 : Value) (K : Value → M Value) : M Value :=
  K x5

theorem front_Closure_r13_ok (F : Nat) (x5 : Value) (K : Value → M Value) : front_Closure_r13 F x5 K = front_Closure_R F 13 [(5, x5)] [4] K := by kernel_rfl

def front_Closure_k0 (F : Nat) (x5 : Value) : M Value :=
  front_Closure_r13 F x5 (fun x4 => ret x4)

def front_Closure_r12 (F : Nat) (x0 x5 x6 x30 x31 x32 : Value) (K : Value → Value → Value → Value → Value → Value → M Value) : M Value :=
  bnd (opBin .add x32 (.int .i64 (1))) fun v43 => K x0 x5 x6 x30 x31 v43

theorem front_Closure_r12_ok (F : Nat) (x0 x5 x6 x30 x31 x32 : Value) (K : Value → Value → Value → Value → Value → Value → M Value) : front_Closure_r12 F x0 x5 x6 x30 x31 x32 K = front_Closure_R F 12 [(32, x32), (31, x31), (30, x30), (6, x6), (5, x5), (0, x0)] [0, 5, 6, 30, 31, 32] K := by kernel_rfl

def front_Closure_k3 (F : Nat) (A2 : Value → Value → Value → Value → Value → Value → M Value) (x0 x5 x6 x30 x31 x32 : Value) : M Value :=
  front_Closure_r12 F x0 x5 x6 x30 x31 x32 (fun x0 x5 x6 x30 x31 x32 => A2 x0 x5 x6 x30 x31 x32)

def front_Closure_r11 (F : Nat) (x0 x5 x6 x9 x30 x31 x32 : Value) (K : Value → Value → Value → Value → Value → Value → M Value) : M Value :=
  bnd (opBuildSlice 1 (rep 1 [(.int .i64 (0))]) [(0, 1, false, x9)]) fun v41 => bnd (opAppend 1 8 x6 v41) fun v42 => K x0 x5 v42 x30 x31 x32

theorem front_Closure_r11_ok (F : Nat) (x0 x5 x6 x9 x30 x31 x32 : Value) (K : Value → Value → Value → Value → Value → Value → M Value) : front_Closure_r11 F x0 x5 x6 x9 x30 x31 x32 K = front_Closure_R F 11 [(32, x32), (31, x31), (30, x30), (9, x9), (6, x6), (5, x5), (0, x0)] [0, 5, 6, 30, 31, 32] K := by kernel_rfl

def front_Closure_r10 (F : Nat) (x0 x5 x6 x9 x30 x31 x32 : Value) (K : Value → Value → Value → Value → Value → Value → Value → Value → M Value) : M Value :=
  bnd (bitset_Set_Add F x5 x9) fun v38 => K x0 x5 x6 x9 x30 x31 x32 v38

theorem front_Closure_r10_ok (F : Nat) (x0 x5 x6 x9 x30 x31 x32 : Value) (K : Value → Value → Value → Value → Value → Value → Value → Value → M Value) : front_Closure_r10 F x0 x5 x6 x9 x30 x31 x32 K = front_Closure_R F 10 [(32, x32), (31, x31), (30, x30), (9, x9), (6, x6), (5, x5), (0, x0)] [0, 5, 6, 9, 30, 31, 32, 38] K := by kernel_rfl

def front_Closure_r9 (F : Nat) (x0 x5 x6 x30 x31 x32 : Value) (K : Value → Value → Value → Value → Value → Value → Value → M Value) : M Value :=
  bnd (opIndexAddr 1 x30 x32) fun v34 => bnd (opLoad v34) fun v35 => K x0 x5 x6 v35 x30 x31 x32

theorem front_Closure_r9_ok (F : Nat) (x0 x5 x6 x30 x31 x32 : Value) (K : Value → Value → Value → Value → Value → Value → Value → M Value) : front_Closure_r9 F x0 x5 x6 x30 x31 x32 K = front_Closure_R F 9 [(32, x32), (31, x31), (30, x30), (6, x6), (5, x5), (0, x0)] [0, 5, 6, 9, 30, 31, 32] K := by kernel_rfl

def front_Closure_r8 (F : Nat) (x0 x5 x6 x30 x31 x32 : Value) (K : Value → Value → Value → Value → Value → Value → Value → M Value) : M Value :=
  bnd (opBin .lss x32 x31) fun v33 => K x0 x5 x6 x30 x31 x32 v33

theorem front_Closure_r8_ok (F : Nat) (x0 x5 x6 x30 x31 x32 : Value) (K : Value → Value → Value → Value → Value → Value → Value → M Value) : front_Closure_r8 F x0 x5 x6 x30 x31 x32 K = front_Closure_R F 8 [(32, x32), (31, x31), (30, x30), (6, x6), (5, x5), (0, x0)] [0, 5, 6, 30, 31, 32, 33] K := by kernel_rfl

def front_Closure_b2 (F : Nat) (E2_2 : Value → Value → Value → M Value) (A2 : Value → Value → Value → Value → Value → Value → M Value) (x0 x5 x6 x30 x31 x32 : Value) : M Value :=
  front_Closure_r8 F x0 x5 x6 x30 x31 x32 (fun x0 x5 x6 x30 x31 x32 x33 => onB x33 (front_Closure_r9 F x0 x5 x6 x30 x31 x32 (fun x0 x5 x6 x9 x30 x31 x32 => front_Closure_r10 F x0 x5 x6 x9 x30 x31 x32 (fun x0 x5 x6 x9 x30 x31 x32 x38 => onB x38 (front_Closure_r11 F x0 x5 x6 x9 x30 x31 x32 (fun x0 x5 x6 x30 x31 x32 => front_Closure_k3 F A2 x0 x5 x6 x30 x31 x32)) (front_Closure_k3 F A2 x0 x5 x6 x30 x31 x32)))) (E2_2 x0 x5 x6))

def front_Closure_l2 (F : Nat) (E2_2 : Value → Value → Value → M Value) : Nat → Value → Value → Value → Value → Value → Value → M Value
  | 0, _, _, _, _, _, _ => fail
  | k2 + 1, x0, x5, x6, x30, x31, x32 => front_Closure_b2 F E2_2 (front_Closure_l2 F E2_2 k2) x0 x5 x6 x30 x31 x32

theorem front_Closure_l2_s (F : Nat) (E2_2 : Value → Value → Value → M Value) (k2 : Nat) (x0 x5 x6 x30 x31 x32 : Value) : front_Closure_l2 F E2_2 (k2 + 1) x0 x5 x6 x30 x31 x32 = front_Closure_b2 F E2_2 (front_Closure_l2 F E2_2 k2) x0 x5 x6 x30 x31 x32 := rfl

def front_Closure_r7 (F : Nat) (x0 x5 x6 x7 : Value) (K : Value → Value → Value → Value → Value → Value → M Value) : M Value :=
  bnd (opIndexAddr 1 x0 x7) fun v28 => bnd (opLoad v28) fun v29 => bnd (bitset_Set_All F v29) fun v30 => bnd (opLen v30) fun v31 => K x0 x5 x6 v30 v31 (.int .i64 (0))

theorem front_Closure_r7_ok (F : Nat) (x0 x5 x6 x7 : Value) (K : Value → Value → Value → Value → Value → Value → M Value) : front_Closure_r7 F x0 x5 x6 x7 K = front_Closure_R F 7 [(7, x7), (6, x6), (5, x5), (0, x0)] [0, 5, 6, 30, 31, 32] K := by kernel_rfl

def front_Closure_r6 (F : Nat) (x0 x5 x6 x7 : Value) (K : Value → Value → Value → Value → Value → M Value) : M Value :=
  bnd (opLen x0) fun v24 => bnd (opBin .geq x7 v24) fun v25 => K x0 x5 x6 x7 v25

theorem front_Closure_r6_ok (F : Nat) (x0 x5 x6 x7 : Value) (K : Value → Value → Value → Value → Value → M Value) : front_Closure_r6 F x0 x5 x6 x7 K = front_Closure_R F 6 [(7, x7), (6, x6), (5, x5), (0, x0)] [0, 5, 6, 7, 25] K := by kernel_rfl

def front_Closure_r5 (F : Nat) (x0 x5 x6 x7 : Value) (K : Value → Value → Value → Value → M Value) : M Value :=
  bnd (opSlice 1 x6 (some (.int .i64 (1))) none none) fun v21 => K x0 x5 v21 x7

theorem front_Closure_r5_ok (F : Nat) (x0 x5 x6 x7 : Value) (K : Value → Value → Value → Value → M Value) : front_Closure_r5 F x0 x5 x6 x7 K = front_Closure_R F 5 [(7, x7), (6, x6), (5, x5), (0, x0)] [0, 5, 6, 7] K := by kernel_rfl

def front_Closure_r4 (F : Nat) (x0 x5 x6 : Value) (K : Value → Value → Value → Value → M Value) : M Value :=
  bnd (opIndexAddr 1 x6 (.int .i64 (0))) fun v18 => bnd (opLoad v18) fun v19 => K x0 x5 x6 v19

theorem front_Closure_r4_ok (F : Nat) (x0 x5 x6 : Value) (K : Value → Value → Value → Value → M Value) : front_Closure_r4 F x0 x5 x6 K = front_Closure_R F 4 [(6, x6), (5, x5), (0, x0)] [0, 5, 6, 7] K := by kernel_rfl

def front_Closure_r3 (F : Nat) (x0 x5 x6 : Value) (K : Value → Value → Value → Value → M Value) : M Value :=
  bnd (opLen x6) fun v15 => bnd (opBin .gtr v15 (.int .i64 (0))) fun v16 => K x0 x5 x6 v16

theorem front_Closure_r3_ok (F : Nat) (x0 x5 x6 : Value) (K : Value → Value → Value → Value → M Value) : front_Closure_r3 F x0 x5 x6 K = front_Closure_R F 3 [(6, x6), (5, x5), (0, x0)] [0, 5, 6, 16] K := by kernel_rfl

def front_Closure_b1 (F : Nat) (E1_0 : Value → M Value) (A1 : Value → Value → Value → M Value) (x0 x5 x6 : Value) : M Value :=
  front_Closure_r3 F x0 x5 x6 (fun x0 x5 x6 x16 => onB x16 (front_Closure_r4 F x0 x5 x6 (fun x0 x5 x6 x7 => front_Closure_r5 F x0 x5 x6 x7 (fun x0 x5 x6 x7 => front_Closure_r6 F x0 x5 x6 x7 (fun x0 x5 x6 x7 x25 => onB x25 (A1 x0 x5 x6) (front_Closure_r7 F x0 x5 x6 x7 (fun x0 x5 x6 x30 x31 x32 => front_Closure_l2 F (fun x0 x5 x6 => A1 x0 x5 x6) F x0 x5 x6 x30 x31 x32)))))) (E1_0 x5))

def front_Closure_l1 (F : Nat) (E1_0 : Value → M Value) : Nat → Value → Value → Value → M Value
  | 0, _, _, _ => fail
  | k1 + 1, x0, x5, x6 => front_Closure_b1 F E1_0 (front_Closure_l1 F E1_0 k1) x0 x5 x6

theorem front_Closure_l1_s (F : Nat) (E1_0 : Value → M Value) (k1 : Nat) (x0 x5 x6 : Value) : front_Closure_l1 F E1_0 (k1 + 1) x0 x5 x6 = front_Closure_b1 F E1_0 (front_Closure_l1 F E1_0 k1) x0 x5 x6 := rfl

def front_Closure_r2 (F : Nat) (x0 x1 x5 : Value) (K : Value → Value → Value → M Value) : M Value :=
  bnd (bitset_Set_All F x1) fun v13 => K x0 x5 v13

theorem front_Closure_r2_ok (F : Nat) (x0 x1 x5 : Value) (K : Value → Value → Value → M Value) : front_Closure_r2 F x0 x1 x5 K = front_Closure_R F 2 [(5, x5), (1, x1), (0, x0)] [0, 5, 6] K := by kernel_rfl

def front_Closure_r1 (F : Nat) (x0 x1 : Value) (K : Value → Value → Value → M Value) : M Value :=
  bnd (opBuild [(.slice none 0 0)] []) fun v10 => bnd (opBoxN v10) fun v11 => K x0 x1 v11

theorem front_Closure_r1_ok (F : Nat) (x0 x1 : Value) (K : Value → Value → Value → M Value) : front_Closure_r1 F x0 x1 K = front_Closure_R F 1 [(1, x1), (0, x0)] [0, 1, 5] K := by kernel_rfl

def front_Closure_r0 (F : Nat) (x0 x1 : Value) (K : Value → Value → M Value) : M Value :=
  K x0 x1

theorem front_Closure_r0_ok (F : Nat) (x0 x1 : Value) (K : Value → Value → M Value) : front_Closure_r0 F x0 x1 K = front_Closure_R F 0 [(1, x1), (0, x0)] [0, 1] K := by kernel_rfl

def front_Closure (F : Nat) (x0 x1 : Value) : M Value :=
  front_Closure_r0 F x0 x1 (fun x0 x1 => front_Closure_r1 F x0 x1 (fun x0 x1 x5 => front_Closure_r2 F x0 x1 x5 (fun x0 x5 x6 => front_Closure_l1 F (fun x5 => front_Closure_k0 F x5) F x0 x5 x6)))

def front_Closure_m (F : Nat) : List Value → M Value
  | [x0, x1] => front_Closure F x0 x1
  | _ => fail

theorem front_Closure_body : Tryd.f16.body = some (.seq (.region 0 (opsOf Tryd.f16 0) false) (.seq (.region 1 (opsOf Tryd.f16 1) false) (.seq (.region 2 (opsOf Tryd.f16 2) false) (.seq (.block 0 (.loop (.seq (.seq (.region 3 (opsOf Tryd.f16 3) false) (.cond (.tmp 16) .skip (.exit 0))) (.block 1 (.seq (.region 4 (opsOf Tryd.f16 4) false) (.seq (.region 5 (opsOf Tryd.f16 5) false) (.seq (.seq (.region 6 (opsOf Tryd.f16 6) false) (.cond (.tmp 25) (.exit 1) .skip)) (.seq (.region 7 (opsOf Tryd.f16 7) false) (.block 2 (.loop (.seq (.region 8 (opsOf Tryd.f16 8) false) (.seq (.cond (.tmp 33) .skip (.exit 2)) (.seq (.block 3 (.seq (.region 9 (opsOf Tryd.f16 9) false) (.seq (.region 10 (opsOf Tryd.f16 10) false) (.cond (.tmp 38) (.region 11 (opsOf Tryd.f16 11) false) .skip)))) (.region 12 (opsOf Tryd.f16 12) false)))))))))))))) (.seq (.region 13 (opsOf Tryd.f16 13) false) .ret))))) := by kernel_rfl

theorem front_Closure_ok (F : Nat) : Sim Tryd.prog TrydG 16 (front_Closure_m F) := by
 have hE : EnvOK Tryd.prog TrydG (front_Closure_env F) := (EnvOK.cons (bitset_Set_All_ok F) (EnvOK.cons (bitset_Set_Add_ok F) EnvOK.nil))
 refine Sim.of_body (E := front_Closure_env F) Tryd.func16 front_Closure_body Tryd.call16 ?_ ?_
 · intro args hl; unfold front_Closure_m; split
   · exact absurd hl (Nat.not_lt.2 (Nat.le_of_ble_eq_true rfl))
   · rfl
 · intro args ρ h w z; unfold front_Closure_m; split
   · rename_i x0 x1; show OKc _ _ [(0, x0), (1, x1)] _ _
     refine rSeq ?_
     refine cLess [1, 0] ?_
     refine xR hE [0, 1] rfl (front_Closure_r0_ok F _ _ _) ?_
     intro x0 x1
     show OKq _ _ _ [(1, x1), (0, x0)] _
     refine rThen ?_
     refine rSeq ?_
     refine cLess [1, 0] ?_
     refine xR hE [0, 1, 5] rfl (front_Closure_r1_ok F _ _ _) ?_
     intro x0 x1 x5
     show OKq _ _ _ [(5, x5), (1, x1), (0, x0)] _
     refine rThen ?_
     refine rSeq ?_
     refine cLess [5, 1, 0] ?_
     refine xR hE [0, 5, 6] rfl (front_Closure_r2_ok F _ _ _ _) ?_
     intro x0 x5 x6
     show OKq _ _ _ [(6, x6), (5, x5), (0, x0)] _
     refine rThen ?_
     refine xSeq [5] (front_Closure_k0 F ) ?_ fun hj0 => ?_
     · intro x5
       show OKc _ _ [(5, x5)] _ _
       refine rSeq ?_
       refine cLess [5] ?_
       refine xR hE [4] rfl (front_Closure_r13_ok F _ _) ?_
       intro x4
       show OKq _ _ _ [(4, x4)] _
       refine rThen ?_
       refine rRet ?_
       exact rDone (.inr rfl) rfl
     · refine rBlock ?_
       refine cLess [6, 5, 0] ?_
       refine xLoopAt [0, 5, 6] [] (fun k1 => front_Closure_l1 F (fun x5 => front_Closure_k0 F x5) k1) F [x0, x5, x6] rfl rfl (fun _ _ _ => rfl) fun I hI1 k1 => ?_
       intro x0 x5 x6
       show OKc _ _ [(6, x6), (5, x5), (0, x0)] _ _
       refine cAs (front_Closure_l1_s F _ _ _ _ _) ?_
       refine rSeq ?_
       refine rSeq ?_
       refine cLess [6, 5, 0] ?_
       refine xR hE [0, 5, 6, 16] rfl (front_Closure_r3_ok F _ _ _ _) ?_
       intro x0 x5 x6 x16
       show OKq _ _ _ [(16, x16), (6, x6), (5, x5), (0, x0)] _
       refine rThen ?_
       refine xCond rfl rfl ?_ ?_
       · refine rSkip ?_
         refine rThen ?_
         refine rBlock ?_
         refine rSeq ?_
         refine cLess [6, 5, 0] ?_
         refine xR hE [0, 5, 6, 7] rfl (front_Closure_r4_ok F _ _ _ _) ?_
         intro x0 x5 x6 x7
         show OKq _ _ _ [(7, x7), (6, x6), (5, x5), (0, x0)] _
         refine rThen ?_
         refine rSeq ?_
         refine cLess [7, 6, 5, 0] ?_
         refine xR hE [0, 5, 6, 7] rfl (front_Closure_r5_ok F _ _ _ _ _) ?_
         intro x0 x5 x6 x7
         show OKq _ _ _ [(7, x7), (6, x6), (5, x5), (0, x0)] _
         refine rThen ?_
         refine rSeq ?_
         refine rSeq ?_
         refine cLess [7, 6, 5, 0] ?_
         refine xR hE [0, 5, 6, 7, 25] rfl (front_Closure_r6_ok F _ _ _ _ _) ?_
         intro x0 x5 x6 x7 x25
         show OKq _ _ _ [(25, x25), (7, x7), (6, x6), (5, x5), (0, x0)] _
         refine rThen ?_
         refine xCond rfl rfl ?_ ?_
         · refine rExit ?_
           refine xThenX ?_
           refine rOut ?_
           exact qLess [6, 5, 0] (hI1 k1 x0 x5 x6)
         · refine rSkip ?_
           refine rThen ?_
           refine rSeq ?_
           refine cLess [7, 6, 5, 0] ?_
           refine xR hE [0, 5, 6, 30, 31, 32] rfl (front_Closure_r7_ok F _ _ _ _ _) ?_
           intro x0 x5 x6 x30 x31 x32
           show OKq _ _ _ [(32, x32), (31, x31), (30, x30), (6, x6), (5, x5), (0, x0)] _
           refine rThen ?_
           refine rBlock ?_
           refine cLess [32, 31, 30, 6, 5, 0] ?_
           refine xLoopAt [0, 5, 6, 30, 31, 32] [] (fun k2 => front_Closure_l2 F (fun x0 x5 x6 => (front_Closure_l1 F (fun x5 => front_Closure_k0 F x5) k1) x0 x5 x6) k2) F [x0, x5, x6, x30, x31, x32] rfl rfl (fun _ _ _ _ _ _ => rfl) fun I hI2 k2 => ?_
           intro x0 x5 x6 x30 x31 x32
           show OKc _ _ [(32, x32), (31, x31), (30, x30), (6, x6), (5, x5), (0, x0)] _ _
           refine cAs (front_Closure_l2_s F _ _ _ _ _ _ _ _) ?_
           refine rSeq ?_
           refine cLess [32, 31, 30, 6, 5, 0] ?_
           refine xR hE [0, 5, 6, 30, 31, 32, 33] rfl (front_Closure_r8_ok F _ _ _ _ _ _ _) ?_
           intro x0 x5 x6 x30 x31 x32 x33
           show OKq _ _ _ [(33, x33), (32, x32), (31, x31), (30, x30), (6, x6), (5, x5), (0, x0)] _
           refine rThen ?_
           refine rSeq ?_
           refine xCond rfl rfl ?_ ?_
           · refine rSkip ?_
             refine rThen ?_
             refine xSeq [0, 5, 6, 30, 31, 32] (front_Closure_k3 F (front_Closure_l2 F (fun x0 x5 x6 => (front_Closure_l1 F (fun x5 => front_Closure_k0 F x5) k1) x0 x5 x6) k2) ) ?_ fun hj3 => ?_
             · intro x0 x5 x6 x30 x31 x32
               show OKc _ _ [(32, x32), (31, x31), (30, x30), (6, x6), (5, x5), (0, x0)] _ _
               refine cLess [32, 31, 30, 6, 5, 0] ?_
               refine xR hE [0, 5, 6, 30, 31, 32] rfl (front_Closure_r12_ok F _ _ _ _ _ _ _) ?_
               intro x0 x5 x6 x30 x31 x32
               show OKq _ _ _ [(32, x32), (31, x31), (30, x30), (6, x6), (5, x5), (0, x0)] _
               exact qLess [32, 31, 30, 6, 5, 0] (hI2 k2 x0 x5 x6 x30 x31 x32)
             · refine rBlock ?_
               refine rSeq ?_
               refine cLess [32, 31, 30, 6, 5, 0] ?_
               refine xR hE [0, 5, 6, 9, 30, 31, 32] rfl (front_Closure_r9_ok F _ _ _ _ _ _ _) ?_
               intro x0 x5 x6 x9 x30 x31 x32
               show OKq _ _ _ [(32, x32), (31, x31), (30, x30), (9, x9), (6, x6), (5, x5), (0, x0)] _
               refine rThen ?_
               refine rSeq ?_
               refine cLess [32, 31, 30, 9, 6, 5, 0] ?_
               refine xR hE [0, 5, 6, 9, 30, 31, 32, 38] rfl (front_Closure_r10_ok F _ _ _ _ _ _ _ _) ?_
               intro x0 x5 x6 x9 x30 x31 x32 x38
               show OKq _ _ _ [(38, x38), (32, x32), (31, x31), (30, x30), (9, x9), (6, x6), (5, x5), (0, x0)] _
               refine rThen ?_
               refine xCond rfl rfl ?_ ?_
               · refine cLess [32, 31, 30, 9, 6, 5, 0] ?_
                 refine xR hE [0, 5, 6, 30, 31, 32] rfl (front_Closure_r11_ok F _ _ _ _ _ _ _ _) ?_
                 intro x0 x5 x6 x30 x31 x32
                 show OKq _ _ _ [(32, x32), (31, x31), (30, x30), (6, x6), (5, x5), (0, x0)] _
                 refine xBlockN ?_
                 exact qLess [32, 31, 30, 6, 5, 0] (hj3 x0 x5 x6 x30 x31 x32)
               · refine rSkip ?_
                 refine xBlockN ?_
                 exact qLess [32, 31, 30, 6, 5, 0] (hj3 x0 x5 x6 x30 x31 x32)
           · refine rExit ?_
             refine xThenX ?_
             refine xThenX ?_
             refine rOut ?_
             refine xBlockN ?_
             exact qLess [6, 5, 0] (hI1 k1 x0 x5 x6)
       · refine rExit ?_
         refine xThenX ?_
         refine xThenX ?_
         refine rOut ?_
         exact qLess [5] (hj0 x5)
   · exact rFail


/-! ### haruspex/bitset.Of -/

def bitset_Of_env (F : Nat) : Env := envOf [(27, bitset_Set_Add_m F)]

noncomputable def bitset_Of_R (F : Nat) := rK Tryd.prog TrydG (bitset_Of_env F) Tryd.f17
noncomputable def bitset_Of_D (F : Nat) := dK Tryd.prog TrydG (bitset_Of_env F) Tryd.f17

def bitset_Of_r7 (F : Nat) (x3 : Value) (K : Value → M Value) : M Value :=
  K x3

theorem bitset_Of_r7_ok (F : Nat) (x3 : Value) (K : Value → M Value) : bitset_Of_r7 F x3 K = bitset_Of_R F 7 [(3, x3)] [2] K := by kernel_rfl

def bitset_Of_k0 (F : Nat) (x3 : Value) : M Value :=
  bitset_Of_r7 F x3 (fun x2 => ret x2)

def bitset_Of_r6 (F : Nat) (x3 x8 x9 x10 : Value) (K : Value → Value → Value → Value → M Value) : M Value :=
  bnd (opBin .add x10 (.int .i64 (1))) fun v17 => K x3 x8 x9 v17

theorem bitset_Of_r6_ok (F : Nat) (x3 x8 x9 x10 : Value) (K : Value → Value → Value → Value → M Value) : bitset_Of_r6 F x3 x8 x9 x10 K = bitset_Of_R F 6 [(10, x10), (9, x9), (8, x8), (3, x3)] [3, 8, 9, 10] K := by kernel_rfl

def bitset_Of_r5 (F : Nat) (x3 x5 x8 x9 x10 : Value) (K : Value → Value → Value → Value → M Value) : M Value :=
  bnd (bitset_Set_Add F x3 x5) fun v16 => K x3 x8 x9 x10

theorem bitset_Of_r5_ok (F : Nat) (x3 x5 x8 x9 x10 : Value) (K : Value → Value → Value → Value → M Value) : bitset_Of_r5 F x3 x5 x8 x9 x10 K = bitset_Of_R F 5 [(10, x10), (9, x9), (8, x8), (5, x5), (3, x3)] [3, 8, 9, 10] K := by kernel_rfl

def bitset_Of_r4 (F : Nat) (x3 x8 x9 x10 : Value) (K : Value → Value → Value → Value → Value → M Value) : M Value :=
  bnd (opIndexAddr 1 x8 x10) fun v12 => bnd (opLoad v12) fun v13 => K x3 v13 x8 x9 x10

theorem bitset_Of_r4_ok (F : Nat) (x3 x8 x9 x10 : Value) (K : Value → Value → Value → Value → Value → M Value) : bitset_Of_r4 F x3 x8 x9 x10 K = bitset_Of_R F 4 [(10, x10), (9, x9), (8, x8), (3, x3)] [3, 5, 8, 9, 10] K := by kernel_rfl

def bitset_Of_r3 (F : Nat) (x3 x8 x9 x10 : Value) (K : Value → Value → Value → Value → Value → M Value) : M Value :=
  bnd (opBin .lss x10 x9) fun v11 => K x3 x8 x9 x10 v11

theorem bitset_Of_r3_ok (F : Nat) (x3 x8 x9 x10 : Value) (K : Value → Value → Value → Value → Value → M Value) : bitset_Of_r3 F x3 x8 x9 x10 K = bitset_Of_R F 3 [(10, x10), (9, x9), (8, x8), (3, x3)] [3, 8, 9, 10, 11] K := by kernel_rfl

def bitset_Of_b1 (F : Nat) (E1_0 : Value → M Value) (A1 : Value → Value → Value → Value → M Value) (x3 x8 x9 x10 : Value) : M Value :=
  bitset_Of_r3 F x3 x8 x9 x10 (fun x3 x8 x9 x10 x11 => onB x11 (bitset_Of_r4 F x3 x8 x9 x10 (fun x3 x5 x8 x9 x10 => bitset_Of_r5 F x3 x5 x8 x9 x10 (fun x3 x8 x9 x10 => bitset_Of_r6 F x3 x8 x9 x10 (fun x3 x8 x9 x10 => A1 x3 x8 x9 x10)))) (E1_0 x3))

def bitset_Of_l1 (F : Nat) (E1_0 : Value → M Value) : Nat → Value → Value → Value → Value → M Value
  | 0, _, _, _, _ => fail
  | k1 + 1, x3, x8, x9, x10 => bitset_Of_b1 F E1_0 (bitset_Of_l1 F E1_0 k1) x3 x8 x9 x10

theorem bitset_Of_l1_s (F : Nat) (E1_0 : Value → M Value) (k1 : Nat) (x3 x8 x9 x10 : Value) : bitset_Of_l1 F E1_0 (k1 + 1) x3 x8 x9 x10 = bitset_Of_b1 F E1_0 (bitset_Of_l1 F E1_0 k1) x3 x8 x9 x10 := rfl

def bitset_Of_r2 (F : Nat) (x0 x3 : Value) (K : Value → Value → Value → Value → M Value) : M Value :=
  bnd (opLen x0) fun v9 => K x3 x0 v9 (.int .i64 (0))

theorem bitset_Of_r2_ok (F : Nat) (x0 x3 : Value) (K : Value → Value → Value → Value → M Value) : bitset_Of_r2 F x0 x3 K = bitset_Of_R F 2 [(3, x3), (0, x0)] [3, 8, 9, 10] K := by kernel_rfl

def bitset_Of_r1 (F : Nat) (x0 : Value) (K : Value → Value → M Value) : M Value :=
  bnd (opBuild [(.slice none 0 0)] []) fun v6 => bnd (opBoxN v6) fun v7 => K x0 v7

theorem bitset_Of_r1_ok (F : Nat) (x0 : Value) (K : Value → Value → M Value) : bitset_Of_r1 F x0 K = bitset_Of_R F 1 [(0, x0)] [0, 3] K := by kernel_rfl

def bitset_Of_r0 (F : Nat) (x0 : Value) (K : Value → M Value) : M Value :=
  K x0

theorem bitset_Of_r0_ok (F : Nat) (x0 : Value) (K : Value → M Value) : bitset_Of_r0 F x0 K = bitset_Of_R F 0 [(0, x0)] [0] K := by kernel_rfl

def bitset_Of (F : Nat) (x0 : Value) : M Value :=
  bitset_Of_r0 F x0 (fun x0 => bitset_Of_r1 F x0 (fun x0 x3 => bitset_Of_r2 F x0 x3 (fun x3 x8 x9 x10 => bitset_Of_l1 F (fun x3 => bitset_Of_k0 F x3) F x3 x8 x9 x10)))

def bitset_Of_m (F : Nat) : List Value → M Value
  | [x0] => bitset_Of F x0
  | _ => fail

theorem bitset_Of_body : Tryd.f17.body = some (.seq (.region 0 (opsOf Tryd.f17 0) false) (.seq (.region 1 (opsOf Tryd.f17 1) false) (.seq (.seq (.region 2 (opsOf Tryd.f17 2) false) (.block 0 (.loop (.seq (.region 3 (opsOf Tryd.f17 3) false) (.seq (.cond (.tmp 11) .skip (.exit 0)) (.seq (.block 1 (.seq (.region 4 (opsOf Tryd.f17 4) false) (.region 5 (opsOf Tryd.f17 5) false))) (.region 6 (opsOf Tryd.f17 6) false))))))) (.seq (.region 7 (opsOf Tryd.f17 7) false) .ret)))) := by kernel_rfl

theorem bitset_Of_ok (F : Nat) : Sim Tryd.prog TrydG 17 (bitset_Of_m F) := by
 have hE : EnvOK Tryd.prog TrydG (bitset_Of_env F) := (EnvOK.cons (bitset_Set_Add_ok F) EnvOK.nil)
 refine Sim.of_body (E := bitset_Of_env F) Tryd.func17 bitset_Of_body Tryd.call17 ?_ ?_
 · intro args hl; unfold bitset_Of_m; split
   · exact absurd hl (Nat.not_lt.2 (Nat.le_of_ble_eq_true rfl))
   · rfl
 · intro args ρ h w z; unfold bitset_Of_m; split
   · rename_i x0; show OKc _ _ [(0, x0)] _ _
     refine rSeq ?_
     refine cLess [0] ?_
     refine xR hE [0] rfl (bitset_Of_r0_ok F _ _) ?_
     intro x0
     show OKq _ _ _ [(0, x0)] _
     refine rThen ?_
     refine rSeq ?_
     refine cLess [0] ?_
     refine xR hE [0, 3] rfl (bitset_Of_r1_ok F _ _) ?_
     intro x0 x3
     show OKq _ _ _ [(3, x3), (0, x0)] _
     refine rThen ?_
     refine xSeq [3] (bitset_Of_k0 F ) ?_ fun hj0 => ?_
     · intro x3
       show OKc _ _ [(3, x3)] _ _
       refine rSeq ?_
       refine cLess [3] ?_
       refine xR hE [2] rfl (bitset_Of_r7_ok F _ _) ?_
       intro x2
       show OKq _ _ _ [(2, x2)] _
       refine rThen ?_
       refine rRet ?_
       exact rDone (.inr rfl) rfl
     · refine rSeq ?_
       refine cLess [3, 0] ?_
       refine xR hE [3, 8, 9, 10] rfl (bitset_Of_r2_ok F _ _ _) ?_
       intro x3 x8 x9 x10
       show OKq _ _ _ [(10, x10), (9, x9), (8, x8), (3, x3)] _
       refine rThen ?_
       refine rBlock ?_
       refine cLess [10, 9, 8, 3] ?_
       refine xLoopAt [3, 8, 9, 10] [] (fun k1 => bitset_Of_l1 F (fun x3 => bitset_Of_k0 F x3) k1) F [x3, x8, x9, x10] rfl rfl (fun _ _ _ _ => rfl) fun I hI1 k1 => ?_
       intro x3 x8 x9 x10
       show OKc _ _ [(10, x10), (9, x9), (8, x8), (3, x3)] _ _
       refine cAs (bitset_Of_l1_s F _ _ _ _ _ _) ?_
       refine rSeq ?_
       refine cLess [10, 9, 8, 3] ?_
       refine xR hE [3, 8, 9, 10, 11] rfl (bitset_Of_r3_ok F _ _ _ _ _) ?_
       intro x3 x8 x9 x10 x11
       show OKq _ _ _ [(11, x11), (10, x10), (9, x9), (8, x8), (3, x3)] _
       refine rThen ?_
       refine rSeq ?_
       refine xCond rfl rfl ?_ ?_
       · refine rSkip ?_
         refine rThen ?_
         refine rSeq ?_
         refine rBlock ?_
         refine rSeq ?_
         refine cLess [10, 9, 8, 3] ?_
         refine xR hE [3, 5, 8, 9, 10] rfl (bitset_Of_r4_ok F _ _ _ _ _) ?_
         intro x3 x5 x8 x9 x10
         show OKq _ _ _ [(10, x10), (9, x9), (8, x8), (5, x5), (3, x3)] _
         refine rThen ?_
         refine cLess [10, 9, 8, 5, 3] ?_
         refine xR hE [3, 8, 9, 10] rfl (bitset_Of_r5_ok F _ _ _ _ _ _) ?_
         intro x3 x8 x9 x10
         show OKq _ _ _ [(10, x10), (9, x9), (8, x8), (3, x3)] _
         refine xBlockN ?_
         refine rThen ?_
         refine cLess [10, 9, 8, 3] ?_
         refine xR hE [3, 8, 9, 10] rfl (bitset_Of_r6_ok F _ _ _ _ _) ?_
         intro x3 x8 x9 x10
         show OKq _ _ _ [(10, x10), (9, x9), (8, x8), (3, x3)] _
         exact qLess [10, 9, 8, 3] (hI1 k1 x3 x8 x9 x10)
       · refine rExit ?_
         refine xThenX ?_
         refine xThenX ?_
         refine rOut ?_
         exact qLess [3] (hj0 x3)
   · exact rFail


/-! ### haruspex/graph.behind -/

def graph_behind_a (rec : Value → Value → Value → Value → M Value) : List Value → M Value
  | [x0, x1, x2, x3] => rec x0 x1 x2 x3
  | _ => fail

def graph_behind_env (F : Nat) (rec : Value → Value → Value → Value → M Value) : Env := envOf [(36, graph_behind_a rec), (27, bitset_Set_Add_m F)]

noncomputable def graph_behind_R (F : Nat) (rec : Value → Value → Value → Value → M Value) := rK Tryd.prog TrydG (graph_behind_env F rec) Tryd.f36
noncomputable def graph_behind_D (F : Nat) (rec : Value → Value → Value → Value → M Value) := dK Tryd.prog TrydG (graph_behind_env F rec) Tryd.f36

def graph_behind_r8 (F : Nat) (rec : Value → Value → Value → Value → M Value) (x1 x3 : Value) (K : Value → M Value) : M Value :=
  bnd (opBuildSlice 1 (rep 1 [(.int .i64 (0))]) [(0, 1, false, x1)]) fun v34 => bnd (opAppend 1 8 x3 v34) fun v35 => K v35

theorem graph_behind_r8_ok (F : Nat) (rec : Value → Value → Value → Value → M Value) (x1 x3 : Value) (K : Value → M Value) : graph_behind_r8 F rec x1 x3 K = graph_behind_R F rec 8 [(3, x3), (1, x1)] [8] K := by kernel_rfl

def graph_behind_k0 (F : Nat) (rec : Value → Value → Value → Value → M Value) (x1 x3 : Value) : M Value :=
  graph_behind_r8 F rec x1 x3 (fun x8 => ret x8)

def graph_behind_r7 (F : Nat) (rec : Value → Value → Value → Value → M Value) (x1 x2 x3 x4 x20 x21 x22 : Value) (K : Value → Value → Value → Value → Value → Value → Value → M Value) : M Value :=
  bnd (opBin .add x22 (.int .i64 (1))) fun v31 => K x1 x2 x3 x4 x20 x21 v31

theorem graph_behind_r7_ok (F : Nat) (rec : Value → Value → Value → Value → M Value) (x1 x2 x3 x4 x20 x21 x22 : Value) (K : Value → Value → Value → Value → Value → Value → Value → M Value) : graph_behind_r7 F rec x1 x2 x3 x4 x20 x21 x22 K = graph_behind_R F rec 7 [(22, x22), (21, x21), (20, x20), (4, x4), (3, x3), (2, x2), (1, x1)] [1, 2, 3, 4, 20, 21, 22] K := by kernel_rfl

def graph_behind_r6 (F : Nat) (rec : Value → Value → Value → Value → M Value) (x1 x2 x3 x4 x10 x20 x21 x22 : Value) (K : Value → Value → Value → Value → Value → Value → Value → M Value) : M Value :=
  bnd (opLoadN 2 x4) fun v26 => bnd (rec v26 x10 x2 x3) fun v30 => K x1 x2 v30 x4 x20 x21 x22

theorem graph_behind_r6_ok (F : Nat) (rec : Value → Value → Value → Value → M Value) (x1 x2 x3 x4 x10 x20 x21 x22 : Value) (K : Value → Value → Value → Value → Value → Value → Value → M Value) : graph_behind_r6 F rec x1 x2 x3 x4 x10 x20 x21 x22 K = graph_behind_R F rec 6 [(22, x22), (21, x21), (20, x20), (10, x10), (4, x4), (3, x3), (2, x2), (1, x1)] [1, 2, 3, 4, 20, 21, 22] K := by kernel_rfl

def graph_behind_r5 (F : Nat) (rec : Value → Value → Value → Value → M Value) (x1 x2 x3 x4 x20 x21 x22 : Value) (K : Value → Value → Value → Value → Value → Value → Value → Value → M Value) : M Value :=
  bnd (opIndexAddr 1 x20 x22) fun v24 => bnd (opLoad v24) fun v25 => K x1 x2 x3 x4 v25 x20 x21 x22

theorem graph_behind_r5_ok (F : Nat) (rec : Value → Value → Value → Value → M Value) (x1 x2 x3 x4 x20 x21 x22 : Value) (K : Value → Value → Value → Value → Value → Value → Value → Value → M Value) : graph_behind_r5 F rec x1 x2 x3 x4 x20 x21 x22 K = graph_behind_R F rec 5 [(22, x22), (21, x21), (20, x20), (4, x4), (3, x3), (2, x2), (1, x1)] [1, 2, 3, 4, 10, 20, 21, 22] K := by kernel_rfl

def graph_behind_r4 (F : Nat) (rec : Value → Value → Value → Value → M Value) (x1 x2 x3 x4 x20 x21 x22 : Value) (K : Value → Value → Value → Value → Value → Value → Value → Value → M Value) : M Value :=
  bnd (opBin .lss x22 x21) fun v23 => K x1 x2 x3 x4 x20 x21 x22 v23

theorem graph_behind_r4_ok (F : Nat) (rec : Value → Value → Value → Value → M Value) (x1 x2 x3 x4 x20 x21 x22 : Value) (K : Value → Value → Value → Value → Value → Value → Value → Value → M Value) : graph_behind_r4 F rec x1 x2 x3 x4 x20 x21 x22 K = graph_behind_R F rec 4 [(22, x22), (21, x21), (20, x20), (4, x4), (3, x3), (2, x2), (1, x1)] [1, 2, 3, 4, 20, 21, 22, 23] K := by kernel_rfl

def graph_behind_b1 (F : Nat) (rec : Value → Value → Value → Value → M Value) (E1_0 : Value → Value → M Value) (A1 : Value → Value → Value → Value → Value → Value → Value → M Value) (x1 x2 x3 x4 x20 x21 x22 : Value) : M Value :=
  graph_behind_r4 F rec x1 x2 x3 x4 x20 x21 x22 (fun x1 x2 x3 x4 x20 x21 x22 x23 => onB x23 (graph_behind_r5 F rec x1 x2 x3 x4 x20 x21 x22 (fun x1 x2 x3 x4 x10 x20 x21 x22 => graph_behind_r6 F rec x1 x2 x3 x4 x10 x20 x21 x22 (fun x1 x2 x3 x4 x20 x21 x22 => graph_behind_r7 F rec x1 x2 x3 x4 x20 x21 x22 (fun x1 x2 x3 x4 x20 x21 x22 => A1 x1 x2 x3 x4 x20 x21 x22)))) (E1_0 x1 x3))

def graph_behind_l1 (F : Nat) (rec : Value → Value → Value → Value → M Value) (E1_0 : Value → Value → M Value) : Nat → Value → Value → Value → Value → Value → Value → Value → M Value
  | 0, _, _, _, _, _, _, _ => fail
  | k1 + 1, x1, x2, x3, x4, x20, x21, x22 => graph_behind_b1 F rec E1_0 (graph_behind_l1 F rec E1_0 k1) x1 x2 x3 x4 x20 x21 x22

theorem graph_behind_l1_s (F : Nat) (rec : Value → Value → Value → Value → M Value) (E1_0 : Value → Value → M Value) (k1 : Nat) (x1 x2 x3 x4 x20 x21 x22 : Value) : graph_behind_l1 F rec E1_0 (k1 + 1) x1 x2 x3 x4 x20 x21 x22 = graph_behind_b1 F rec E1_0 (graph_behind_l1 F rec E1_0 k1) x1 x2 x3 x4 x20 x21 x22 := rfl

def graph_behind_r3 (F : Nat) (rec : Value → Value → Value → Value → M Value) (x1 x2 x3 x4 : Value) (K : Value → Value → Value → Value → Value → Value → Value → M Value) : M Value :=
  bnd (opFieldAddr 1 x4) fun v16 => bnd (opLoad v16) fun v17 => bnd (opIndexAddr 1 v17 x1) fun v19 => bnd (opLoad v19) fun v20 => bnd (opLen v20) fun v21 => K x1 x2 x3 x4 v20 v21 (.int .i64 (0))

theorem graph_behind_r3_ok (F : Nat) (rec : Value → Value → Value → Value → M Value) (x1 x2 x3 x4 : Value) (K : Value → Value → Value → Value → Value → Value → Value → M Value) : graph_behind_r3 F rec x1 x2 x3 x4 K = graph_behind_R F rec 3 [(4, x4), (3, x3), (2, x2), (1, x1)] [1, 2, 3, 4, 20, 21, 22] K := by kernel_rfl

def graph_behind_r2 (F : Nat) (rec : Value → Value → Value → Value → M Value) (x3 : Value) (K : Value → M Value) : M Value :=
  K x3

theorem graph_behind_r2_ok (F : Nat) (rec : Value → Value → Value → Value → M Value) (x3 : Value) (K : Value → M Value) : graph_behind_r2 F rec x3 K = graph_behind_R F rec 2 [(3, x3)] [8] K := by kernel_rfl

def graph_behind_r1 (F : Nat) (rec : Value → Value → Value → Value → M Value) (x1 x2 x3 x4 : Value) (K : Value → Value → Value → Value → Value → M Value) : M Value :=
  bnd (bitset_Set_Add F x2 x1) fun v13 => bnd (opNot v13) fun v14 => K x1 x2 x3 x4 v14

theorem graph_behind_r1_ok (F : Nat) (rec : Value → Value → Value → Value → M Value) (x1 x2 x3 x4 : Value) (K : Value → Value → Value → Value → Value → M Value) : graph_behind_r1 F rec x1 x2 x3 x4 K = graph_behind_R F rec 1 [(4, x4), (3, x3), (2, x2), (1, x1)] [1, 2, 3, 4, 14] K := by kernel_rfl

def graph_behind_r0 (F : Nat) (rec : Value → Value → Value → Value → M Value) (x0 x1 x2 x3 : Value) (K : Value → Value → Value → Value → M Value) : M Value :=
  bnd (opBoxN x0) fun v4 => K x1 x2 x3 v4

theorem graph_behind_r0_ok (F : Nat) (rec : Value → Value → Value → Value → M Value) (x0 x1 x2 x3 : Value) (K : Value → Value → Value → Value → M Value) : graph_behind_r0 F rec x0 x1 x2 x3 K = graph_behind_R F rec 0 [(3, x3), (2, x2), (1, x1), (0, x0)] [1, 2, 3, 4] K := by kernel_rfl

def graph_behind_s (F : Nat) (rec : Value → Value → Value → Value → M Value) (x0 x1 x2 x3 : Value) : M Value :=
  graph_behind_r0 F rec x0 x1 x2 x3 (fun x1 x2 x3 x4 => graph_behind_r1 F rec x1 x2 x3 x4 (fun x1 x2 x3 x4 x14 => onB x14 (graph_behind_r2 F rec x3 (fun x8 => ret x8)) (graph_behind_r3 F rec x1 x2 x3 x4 (fun x1 x2 x3 x4 x20 x21 x22 => graph_behind_l1 F rec (fun x1 x3 => graph_behind_k0 F rec x1 x3) F x1 x2 x3 x4 x20 x21 x22))))

def graph_behind (F : Nat) : Nat → Value → Value → Value → Value → M Value
  | 0, _, _, _, _ => fail
  | k + 1, x0, x1, x2, x3 => graph_behind_s F (graph_behind F k) x0 x1 x2 x3

def graph_behind_m (F k : Nat) : List Value → M Value := graph_behind_a (graph_behind F k)

theorem graph_behind_body : Tryd.f36.body = some (.seq (.region 0 (opsOf Tryd.f36 0) false) (.seq (.seq (.region 1 (opsOf Tryd.f36 1) false) (.cond (.tmp 14) (.seq (.region 2 (opsOf Tryd.f36 2) false) .ret) .skip)) (.seq (.seq (.region 3 (opsOf Tryd.f36 3) false) (.block 0 (.loop (.seq (.region 4 (opsOf Tryd.f36 4) false) (.seq (.cond (.tmp 23) .skip (.exit 0)) (.seq (.block 1 (.seq (.region 5 (opsOf Tryd.f36 5) false) (.region 6 (opsOf Tryd.f36 6) false))) (.region 7 (opsOf Tryd.f36 7) false))))))) (.seq (.region 8 (opsOf Tryd.f36 8) false) .ret)))) := by kernel_rfl

theorem graph_behind_ok (F : Nat) : ∀ k, Sim Tryd.prog TrydG 36 (graph_behind_m F k)
  | 0 => Sim.of_fail Tryd.call36 (by intro args; unfold graph_behind_m graph_behind_a; split <;> rfl)
  | k + 1 => by
    have ih := graph_behind_ok F k
    have hE : EnvOK Tryd.prog TrydG (graph_behind_env F (graph_behind F k) ) := (EnvOK.cons ih (EnvOK.cons (bitset_Set_Add_ok F) EnvOK.nil))
    refine Sim.of_body (E := graph_behind_env F (graph_behind F k) ) Tryd.func36 graph_behind_body Tryd.call36 ?_ ?_
    · intro args hl; unfold graph_behind_m graph_behind_a; split
      · exact absurd hl (Nat.not_lt.2 (Nat.le_of_ble_eq_true rfl))
      · rfl
    · intro args ρ h w z; unfold graph_behind_m graph_behind_a; split
      · rename_i x0 x1 x2 x3; show OKc _ _ [(0, x0), (1, x1), (2, x2), (3, x3)] (graph_behind_s F (graph_behind F k) x0 x1 x2 x3) _
        refine rSeq ?_
        refine cLess [3, 2, 1, 0] ?_
        refine xR hE [1, 2, 3, 4] rfl (graph_behind_r0_ok F _ _ _ _ _ _) ?_
        intro x1 x2 x3 x4
        show OKq _ _ _ [(4, x4), (3, x3), (2, x2), (1, x1)] _
        refine rThen ?_
        refine rSeq ?_
        refine rSeq ?_
        refine cLess [4, 3, 2, 1] ?_
        refine xR hE [1, 2, 3, 4, 14] rfl (graph_behind_r1_ok F _ _ _ _ _ _) ?_
        intro x1 x2 x3 x4 x14
        show OKq _ _ _ [(14, x14), (4, x4), (3, x3), (2, x2), (1, x1)] _
        refine rThen ?_
        refine xCond rfl rfl ?_ ?_
        · refine rSeq ?_
          refine cLess [3] ?_
          refine xR hE [8] rfl (graph_behind_r2_ok F _ _ _) ?_
          intro x8
          show OKq _ _ _ [(8, x8)] _
          refine rThen ?_
          refine rRet ?_
          refine xThenR ?_
          exact rDone (.inr rfl) rfl
        · refine rSkip ?_
          refine rThen ?_
          refine xSeq [1, 3] (graph_behind_k0 F (graph_behind F k) ) ?_ fun hj0 => ?_
          · intro x1 x3
            show OKc _ _ [(3, x3), (1, x1)] _ _
            refine rSeq ?_
            refine cLess [3, 1] ?_
            refine xR hE [8] rfl (graph_behind_r8_ok F _ _ _ _) ?_
            intro x8
            show OKq _ _ _ [(8, x8)] _
            refine rThen ?_
            refine rRet ?_
            exact rDone (.inr rfl) rfl
          · refine rSeq ?_
            refine cLess [4, 3, 2, 1] ?_
            refine xR hE [1, 2, 3, 4, 20, 21, 22] rfl (graph_behind_r3_ok F _ _ _ _ _ _) ?_
            intro x1 x2 x3 x4 x20 x21 x22
            show OKq _ _ _ [(22, x22), (21, x21), (20, x20), (4, x4), (3, x3), (2, x2), (1, x1)] _
            refine rThen ?_
            refine rBlock ?_
            refine cLess [22, 21, 20, 4, 3, 2, 1] ?_
            refine xLoopAt [1, 2, 3, 4, 20, 21, 22] [] (fun k1 => graph_behind_l1 F (graph_behind F k) (fun x1 x3 => graph_behind_k0 F (graph_behind F k) x1 x3) k1) F [x1, x2, x3, x4, x20, x21, x22] rfl rfl (fun _ _ _ _ _ _ _ => rfl) fun I hI1 k1 => ?_
            intro x1 x2 x3 x4 x20 x21 x22
            show OKc _ _ [(22, x22), (21, x21), (20, x20), (4, x4), (3, x3), (2, x2), (1, x1)] _ _
            refine cAs (graph_behind_l1_s F _ _ _ _ _ _ _ _ _ _) ?_
            refine rSeq ?_
            refine cLess [22, 21, 20, 4, 3, 2, 1] ?_
            refine xR hE [1, 2, 3, 4, 20, 21, 22, 23] rfl (graph_behind_r4_ok F _ _ _ _ _ _ _ _ _) ?_
            intro x1 x2 x3 x4 x20 x21 x22 x23
            show OKq _ _ _ [(23, x23), (22, x22), (21, x21), (20, x20), (4, x4), (3, x3), (2, x2), (1, x1)] _
            refine rThen ?_
            refine rSeq ?_
            refine xCond rfl rfl ?_ ?_
            · refine rSkip ?_
              refine rThen ?_
              refine rSeq ?_
              refine rBlock ?_
              refine rSeq ?_
              refine cLess [22, 21, 20, 4, 3, 2, 1] ?_
              refine xR hE [1, 2, 3, 4, 10, 20, 21, 22] rfl (graph_behind_r5_ok F _ _ _ _ _ _ _ _ _) ?_
              intro x1 x2 x3 x4 x10 x20 x21 x22
              show OKq _ _ _ [(22, x22), (21, x21), (20, x20), (10, x10), (4, x4), (3, x3), (2, x2), (1, x1)] _
              refine rThen ?_
              refine cLess [22, 21, 20, 10, 4, 3, 2, 1] ?_
              refine xR hE [1, 2, 3, 4, 20, 21, 22] rfl (graph_behind_r6_ok F _ _ _ _ _ _ _ _ _ _) ?_
              intro x1 x2 x3 x4 x20 x21 x22
              show OKq _ _ _ [(22, x22), (21, x21), (20, x20), (4, x4), (3, x3), (2, x2), (1, x1)] _
              refine xBlockN ?_
              refine rThen ?_
              refine cLess [22, 21, 20, 4, 3, 2, 1] ?_
              refine xR hE [1, 2, 3, 4, 20, 21, 22] rfl (graph_behind_r7_ok F _ _ _ _ _ _ _ _ _) ?_
              intro x1 x2 x3 x4 x20 x21 x22
              show OKq _ _ _ [(22, x22), (21, x21), (20, x20), (4, x4), (3, x3), (2, x2), (1, x1)] _
              exact qLess [22, 21, 20, 4, 3, 2, 1] (hI1 k1 x1 x2 x3 x4 x20 x21 x22)
            · refine rExit ?_
              refine xThenX ?_
              refine xThenX ?_
              refine rOut ?_
              exact qLess [3, 1] (hj0 x1 x3)
      · exact rFail


/-! ### haruspex/graph.Order -/

def graph_Order_env (F : Nat) : Env := envOf [(33, graph_May_m F), (36, graph_behind_m F F), (37, slices_Reverse_m F)]

noncomputable def graph_Order_R (F : Nat) := rK Tryd.prog TrydG (graph_Order_env F) Tryd.f31
noncomputable def graph_Order_D (F : Nat) := dK Tryd.prog TrydG (graph_Order_env F) Tryd.f31

def graph_Order_r5 (F : Nat) (x5 : Value) (K : Value → M Value) : M Value :=
  K x5

theorem graph_Order_r5_ok (F : Nat) (x5 : Value) (K : Value → M Value) : graph_Order_r5 F x5 K = graph_Order_R F 5 [(5, x5)] [4] K := by kernel_rfl

def graph_Order_r4 (F : Nat) (x5 : Value) (K : Value → M Value) : M Value :=
  bnd (slices_Reverse F x5) fun v25 => K x5

theorem graph_Order_r4_ok (F : Nat) (x5 : Value) (K : Value → M Value) : graph_Order_r4 F x5 K = graph_Order_R F 4 [(5, x5)] [5] K := by kernel_rfl

def graph_Order_r3 (F : Nat) (x1 x2 : Value) (K : Value → M Value) : M Value :=
  bnd (opLoadN 2 x2) fun v19 => bnd (opBuild [(.slice none 0 0)] []) fun v21 => bnd (opBoxN v21) fun v22 => bnd (graph_behind F F v19 x1 v22 (.slice none 0 0)) fun v23 => K v23

theorem graph_Order_r3_ok (F : Nat) (x1 x2 : Value) (K : Value → M Value) : graph_Order_r3 F x1 x2 K = graph_Order_R F 3 [(2, x2), (1, x1)] [5] K := by kernel_rfl

def graph_Order_r2 (F : Nat) (K : Value → M Value) : M Value :=
  K (.slice none 0 0)

theorem graph_Order_r2_ok (F : Nat) (K : Value → M Value) : graph_Order_r2 F K = graph_Order_R F 2 [] [4] K := by kernel_rfl

def graph_Order_r1 (F : Nat) (x1 x2 : Value) (K : Value → Value → Value → M Value) : M Value :=
  bnd (opLoadN 2 x2) fun v6 => bnd (graph_May F v6) fun v7 => bnd (opNot v7) fun v8 => onB v8 (K x1 x2 (.bool true)) (bnd (opBin .lss x1 (.int .i64 (0))) fun v11 => onB v11 (K x1 x2 (.bool true)) (bnd (opFieldAddr 0 x2) fun v15 => bnd (opLoad v15) fun v16 => bnd (opBin .geq x1 v16) fun v17 => K x1 x2 v17))

theorem graph_Order_r1_ok (F : Nat) (x1 x2 : Value) (K : Value → Value → Value → M Value) : graph_Order_r1 F x1 x2 K = graph_Order_R F 1 [(2, x2), (1, x1)] [1, 2, 18] K := by kernel_rfl

def graph_Order_r0 (F : Nat) (x0 x1 : Value) (K : Value → Value → M Value) : M Value :=
  bnd (opBoxN x0) fun v2 => K x1 v2

theorem graph_Order_r0_ok (F : Nat) (x0 x1 : Value) (K : Value → Value → M Value) : graph_Order_r0 F x0 x1 K = graph_Order_R F 0 [(1, x1), (0, x0)] [1, 2] K := by kernel_rfl

def graph_Order (F : Nat) (x0 x1 : Value) : M Value :=
  graph_Order_r0 F x0 x1 (fun x1 x2 => graph_Order_r1 F x1 x2 (fun x1 x2 x18 => onB x18 (graph_Order_r2 F (fun x4 => ret x4)) (graph_Order_r3 F x1 x2 (fun x5 => graph_Order_r4 F x5 (fun x5 => graph_Order_r5 F x5 (fun x4 => ret x4))))))

def graph_Order_m (F : Nat) : List Value → M Value
  | [x0, x1] => graph_Order F x0 x1
  | _ => fail

theorem graph_Order_body : Tryd.f31.body = some (.seq (.region 0 (opsOf Tryd.f31 0) false) (.seq (.seq (.region 1 (opsOf Tryd.f31 1) false) (.cond (.tmp 18) (.seq (.region 2 (opsOf Tryd.f31 2) false) .ret) .skip)) (.seq (.region 3 (opsOf Tryd.f31 3) false) (.seq (.region 4 (opsOf Tryd.f31 4) false) (.seq (.region 5 (opsOf Tryd.f31 5) false) .ret))))) := by kernel_rfl

theorem graph_Order_ok (F : Nat) : Sim Tryd.prog TrydG 31 (graph_Order_m F) := by
 have hE : EnvOK Tryd.prog TrydG (graph_Order_env F) := (EnvOK.cons (graph_May_ok F) (EnvOK.cons (graph_behind_ok F F) (EnvOK.cons (slices_Reverse_ok F) EnvOK.nil)))
 refine Sim.of_body (E := graph_Order_env F) Tryd.func31 graph_Order_body Tryd.call31 ?_ ?_
 · intro args hl; unfold graph_Order_m; split
   · exact absurd hl (Nat.not_lt.2 (Nat.le_of_ble_eq_true rfl))
   · rfl
 · intro args ρ h w z; unfold graph_Order_m; split
   · rename_i x0 x1; show OKc _ _ [(0, x0), (1, x1)] _ _
     refine rSeq ?_
     refine cLess [1, 0] ?_
     refine xR hE [1, 2] rfl (graph_Order_r0_ok F _ _ _) ?_
     intro x1 x2
     show OKq _ _ _ [(2, x2), (1, x1)] _
     refine rThen ?_
     refine rSeq ?_
     refine rSeq ?_
     refine cLess [2, 1] ?_
     refine xR hE [1, 2, 18] rfl (graph_Order_r1_ok F _ _ _) ?_
     intro x1 x2 x18
     show OKq _ _ _ [(18, x18), (2, x2), (1, x1)] _
     refine rThen ?_
     refine xCond rfl rfl ?_ ?_
     · refine rSeq ?_
       refine cLess [] ?_
       refine xR hE [4] rfl (graph_Order_r2_ok F _) ?_
       intro x4
       show OKq _ _ _ [(4, x4)] _
       refine rThen ?_
       refine rRet ?_
       refine xThenR ?_
       exact rDone (.inr rfl) rfl
     · refine rSkip ?_
       refine rThen ?_
       refine rSeq ?_
       refine cLess [2, 1] ?_
       refine xR hE [5] rfl (graph_Order_r3_ok F _ _ _) ?_
       intro x5
       show OKq _ _ _ [(5, x5)] _
       refine rThen ?_
       refine rSeq ?_
       refine cLess [5] ?_
       refine xR hE [5] rfl (graph_Order_r4_ok F _ _) ?_
       intro x5
       show OKq _ _ _ [(5, x5)] _
       refine rThen ?_
       refine rSeq ?_
       refine cLess [5] ?_
       refine xR hE [4] rfl (graph_Order_r5_ok F _ _) ?_
       intro x4
       show OKq _ _ _ [(4, x4)] _
       refine rThen ?_
       refine rRet ?_
       exact rDone (.inr rfl) rfl
   · exact rFail


/-! ### haruspex/dom.Up -/

def dom_Up_env (F : Nat) : Env := envOf [(22, graph_Turn_m F), (31, graph_Order_m F), (32, dom_meet_m F)]

noncomputable def dom_Up_R (F : Nat) := rK Tryd.prog TrydG (dom_Up_env F) Tryd.f21
noncomputable def dom_Up_D (F : Nat) := dK Tryd.prog TrydG (dom_Up_env F) Tryd.f21

def dom_Up_r33 (F : Nat) (x6 : Value) (K : Value → M Value) : M Value :=
  K x6

theorem dom_Up_r33_ok (F : Nat) (x6 : Value) (K : Value → M Value) : dom_Up_r33 F x6 K = dom_Up_R F 33 [(6, x6)] [4] K := by kernel_rfl

def dom_Up_k0 (F : Nat) (x6 : Value) : M Value :=
  dom_Up_r33 F x6 (fun x4 => ret x4)

def dom_Up_r32 (F : Nat) (x5 x6 x7 x11 x12 x59 x60 x61 : Value) (K : Value → Value → Value → Value → Value → Value → Value → Value → M Value) : M Value :=
  bnd (opBin .add x61 (.int .i64 (1))) fun v99 => K x5 x6 x7 x11 x12 x59 x60 v99

theorem dom_Up_r32_ok (F : Nat) (x5 x6 x7 x11 x12 x59 x60 x61 : Value) (K : Value → Value → Value → Value → Value → Value → Value → Value → M Value) : dom_Up_r32 F x5 x6 x7 x11 x12 x59 x60 x61 K = dom_Up_R F 32 [(61, x61), (60, x60), (59, x59), (12, x12), (11, x11), (7, x7), (6, x6), (5, x5)] [5, 6, 7, 11, 12, 59, 60, 61] K := by kernel_rfl

def dom_Up_k3 (F : Nat) (A2 : Value → Value → Value → Value → Value → Value → Value → Value → M Value) (x5 x6 x7 x11 x12 x59 x60 x61 : Value) : M Value :=
  dom_Up_r32 F x5 x6 x7 x11 x12 x59 x60 x61 (fun x5 x6 x7 x11 x12 x59 x60 x61 => A2 x5 x6 x7 x11 x12 x59 x60 x61)

def dom_Up_r31 (F : Nat) (x5 x6 x7 x11 x12 x14 x15 x59 x60 x61 : Value) (K : Value → Value → Value → Value → Value → Value → Value → Value → M Value) : M Value :=
  bnd (opIndexAddr 1 x6 x14) fun v98 => bnd (opStore v98 x15) fun _ => K x5 x6 x7 x11 x12 x59 x60 x61

theorem dom_Up_r31_ok (F : Nat) (x5 x6 x7 x11 x12 x14 x15 x59 x60 x61 : Value) (K : Value → Value → Value → Value → Value → Value → Value → Value → M Value) : dom_Up_r31 F x5 x6 x7 x11 x12 x14 x15 x59 x60 x61 K = dom_Up_R F 31 [(61, x61), (60, x60), (59, x59), (15, x15), (14, x14), (12, x12), (11, x11), (7, x7), (6, x6), (5, x5)] [5, 6, 7, 11, 12, 59, 60, 61] K := by kernel_rfl

def dom_Up_r30 (F : Nat) (x5 x6 x7 x11 x12 x14 x15 x59 x60 x61 : Value) (K : Value → Value → Value → Value → Value → Value → Value → Value → Value → Value → M Value) : M Value :=
  onB x12 (K x5 x6 x7 x11 (.bool true) x14 x15 x59 x60 x61) (bnd (opIndexAddr 1 x6 x14) fun v90 => bnd (opLoad v90) fun v91 => bnd (opBin .neq v91 x15) fun v93 => K x5 x6 x7 x11 v93 x14 x15 x59 x60 x61)

theorem dom_Up_r30_ok (F : Nat) (x5 x6 x7 x11 x12 x14 x15 x59 x60 x61 : Value) (K : Value → Value → Value → Value → Value → Value → Value → Value → Value → Value → M Value) : dom_Up_r30 F x5 x6 x7 x11 x12 x14 x15 x59 x60 x61 K = dom_Up_R F 30 [(61, x61), (60, x60), (59, x59), (15, x15), (14, x14), (12, x12), (11, x11), (7, x7), (6, x6), (5, x5)] [5, 6, 7, 11, 12, 14, 15, 59, 60, 61] K := by kernel_rfl

def dom_Up_k4 (F : Nat) (A2 : Value → Value → Value → Value → Value → Value → Value → Value → M Value) (x5 x6 x7 x11 x12 x14 x15 x59 x60 x61 : Value) : M Value :=
  dom_Up_r30 F x5 x6 x7 x11 x12 x14 x15 x59 x60 x61 (fun x5 x6 x7 x11 x12 x14 x15 x59 x60 x61 => dom_Up_r31 F x5 x6 x7 x11 x12 x14 x15 x59 x60 x61 (fun x5 x6 x7 x11 x12 x59 x60 x61 => dom_Up_k3 F A2 x5 x6 x7 x11 x12 x59 x60 x61))

def dom_Up_r29 (F : Nat) (x5 x6 x7 x11 x12 x14 x15 x59 x60 x61 x69 x70 x71 : Value) (K : Value → Value → Value → Value → Value → Value → Value → Value → Value → Value → Value → Value → Value → M Value) : M Value :=
  bnd (opBin .add x71 (.int .i64 (1))) fun v85 => K x5 x6 x7 x11 x12 x14 x15 x59 x60 x61 x69 x70 v85

theorem dom_Up_r29_ok (F : Nat) (x5 x6 x7 x11 x12 x14 x15 x59 x60 x61 x69 x70 x71 : Value) (K : Value → Value → Value → Value → Value → Value → Value → Value → Value → Value → Value → Value → Value → M Value) : dom_Up_r29 F x5 x6 x7 x11 x12 x14 x15 x59 x60 x61 x69 x70 x71 K = dom_Up_R F 29 [(71, x71), (70, x70), (69, x69), (61, x61), (60, x60), (59, x59), (15, x15), (14, x14), (12, x12), (11, x11), (7, x7), (6, x6), (5, x5)] [5, 6, 7, 11, 12, 14, 15, 59, 60, 61, 69, 70, 71] K := by kernel_rfl

def dom_Up_k6 (F : Nat) (A5 : Value → Value → Value → Value → Value → Value → Value → Value → Value → Value → Value → Value → Value → M Value) (x5 x6 x7 x11 x12 x14 x15 x59 x60 x61 x69 x70 x71 : Value) : M Value :=
  dom_Up_r29 F x5 x6 x7 x11 x12 x14 x15 x59 x60 x61 x69 x70 x71 (fun x5 x6 x7 x11 x12 x14 x15 x59 x60 x61 x69 x70 x71 => A5 x5 x6 x7 x11 x12 x14 x15 x59 x60 x61 x69 x70 x71)

def dom_Up_r28 (F : Nat) (x5 x6 x7 x11 x12 x14 x15 x17 x59 x60 x61 x69 x70 x71 : Value) (K : Value → Value → Value → Value → Value → Value → Value → Value → Value → Value → Value → Value → Value → M Value) : M Value :=
  bnd (dom_meet F x6 x7 x15 x17) fun v84 => K x5 x6 x7 x11 x12 x14 v84 x59 x60 x61 x69 x70 x71

theorem dom_Up_r28_ok (F : Nat) (x5 x6 x7 x11 x12 x14 x15 x17 x59 x60 x61 x69 x70 x71 : Value) (K : Value → Value → Value → Value → Value → Value → Value → Value → Value → Value → Value → Value → Value → M Value) : dom_Up_r28 F x5 x6 x7 x11 x12 x14 x15 x17 x59 x60 x61 x69 x70 x71 K = dom_Up_R F 28 [(71, x71), (70, x70), (69, x69), (61, x61), (60, x60), (59, x59), (17, x17), (15, x15), (14, x14), (12, x12), (11, x11), (7, x7), (6, x6), (5, x5)] [5, 6, 7, 11, 12, 14, 15, 59, 60, 61, 69, 70, 71] K := by kernel_rfl

def dom_Up_r27 (F : Nat) (x5 x6 x7 x11 x12 x14 x15 x17 x59 x60 x61 x69 x70 x71 : Value) (K : Value → Value → Value → Value → Value → Value → Value → Value → Value → Value → Value → Value → Value → Value → Value → M Value) : M Value :=
  bnd (opIndexAddr 1 x6 x17) fun v77 => bnd (opLoad v77) fun v78 => bnd (opBin .geq v78 (.int .i64 (0))) fun v79 => K x5 x6 x7 x11 x12 x14 x15 x17 x59 x60 x61 x69 x70 x71 v79

theorem dom_Up_r27_ok (F : Nat) (x5 x6 x7 x11 x12 x14 x15 x17 x59 x60 x61 x69 x70 x71 : Value) (K : Value → Value → Value → Value → Value → Value → Value → Value → Value → Value → Value → Value → Value → Value → Value → M Value) : dom_Up_r27 F x5 x6 x7 x11 x12 x14 x15 x17 x59 x60 x61 x69 x70 x71 K = dom_Up_R F 27 [(71, x71), (70, x70), (69, x69), (61, x61), (60, x60), (59, x59), (17, x17), (15, x15), (14, x14), (12, x12), (11, x11), (7, x7), (6, x6), (5, x5)] [5, 6, 7, 11, 12, 14, 15, 17, 59, 60, 61, 69, 70, 71, 79] K := by kernel_rfl

def dom_Up_r26 (F : Nat) (x5 x6 x7 x11 x12 x14 x15 x59 x60 x61 x69 x70 x71 : Value) (K : Value → Value → Value → Value → Value → Value → Value → Value → Value → Value → Value → Value → Value → Value → M Value) : M Value :=
  bnd (opIndexAddr 1 x69 x71) fun v73 => bnd (opLoad v73) fun v74 => K x5 x6 x7 x11 x12 x14 x15 v74 x59 x60 x61 x69 x70 x71

theorem dom_Up_r26_ok (F : Nat) (x5 x6 x7 x11 x12 x14 x15 x59 x60 x61 x69 x70 x71 : Value) (K : Value → Value → Value → Value → Value → Value → Value → Value → Value → Value → Value → Value → Value → Value → M Value) : dom_Up_r26 F x5 x6 x7 x11 x12 x14 x15 x59 x60 x61 x69 x70 x71 K = dom_Up_R F 26 [(71, x71), (70, x70), (69, x69), (61, x61), (60, x60), (59, x59), (15, x15), (14, x14), (12, x12), (11, x11), (7, x7), (6, x6), (5, x5)] [5, 6, 7, 11, 12, 14, 15, 17, 59, 60, 61, 69, 70, 71] K := by kernel_rfl

def dom_Up_r25 (F : Nat) (x5 x6 x7 x11 x12 x14 x15 x59 x60 x61 x69 x70 x71 : Value) (K : Value → Value → Value → Value → Value → Value → Value → Value → Value → Value → Value → Value → Value → Value → M Value) : M Value :=
  bnd (opBin .lss x71 x70) fun v72 => K x5 x6 x7 x11 x12 x14 x15 x59 x60 x61 x69 x70 x71 v72

theorem dom_Up_r25_ok (F : Nat) (x5 x6 x7 x11 x12 x14 x15 x59 x60 x61 x69 x70 x71 : Value) (K : Value → Value → Value → Value → Value → Value → Value → Value → Value → Value → Value → Value → Value → Value → M Value) : dom_Up_r25 F x5 x6 x7 x11 x12 x14 x15 x59 x60 x61 x69 x70 x71 K = dom_Up_R F 25 [(71, x71), (70, x70), (69, x69), (61, x61), (60, x60), (59, x59), (15, x15), (14, x14), (12, x12), (11, x11), (7, x7), (6, x6), (5, x5)] [5, 6, 7, 11, 12, 14, 15, 59, 60, 61, 69, 70, 71, 72] K := by kernel_rfl

def dom_Up_b5 (F : Nat) (E5_8 : Value → Value → Value → Value → Value → Value → Value → Value → Value → Value → M Value) (A5 : Value → Value → Value → Value → Value → Value → Value → Value → Value → Value → Value → Value → Value → M Value) (x5 x6 x7 x11 x12 x14 x15 x59 x60 x61 x69 x70 x71 : Value) : M Value :=
  dom_Up_r25 F x5 x6 x7 x11 x12 x14 x15 x59 x60 x61 x69 x70 x71 (fun x5 x6 x7 x11 x12 x14 x15 x59 x60 x61 x69 x70 x71 x72 => onB x72 (dom_Up_r26 F x5 x6 x7 x11 x12 x14 x15 x59 x60 x61 x69 x70 x71 (fun x5 x6 x7 x11 x12 x14 x15 x17 x59 x60 x61 x69 x70 x71 => dom_Up_r27 F x5 x6 x7 x11 x12 x14 x15 x17 x59 x60 x61 x69 x70 x71 (fun x5 x6 x7 x11 x12 x14 x15 x17 x59 x60 x61 x69 x70 x71 x79 => onB x79 (dom_Up_r28 F x5 x6 x7 x11 x12 x14 x15 x17 x59 x60 x61 x69 x70 x71 (fun x5 x6 x7 x11 x12 x14 x15 x59 x60 x61 x69 x70 x71 => dom_Up_k6 F A5 x5 x6 x7 x11 x12 x14 x15 x59 x60 x61 x69 x70 x71)) (dom_Up_k6 F A5 x5 x6 x7 x11 x12 x14 x15 x59 x60 x61 x69 x70 x71)))) (E5_8 x5 x6 x7 x11 x12 x14 x15 x59 x60 x61))

def dom_Up_l5 (F : Nat) (E5_8 : Value → Value → Value → Value → Value → Value → Value → Value → Value → Value → M Value) : Nat → Value → Value → Value → Value → Value → Value → Value → Value → Value → Value → Value → Value → Value → M Value
  | 0, _, _, _, _, _, _, _, _, _, _, _, _, _ => fail
  | k5 + 1, x5, x6, x7, x11, x12, x14, x15, x59, x60, x61, x69, x70, x71 => dom_Up_b5 F E5_8 (dom_Up_l5 F E5_8 k5) x5 x6 x7 x11 x12 x14 x15 x59 x60 x61 x69 x70 x71

theorem dom_Up_l5_s (F : Nat) (E5_8 : Value → Value → Value → Value → Value → Value → Value → Value → Value → Value → M Value) (k5 : Nat) (x5 x6 x7 x11 x12 x14 x15 x59 x60 x61 x69 x70 x71 : Value) : dom_Up_l5 F E5_8 (k5 + 1) x5 x6 x7 x11 x12 x14 x15 x59 x60 x61 x69 x70 x71 = dom_Up_b5 F E5_8 (dom_Up_l5 F E5_8 k5) x5 x6 x7 x11 x12 x14 x15 x59 x60 x61 x69 x70 x71 := rfl

def dom_Up_r24 (F : Nat) (x5 x6 x7 x11 x12 x14 x15 x59 x60 x61 : Value) (K : Value → Value → Value → Value → Value → Value → Value → Value → Value → Value → Value → Value → Value → M Value) : M Value :=
  bnd (opFieldAddr 1 x11) fun v65 => bnd (opLoad v65) fun v66 => bnd (opIndexAddr 1 v66 x14) fun v68 => bnd (opLoad v68) fun v69 => bnd (opLen v69) fun v70 => K x5 x6 x7 x11 x12 x14 x15 x59 x60 x61 v69 v70 (.int .i64 (0))

theorem dom_Up_r24_ok (F : Nat) (x5 x6 x7 x11 x12 x14 x15 x59 x60 x61 : Value) (K : Value → Value → Value → Value → Value → Value → Value → Value → Value → Value → Value → Value → Value → M Value) : dom_Up_r24 F x5 x6 x7 x11 x12 x14 x15 x59 x60 x61 K = dom_Up_R F 24 [(61, x61), (60, x60), (59, x59), (15, x15), (14, x14), (12, x12), (11, x11), (7, x7), (6, x6), (5, x5)] [5, 6, 7, 11, 12, 14, 15, 59, 60, 61, 69, 70, 71] K := by kernel_rfl

def dom_Up_r23 (F : Nat) (x5 x6 x7 x11 x12 x14 x59 x60 x61 : Value) (K : Value → Value → Value → Value → Value → Value → Value → Value → Value → Value → M Value) : M Value :=
  K x5 x6 x7 x11 x12 x14 (.int .i64 (-1)) x59 x60 x61

theorem dom_Up_r23_ok (F : Nat) (x5 x6 x7 x11 x12 x14 x59 x60 x61 : Value) (K : Value → Value → Value → Value → Value → Value → Value → Value → Value → Value → M Value) : dom_Up_r23 F x5 x6 x7 x11 x12 x14 x59 x60 x61 K = dom_Up_R F 23 [(61, x61), (60, x60), (59, x59), (14, x14), (12, x12), (11, x11), (7, x7), (6, x6), (5, x5)] [5, 6, 7, 11, 12, 14, 15, 59, 60, 61] K := by kernel_rfl

def dom_Up_r22 (F : Nat) (x5 x6 x7 x11 x12 x59 x60 x61 : Value) (K : Value → Value → Value → Value → Value → Value → Value → Value → Value → M Value) : M Value :=
  bnd (opIndexAddr 1 x59 x61) fun v63 => bnd (opLoad v63) fun v64 => K x5 x6 x7 x11 x12 v64 x59 x60 x61

theorem dom_Up_r22_ok (F : Nat) (x5 x6 x7 x11 x12 x59 x60 x61 : Value) (K : Value → Value → Value → Value → Value → Value → Value → Value → Value → M Value) : dom_Up_r22 F x5 x6 x7 x11 x12 x59 x60 x61 K = dom_Up_R F 22 [(61, x61), (60, x60), (59, x59), (12, x12), (11, x11), (7, x7), (6, x6), (5, x5)] [5, 6, 7, 11, 12, 14, 59, 60, 61] K := by kernel_rfl

def dom_Up_r21 (F : Nat) (x5 x6 x7 x11 x12 x59 x60 x61 : Value) (K : Value → Value → Value → Value → Value → Value → Value → Value → Value → M Value) : M Value :=
  bnd (opBin .lss x61 x60) fun v62 => K x5 x6 x7 x11 x12 x59 x60 x61 v62

theorem dom_Up_r21_ok (F : Nat) (x5 x6 x7 x11 x12 x59 x60 x61 : Value) (K : Value → Value → Value → Value → Value → Value → Value → Value → Value → M Value) : dom_Up_r21 F x5 x6 x7 x11 x12 x59 x60 x61 K = dom_Up_R F 21 [(61, x61), (60, x60), (59, x59), (12, x12), (11, x11), (7, x7), (6, x6), (5, x5)] [5, 6, 7, 11, 12, 59, 60, 61, 62] K := by kernel_rfl

def dom_Up_b2 (F : Nat) (E2_6 : Value → Value → Value → Value → Value → M Value) (A2 : Value → Value → Value → Value → Value → Value → Value → Value → M Value) (x5 x6 x7 x11 x12 x59 x60 x61 : Value) : M Value :=
  dom_Up_r21 F x5 x6 x7 x11 x12 x59 x60 x61 (fun x5 x6 x7 x11 x12 x59 x60 x61 x62 => onB x62 (dom_Up_r22 F x5 x6 x7 x11 x12 x59 x60 x61 (fun x5 x6 x7 x11 x12 x14 x59 x60 x61 => dom_Up_r23 F x5 x6 x7 x11 x12 x14 x59 x60 x61 (fun x5 x6 x7 x11 x12 x14 x15 x59 x60 x61 => dom_Up_r24 F x5 x6 x7 x11 x12 x14 x15 x59 x60 x61 (fun x5 x6 x7 x11 x12 x14 x15 x59 x60 x61 x69 x70 x71 => dom_Up_l5 F (fun x5 x6 x7 x11 x12 x14 x15 x59 x60 x61 => dom_Up_k4 F A2 x5 x6 x7 x11 x12 x14 x15 x59 x60 x61) F x5 x6 x7 x11 x12 x14 x15 x59 x60 x61 x69 x70 x71)))) (E2_6 x5 x6 x7 x11 x12))

def dom_Up_l2 (F : Nat) (E2_6 : Value → Value → Value → Value → Value → M Value) : Nat → Value → Value → Value → Value → Value → Value → Value → Value → M Value
  | 0, _, _, _, _, _, _, _, _ => fail
  | k2 + 1, x5, x6, x7, x11, x12, x59, x60, x61 => dom_Up_b2 F E2_6 (dom_Up_l2 F E2_6 k2) x5 x6 x7 x11 x12 x59 x60 x61

theorem dom_Up_l2_s (F : Nat) (E2_6 : Value → Value → Value → Value → Value → M Value) (k2 : Nat) (x5 x6 x7 x11 x12 x59 x60 x61 : Value) : dom_Up_l2 F E2_6 (k2 + 1) x5 x6 x7 x11 x12 x59 x60 x61 = dom_Up_b2 F E2_6 (dom_Up_l2 F E2_6 k2) x5 x6 x7 x11 x12 x59 x60 x61 := rfl

def dom_Up_r20 (F : Nat) (x5 x6 x7 x11 x12 : Value) (K : Value → Value → Value → Value → Value → Value → Value → Value → M Value) : M Value :=
  bnd (opSlice 1 x5 (some (.int .i64 (1))) none none) fun v59 => bnd (opLen v59) fun v60 => K x5 x6 x7 x11 x12 v59 v60 (.int .i64 (0))

theorem dom_Up_r20_ok (F : Nat) (x5 x6 x7 x11 x12 : Value) (K : Value → Value → Value → Value → Value → Value → Value → Value → M Value) : dom_Up_r20 F x5 x6 x7 x11 x12 K = dom_Up_R F 20 [(12, x12), (11, x11), (7, x7), (6, x6), (5, x5)] [5, 6, 7, 11, 12, 59, 60, 61] K := by kernel_rfl

def dom_Up_r19 (F : Nat) (x5 x6 x7 x11 : Value) (K : Value → Value → Value → Value → Value → M Value) : M Value :=
  K x5 x6 x7 x11 (.bool false)

theorem dom_Up_r19_ok (F : Nat) (x5 x6 x7 x11 : Value) (K : Value → Value → Value → Value → Value → M Value) : dom_Up_r19 F x5 x6 x7 x11 K = dom_Up_R F 19 [(11, x11), (7, x7), (6, x6), (5, x5)] [5, 6, 7, 11, 12] K := by kernel_rfl

def dom_Up_r18 (F : Nat) (x5 x6 x7 x11 x12 : Value) (K : Value → Value → Value → Value → Value → M Value) : M Value :=
  K x5 x6 x7 x11 x12

theorem dom_Up_r18_ok (F : Nat) (x5 x6 x7 x11 x12 : Value) (K : Value → Value → Value → Value → Value → M Value) : dom_Up_r18 F x5 x6 x7 x11 x12 K = dom_Up_R F 18 [(12, x12), (11, x11), (7, x7), (6, x6), (5, x5)] [5, 6, 7, 11, 57] K := by kernel_rfl

def dom_Up_b1 (F : Nat) (E1_4 : Value → M Value) (A1 : Value → Value → Value → Value → Value → M Value) (x5 x6 x7 x11 x12 : Value) : M Value :=
  dom_Up_r18 F x5 x6 x7 x11 x12 (fun x5 x6 x7 x11 x57 => onB x57 (dom_Up_r19 F x5 x6 x7 x11 (fun x5 x6 x7 x11 x12 => dom_Up_r20 F x5 x6 x7 x11 x12 (fun x5 x6 x7 x11 x12 x59 x60 x61 => dom_Up_l2 F (fun x5 x6 x7 x11 x12 => A1 x5 x6 x7 x11 x12) F x5 x6 x7 x11 x12 x59 x60 x61))) (E1_4 x6))

def dom_Up_l1 (F : Nat) (E1_4 : Value → M Value) : Nat → Value → Value → Value → Value → Value → M Value
  | 0, _, _, _, _, _ => fail
  | k1 + 1, x5, x6, x7, x11, x12 => dom_Up_b1 F E1_4 (dom_Up_l1 F E1_4 k1) x5 x6 x7 x11 x12

theorem dom_Up_l1_s (F : Nat) (E1_4 : Value → M Value) (k1 : Nat) (x5 x6 x7 x11 x12 : Value) : dom_Up_l1 F E1_4 (k1 + 1) x5 x6 x7 x11 x12 = dom_Up_b1 F E1_4 (dom_Up_l1 F E1_4 k1) x5 x6 x7 x11 x12 := rfl

def dom_Up_r17 (F : Nat) (x5 x6 x7 x11 : Value) (K : Value → Value → Value → Value → Value → M Value) : M Value :=
  K x5 x6 x7 x11 (.bool true)

theorem dom_Up_r17_ok (F : Nat) (x5 x6 x7 x11 : Value) (K : Value → Value → Value → Value → Value → M Value) : dom_Up_r17 F x5 x6 x7 x11 K = dom_Up_R F 17 [(11, x11), (7, x7), (6, x6), (5, x5)] [5, 6, 7, 11, 12] K := by kernel_rfl

def dom_Up_r16 (F : Nat) (x1 x5 x6 x7 x11 : Value) (K : Value → Value → Value → Value → M Value) : M Value :=
  bnd (opIndexAddr 1 x6 x1) fun v56 => bnd (opStore v56 x1) fun _ => K x5 x6 x7 x11

theorem dom_Up_r16_ok (F : Nat) (x1 x5 x6 x7 x11 : Value) (K : Value → Value → Value → Value → M Value) : dom_Up_r16 F x1 x5 x6 x7 x11 K = dom_Up_R F 16 [(11, x11), (7, x7), (6, x6), (5, x5), (1, x1)] [5, 6, 7, 11] K := by kernel_rfl

def dom_Up_r15 (F : Nat) (x1 x2 x5 x6 x7 : Value) (K : Value → Value → Value → Value → Value → M Value) : M Value :=
  bnd (opLoadN 2 x2) fun v51 => bnd (graph_Turn F v51) fun v52 => bnd (opPtr [(.int .i64 (0)), (.slice none 0 0)]) fun v11 => bnd (opStoreN 2 v11 v52) fun _ => K x1 x5 x6 x7 v11

theorem dom_Up_r15_ok (F : Nat) (x1 x2 x5 x6 x7 : Value) (K : Value → Value → Value → Value → Value → M Value) : dom_Up_r15 F x1 x2 x5 x6 x7 K = dom_Up_R F 15 [(7, x7), (6, x6), (5, x5), (2, x2), (1, x1)] [1, 5, 6, 7, 11] K := by kernel_rfl

def dom_Up_k7 (F : Nat) (x1 x2 x5 x6 x7 : Value) : M Value :=
  dom_Up_r15 F x1 x2 x5 x6 x7 (fun x1 x5 x6 x7 x11 => dom_Up_r16 F x1 x5 x6 x7 x11 (fun x5 x6 x7 x11 => dom_Up_r17 F x5 x6 x7 x11 (fun x5 x6 x7 x11 x12 => dom_Up_l1 F (fun x6 => dom_Up_k0 F x6) F x5 x6 x7 x11 x12)))

def dom_Up_r14 (F : Nat) (x1 x2 x5 x6 x7 x39 x40 x41 : Value) (K : Value → Value → Value → Value → Value → Value → Value → Value → M Value) : M Value :=
  bnd (opBin .add x41 (.int .i64 (1))) fun v50 => K x1 x2 x5 x6 x7 x39 x40 v50

theorem dom_Up_r14_ok (F : Nat) (x1 x2 x5 x6 x7 x39 x40 x41 : Value) (K : Value → Value → Value → Value → Value → Value → Value → Value → M Value) : dom_Up_r14 F x1 x2 x5 x6 x7 x39 x40 x41 K = dom_Up_R F 14 [(41, x41), (40, x40), (39, x39), (7, x7), (6, x6), (5, x5), (2, x2), (1, x1)] [1, 2, 5, 6, 7, 39, 40, 41] K := by kernel_rfl

def dom_Up_r13 (F : Nat) (x1 x2 x5 x6 x7 x9 x10 x39 x40 x41 : Value) (K : Value → Value → Value → Value → Value → Value → Value → Value → M Value) : M Value :=
  bnd (opIndexAddr 1 x7 x10) fun v49 => bnd (opStore v49 x9) fun _ => K x1 x2 x5 x6 x7 x39 x40 x41

theorem dom_Up_r13_ok (F : Nat) (x1 x2 x5 x6 x7 x9 x10 x39 x40 x41 : Value) (K : Value → Value → Value → Value → Value → Value → Value → Value → M Value) : dom_Up_r13 F x1 x2 x5 x6 x7 x9 x10 x39 x40 x41 K = dom_Up_R F 13 [(41, x41), (40, x40), (39, x39), (10, x10), (9, x9), (7, x7), (6, x6), (5, x5), (2, x2), (1, x1)] [1, 2, 5, 6, 7, 39, 40, 41] K := by kernel_rfl

def dom_Up_r12 (F : Nat) (x1 x2 x5 x6 x7 x39 x40 x41 : Value) (K : Value → Value → Value → Value → Value → Value → Value → Value → Value → Value → M Value) : M Value :=
  bnd (opIndexAddr 1 x39 x41) fun v44 => bnd (opLoad v44) fun v45 => K x1 x2 x5 x6 x7 x41 v45 x39 x40 x41

theorem dom_Up_r12_ok (F : Nat) (x1 x2 x5 x6 x7 x39 x40 x41 : Value) (K : Value → Value → Value → Value → Value → Value → Value → Value → Value → Value → M Value) : dom_Up_r12 F x1 x2 x5 x6 x7 x39 x40 x41 K = dom_Up_R F 12 [(41, x41), (40, x40), (39, x39), (7, x7), (6, x6), (5, x5), (2, x2), (1, x1)] [1, 2, 5, 6, 7, 9, 10, 39, 40, 41] K := by kernel_rfl

def dom_Up_r11 (F : Nat) (x1 x2 x5 x6 x7 x39 x40 x41 : Value) (K : Value → Value → Value → Value → Value → Value → Value → Value → Value → M Value) : M Value :=
  bnd (opBin .lss x41 x40) fun v42 => K x1 x2 x5 x6 x7 x39 x40 x41 v42

theorem dom_Up_r11_ok (F : Nat) (x1 x2 x5 x6 x7 x39 x40 x41 : Value) (K : Value → Value → Value → Value → Value → Value → Value → Value → Value → M Value) : dom_Up_r11 F x1 x2 x5 x6 x7 x39 x40 x41 K = dom_Up_R F 11 [(41, x41), (40, x40), (39, x39), (7, x7), (6, x6), (5, x5), (2, x2), (1, x1)] [1, 2, 5, 6, 7, 39, 40, 41, 42] K := by kernel_rfl

def dom_Up_b8 (F : Nat) (E8_2 : Value → Value → Value → Value → Value → M Value) (A8 : Value → Value → Value → Value → Value → Value → Value → Value → M Value) (x1 x2 x5 x6 x7 x39 x40 x41 : Value) : M Value :=
  dom_Up_r11 F x1 x2 x5 x6 x7 x39 x40 x41 (fun x1 x2 x5 x6 x7 x39 x40 x41 x42 => onB x42 (dom_Up_r12 F x1 x2 x5 x6 x7 x39 x40 x41 (fun x1 x2 x5 x6 x7 x9 x10 x39 x40 x41 => dom_Up_r13 F x1 x2 x5 x6 x7 x9 x10 x39 x40 x41 (fun x1 x2 x5 x6 x7 x39 x40 x41 => dom_Up_r14 F x1 x2 x5 x6 x7 x39 x40 x41 (fun x1 x2 x5 x6 x7 x39 x40 x41 => A8 x1 x2 x5 x6 x7 x39 x40 x41)))) (E8_2 x1 x2 x5 x6 x7))

def dom_Up_l8 (F : Nat) (E8_2 : Value → Value → Value → Value → Value → M Value) : Nat → Value → Value → Value → Value → Value → Value → Value → Value → M Value
  | 0, _, _, _, _, _, _, _, _ => fail
  | k8 + 1, x1, x2, x5, x6, x7, x39, x40, x41 => dom_Up_b8 F E8_2 (dom_Up_l8 F E8_2 k8) x1 x2 x5 x6 x7 x39 x40 x41

theorem dom_Up_l8_s (F : Nat) (E8_2 : Value → Value → Value → Value → Value → M Value) (k8 : Nat) (x1 x2 x5 x6 x7 x39 x40 x41 : Value) : dom_Up_l8 F E8_2 (k8 + 1) x1 x2 x5 x6 x7 x39 x40 x41 = dom_Up_b8 F E8_2 (dom_Up_l8 F E8_2 k8) x1 x2 x5 x6 x7 x39 x40 x41 := rfl

def dom_Up_r10 (F : Nat) (x1 x2 x5 x6 x7 : Value) (K : Value → Value → Value → Value → Value → Value → Value → Value → M Value) : M Value :=
  bnd (opLen x5) fun v40 => K x1 x2 x5 x6 x7 x5 v40 (.int .i64 (0))

theorem dom_Up_r10_ok (F : Nat) (x1 x2 x5 x6 x7 : Value) (K : Value → Value → Value → Value → Value → Value → Value → Value → M Value) : dom_Up_r10 F x1 x2 x5 x6 x7 K = dom_Up_R F 10 [(7, x7), (6, x6), (5, x5), (2, x2), (1, x1)] [1, 2, 5, 6, 7, 39, 40, 41] K := by kernel_rfl

def dom_Up_k9 (F : Nat) (x1 x2 x5 x6 x7 : Value) : M Value :=
  dom_Up_r10 F x1 x2 x5 x6 x7 (fun x1 x2 x5 x6 x7 x39 x40 x41 => dom_Up_l8 F (fun x1 x2 x5 x6 x7 => dom_Up_k7 F x1 x2 x5 x6 x7) F x1 x2 x5 x6 x7 x39 x40 x41)

def dom_Up_r9 (F : Nat) (x1 x2 x5 x6 x7 x31 x32 : Value) (K : Value → Value → Value → Value → Value → Value → Value → M Value) : M Value :=
  bnd (opBin .add x32 (.int .i64 (1))) fun v38 => K x1 x2 x5 x6 x7 x31 v38

theorem dom_Up_r9_ok (F : Nat) (x1 x2 x5 x6 x7 x31 x32 : Value) (K : Value → Value → Value → Value → Value → Value → Value → M Value) : dom_Up_r9 F x1 x2 x5 x6 x7 x31 x32 K = dom_Up_R F 9 [(32, x32), (31, x31), (7, x7), (6, x6), (5, x5), (2, x2), (1, x1)] [1, 2, 5, 6, 7, 31, 32] K := by kernel_rfl

def dom_Up_r8 (F : Nat) (x1 x2 x5 x6 x7 x8 x31 x32 : Value) (K : Value → Value → Value → Value → Value → Value → Value → M Value) : M Value :=
  bnd (opIndexAddr 1 x6 x8) fun v37 => bnd (opStore v37 (.int .i64 (-1))) fun _ => K x1 x2 x5 x6 x7 x31 x32

theorem dom_Up_r8_ok (F : Nat) (x1 x2 x5 x6 x7 x8 x31 x32 : Value) (K : Value → Value → Value → Value → Value → Value → Value → M Value) : dom_Up_r8 F x1 x2 x5 x6 x7 x8 x31 x32 K = dom_Up_R F 8 [(32, x32), (31, x31), (8, x8), (7, x7), (6, x6), (5, x5), (2, x2), (1, x1)] [1, 2, 5, 6, 7, 31, 32] K := by kernel_rfl

def dom_Up_r7 (F : Nat) (x1 x2 x5 x6 x7 x31 x32 : Value) (K : Value → Value → Value → Value → Value → Value → Value → Value → M Value) : M Value :=
  K x1 x2 x5 x6 x7 x32 x31 x32

theorem dom_Up_r7_ok (F : Nat) (x1 x2 x5 x6 x7 x31 x32 : Value) (K : Value → Value → Value → Value → Value → Value → Value → Value → M Value) : dom_Up_r7 F x1 x2 x5 x6 x7 x31 x32 K = dom_Up_R F 7 [(32, x32), (31, x31), (7, x7), (6, x6), (5, x5), (2, x2), (1, x1)] [1, 2, 5, 6, 7, 8, 31, 32] K := by kernel_rfl

def dom_Up_r6 (F : Nat) (x1 x2 x5 x6 x7 x31 x32 : Value) (K : Value → Value → Value → Value → Value → Value → Value → Value → M Value) : M Value :=
  bnd (opBin .lss x32 x31) fun v33 => K x1 x2 x5 x6 x7 x31 x32 v33

theorem dom_Up_r6_ok (F : Nat) (x1 x2 x5 x6 x7 x31 x32 : Value) (K : Value → Value → Value → Value → Value → Value → Value → Value → M Value) : dom_Up_r6 F x1 x2 x5 x6 x7 x31 x32 K = dom_Up_R F 6 [(32, x32), (31, x31), (7, x7), (6, x6), (5, x5), (2, x2), (1, x1)] [1, 2, 5, 6, 7, 31, 32, 33] K := by kernel_rfl

def dom_Up_b10 (F : Nat) (E10_0 : Value → Value → Value → Value → Value → M Value) (A10 : Value → Value → Value → Value → Value → Value → Value → M Value) (x1 x2 x5 x6 x7 x31 x32 : Value) : M Value :=
  dom_Up_r6 F x1 x2 x5 x6 x7 x31 x32 (fun x1 x2 x5 x6 x7 x31 x32 x33 => onB x33 (dom_Up_r7 F x1 x2 x5 x6 x7 x31 x32 (fun x1 x2 x5 x6 x7 x8 x31 x32 => dom_Up_r8 F x1 x2 x5 x6 x7 x8 x31 x32 (fun x1 x2 x5 x6 x7 x31 x32 => dom_Up_r9 F x1 x2 x5 x6 x7 x31 x32 (fun x1 x2 x5 x6 x7 x31 x32 => A10 x1 x2 x5 x6 x7 x31 x32)))) (E10_0 x1 x2 x5 x6 x7))

def dom_Up_l10 (F : Nat) (E10_0 : Value → Value → Value → Value → Value → M Value) : Nat → Value → Value → Value → Value → Value → Value → Value → M Value
  | 0, _, _, _, _, _, _, _ => fail
  | k10 + 1, x1, x2, x5, x6, x7, x31, x32 => dom_Up_b10 F E10_0 (dom_Up_l10 F E10_0 k10) x1 x2 x5 x6 x7 x31 x32

theorem dom_Up_l10_s (F : Nat) (E10_0 : Value → Value → Value → Value → Value → M Value) (k10 : Nat) (x1 x2 x5 x6 x7 x31 x32 : Value) : dom_Up_l10 F E10_0 (k10 + 1) x1 x2 x5 x6 x7 x31 x32 = dom_Up_b10 F E10_0 (dom_Up_l10 F E10_0 k10) x1 x2 x5 x6 x7 x31 x32 := rfl

def dom_Up_r5 (F : Nat) (x1 x2 x5 x6 x7 : Value) (K : Value → Value → Value → Value → Value → Value → Value → M Value) : M Value :=
  bnd (opLen x6) fun v31 => K x1 x2 x5 x6 x7 v31 (.int .i64 (0))

theorem dom_Up_r5_ok (F : Nat) (x1 x2 x5 x6 x7 : Value) (K : Value → Value → Value → Value → Value → Value → Value → M Value) : dom_Up_r5 F x1 x2 x5 x6 x7 K = dom_Up_R F 5 [(7, x7), (6, x6), (5, x5), (2, x2), (1, x1)] [1, 2, 5, 6, 7, 31, 32] K := by kernel_rfl

def dom_Up_r4 (F : Nat) (x1 x2 x5 : Value) (K : Value → Value → Value → Value → Value → M Value) : M Value :=
  bnd (opFieldAddr 0 x2) fun v24 => bnd (opLoad v24) fun v25 => bnd (opFieldAddr 0 x2) fun v27 => bnd (opLoad v27) fun v28 => bnd (opMake 8 [(.int .i64 (0))] v25 v25) fun v26 => bnd (opMake 8 [(.int .i64 (0))] v28 v28) fun v29 => K x1 x2 x5 v26 v29

theorem dom_Up_r4_ok (F : Nat) (x1 x2 x5 : Value) (K : Value → Value → Value → Value → Value → M Value) : dom_Up_r4 F x1 x2 x5 K = dom_Up_D F 4 [0, 1, 3, 4, 2, 6, 5, 7] [(5, x5), (2, x2), (1, x1)] [1, 2, 5, 6, 7] K := by kernel_rfl

theorem dom_Up_r4_good : goodOrder (opsOf Tryd.f21 4) [0, 1, 3, 4, 2, 6, 5, 7] = true := by kernel_rfl

def dom_Up_r3 (F : Nat) (K : Value → M Value) : M Value :=
  K (.slice none 0 0)

theorem dom_Up_r3_ok (F : Nat) (K : Value → M Value) : dom_Up_r3 F K = dom_Up_R F 3 [] [4] K := by kernel_rfl

def dom_Up_r2 (F : Nat) (x1 x2 x5 : Value) (K : Value → Value → Value → Value → M Value) : M Value :=
  bnd (opLen x5) fun v22 => bnd (opBin .eql v22 (.int .i64 (0))) fun v23 => K x1 x2 x5 v23

theorem dom_Up_r2_ok (F : Nat) (x1 x2 x5 : Value) (K : Value → Value → Value → Value → M Value) : dom_Up_r2 F x1 x2 x5 K = dom_Up_R F 2 [(5, x5), (2, x2), (1, x1)] [1, 2, 5, 23] K := by kernel_rfl

def dom_Up_r1 (F : Nat) (x1 x2 : Value) (K : Value → Value → Value → M Value) : M Value :=
  bnd (opLoadN 2 x2) fun v18 => bnd (graph_Order F v18 x1) fun v20 => K x1 x2 v20

theorem dom_Up_r1_ok (F : Nat) (x1 x2 : Value) (K : Value → Value → Value → M Value) : dom_Up_r1 F x1 x2 K = dom_Up_R F 1 [(2, x2), (1, x1)] [1, 2, 5] K := by kernel_rfl

def dom_Up_r0 (F : Nat) (x0 x1 : Value) (K : Value → Value → M Value) : M Value :=
  bnd (opBoxN x0) fun v2 => K x1 v2

theorem dom_Up_r0_ok (F : Nat) (x0 x1 : Value) (K : Value → Value → M Value) : dom_Up_r0 F x0 x1 K = dom_Up_R F 0 [(1, x1), (0, x0)] [1, 2] K := by kernel_rfl

def dom_Up (F : Nat) (x0 x1 : Value) : M Value :=
  dom_Up_r0 F x0 x1 (fun x1 x2 => dom_Up_r1 F x1 x2 (fun x1 x2 x5 => dom_Up_r2 F x1 x2 x5 (fun x1 x2 x5 x23 => onB x23 (dom_Up_r3 F (fun x4 => ret x4)) (dom_Up_r4 F x1 x2 x5 (fun x1 x2 x5 x6 x7 => dom_Up_r5 F x1 x2 x5 x6 x7 (fun x1 x2 x5 x6 x7 x31 x32 => dom_Up_l10 F (fun x1 x2 x5 x6 x7 => dom_Up_k9 F x1 x2 x5 x6 x7) F x1 x2 x5 x6 x7 x31 x32))))))

def dom_Up_m (F : Nat) : List Value → M Value
  | [x0, x1] => dom_Up F x0 x1
  | _ => fail

theorem dom_Up_body : Tryd.f21.body = some (.seq (.region 0 (opsOf Tryd.f21 0) false) (.seq (.region 1 (opsOf Tryd.f21 1) false) (.seq (.seq (.region 2 (opsOf Tryd.f21 2) false) (.cond (.tmp 23) (.seq (.region 3 (opsOf Tryd.f21 3) false) .ret) .skip)) (.seq (.region 4 (opsOf Tryd.f21 4) true) (.seq (.seq (.region 5 (opsOf Tryd.f21 5) false) (.block 0 (.loop (.seq (.region 6 (opsOf Tryd.f21 6) false) (.seq (.cond (.tmp 33) .skip (.exit 0)) (.seq (.block 1 (.seq (.region 7 (opsOf Tryd.f21 7) false) (.region 8 (opsOf Tryd.f21 8) false))) (.region 9 (opsOf Tryd.f21 9) false))))))) (.seq (.seq (.region 10 (opsOf Tryd.f21 10) false) (.block 2 (.loop (.seq (.region 11 (opsOf Tryd.f21 11) false) (.seq (.cond (.tmp 42) .skip (.exit 2)) (.seq (.block 3 (.seq (.region 12 (opsOf Tryd.f21 12) false) (.region 13 (opsOf Tryd.f21 13) false))) (.region 14 (opsOf Tryd.f21 14) false))))))) (.seq (.region 15 (opsOf Tryd.f21 15) false) (.seq (.region 16 (opsOf Tryd.f21 16) false) (.seq (.seq (.region 17 (opsOf Tryd.f21 17) false) (.block 4 (.loop (.seq (.seq (.region 18 (opsOf Tryd.f21 18) false) (.cond (.tmp 57) .skip (.exit 4))) (.block 5 (.seq (.region 19 (opsOf Tryd.f21 19) false) (.seq (.region 20 (opsOf Tryd.f21 20) false) (.block 6 (.loop (.seq (.region 21 (opsOf Tryd.f21 21) false) (.seq (.cond (.tmp 62) .skip (.exit 6)) (.seq (.block 7 (.seq (.region 22 (opsOf Tryd.f21 22) false) (.seq (.region 23 (opsOf Tryd.f21 23) false) (.seq (.seq (.region 24 (opsOf Tryd.f21 24) false) (.block 8 (.loop (.seq (.region 25 (opsOf Tryd.f21 25) false) (.seq (.cond (.tmp 72) .skip (.exit 8)) (.seq (.block 9 (.seq (.region 26 (opsOf Tryd.f21 26) false) (.seq (.region 27 (opsOf Tryd.f21 27) false) (.cond (.tmp 79) (.region 28 (opsOf Tryd.f21 28) false) .skip)))) (.region 29 (opsOf Tryd.f21 29) false))))))) (.seq (.region 30 (opsOf Tryd.f21 30) false) (.region 31 (opsOf Tryd.f21 31) false)))))) (.region 32 (opsOf Tryd.f21 32) false))))))))))))) (.seq (.region 33 (opsOf Tryd.f21 33) false) .ret)))))))))) := by kernel_rfl

theorem dom_Up_ok (F : Nat) : Sim Tryd.prog TrydG 21 (dom_Up_m F) := by
 have hE : EnvOK Tryd.prog TrydG (dom_Up_env F) := (EnvOK.cons (graph_Turn_ok F) (EnvOK.cons (graph_Order_ok F) (EnvOK.cons (dom_meet_ok F) EnvOK.nil)))
 refine Sim.of_body (E := dom_Up_env F) Tryd.func21 dom_Up_body Tryd.call21 ?_ ?_
 · intro args hl; unfold dom_Up_m; split
   · exact absurd hl (Nat.not_lt.2 (Nat.le_of_ble_eq_true rfl))
   · rfl
 · intro args ρ h w z; unfold dom_Up_m; split
   · rename_i x0 x1; show OKc _ _ [(0, x0), (1, x1)] _ _
     refine rSeq ?_
     refine cLess [1, 0] ?_
     refine xR hE [1, 2] rfl (dom_Up_r0_ok F _ _ _) ?_
     intro x1 x2
     show OKq _ _ _ [(2, x2), (1, x1)] _
     refine rThen ?_
     refine rSeq ?_
     refine cLess [2, 1] ?_
     refine xR hE [1, 2, 5] rfl (dom_Up_r1_ok F _ _ _) ?_
     intro x1 x2 x5
     show OKq _ _ _ [(5, x5), (2, x2), (1, x1)] _
     refine rThen ?_
     refine rSeq ?_
     refine rSeq ?_
     refine cLess [5, 2, 1] ?_
     refine xR hE [1, 2, 5, 23] rfl (dom_Up_r2_ok F _ _ _ _) ?_
     intro x1 x2 x5 x23
     show OKq _ _ _ [(23, x23), (5, x5), (2, x2), (1, x1)] _
     refine rThen ?_
     refine xCond rfl rfl ?_ ?_
     · refine rSeq ?_
       refine cLess [] ?_
       refine xR hE [4] rfl (dom_Up_r3_ok F _) ?_
       intro x4
       show OKq _ _ _ [(4, x4)] _
       refine rThen ?_
       refine rRet ?_
       refine xThenR ?_
       exact rDone (.inr rfl) rfl
     · refine rSkip ?_
       refine rThen ?_
       refine rSeq ?_
       refine cLess [5, 2, 1] ?_
       refine xD Trydmix hE [1, 2, 5, 6, 7] rfl dom_Up_r4_good (dom_Up_r4_ok F _ _ _ _) ?_
       intro x1 x2 x5 x6 x7
       show OKq _ _ _ [(7, x7), (6, x6), (5, x5), (2, x2), (1, x1)] _
       refine rThen ?_
       refine xSeq [1, 2, 5, 6, 7] (dom_Up_k9 F ) ?_ fun hj9 => ?_
       · intro x1 x2 x5 x6 x7
         show OKc _ _ [(7, x7), (6, x6), (5, x5), (2, x2), (1, x1)] _ _
         refine xSeq [1, 2, 5, 6, 7] (dom_Up_k7 F ) ?_ fun hj7 => ?_
         · intro x1 x2 x5 x6 x7
           show OKc _ _ [(7, x7), (6, x6), (5, x5), (2, x2), (1, x1)] _ _
           refine rSeq ?_
           refine cLess [7, 6, 5, 2, 1] ?_
           refine xR hE [1, 5, 6, 7, 11] rfl (dom_Up_r15_ok F _ _ _ _ _ _) ?_
           intro x1 x5 x6 x7 x11
           show OKq _ _ _ [(11, x11), (7, x7), (6, x6), (5, x5), (1, x1)] _
           refine rThen ?_
           refine rSeq ?_
           refine cLess [11, 7, 6, 5, 1] ?_
           refine xR hE [5, 6, 7, 11] rfl (dom_Up_r16_ok F _ _ _ _ _ _) ?_
           intro x5 x6 x7 x11
           show OKq _ _ _ [(11, x11), (7, x7), (6, x6), (5, x5)] _
           refine rThen ?_
           refine xSeq [6] (dom_Up_k0 F ) ?_ fun hj0 => ?_
           · intro x6
             show OKc _ _ [(6, x6)] _ _
             refine rSeq ?_
             refine cLess [6] ?_
             refine xR hE [4] rfl (dom_Up_r33_ok F _ _) ?_
             intro x4
             show OKq _ _ _ [(4, x4)] _
             refine rThen ?_
             refine rRet ?_
             exact rDone (.inr rfl) rfl
           · refine rSeq ?_
             refine cLess [11, 7, 6, 5] ?_
             refine xR hE [5, 6, 7, 11, 12] rfl (dom_Up_r17_ok F _ _ _ _ _) ?_
             intro x5 x6 x7 x11 x12
             show OKq _ _ _ [(12, x12), (11, x11), (7, x7), (6, x6), (5, x5)] _
             refine rThen ?_
             refine rBlock ?_
             refine cLess [12, 11, 7, 6, 5] ?_
             refine xLoopAt [5, 6, 7, 11, 12] [] (fun k1 => dom_Up_l1 F (fun x6 => dom_Up_k0 F x6) k1) F [x5, x6, x7, x11, x12] rfl rfl (fun _ _ _ _ _ => rfl) fun I hI1 k1 => ?_
             intro x5 x6 x7 x11 x12
             show OKc _ _ [(12, x12), (11, x11), (7, x7), (6, x6), (5, x5)] _ _
             refine cAs (dom_Up_l1_s F _ _ _ _ _ _ _) ?_
             refine rSeq ?_
             refine rSeq ?_
             refine cLess [12, 11, 7, 6, 5] ?_
             refine xR hE [5, 6, 7, 11, 57] rfl (dom_Up_r18_ok F _ _ _ _ _ _) ?_
             intro x5 x6 x7 x11 x57
             show OKq _ _ _ [(57, x57), (11, x11), (7, x7), (6, x6), (5, x5)] _
             refine rThen ?_
             refine xCond rfl rfl ?_ ?_
             · refine rSkip ?_
               refine rThen ?_
               refine rBlock ?_
               refine rSeq ?_
               refine cLess [11, 7, 6, 5] ?_
               refine xR hE [5, 6, 7, 11, 12] rfl (dom_Up_r19_ok F _ _ _ _ _) ?_
               intro x5 x6 x7 x11 x12
               show OKq _ _ _ [(12, x12), (11, x11), (7, x7), (6, x6), (5, x5)] _
               refine rThen ?_
               refine rSeq ?_
               refine cLess [12, 11, 7, 6, 5] ?_
               refine xR hE [5, 6, 7, 11, 12, 59, 60, 61] rfl (dom_Up_r20_ok F _ _ _ _ _ _) ?_
               intro x5 x6 x7 x11 x12 x59 x60 x61
               show OKq _ _ _ [(61, x61), (60, x60), (59, x59), (12, x12), (11, x11), (7, x7), (6, x6), (5, x5)] _
               refine rThen ?_
               refine rBlock ?_
               refine cLess [61, 60, 59, 12, 11, 7, 6, 5] ?_
               refine xLoopAt [5, 6, 7, 11, 12, 59, 60, 61] [] (fun k2 => dom_Up_l2 F (fun x5 x6 x7 x11 x12 => (dom_Up_l1 F (fun x6 => dom_Up_k0 F x6) k1) x5 x6 x7 x11 x12) k2) F [x5, x6, x7, x11, x12, x59, x60, x61] rfl rfl (fun _ _ _ _ _ _ _ _ => rfl) fun I hI2 k2 => ?_
               intro x5 x6 x7 x11 x12 x59 x60 x61
               show OKc _ _ [(61, x61), (60, x60), (59, x59), (12, x12), (11, x11), (7, x7), (6, x6), (5, x5)] _ _
               refine cAs (dom_Up_l2_s F _ _ _ _ _ _ _ _ _ _) ?_
               refine rSeq ?_
               refine cLess [61, 60, 59, 12, 11, 7, 6, 5] ?_
               refine xR hE [5, 6, 7, 11, 12, 59, 60, 61, 62] rfl (dom_Up_r21_ok F _ _ _ _ _ _ _ _ _) ?_
               intro x5 x6 x7 x11 x12 x59 x60 x61 x62
               show OKq _ _ _ [(62, x62), (61, x61), (60, x60), (59, x59), (12, x12), (11, x11), (7, x7), (6, x6), (5, x5)] _
               refine rThen ?_
               refine rSeq ?_
               refine xCond rfl rfl ?_ ?_
               · refine rSkip ?_
                 refine rThen ?_
                 refine xSeq [5, 6, 7, 11, 12, 59, 60, 61] (dom_Up_k3 F (dom_Up_l2 F (fun x5 x6 x7 x11 x12 => (dom_Up_l1 F (fun x6 => dom_Up_k0 F x6) k1) x5 x6 x7 x11 x12) k2) ) ?_ fun hj3 => ?_
                 · intro x5 x6 x7 x11 x12 x59 x60 x61
                   show OKc _ _ [(61, x61), (60, x60), (59, x59), (12, x12), (11, x11), (7, x7), (6, x6), (5, x5)] _ _
                   refine cLess [61, 60, 59, 12, 11, 7, 6, 5] ?_
                   refine xR hE [5, 6, 7, 11, 12, 59, 60, 61] rfl (dom_Up_r32_ok F _ _ _ _ _ _ _ _ _) ?_
                   intro x5 x6 x7 x11 x12 x59 x60 x61
                   show OKq _ _ _ [(61, x61), (60, x60), (59, x59), (12, x12), (11, x11), (7, x7), (6, x6), (5, x5)] _
                   exact qLess [61, 60, 59, 12, 11, 7, 6, 5] (hI2 k2 x5 x6 x7 x11 x12 x59 x60 x61)
                 · refine rBlock ?_
                   refine rSeq ?_
                   refine cLess [61, 60, 59, 12, 11, 7, 6, 5] ?_
                   refine xR hE [5, 6, 7, 11, 12, 14, 59, 60, 61] rfl (dom_Up_r22_ok F _ _ _ _ _ _ _ _ _) ?_
                   intro x5 x6 x7 x11 x12 x14 x59 x60 x61
                   show OKq _ _ _ [(61, x61), (60, x60), (59, x59), (14, x14), (12, x12), (11, x11), (7, x7), (6, x6), (5, x5)] _
                   refine rThen ?_
                   refine rSeq ?_
                   refine cLess [61, 60, 59, 14, 12, 11, 7, 6, 5] ?_
                   refine xR hE [5, 6, 7, 11, 12, 14, 15, 59, 60, 61] rfl (dom_Up_r23_ok F _ _ _ _ _ _ _ _ _ _) ?_
                   intro x5 x6 x7 x11 x12 x14 x15 x59 x60 x61
                   show OKq _ _ _ [(61, x61), (60, x60), (59, x59), (15, x15), (14, x14), (12, x12), (11, x11), (7, x7), (6, x6), (5, x5)] _
                   refine rThen ?_
                   refine xSeq [5, 6, 7, 11, 12, 14, 15, 59, 60, 61] (dom_Up_k4 F (dom_Up_l2 F (fun x5 x6 x7 x11 x12 => (dom_Up_l1 F (fun x6 => dom_Up_k0 F x6) k1) x5 x6 x7 x11 x12) k2) ) ?_ fun hj4 => ?_
                   · intro x5 x6 x7 x11 x12 x14 x15 x59 x60 x61
                     show OKc _ _ [(61, x61), (60, x60), (59, x59), (15, x15), (14, x14), (12, x12), (11, x11), (7, x7), (6, x6), (5, x5)] _ _
                     refine rSeq ?_
                     refine cLess [61, 60, 59, 15, 14, 12, 11, 7, 6, 5] ?_
                     refine xR hE [5, 6, 7, 11, 12, 14, 15, 59, 60, 61] rfl (dom_Up_r30_ok F _ _ _ _ _ _ _ _ _ _ _) ?_
                     intro x5 x6 x7 x11 x12 x14 x15 x59 x60 x61
                     show OKq _ _ _ [(61, x61), (60, x60), (59, x59), (15, x15), (14, x14), (12, x12), (11, x11), (7, x7), (6, x6), (5, x5)] _
                     refine rThen ?_
                     refine cLess [61, 60, 59, 15, 14, 12, 11, 7, 6, 5] ?_
                     refine xR hE [5, 6, 7, 11, 12, 59, 60, 61] rfl (dom_Up_r31_ok F _ _ _ _ _ _ _ _ _ _ _) ?_
                     intro x5 x6 x7 x11 x12 x59 x60 x61
                     show OKq _ _ _ [(61, x61), (60, x60), (59, x59), (12, x12), (11, x11), (7, x7), (6, x6), (5, x5)] _
                     refine xBlockN ?_
                     exact qLess [61, 60, 59, 12, 11, 7, 6, 5] (hj3 x5 x6 x7 x11 x12 x59 x60 x61)
                   · refine rSeq ?_
                     refine cLess [61, 60, 59, 15, 14, 12, 11, 7, 6, 5] ?_
                     refine xR hE [5, 6, 7, 11, 12, 14, 15, 59, 60, 61, 69, 70, 71] rfl (dom_Up_r24_ok F _ _ _ _ _ _ _ _ _ _ _) ?_
                     intro x5 x6 x7 x11 x12 x14 x15 x59 x60 x61 x69 x70 x71
                     show OKq _ _ _ [(71, x71), (70, x70), (69, x69), (61, x61), (60, x60), (59, x59), (15, x15), (14, x14), (12, x12), (11, x11), (7, x7), (6, x6), (5, x5)] _
                     refine rThen ?_
                     refine rBlock ?_
                     refine cLess [71, 70, 69, 61, 60, 59, 15, 14, 12, 11, 7, 6, 5] ?_
                     refine xLoopAt [5, 6, 7, 11, 12, 14, 15, 59, 60, 61, 69, 70, 71] [] (fun k5 => dom_Up_l5 F (fun x5 x6 x7 x11 x12 x14 x15 x59 x60 x61 => dom_Up_k4 F (dom_Up_l2 F (fun x5 x6 x7 x11 x12 => (dom_Up_l1 F (fun x6 => dom_Up_k0 F x6) k1) x5 x6 x7 x11 x12) k2) x5 x6 x7 x11 x12 x14 x15 x59 x60 x61) k5) F [x5, x6, x7, x11, x12, x14, x15, x59, x60, x61, x69, x70, x71] rfl rfl (fun _ _ _ _ _ _ _ _ _ _ _ _ _ => rfl) fun I hI5 k5 => ?_
                     intro x5 x6 x7 x11 x12 x14 x15 x59 x60 x61 x69 x70 x71
                     show OKc _ _ [(71, x71), (70, x70), (69, x69), (61, x61), (60, x60), (59, x59), (15, x15), (14, x14), (12, x12), (11, x11), (7, x7), (6, x6), (5, x5)] _ _
                     refine cAs (dom_Up_l5_s F _ _ _ _ _ _ _ _ _ _ _ _ _ _ _) ?_
                     refine rSeq ?_
                     refine cLess [71, 70, 69, 61, 60, 59, 15, 14, 12, 11, 7, 6, 5] ?_
                     refine xR hE [5, 6, 7, 11, 12, 14, 15, 59, 60, 61, 69, 70, 71, 72] rfl (dom_Up_r25_ok F _ _ _ _ _ _ _ _ _ _ _ _ _ _) ?_
                     intro x5 x6 x7 x11 x12 x14 x15 x59 x60 x61 x69 x70 x71 x72
                     show OKq _ _ _ [(72, x72), (71, x71), (70, x70), (69, x69), (61, x61), (60, x60), (59, x59), (15, x15), (14, x14), (12, x12), (11, x11), (7, x7), (6, x6), (5, x5)] _
                     refine rThen ?_
                     refine rSeq ?_
                     refine xCond rfl rfl ?_ ?_
                     · refine rSkip ?_
                       refine rThen ?_
                       refine xSeq [5, 6, 7, 11, 12, 14, 15, 59, 60, 61, 69, 70, 71] (dom_Up_k6 F (dom_Up_l5 F (fun x5 x6 x7 x11 x12 x14 x15 x59 x60 x61 => dom_Up_k4 F (dom_Up_l2 F (fun x5 x6 x7 x11 x12 => (dom_Up_l1 F (fun x6 => dom_Up_k0 F x6) k1) x5 x6 x7 x11 x12) k2) x5 x6 x7 x11 x12 x14 x15 x59 x60 x61) k5) ) ?_ fun hj6 => ?_
                       · intro x5 x6 x7 x11 x12 x14 x15 x59 x60 x61 x69 x70 x71
                         show OKc _ _ [(71, x71), (70, x70), (69, x69), (61, x61), (60, x60), (59, x59), (15, x15), (14, x14), (12, x12), (11, x11), (7, x7), (6, x6), (5, x5)] _ _
                         refine cLess [71, 70, 69, 61, 60, 59, 15, 14, 12, 11, 7, 6, 5] ?_
                         refine xR hE [5, 6, 7, 11, 12, 14, 15, 59, 60, 61, 69, 70, 71] rfl (dom_Up_r29_ok F _ _ _ _ _ _ _ _ _ _ _ _ _ _) ?_
                         intro x5 x6 x7 x11 x12 x14 x15 x59 x60 x61 x69 x70 x71
                         show OKq _ _ _ [(71, x71), (70, x70), (69, x69), (61, x61), (60, x60), (59, x59), (15, x15), (14, x14), (12, x12), (11, x11), (7, x7), (6, x6), (5, x5)] _
                         exact qLess [71, 70, 69, 61, 60, 59, 15, 14, 12, 11, 7, 6, 5] (hI5 k5 x5 x6 x7 x11 x12 x14 x15 x59 x60 x61 x69 x70 x71)
                       · refine rBlock ?_
                         refine rSeq ?_
                         refine cLess [71, 70, 69, 61, 60, 59, 15, 14, 12, 11, 7, 6, 5] ?_
                         refine xR hE [5, 6, 7, 11, 12, 14, 15, 17, 59, 60, 61, 69, 70, 71] rfl (dom_Up_r26_ok F _ _ _ _ _ _ _ _ _ _ _ _ _ _) ?_
                         intro x5 x6 x7 x11 x12 x14 x15 x17 x59 x60 x61 x69 x70 x71
                         show OKq _ _ _ [(71, x71), (70, x70), (69, x69), (61, x61), (60, x60), (59, x59), (17, x17), (15, x15), (14, x14), (12, x12), (11, x11), (7, x7), (6, x6), (5, x5)] _
                         refine rThen ?_
                         refine rSeq ?_
                         refine cLess [71, 70, 69, 61, 60, 59, 17, 15, 14, 12, 11, 7, 6, 5] ?_
                         refine xR hE [5, 6, 7, 11, 12, 14, 15, 17, 59, 60, 61, 69, 70, 71, 79] rfl (dom_Up_r27_ok F _ _ _ _ _ _ _ _ _ _ _ _ _ _ _) ?_
                         intro x5 x6 x7 x11 x12 x14 x15 x17 x59 x60 x61 x69 x70 x71 x79
                         show OKq _ _ _ [(79, x79), (71, x71), (70, x70), (69, x69), (61, x61), (60, x60), (59, x59), (17, x17), (15, x15), (14, x14), (12, x12), (11, x11), (7, x7), (6, x6), (5, x5)] _
                         refine rThen ?_
                         refine xCond rfl rfl ?_ ?_
                         · refine cLess [71, 70, 69, 61, 60, 59, 17, 15, 14, 12, 11, 7, 6, 5] ?_
                           refine xR hE [5, 6, 7, 11, 12, 14, 15, 59, 60, 61, 69, 70, 71] rfl (dom_Up_r28_ok F _ _ _ _ _ _ _ _ _ _ _ _ _ _ _) ?_
                           intro x5 x6 x7 x11 x12 x14 x15 x59 x60 x61 x69 x70 x71
                           show OKq _ _ _ [(71, x71), (70, x70), (69, x69), (61, x61), (60, x60), (59, x59), (15, x15), (14, x14), (12, x12), (11, x11), (7, x7), (6, x6), (5, x5)] _
                           refine xBlockN ?_
                           exact qLess [71, 70, 69, 61, 60, 59, 15, 14, 12, 11, 7, 6, 5] (hj6 x5 x6 x7 x11 x12 x14 x15 x59 x60 x61 x69 x70 x71)
                         · refine rSkip ?_
                           refine xBlockN ?_
                           exact qLess [71, 70, 69, 61, 60, 59, 15, 14, 12, 11, 7, 6, 5] (hj6 x5 x6 x7 x11 x12 x14 x15 x59 x60 x61 x69 x70 x71)
                     · refine rExit ?_
                       refine xThenX ?_
                       refine xThenX ?_
                       refine rOut ?_
                       exact qLess [61, 60, 59, 15, 14, 12, 11, 7, 6, 5] (hj4 x5 x6 x7 x11 x12 x14 x15 x59 x60 x61)
               · refine rExit ?_
                 refine xThenX ?_
                 refine xThenX ?_
                 refine rOut ?_
                 refine xBlockN ?_
                 exact qLess [12, 11, 7, 6, 5] (hI1 k1 x5 x6 x7 x11 x12)
             · refine rExit ?_
               refine xThenX ?_
               refine xThenX ?_
               refine rOut ?_
               exact qLess [6] (hj0 x6)
         · refine rSeq ?_
           refine cLess [7, 6, 5, 2, 1] ?_
           refine xR hE [1, 2, 5, 6, 7, 39, 40, 41] rfl (dom_Up_r10_ok F _ _ _ _ _ _) ?_
           intro x1 x2 x5 x6 x7 x39 x40 x41
           show OKq _ _ _ [(41, x41), (40, x40), (39, x39), (7, x7), (6, x6), (5, x5), (2, x2), (1, x1)] _
           refine rThen ?_
           refine rBlock ?_
           refine cLess [41, 40, 39, 7, 6, 5, 2, 1] ?_
           refine xLoopAt [1, 2, 5, 6, 7, 39, 40, 41] [] (fun k8 => dom_Up_l8 F (fun x1 x2 x5 x6 x7 => dom_Up_k7 F x1 x2 x5 x6 x7) k8) F [x1, x2, x5, x6, x7, x39, x40, x41] rfl rfl (fun _ _ _ _ _ _ _ _ => rfl) fun I hI8 k8 => ?_
           intro x1 x2 x5 x6 x7 x39 x40 x41
           show OKc _ _ [(41, x41), (40, x40), (39, x39), (7, x7), (6, x6), (5, x5), (2, x2), (1, x1)] _ _
           refine cAs (dom_Up_l8_s F _ _ _ _ _ _ _ _ _ _) ?_
           refine rSeq ?_
           refine cLess [41, 40, 39, 7, 6, 5, 2, 1] ?_
           refine xR hE [1, 2, 5, 6, 7, 39, 40, 41, 42] rfl (dom_Up_r11_ok F _ _ _ _ _ _ _ _ _) ?_
           intro x1 x2 x5 x6 x7 x39 x40 x41 x42
           show OKq _ _ _ [(42, x42), (41, x41), (40, x40), (39, x39), (7, x7), (6, x6), (5, x5), (2, x2), (1, x1)] _
           refine rThen ?_
           refine rSeq ?_
           refine xCond rfl rfl ?_ ?_
           · refine rSkip ?_
             refine rThen ?_
             refine rSeq ?_
             refine rBlock ?_
             refine rSeq ?_
             refine cLess [41, 40, 39, 7, 6, 5, 2, 1] ?_
             refine xR hE [1, 2, 5, 6, 7, 9, 10, 39, 40, 41] rfl (dom_Up_r12_ok F _ _ _ _ _ _ _ _ _) ?_
             intro x1 x2 x5 x6 x7 x9 x10 x39 x40 x41
             show OKq _ _ _ [(41, x41), (40, x40), (39, x39), (10, x10), (9, x9), (7, x7), (6, x6), (5, x5), (2, x2), (1, x1)] _
             refine rThen ?_
             refine cLess [41, 40, 39, 10, 9, 7, 6, 5, 2, 1] ?_
             refine xR hE [1, 2, 5, 6, 7, 39, 40, 41] rfl (dom_Up_r13_ok F _ _ _ _ _ _ _ _ _ _ _) ?_
             intro x1 x2 x5 x6 x7 x39 x40 x41
             show OKq _ _ _ [(41, x41), (40, x40), (39, x39), (7, x7), (6, x6), (5, x5), (2, x2), (1, x1)] _
             refine xBlockN ?_
             refine rThen ?_
             refine cLess [41, 40, 39, 7, 6, 5, 2, 1] ?_
             refine xR hE [1, 2, 5, 6, 7, 39, 40, 41] rfl (dom_Up_r14_ok F _ _ _ _ _ _ _ _ _) ?_
             intro x1 x2 x5 x6 x7 x39 x40 x41
             show OKq _ _ _ [(41, x41), (40, x40), (39, x39), (7, x7), (6, x6), (5, x5), (2, x2), (1, x1)] _
             exact qLess [41, 40, 39, 7, 6, 5, 2, 1] (hI8 k8 x1 x2 x5 x6 x7 x39 x40 x41)
           · refine rExit ?_
             refine xThenX ?_
             refine xThenX ?_
             refine rOut ?_
             exact qLess [7, 6, 5, 2, 1] (hj7 x1 x2 x5 x6 x7)
       · refine rSeq ?_
         refine cLess [7, 6, 5, 2, 1] ?_
         refine xR hE [1, 2, 5, 6, 7, 31, 32] rfl (dom_Up_r5_ok F _ _ _ _ _ _) ?_
         intro x1 x2 x5 x6 x7 x31 x32
         show OKq _ _ _ [(32, x32), (31, x31), (7, x7), (6, x6), (5, x5), (2, x2), (1, x1)] _
         refine rThen ?_
         refine rBlock ?_
         refine cLess [32, 31, 7, 6, 5, 2, 1] ?_
         refine xLoopAt [1, 2, 5, 6, 7, 31, 32] [] (fun k10 => dom_Up_l10 F (fun x1 x2 x5 x6 x7 => dom_Up_k9 F x1 x2 x5 x6 x7) k10) F [x1, x2, x5, x6, x7, x31, x32] rfl rfl (fun _ _ _ _ _ _ _ => rfl) fun I hI10 k10 => ?_
         intro x1 x2 x5 x6 x7 x31 x32
         show OKc _ _ [(32, x32), (31, x31), (7, x7), (6, x6), (5, x5), (2, x2), (1, x1)] _ _
         refine cAs (dom_Up_l10_s F _ _ _ _ _ _ _ _ _) ?_
         refine rSeq ?_
         refine cLess [32, 31, 7, 6, 5, 2, 1] ?_
         refine xR hE [1, 2, 5, 6, 7, 31, 32, 33] rfl (dom_Up_r6_ok F _ _ _ _ _ _ _ _) ?_
         intro x1 x2 x5 x6 x7 x31 x32 x33
         show OKq _ _ _ [(33, x33), (32, x32), (31, x31), (7, x7), (6, x6), (5, x5), (2, x2), (1, x1)] _
         refine rThen ?_
         refine rSeq ?_
         refine xCond rfl rfl ?_ ?_
         · refine rSkip ?_
           refine rThen ?_
           refine rSeq ?_
           refine rBlock ?_
           refine rSeq ?_
           refine cLess [32, 31, 7, 6, 5, 2, 1] ?_
           refine xR hE [1, 2, 5, 6, 7, 8, 31, 32] rfl (dom_Up_r7_ok F _ _ _ _ _ _ _ _) ?_
           intro x1 x2 x5 x6 x7 x8 x31 x32
           show OKq _ _ _ [(32, x32), (31, x31), (8, x8), (7, x7), (6, x6), (5, x5), (2, x2), (1, x1)] _
           refine rThen ?_
           refine cLess [32, 31, 8, 7, 6, 5, 2, 1] ?_
           refine xR hE [1, 2, 5, 6, 7, 31, 32] rfl (dom_Up_r8_ok F _ _ _ _ _ _ _ _ _) ?_
           intro x1 x2 x5 x6 x7 x31 x32
           show OKq _ _ _ [(32, x32), (31, x31), (7, x7), (6, x6), (5, x5), (2, x2), (1, x1)] _
           refine xBlockN ?_
           refine rThen ?_
           refine cLess [32, 31, 7, 6, 5, 2, 1] ?_
           refine xR hE [1, 2, 5, 6, 7, 31, 32] rfl (dom_Up_r9_ok F _ _ _ _ _ _ _ _) ?_
           intro x1 x2 x5 x6 x7 x31 x32
           show OKq _ _ _ [(32, x32), (31, x31), (7, x7), (6, x6), (5, x5), (2, x2), (1, x1)] _
           exact qLess [32, 31, 7, 6, 5, 2, 1] (hI10 k10 x1 x2 x5 x6 x7 x31 x32)
         · refine rExit ?_
           refine xThenX ?_
           refine xThenX ?_
           refine rOut ?_
           exact qLess [7, 6, 5, 2, 1] (hj9 x1 x2 x5 x6 x7)
   · exact rFail


/-! ### haruspex/front.Of -/

def front_Of_env (F : Nat) : Env := envOf [(21, dom_Up_m F), (23, dom_Above_m F), (27, bitset_Set_Add_m F)]

noncomputable def front_Of_R (F : Nat) := rK Tryd.prog TrydG (front_Of_env F) Tryd.f10
noncomputable def front_Of_D (F : Nat) := dK Tryd.prog TrydG (front_Of_env F) Tryd.f10

def front_Of_r24 (F : Nat) (x6 : Value) (K : Value → M Value) : M Value :=
  K x6

theorem front_Of_r24_ok (F : Nat) (x6 : Value) (K : Value → M Value) : front_Of_r24 F x6 K = front_Of_R F 24 [(6, x6)] [4] K := by kernel_rfl

def front_Of_k0 (F : Nat) (x6 : Value) : M Value :=
  front_Of_r24 F x6 (fun x4 => ret x4)

def front_Of_r23 (F : Nat) (x5 x6 x33 x34 x35 : Value) (K : Value → Value → Value → Value → Value → M Value) : M Value :=
  bnd (opBin .add x35 (.int .i64 (1))) fun v79 => K x5 x6 x33 x34 v79

theorem front_Of_r23_ok (F : Nat) (x5 x6 x33 x34 x35 : Value) (K : Value → Value → Value → Value → Value → M Value) : front_Of_r23 F x5 x6 x33 x34 x35 K = front_Of_R F 23 [(35, x35), (34, x34), (33, x33), (6, x6), (5, x5)] [5, 6, 33, 34, 35] K := by kernel_rfl

def front_Of_k2 (F : Nat) (A1 : Value → Value → Value → Value → Value → M Value) (x5 x6 x33 x34 x35 : Value) : M Value :=
  front_Of_r23 F x5 x6 x33 x34 x35 (fun x5 x6 x33 x34 x35 => A1 x5 x6 x33 x34 x35)

def front_Of_r22 (F : Nat) (x5 x6 x8 x33 x34 x35 x45 x46 x47 : Value) (K : Value → Value → Value → Value → Value → Value → Value → Value → Value → M Value) : M Value :=
  bnd (opBin .add x47 (.int .i64 (1))) fun v78 => K x5 x6 x8 x33 x34 x35 x45 x46 v78

theorem front_Of_r22_ok (F : Nat) (x5 x6 x8 x33 x34 x35 x45 x46 x47 : Value) (K : Value → Value → Value → Value → Value → Value → Value → Value → Value → M Value) : front_Of_r22 F x5 x6 x8 x33 x34 x35 x45 x46 x47 K = front_Of_R F 22 [(47, x47), (46, x46), (45, x45), (35, x35), (34, x34), (33, x33), (8, x8), (6, x6), (5, x5)] [5, 6, 8, 33, 34, 35, 45, 46, 47] K := by kernel_rfl

def front_Of_k4 (F : Nat) (A3 : Value → Value → Value → Value → Value → Value → Value → Value → Value → M Value) (x5 x6 x8 x33 x34 x35 x45 x46 x47 : Value) : M Value :=
  front_Of_r22 F x5 x6 x8 x33 x34 x35 x45 x46 x47 (fun x5 x6 x8 x33 x34 x35 x45 x46 x47 => A3 x5 x6 x8 x33 x34 x35 x45 x46 x47)

def front_Of_r18 (F : Nat) (x5 x6 x8 x11 x12 x33 x34 x35 x45 x46 x47 : Value) (K : Value → Value → Value → Value → Value → Value → Value → Value → Value → Value → Value → M Value) : M Value :=
  bnd (opIndexAddr 1 x5 x12) fun v54 => bnd (opLoad v54) fun v55 => K x5 x6 x8 x11 v55 x33 x34 x35 x45 x46 x47

theorem front_Of_r18_ok (F : Nat) (x5 x6 x8 x11 x12 x33 x34 x35 x45 x46 x47 : Value) (K : Value → Value → Value → Value → Value → Value → Value → Value → Value → Value → Value → M Value) : front_Of_r18 F x5 x6 x8 x11 x12 x33 x34 x35 x45 x46 x47 K = front_Of_R F 18 [(47, x47), (46, x46), (45, x45), (35, x35), (34, x34), (33, x33), (12, x12), (11, x11), (8, x8), (6, x6), (5, x5)] [5, 6, 8, 11, 12, 33, 34, 35, 45, 46, 47] K := by kernel_rfl

def front_Of_r21 (F : Nat) (x5 x6 x8 x11 x12 x33 x34 x35 x45 x46 x47 : Value) (K : Value → Value → Value → Value → Value → Value → Value → Value → Value → Value → Value → Value → M Value) : M Value :=
  bnd (opIndexAddr 1 x5 x12) fun v74 => bnd (opLoad v74) fun v75 => bnd (opBin .eql v75 x12) fun v77 => K x5 x6 x8 x11 x12 x33 x34 x35 x45 x46 x47 v77

theorem front_Of_r21_ok (F : Nat) (x5 x6 x8 x11 x12 x33 x34 x35 x45 x46 x47 : Value) (K : Value → Value → Value → Value → Value → Value → Value → Value → Value → Value → Value → Value → M Value) : front_Of_r21 F x5 x6 x8 x11 x12 x33 x34 x35 x45 x46 x47 K = front_Of_R F 21 [(47, x47), (46, x46), (45, x45), (35, x35), (34, x34), (33, x33), (12, x12), (11, x11), (8, x8), (6, x6), (5, x5)] [5, 6, 8, 11, 12, 33, 34, 35, 45, 46, 47, 77] K := by kernel_rfl

def front_Of_k6 (F : Nat) (E5_6 : Value → Value → Value → Value → Value → Value → Value → Value → Value → M Value) (A5 : Value → Value → Value → Value → Value → Value → Value → Value → Value → Value → Value → M Value) (x5 x6 x8 x11 x12 x33 x34 x35 x45 x46 x47 : Value) : M Value :=
  front_Of_r21 F x5 x6 x8 x11 x12 x33 x34 x35 x45 x46 x47 (fun x5 x6 x8 x11 x12 x33 x34 x35 x45 x46 x47 x77 => onB x77 (E5_6 x5 x6 x8 x33 x34 x35 x45 x46 x47) (front_Of_r18 F x5 x6 x8 x11 x12 x33 x34 x35 x45 x46 x47 (fun x5 x6 x8 x11 x12 x33 x34 x35 x45 x46 x47 => A5 x5 x6 x8 x11 x12 x33 x34 x35 x45 x46 x47)))

def front_Of_r20 (F : Nat) (x5 x6 x8 x11 x12 x33 x34 x35 x45 x46 x47 : Value) (K : Value → Value → Value → Value → Value → Value → Value → Value → Value → Value → Value → M Value) : M Value :=
  bnd (opIndexAddr 1 x6 x12) fun v68 => bnd (opLoad v68) fun v69 => bnd (bitset_Set_Add F v69 x11) fun v71 => K x5 x6 x8 x11 x12 x33 x34 x35 x45 x46 x47

theorem front_Of_r20_ok (F : Nat) (x5 x6 x8 x11 x12 x33 x34 x35 x45 x46 x47 : Value) (K : Value → Value → Value → Value → Value → Value → Value → Value → Value → Value → Value → M Value) : front_Of_r20 F x5 x6 x8 x11 x12 x33 x34 x35 x45 x46 x47 K = front_Of_R F 20 [(47, x47), (46, x46), (45, x45), (35, x35), (34, x34), (33, x33), (12, x12), (11, x11), (8, x8), (6, x6), (5, x5)] [5, 6, 8, 11, 12, 33, 34, 35, 45, 46, 47] K := by kernel_rfl

def front_Of_r19 (F : Nat) (x5 x6 x8 x11 x12 x33 x34 x35 x45 x46 x47 : Value) (K : Value → Value → Value → Value → Value → Value → Value → Value → Value → Value → Value → Value → M Value) : M Value :=
  bnd (opBin .eql x12 x11) fun v58 => onB v58 (K x5 x6 x8 x11 x12 x33 x34 x35 x45 x46 x47 (.bool true)) (bnd (dom_Above F x5 x12 x11) fun v63 => bnd (opNot v63) fun v64 => K x5 x6 x8 x11 x12 x33 x34 x35 x45 x46 x47 v64)

theorem front_Of_r19_ok (F : Nat) (x5 x6 x8 x11 x12 x33 x34 x35 x45 x46 x47 : Value) (K : Value → Value → Value → Value → Value → Value → Value → Value → Value → Value → Value → Value → M Value) : front_Of_r19 F x5 x6 x8 x11 x12 x33 x34 x35 x45 x46 x47 K = front_Of_R F 19 [(47, x47), (46, x46), (45, x45), (35, x35), (34, x34), (33, x33), (12, x12), (11, x11), (8, x8), (6, x6), (5, x5)] [5, 6, 8, 11, 12, 33, 34, 35, 45, 46, 47, 65] K := by kernel_rfl

def front_Of_b5 (F : Nat) (E5_6 : Value → Value → Value → Value → Value → Value → Value → Value → Value → M Value) (A5 : Value → Value → Value → Value → Value → Value → Value → Value → Value → Value → Value → M Value) (x5 x6 x8 x11 x12 x33 x34 x35 x45 x46 x47 : Value) : M Value :=
  front_Of_r19 F x5 x6 x8 x11 x12 x33 x34 x35 x45 x46 x47 (fun x5 x6 x8 x11 x12 x33 x34 x35 x45 x46 x47 x65 => onB x65 (front_Of_r20 F x5 x6 x8 x11 x12 x33 x34 x35 x45 x46 x47 (fun x5 x6 x8 x11 x12 x33 x34 x35 x45 x46 x47 => front_Of_k6 F E5_6 A5 x5 x6 x8 x11 x12 x33 x34 x35 x45 x46 x47)) (front_Of_k6 F E5_6 A5 x5 x6 x8 x11 x12 x33 x34 x35 x45 x46 x47))

def front_Of_l5 (F : Nat) (E5_6 : Value → Value → Value → Value → Value → Value → Value → Value → Value → M Value) : Nat → Value → Value → Value → Value → Value → Value → Value → Value → Value → Value → Value → M Value
  | 0, _, _, _, _, _, _, _, _, _, _, _ => fail
  | k5 + 1, x5, x6, x8, x11, x12, x33, x34, x35, x45, x46, x47 => front_Of_b5 F E5_6 (front_Of_l5 F E5_6 k5) x5 x6 x8 x11 x12 x33 x34 x35 x45 x46 x47

theorem front_Of_l5_s (F : Nat) (E5_6 : Value → Value → Value → Value → Value → Value → Value → Value → Value → M Value) (k5 : Nat) (x5 x6 x8 x11 x12 x33 x34 x35 x45 x46 x47 : Value) : front_Of_l5 F E5_6 (k5 + 1) x5 x6 x8 x11 x12 x33 x34 x35 x45 x46 x47 = front_Of_b5 F E5_6 (front_Of_l5 F E5_6 k5) x5 x6 x8 x11 x12 x33 x34 x35 x45 x46 x47 := rfl

def front_Of_r17 (F : Nat) (x5 x6 x8 x11 x33 x34 x35 x45 x46 x47 : Value) (K : Value → Value → Value → Value → Value → Value → Value → Value → Value → Value → Value → M Value) : M Value :=
  K x5 x6 x8 x11 x8 x33 x34 x35 x45 x46 x47

theorem front_Of_r17_ok (F : Nat) (x5 x6 x8 x11 x33 x34 x35 x45 x46 x47 : Value) (K : Value → Value → Value → Value → Value → Value → Value → Value → Value → Value → Value → M Value) : front_Of_r17 F x5 x6 x8 x11 x33 x34 x35 x45 x46 x47 K = front_Of_R F 17 [(47, x47), (46, x46), (45, x45), (35, x35), (34, x34), (33, x33), (11, x11), (8, x8), (6, x6), (5, x5)] [5, 6, 8, 11, 12, 33, 34, 35, 45, 46, 47] K := by kernel_rfl

def front_Of_r16 (F : Nat) (x5 x6 x8 x33 x34 x35 x45 x46 x47 : Value) (K : Value → Value → Value → Value → Value → Value → Value → Value → Value → Value → M Value) : M Value :=
  bnd (opIndexAddr 1 x45 x47) fun v49 => bnd (opLoad v49) fun v50 => K x5 x6 x8 v50 x33 x34 x35 x45 x46 x47

theorem front_Of_r16_ok (F : Nat) (x5 x6 x8 x33 x34 x35 x45 x46 x47 : Value) (K : Value → Value → Value → Value → Value → Value → Value → Value → Value → Value → M Value) : front_Of_r16 F x5 x6 x8 x33 x34 x35 x45 x46 x47 K = front_Of_R F 16 [(47, x47), (46, x46), (45, x45), (35, x35), (34, x34), (33, x33), (8, x8), (6, x6), (5, x5)] [5, 6, 8, 11, 33, 34, 35, 45, 46, 47] K := by kernel_rfl

def front_Of_r15 (F : Nat) (x5 x6 x8 x33 x34 x35 x45 x46 x47 : Value) (K : Value → Value → Value → Value → Value → Value → Value → Value → Value → Value → M Value) : M Value :=
  bnd (opBin .lss x47 x46) fun v48 => K x5 x6 x8 x33 x34 x35 x45 x46 x47 v48

theorem front_Of_r15_ok (F : Nat) (x5 x6 x8 x33 x34 x35 x45 x46 x47 : Value) (K : Value → Value → Value → Value → Value → Value → Value → Value → Value → Value → M Value) : front_Of_r15 F x5 x6 x8 x33 x34 x35 x45 x46 x47 K = front_Of_R F 15 [(47, x47), (46, x46), (45, x45), (35, x35), (34, x34), (33, x33), (8, x8), (6, x6), (5, x5)] [5, 6, 8, 33, 34, 35, 45, 46, 47, 48] K := by kernel_rfl

def front_Of_b3 (F : Nat) (E3_4 : Value → Value → Value → Value → Value → M Value) (A3 : Value → Value → Value → Value → Value → Value → Value → Value → Value → M Value) (x5 x6 x8 x33 x34 x35 x45 x46 x47 : Value) : M Value :=
  front_Of_r15 F x5 x6 x8 x33 x34 x35 x45 x46 x47 (fun x5 x6 x8 x33 x34 x35 x45 x46 x47 x48 => onB x48 (front_Of_r16 F x5 x6 x8 x33 x34 x35 x45 x46 x47 (fun x5 x6 x8 x11 x33 x34 x35 x45 x46 x47 => front_Of_r17 F x5 x6 x8 x11 x33 x34 x35 x45 x46 x47 (fun x5 x6 x8 x11 x12 x33 x34 x35 x45 x46 x47 => front_Of_l5 F (fun x5 x6 x8 x33 x34 x35 x45 x46 x47 => front_Of_k4 F A3 x5 x6 x8 x33 x34 x35 x45 x46 x47) F x5 x6 x8 x11 x12 x33 x34 x35 x45 x46 x47))) (E3_4 x5 x6 x33 x34 x35))

def front_Of_l3 (F : Nat) (E3_4 : Value → Value → Value → Value → Value → M Value) : Nat → Value → Value → Value → Value → Value → Value → Value → Value → Value → M Value
  | 0, _, _, _, _, _, _, _, _, _ => fail
  | k3 + 1, x5, x6, x8, x33, x34, x35, x45, x46, x47 => front_Of_b3 F E3_4 (front_Of_l3 F E3_4 k3) x5 x6 x8 x33 x34 x35 x45 x46 x47

theorem front_Of_l3_s (F : Nat) (E3_4 : Value → Value → Value → Value → Value → M Value) (k3 : Nat) (x5 x6 x8 x33 x34 x35 x45 x46 x47 : Value) : front_Of_l3 F E3_4 (k3 + 1) x5 x6 x8 x33 x34 x35 x45 x46 x47 = front_Of_b3 F E3_4 (front_Of_l3 F E3_4 k3) x5 x6 x8 x33 x34 x35 x45 x46 x47 := rfl

def front_Of_r14 (F : Nat) (x5 x6 x8 x9 x33 x34 x35 : Value) (K : Value → Value → Value → Value → Value → Value → Value → Value → Value → M Value) : M Value :=
  bnd (opLen x9) fun v46 => K x5 x6 x8 x33 x34 x35 x9 v46 (.int .i64 (0))

theorem front_Of_r14_ok (F : Nat) (x5 x6 x8 x9 x33 x34 x35 : Value) (K : Value → Value → Value → Value → Value → Value → Value → Value → Value → M Value) : front_Of_r14 F x5 x6 x8 x9 x33 x34 x35 K = front_Of_R F 14 [(35, x35), (34, x34), (33, x33), (9, x9), (8, x8), (6, x6), (5, x5)] [5, 6, 8, 33, 34, 35, 45, 46, 47] K := by kernel_rfl

def front_Of_r13 (F : Nat) (x5 x6 x8 x9 x33 x34 x35 : Value) (K : Value → Value → Value → Value → Value → Value → Value → Value → M Value) : M Value :=
  bnd (opIndexAddr 1 x5 x8) fun v42 => bnd (opLoad v42) fun v43 => bnd (opBin .lss v43 (.int .i64 (0))) fun v44 => K x5 x6 x8 x9 x33 x34 x35 v44

theorem front_Of_r13_ok (F : Nat) (x5 x6 x8 x9 x33 x34 x35 : Value) (K : Value → Value → Value → Value → Value → Value → Value → Value → M Value) : front_Of_r13 F x5 x6 x8 x9 x33 x34 x35 K = front_Of_R F 13 [(35, x35), (34, x34), (33, x33), (9, x9), (8, x8), (6, x6), (5, x5)] [5, 6, 8, 9, 33, 34, 35, 44] K := by kernel_rfl

def front_Of_r12 (F : Nat) (x5 x6 x33 x34 x35 : Value) (K : Value → Value → Value → Value → Value → Value → Value → M Value) : M Value :=
  bnd (opIndexAddr 1 x33 x35) fun v38 => bnd (opLoad v38) fun v39 => K x5 x6 x35 v39 x33 x34 x35

theorem front_Of_r12_ok (F : Nat) (x5 x6 x33 x34 x35 : Value) (K : Value → Value → Value → Value → Value → Value → Value → M Value) : front_Of_r12 F x5 x6 x33 x34 x35 K = front_Of_R F 12 [(35, x35), (34, x34), (33, x33), (6, x6), (5, x5)] [5, 6, 8, 9, 33, 34, 35] K := by kernel_rfl

def front_Of_r11 (F : Nat) (x5 x6 x33 x34 x35 : Value) (K : Value → Value → Value → Value → Value → Value → M Value) : M Value :=
  bnd (opBin .lss x35 x34) fun v36 => K x5 x6 x33 x34 x35 v36

theorem front_Of_r11_ok (F : Nat) (x5 x6 x33 x34 x35 : Value) (K : Value → Value → Value → Value → Value → Value → M Value) : front_Of_r11 F x5 x6 x33 x34 x35 K = front_Of_R F 11 [(35, x35), (34, x34), (33, x33), (6, x6), (5, x5)] [5, 6, 33, 34, 35, 36] K := by kernel_rfl

def front_Of_b1 (F : Nat) (E1_2 : Value → M Value) (A1 : Value → Value → Value → Value → Value → M Value) (x5 x6 x33 x34 x35 : Value) : M Value :=
  front_Of_r11 F x5 x6 x33 x34 x35 (fun x5 x6 x33 x34 x35 x36 => onB x36 (front_Of_r12 F x5 x6 x33 x34 x35 (fun x5 x6 x8 x9 x33 x34 x35 => front_Of_r13 F x5 x6 x8 x9 x33 x34 x35 (fun x5 x6 x8 x9 x33 x34 x35 x44 => onB x44 (front_Of_k2 F A1 x5 x6 x33 x34 x35) (front_Of_r14 F x5 x6 x8 x9 x33 x34 x35 (fun x5 x6 x8 x33 x34 x35 x45 x46 x47 => front_Of_l3 F (fun x5 x6 x33 x34 x35 => front_Of_k2 F A1 x5 x6 x33 x34 x35) F x5 x6 x8 x33 x34 x35 x45 x46 x47))))) (E1_2 x6))

def front_Of_l1 (F : Nat) (E1_2 : Value → M Value) : Nat → Value → Value → Value → Value → Value → M Value
  | 0, _, _, _, _, _ => fail
  | k1 + 1, x5, x6, x33, x34, x35 => front_Of_b1 F E1_2 (front_Of_l1 F E1_2 k1) x5 x6 x33 x34 x35

theorem front_Of_l1_s (F : Nat) (E1_2 : Value → M Value) (k1 : Nat) (x5 x6 x33 x34 x35 : Value) : front_Of_l1 F E1_2 (k1 + 1) x5 x6 x33 x34 x35 = front_Of_b1 F E1_2 (front_Of_l1 F E1_2 k1) x5 x6 x33 x34 x35 := rfl

def front_Of_r10 (F : Nat) (x2 x5 x6 : Value) (K : Value → Value → Value → Value → Value → M Value) : M Value :=
  bnd (opFieldAddr 1 x2) fun v32 => bnd (opLoad v32) fun v33 => bnd (opLen v33) fun v34 => K x5 x6 v33 v34 (.int .i64 (0))

theorem front_Of_r10_ok (F : Nat) (x2 x5 x6 : Value) (K : Value → Value → Value → Value → Value → M Value) : front_Of_r10 F x2 x5 x6 K = front_Of_R F 10 [(6, x6), (5, x5), (2, x2)] [5, 6, 33, 34, 35] K := by kernel_rfl

def front_Of_k7 (F : Nat) (x2 x5 x6 : Value) : M Value :=
  front_Of_r10 F x2 x5 x6 (fun x5 x6 x33 x34 x35 => front_Of_l1 F (fun x6 => front_Of_k0 F x6) F x5 x6 x33 x34 x35)

def front_Of_r9 (F : Nat) (x2 x5 x6 x22 x23 : Value) (K : Value → Value → Value → Value → Value → M Value) : M Value :=
  bnd (opBin .add x23 (.int .i64 (1))) fun v31 => K x2 x5 x6 x22 v31

theorem front_Of_r9_ok (F : Nat) (x2 x5 x6 x22 x23 : Value) (K : Value → Value → Value → Value → Value → M Value) : front_Of_r9 F x2 x5 x6 x22 x23 K = front_Of_R F 9 [(23, x23), (22, x22), (6, x6), (5, x5), (2, x2)] [2, 5, 6, 22, 23] K := by kernel_rfl

def front_Of_r8 (F : Nat) (x2 x5 x6 x7 x22 x23 : Value) (K : Value → Value → Value → Value → Value → M Value) : M Value :=
  bnd (opBuild [(.slice none 0 0)] []) fun v28 => bnd (opBoxN v28) fun v29 => bnd (opIndexAddr 1 x6 x7) fun v30 => bnd (opStore v30 v29) fun _ => K x2 x5 x6 x22 x23

theorem front_Of_r8_ok (F : Nat) (x2 x5 x6 x7 x22 x23 : Value) (K : Value → Value → Value → Value → Value → M Value) : front_Of_r8 F x2 x5 x6 x7 x22 x23 K = front_Of_R F 8 [(23, x23), (22, x22), (7, x7), (6, x6), (5, x5), (2, x2)] [2, 5, 6, 22, 23] K := by kernel_rfl

def front_Of_r7 (F : Nat) (x2 x5 x6 x22 x23 : Value) (K : Value → Value → Value → Value → Value → Value → M Value) : M Value :=
  K x2 x5 x6 x23 x22 x23

theorem front_Of_r7_ok (F : Nat) (x2 x5 x6 x22 x23 : Value) (K : Value → Value → Value → Value → Value → Value → M Value) : front_Of_r7 F x2 x5 x6 x22 x23 K = front_Of_R F 7 [(23, x23), (22, x22), (6, x6), (5, x5), (2, x2)] [2, 5, 6, 7, 22, 23] K := by kernel_rfl

def front_Of_r6 (F : Nat) (x2 x5 x6 x22 x23 : Value) (K : Value → Value → Value → Value → Value → Value → M Value) : M Value :=
  bnd (opBin .lss x23 x22) fun v24 => K x2 x5 x6 x22 x23 v24

theorem front_Of_r6_ok (F : Nat) (x2 x5 x6 x22 x23 : Value) (K : Value → Value → Value → Value → Value → Value → M Value) : front_Of_r6 F x2 x5 x6 x22 x23 K = front_Of_R F 6 [(23, x23), (22, x22), (6, x6), (5, x5), (2, x2)] [2, 5, 6, 22, 23, 24] K := by kernel_rfl

def front_Of_b8 (F : Nat) (E8_0 : Value → Value → Value → M Value) (A8 : Value → Value → Value → Value → Value → M Value) (x2 x5 x6 x22 x23 : Value) : M Value :=
  front_Of_r6 F x2 x5 x6 x22 x23 (fun x2 x5 x6 x22 x23 x24 => onB x24 (front_Of_r7 F x2 x5 x6 x22 x23 (fun x2 x5 x6 x7 x22 x23 => front_Of_r8 F x2 x5 x6 x7 x22 x23 (fun x2 x5 x6 x22 x23 => front_Of_r9 F x2 x5 x6 x22 x23 (fun x2 x5 x6 x22 x23 => A8 x2 x5 x6 x22 x23)))) (E8_0 x2 x5 x6))

def front_Of_l8 (F : Nat) (E8_0 : Value → Value → Value → M Value) : Nat → Value → Value → Value → Value → Value → M Value
  | 0, _, _, _, _, _ => fail
  | k8 + 1, x2, x5, x6, x22, x23 => front_Of_b8 F E8_0 (front_Of_l8 F E8_0 k8) x2 x5 x6 x22 x23

theorem front_Of_l8_s (F : Nat) (E8_0 : Value → Value → Value → M Value) (k8 : Nat) (x2 x5 x6 x22 x23 : Value) : front_Of_l8 F E8_0 (k8 + 1) x2 x5 x6 x22 x23 = front_Of_b8 F E8_0 (front_Of_l8 F E8_0 k8) x2 x5 x6 x22 x23 := rfl

def front_Of_r5 (F : Nat) (x2 x5 x6 : Value) (K : Value → Value → Value → Value → Value → M Value) : M Value :=
  bnd (opLen x6) fun v22 => K x2 x5 x6 v22 (.int .i64 (0))

theorem front_Of_r5_ok (F : Nat) (x2 x5 x6 : Value) (K : Value → Value → Value → Value → Value → M Value) : front_Of_r5 F x2 x5 x6 K = front_Of_R F 5 [(6, x6), (5, x5), (2, x2)] [2, 5, 6, 22, 23] K := by kernel_rfl

def front_Of_r4 (F : Nat) (x2 x5 : Value) (K : Value → Value → Value → M Value) : M Value :=
  bnd (opFieldAddr 0 x2) fun v18 => bnd (opLoad v18) fun v19 => bnd (opMake 8 [(.pointer none)] v19 v19) fun v20 => K x2 x5 v20

theorem front_Of_r4_ok (F : Nat) (x2 x5 : Value) (K : Value → Value → Value → M Value) : front_Of_r4 F x2 x5 K = front_Of_R F 4 [(5, x5), (2, x2)] [2, 5, 6] K := by kernel_rfl

def front_Of_r3 (F : Nat) (K : Value → M Value) : M Value :=
  K (.slice none 0 0)

theorem front_Of_r3_ok (F : Nat) (K : Value → M Value) : front_Of_r3 F K = front_Of_R F 3 [] [4] K := by kernel_rfl

def front_Of_r2 (F : Nat) (x2 x5 : Value) (K : Value → Value → Value → M Value) : M Value :=
  bnd (opEq eqSl false x5 (.slice none 0 0)) fun v17 => K x2 x5 v17

theorem front_Of_r2_ok (F : Nat) (x2 x5 : Value) (K : Value → Value → Value → M Value) : front_Of_r2 F x2 x5 K = front_Of_R F 2 [(5, x5), (2, x2)] [2, 5, 17] K := by kernel_rfl

def front_Of_r1 (F : Nat) (x1 x2 : Value) (K : Value → Value → M Value) : M Value :=
  bnd (opLoadN 2 x2) fun v13 => bnd (dom_Up F v13 x1) fun v15 => K x2 v15

theorem front_Of_r1_ok (F : Nat) (x1 x2 : Value) (K : Value → Value → M Value) : front_Of_r1 F x1 x2 K = front_Of_R F 1 [(2, x2), (1, x1)] [2, 5] K := by kernel_rfl

def front_Of_r0 (F : Nat) (x0 x1 : Value) (K : Value → Value → M Value) : M Value :=
  bnd (opBoxN x0) fun v2 => K x1 v2

theorem front_Of_r0_ok (F : Nat) (x0 x1 : Value) (K : Value → Value → M Value) : front_Of_r0 F x0 x1 K = front_Of_R F 0 [(1, x1), (0, x0)] [1, 2] K := by kernel_rfl

def front_Of (F : Nat) (x0 x1 : Value) : M Value :=
  front_Of_r0 F x0 x1 (fun x1 x2 => front_Of_r1 F x1 x2 (fun x2 x5 => front_Of_r2 F x2 x5 (fun x2 x5 x17 => onB x17 (front_Of_r3 F (fun x4 => ret x4)) (front_Of_r4 F x2 x5 (fun x2 x5 x6 => front_Of_r5 F x2 x5 x6 (fun x2 x5 x6 x22 x23 => front_Of_l8 F (fun x2 x5 x6 => front_Of_k7 F x2 x5 x6) F x2 x5 x6 x22 x23))))))

def front_Of_m (F : Nat) : List Value → M Value
  | [x0, x1] => front_Of F x0 x1
  | _ => fail

theorem front_Of_body : Tryd.f10.body = some (.seq (.region 0 (opsOf Tryd.f10 0) false) (.seq (.region 1 (opsOf Tryd.f10 1) false) (.seq (.seq (.region 2 (opsOf Tryd.f10 2) false) (.cond (.tmp 17) (.seq (.region 3 (opsOf Tryd.f10 3) false) .ret) .skip)) (.seq (.region 4 (opsOf Tryd.f10 4) false) (.seq (.seq (.region 5 (opsOf Tryd.f10 5) false) (.block 0 (.loop (.seq (.region 6 (opsOf Tryd.f10 6) false) (.seq (.cond (.tmp 24) .skip (.exit 0)) (.seq (.block 1 (.seq (.region 7 (opsOf Tryd.f10 7) false) (.region 8 (opsOf Tryd.f10 8) false))) (.region 9 (opsOf Tryd.f10 9) false))))))) (.seq (.seq (.region 10 (opsOf Tryd.f10 10) false) (.block 2 (.loop (.seq (.region 11 (opsOf Tryd.f10 11) false) (.seq (.cond (.tmp 36) .skip (.exit 2)) (.seq (.block 3 (.seq (.region 12 (opsOf Tryd.f10 12) false) (.seq (.seq (.region 13 (opsOf Tryd.f10 13) false) (.cond (.tmp 44) (.exit 3) .skip)) (.seq (.region 14 (opsOf Tryd.f10 14) false) (.block 4 (.loop (.seq (.region 15 (opsOf Tryd.f10 15) false) (.seq (.cond (.tmp 48) .skip (.exit 4)) (.seq (.block 5 (.seq (.region 16 (opsOf Tryd.f10 16) false) (.seq (.region 17 (opsOf Tryd.f10 17) false) (.block 6 (.loop (.seq (.block 7 (.seq (.seq (.region 19 (opsOf Tryd.f10 19) false) (.cond (.tmp 65) (.region 20 (opsOf Tryd.f10 20) false) .skip)) (.seq (.region 21 (opsOf Tryd.f10 21) false) (.cond (.tmp 77) (.exit 6) .skip)))) (.region 18 (opsOf Tryd.f10 18) false))))))) (.region 22 (opsOf Tryd.f10 22) false)))))))))) (.region 23 (opsOf Tryd.f10 23) false))))))) (.seq (.region 24 (opsOf Tryd.f10 24) false) .ret))))))) := by kernel_rfl

theorem front_Of_ok (F : Nat) : Sim Tryd.prog TrydG 10 (front_Of_m F) := by
 have hE : EnvOK Tryd.prog TrydG (front_Of_env F) := (EnvOK.cons (dom_Up_ok F) (EnvOK.cons (dom_Above_ok F) (EnvOK.cons (bitset_Set_Add_ok F) EnvOK.nil)))
 refine Sim.of_body (E := front_Of_env F) Tryd.func10 front_Of_body Tryd.call10 ?_ ?_
 · intro args hl; unfold front_Of_m; split
   · exact absurd hl (Nat.not_lt.2 (Nat.le_of_ble_eq_true rfl))
   · rfl
 · intro args ρ h w z; unfold front_Of_m; split
   · rename_i x0 x1; show OKc _ _ [(0, x0), (1, x1)] _ _
     refine rSeq ?_
     refine cLess [1, 0] ?_
     refine xR hE [1, 2] rfl (front_Of_r0_ok F _ _ _) ?_
     intro x1 x2
     show OKq _ _ _ [(2, x2), (1, x1)] _
     refine rThen ?_
     refine rSeq ?_
     refine cLess [2, 1] ?_
     refine xR hE [2, 5] rfl (front_Of_r1_ok F _ _ _) ?_
     intro x2 x5
     show OKq _ _ _ [(5, x5), (2, x2)] _
     refine rThen ?_
     refine rSeq ?_
     refine rSeq ?_
     refine cLess [5, 2] ?_
     refine xR hE [2, 5, 17] rfl (front_Of_r2_ok F _ _ _) ?_
     intro x2 x5 x17
     show OKq _ _ _ [(17, x17), (5, x5), (2, x2)] _
     refine rThen ?_
     refine xCond rfl rfl ?_ ?_
     · refine rSeq ?_
       refine cLess [] ?_
       refine xR hE [4] rfl (front_Of_r3_ok F _) ?_
       intro x4
       show OKq _ _ _ [(4, x4)] _
       refine rThen ?_
       refine rRet ?_
       refine xThenR ?_
       exact rDone (.inr rfl) rfl
     · refine rSkip ?_
       refine rThen ?_
       refine rSeq ?_
       refine cLess [5, 2] ?_
       refine xR hE [2, 5, 6] rfl (front_Of_r4_ok F _ _ _) ?_
       intro x2 x5 x6
       show OKq _ _ _ [(6, x6), (5, x5), (2, x2)] _
       refine rThen ?_
       refine xSeq [2, 5, 6] (front_Of_k7 F ) ?_ fun hj7 => ?_
       · intro x2 x5 x6
         show OKc _ _ [(6, x6), (5, x5), (2, x2)] _ _
         refine xSeq [6] (front_Of_k0 F ) ?_ fun hj0 => ?_
         · intro x6
           show OKc _ _ [(6, x6)] _ _
           refine rSeq ?_
           refine cLess [6] ?_
           refine xR hE [4] rfl (front_Of_r24_ok F _ _) ?_
           intro x4
           show OKq _ _ _ [(4, x4)] _
           refine rThen ?_
           refine rRet ?_
           exact rDone (.inr rfl) rfl
         · refine rSeq ?_
           refine cLess [6, 5, 2] ?_
           refine xR hE [5, 6, 33, 34, 35] rfl (front_Of_r10_ok F _ _ _ _) ?_
           intro x5 x6 x33 x34 x35
           show OKq _ _ _ [(35, x35), (34, x34), (33, x33), (6, x6), (5, x5)] _
           refine rThen ?_
           refine rBlock ?_
           refine cLess [35, 34, 33, 6, 5] ?_
           refine xLoopAt [5, 6, 33, 34, 35] [] (fun k1 => front_Of_l1 F (fun x6 => front_Of_k0 F x6) k1) F [x5, x6, x33, x34, x35] rfl rfl (fun _ _ _ _ _ => rfl) fun I hI1 k1 => ?_
           intro x5 x6 x33 x34 x35
           show OKc _ _ [(35, x35), (34, x34), (33, x33), (6, x6), (5, x5)] _ _
           refine cAs (front_Of_l1_s F _ _ _ _ _ _ _) ?_
           refine rSeq ?_
           refine cLess [35, 34, 33, 6, 5] ?_
           refine xR hE [5, 6, 33, 34, 35, 36] rfl (front_Of_r11_ok F _ _ _ _ _ _) ?_
           intro x5 x6 x33 x34 x35 x36
           show OKq _ _ _ [(36, x36), (35, x35), (34, x34), (33, x33), (6, x6), (5, x5)] _
           refine rThen ?_
           refine rSeq ?_
           refine xCond rfl rfl ?_ ?_
           · refine rSkip ?_
             refine rThen ?_
             refine xSeq [5, 6, 33, 34, 35] (front_Of_k2 F (front_Of_l1 F (fun x6 => front_Of_k0 F x6) k1) ) ?_ fun hj2 => ?_
             · intro x5 x6 x33 x34 x35
               show OKc _ _ [(35, x35), (34, x34), (33, x33), (6, x6), (5, x5)] _ _
               refine cLess [35, 34, 33, 6, 5] ?_
               refine xR hE [5, 6, 33, 34, 35] rfl (front_Of_r23_ok F _ _ _ _ _ _) ?_
               intro x5 x6 x33 x34 x35
               show OKq _ _ _ [(35, x35), (34, x34), (33, x33), (6, x6), (5, x5)] _
               exact qLess [35, 34, 33, 6, 5] (hI1 k1 x5 x6 x33 x34 x35)
             · refine rBlock ?_
               refine rSeq ?_
               refine cLess [35, 34, 33, 6, 5] ?_
               refine xR hE [5, 6, 8, 9, 33, 34, 35] rfl (front_Of_r12_ok F _ _ _ _ _ _) ?_
               intro x5 x6 x8 x9 x33 x34 x35
               show OKq _ _ _ [(35, x35), (34, x34), (33, x33), (9, x9), (8, x8), (6, x6), (5, x5)] _
               refine rThen ?_
               refine rSeq ?_
               refine rSeq ?_
               refine cLess [35, 34, 33, 9, 8, 6, 5] ?_
               refine xR hE [5, 6, 8, 9, 33, 34, 35, 44] rfl (front_Of_r13_ok F _ _ _ _ _ _ _ _) ?_
               intro x5 x6 x8 x9 x33 x34 x35 x44
               show OKq _ _ _ [(44, x44), (35, x35), (34, x34), (33, x33), (9, x9), (8, x8), (6, x6), (5, x5)] _
               refine rThen ?_
               refine xCond rfl rfl ?_ ?_
               · refine rExit ?_
                 refine xThenX ?_
                 refine rOut ?_
                 exact qLess [35, 34, 33, 6, 5] (hj2 x5 x6 x33 x34 x35)
               · refine rSkip ?_
                 refine rThen ?_
                 refine rSeq ?_
                 refine cLess [35, 34, 33, 9, 8, 6, 5] ?_
                 refine xR hE [5, 6, 8, 33, 34, 35, 45, 46, 47] rfl (front_Of_r14_ok F _ _ _ _ _ _ _ _) ?_
                 intro x5 x6 x8 x33 x34 x35 x45 x46 x47
                 show OKq _ _ _ [(47, x47), (46, x46), (45, x45), (35, x35), (34, x34), (33, x33), (8, x8), (6, x6), (5, x5)] _
                 refine rThen ?_
                 refine rBlock ?_
                 refine cLess [47, 46, 45, 35, 34, 33, 8, 6, 5] ?_
                 refine xLoopAt [5, 6, 8, 33, 34, 35, 45, 46, 47] [] (fun k3 => front_Of_l3 F (fun x5 x6 x33 x34 x35 => front_Of_k2 F (front_Of_l1 F (fun x6 => front_Of_k0 F x6) k1) x5 x6 x33 x34 x35) k3) F [x5, x6, x8, x33, x34, x35, x45, x46, x47] rfl rfl (fun _ _ _ _ _ _ _ _ _ => rfl) fun I hI3 k3 => ?_
                 intro x5 x6 x8 x33 x34 x35 x45 x46 x47
                 show OKc _ _ [(47, x47), (46, x46), (45, x45), (35, x35), (34, x34), (33, x33), (8, x8), (6, x6), (5, x5)] _ _
                 refine cAs (front_Of_l3_s F _ _ _ _ _ _ _ _ _ _ _) ?_
                 refine rSeq ?_
                 refine cLess [47, 46, 45, 35, 34, 33, 8, 6, 5] ?_
                 refine xR hE [5, 6, 8, 33, 34, 35, 45, 46, 47, 48] rfl (front_Of_r15_ok F _ _ _ _ _ _ _ _ _ _) ?_
                 intro x5 x6 x8 x33 x34 x35 x45 x46 x47 x48
                 show OKq _ _ _ [(48, x48), (47, x47), (46, x46), (45, x45), (35, x35), (34, x34), (33, x33), (8, x8), (6, x6), (5, x5)] _
                 refine rThen ?_
                 refine rSeq ?_
                 refine xCond rfl rfl ?_ ?_
                 · refine rSkip ?_
                   refine rThen ?_
                   refine xSeq [5, 6, 8, 33, 34, 35, 45, 46, 47] (front_Of_k4 F (front_Of_l3 F (fun x5 x6 x33 x34 x35 => front_Of_k2 F (front_Of_l1 F (fun x6 => front_Of_k0 F x6) k1) x5 x6 x33 x34 x35) k3) ) ?_ fun hj4 => ?_
                   · intro x5 x6 x8 x33 x34 x35 x45 x46 x47
                     show OKc _ _ [(47, x47), (46, x46), (45, x45), (35, x35), (34, x34), (33, x33), (8, x8), (6, x6), (5, x5)] _ _
                     refine cLess [47, 46, 45, 35, 34, 33, 8, 6, 5] ?_
                     refine xR hE [5, 6, 8, 33, 34, 35, 45, 46, 47] rfl (front_Of_r22_ok F _ _ _ _ _ _ _ _ _ _) ?_
                     intro x5 x6 x8 x33 x34 x35 x45 x46 x47
                     show OKq _ _ _ [(47, x47), (46, x46), (45, x45), (35, x35), (34, x34), (33, x33), (8, x8), (6, x6), (5, x5)] _
                     exact qLess [47, 46, 45, 35, 34, 33, 8, 6, 5] (hI3 k3 x5 x6 x8 x33 x34 x35 x45 x46 x47)
                   · refine rBlock ?_
                     refine rSeq ?_
                     refine cLess [47, 46, 45, 35, 34, 33, 8, 6, 5] ?_
                     refine xR hE [5, 6, 8, 11, 33, 34, 35, 45, 46, 47] rfl (front_Of_r16_ok F _ _ _ _ _ _ _ _ _ _) ?_
                     intro x5 x6 x8 x11 x33 x34 x35 x45 x46 x47
                     show OKq _ _ _ [(47, x47), (46, x46), (45, x45), (35, x35), (34, x34), (33, x33), (11, x11), (8, x8), (6, x6), (5, x5)] _
                     refine rThen ?_
                     refine rSeq ?_
                     refine cLess [47, 46, 45, 35, 34, 33, 11, 8, 6, 5] ?_
                     refine xR hE [5, 6, 8, 11, 12, 33, 34, 35, 45, 46, 47] rfl (front_Of_r17_ok F _ _ _ _ _ _ _ _ _ _ _) ?_
                     intro x5 x6 x8 x11 x12 x33 x34 x35 x45 x46 x47
                     show OKq _ _ _ [(47, x47), (46, x46), (45, x45), (35, x35), (34, x34), (33, x33), (12, x12), (11, x11), (8, x8), (6, x6), (5, x5)] _
                     refine rThen ?_
                     refine rBlock ?_
                     refine cLess [47, 46, 45, 35, 34, 33, 12, 11, 8, 6, 5] ?_
                     refine xLoopAt [5, 6, 8, 11, 12, 33, 34, 35, 45, 46, 47] [] (fun k5 => front_Of_l5 F (fun x5 x6 x8 x33 x34 x35 x45 x46 x47 => front_Of_k4 F (front_Of_l3 F (fun x5 x6 x33 x34 x35 => front_Of_k2 F (front_Of_l1 F (fun x6 => front_Of_k0 F x6) k1) x5 x6 x33 x34 x35) k3) x5 x6 x8 x33 x34 x35 x45 x46 x47) k5) F [x5, x6, x8, x11, x12, x33, x34, x35, x45, x46, x47] rfl rfl (fun _ _ _ _ _ _ _ _ _ _ _ => rfl) fun I hI5 k5 => ?_
                     intro x5 x6 x8 x11 x12 x33 x34 x35 x45 x46 x47
                     show OKc _ _ [(47, x47), (46, x46), (45, x45), (35, x35), (34, x34), (33, x33), (12, x12), (11, x11), (8, x8), (6, x6), (5, x5)] _ _
                     refine cAs (front_Of_l5_s F _ _ _ _ _ _ _ _ _ _ _ _ _) ?_
                     refine rSeq ?_
                     refine rBlock ?_
                     refine xSeq [5, 6, 8, 11, 12, 33, 34, 35, 45, 46, 47] (front_Of_k6 F (fun x5 x6 x8 x33 x34 x35 x45 x46 x47 => front_Of_k4 F (front_Of_l3 F (fun x5 x6 x33 x34 x35 => front_Of_k2 F (front_Of_l1 F (fun x6 => front_Of_k0 F x6) k1) x5 x6 x33 x34 x35) k3) x5 x6 x8 x33 x34 x35 x45 x46 x47)  (front_Of_l5 F (fun x5 x6 x8 x33 x34 x35 x45 x46 x47 => front_Of_k4 F (front_Of_l3 F (fun x5 x6 x33 x34 x35 => front_Of_k2 F (front_Of_l1 F (fun x6 => front_Of_k0 F x6) k1) x5 x6 x33 x34 x35) k3) x5 x6 x8 x33 x34 x35 x45 x46 x47) k5) ) ?_ fun hj6 => ?_
                     · intro x5 x6 x8 x11 x12 x33 x34 x35 x45 x46 x47
                       show OKc _ _ [(47, x47), (46, x46), (45, x45), (35, x35), (34, x34), (33, x33), (12, x12), (11, x11), (8, x8), (6, x6), (5, x5)] _ _
                       refine rSeq ?_
                       refine cLess [47, 46, 45, 35, 34, 33, 12, 11, 8, 6, 5] ?_
                       refine xR hE [5, 6, 8, 11, 12, 33, 34, 35, 45, 46, 47, 77] rfl (front_Of_r21_ok F _ _ _ _ _ _ _ _ _ _ _ _) ?_
                       intro x5 x6 x8 x11 x12 x33 x34 x35 x45 x46 x47 x77
                       show OKq _ _ _ [(77, x77), (47, x47), (46, x46), (45, x45), (35, x35), (34, x34), (33, x33), (12, x12), (11, x11), (8, x8), (6, x6), (5, x5)] _
                       refine rThen ?_
                       refine xCond rfl rfl ?_ ?_
                       · refine rExit ?_
                         refine rPast rfl ?_
                         refine xThenX ?_
                         refine xThenX ?_
                         refine rOut ?_
                         refine xBlockN ?_
                         exact qLess [47, 46, 45, 35, 34, 33, 8, 6, 5] (hj4 x5 x6 x8 x33 x34 x35 x45 x46 x47)
                       · refine rSkip ?_
                         refine xBlockN ?_
                         refine rThen ?_
                         refine cLess [47, 46, 45, 35, 34, 33, 12, 11, 8, 6, 5] ?_
                         refine xR hE [5, 6, 8, 11, 12, 33, 34, 35, 45, 46, 47] rfl (front_Of_r18_ok F _ _ _ _ _ _ _ _ _ _ _ _) ?_
                         intro x5 x6 x8 x11 x12 x33 x34 x35 x45 x46 x47
                         show OKq _ _ _ [(47, x47), (46, x46), (45, x45), (35, x35), (34, x34), (33, x33), (12, x12), (11, x11), (8, x8), (6, x6), (5, x5)] _
                         exact qLess [47, 46, 45, 35, 34, 33, 12, 11, 8, 6, 5] (hI5 k5 x5 x6 x8 x11 x12 x33 x34 x35 x45 x46 x47)
                     · refine rSeq ?_
                       refine cLess [47, 46, 45, 35, 34, 33, 12, 11, 8, 6, 5] ?_
                       refine xR hE [5, 6, 8, 11, 12, 33, 34, 35, 45, 46, 47, 65] rfl (front_Of_r19_ok F _ _ _ _ _ _ _ _ _ _ _ _) ?_
                       intro x5 x6 x8 x11 x12 x33 x34 x35 x45 x46 x47 x65
                       show OKq _ _ _ [(65, x65), (47, x47), (46, x46), (45, x45), (35, x35), (34, x34), (33, x33), (12, x12), (11, x11), (8, x8), (6, x6), (5, x5)] _
                       refine rThen ?_
                       refine xCond rfl rfl ?_ ?_
                       · refine cLess [47, 46, 45, 35, 34, 33, 12, 11, 8, 6, 5] ?_
                         refine xR hE [5, 6, 8, 11, 12, 33, 34, 35, 45, 46, 47] rfl (front_Of_r20_ok F _ _ _ _ _ _ _ _ _ _ _ _) ?_
                         intro x5 x6 x8 x11 x12 x33 x34 x35 x45 x46 x47
                         show OKq _ _ _ [(47, x47), (46, x46), (45, x45), (35, x35), (34, x34), (33, x33), (12, x12), (11, x11), (8, x8), (6, x6), (5, x5)] _
                         exact qLess [47, 46, 45, 35, 34, 33, 12, 11, 8, 6, 5] (hj6 x5 x6 x8 x11 x12 x33 x34 x35 x45 x46 x47)
                       · refine rSkip ?_
                         exact qLess [47, 46, 45, 35, 34, 33, 12, 11, 8, 6, 5] (hj6 x5 x6 x8 x11 x12 x33 x34 x35 x45 x46 x47)
                 · refine rExit ?_
                   refine xThenX ?_
                   refine xThenX ?_
                   refine rOut ?_
                   refine xBlockN ?_
                   exact qLess [35, 34, 33, 6, 5] (hj2 x5 x6 x33 x34 x35)
           · refine rExit ?_
             refine xThenX ?_
             refine xThenX ?_
             refine rOut ?_
             exact qLess [6] (hj0 x6)
       · refine rSeq ?_
         refine cLess [6, 5, 2] ?_
         refine xR hE [2, 5, 6, 22, 23] rfl (front_Of_r5_ok F _ _ _ _) ?_
         intro x2 x5 x6 x22 x23
         show OKq _ _ _ [(23, x23), (22, x22), (6, x6), (5, x5), (2, x2)] _
         refine rThen ?_
         refine rBlock ?_
         refine cLess [23, 22, 6, 5, 2] ?_
         refine xLoopAt [2, 5, 6, 22, 23] [] (fun k8 => front_Of_l8 F (fun x2 x5 x6 => front_Of_k7 F x2 x5 x6) k8) F [x2, x5, x6, x22, x23] rfl rfl (fun _ _ _ _ _ => rfl) fun I hI8 k8 => ?_
         intro x2 x5 x6 x22 x23
         show OKc _ _ [(23, x23), (22, x22), (6, x6), (5, x5), (2, x2)] _ _
         refine cAs (front_Of_l8_s F _ _ _ _ _ _ _) ?_
         refine rSeq ?_
         refine cLess [23, 22, 6, 5, 2] ?_
         refine xR hE [2, 5, 6, 22, 23, 24] rfl (front_Of_r6_ok F _ _ _ _ _ _) ?_
         intro x2 x5 x6 x22 x23 x24
         show OKq _ _ _ [(24, x24), (23, x23), (22, x22), (6, x6), (5, x5), (2, x2)] _
         refine rThen ?_
         refine rSeq ?_
         refine xCond rfl rfl ?_ ?_
         · refine rSkip ?_
           refine rThen ?_
           refine rSeq ?_
           refine rBlock ?_
           refine rSeq ?_
           refine cLess [23, 22, 6, 5, 2] ?_
           refine xR hE [2, 5, 6, 7, 22, 23] rfl (front_Of_r7_ok F _ _ _ _ _ _) ?_
           intro x2 x5 x6 x7 x22 x23
           show OKq _ _ _ [(23, x23), (22, x22), (7, x7), (6, x6), (5, x5), (2, x2)] _
           refine rThen ?_
           refine cLess [23, 22, 7, 6, 5, 2] ?_
           refine xR hE [2, 5, 6, 22, 23] rfl (front_Of_r8_ok F _ _ _ _ _ _ _) ?_
           intro x2 x5 x6 x22 x23
           show OKq _ _ _ [(23, x23), (22, x22), (6, x6), (5, x5), (2, x2)] _
           refine xBlockN ?_
           refine rThen ?_
           refine cLess [23, 22, 6, 5, 2] ?_
           refine xR hE [2, 5, 6, 22, 23] rfl (front_Of_r9_ok F _ _ _ _ _ _) ?_
           intro x2 x5 x6 x22 x23
           show OKq _ _ _ [(23, x23), (22, x22), (6, x6), (5, x5), (2, x2)] _
           exact qLess [23, 22, 6, 5, 2] (hI8 k8 x2 x5 x6 x22 x23)
         · refine rExit ?_
           refine xThenX ?_
           refine xThenX ?_
           refine rOut ?_
           exact qLess [6, 5, 2] (hj7 x2 x5 x6)
   · exact rFail


/-! ### haruspex/haruspexlaw7.begun -/

def L7_begun_env (F : Nat) : Env := envOf [(10, front_Of_m F), (12, R1_Eq_m F), (13, bitset_Set_All_m F), (16, front_Closure_m F), (17, bitset_Of_m F)]

noncomputable def L7_begun_R (F : Nat) := rK Tryd.prog TrydG (L7_begun_env F) Tryd.f8
noncomputable def L7_begun_D (F : Nat) := dK Tryd.prog TrydG (L7_begun_env F) Tryd.f8

def L7_begun_r3 (F : Nat) (x2 : Value) (K : Value → M Value) : M Value :=
  bnd (opLen x2) fun v12 => bnd (opBin .eql v12 (.int .i64 (4))) fun v13 => onB v13 (bnd (opIndexAddr 1 x2 (.int .i64 (1))) fun v16 => bnd (opLoad v16) fun v17 => bnd (bitset_Set_All F v17) fun v18 => bnd (opBuildSlice 1 (rep 1 [(.int .i64 (0))]) [(0, 1, false, (.int .i64 (3)))]) fun v19 => bnd (R1_Eq F v18 v19) fun v20 => onB v20 (bnd (opIndexAddr 1 x2 (.int .i64 (3))) fun v24 => bnd (opLoad v24) fun v25 => bnd (bitset_Set_All F v25) fun v26 => bnd (opBuildSlice 1 (rep 1 [(.int .i64 (0))]) [(0, 1, false, (.int .i64 (0)))]) fun v27 => bnd (R1_Eq F v26 v27) fun v28 => onB v28 (bnd (opBuildSlice 1 (rep 1 [(.int .i64 (0))]) [(0, 1, false, (.int .i64 (1)))]) fun v32 => bnd (bitset_Of F v32) fun v33 => bnd (front_Closure F x2 v33) fun v34 => bnd (bitset_Set_All F v34) fun v35 => bnd (opBuildSlice 2 (rep 2 [(.int .i64 (0))]) [(0, 1, false, (.int .i64 (0))), (1, 1, false, (.int .i64 (3)))]) fun v36 => bnd (R1_Eq F v35 v36) fun v37 => K v37) (K (.bool false))) (K (.bool false))) (K (.bool false))

theorem L7_begun_r3_ok (F : Nat) (x2 : Value) (K : Value → M Value) : L7_begun_r3 F x2 K = L7_begun_R F 3 [(2, x2)] [0] K := by kernel_rfl

def L7_begun_r2 (F : Nat) (x1 : Value) (K : Value → M Value) : M Value :=
  bnd (opLoadN 2 x1) fun v9 => bnd (front_Of F v9 (.int .i64 (0))) fun v10 => K v10

theorem L7_begun_r2_ok (F : Nat) (x1 : Value) (K : Value → M Value) : L7_begun_r2 F x1 K = L7_begun_R F 2 [(1, x1)] [2] K := by kernel_rfl

def L7_begun_r1 (F : Nat) (K : Value → M Value) : M Value :=
  bnd (opBuildSlice 2 (rep 2 [(.int .i64 (0))]) [(0, 1, false, (.int .i64 (1))), (1, 1, false, (.int .i64 (2)))]) fun v3 => bnd (opBuildSlice 1 (rep 1 [(.int .i64 (0))]) [(0, 1, false, (.int .i64 (3)))]) fun v4 => bnd (opBuildSlice 1 (rep 1 [(.int .i64 (0))]) [(0, 1, false, (.int .i64 (3)))]) fun v5 => bnd (opBuildSlice 1 (rep 1 [(.int .i64 (0))]) [(0, 1, false, (.int .i64 (0)))]) fun v6 => bnd (opBuildSlice 4 (rep 4 [(.slice none 0 0)]) [(0, 1, false, v3), (1, 1, false, v4), (2, 1, false, v5), (3, 1, false, v6)]) fun v7 => bnd (opBuild [(.int .i64 (0)), (.slice none 0 0)] [(0, 1, false, (.int .i64 (4))), (1, 1, false, v7)]) fun v8 => bnd (opPtr [(.int .i64 (0)), (.slice none 0 0)]) fun v1 => bnd (opStoreN 2 v1 v8) fun _ => K v1

theorem L7_begun_r1_ok (F : Nat) (K : Value → M Value) : L7_begun_r1 F K = L7_begun_R F 1 [] [1] K := by kernel_rfl

def L7_begun_r0 (F : Nat) (K : M Value) : M Value :=
  K

theorem L7_begun_r0_ok (F : Nat) (K : M Value) : L7_begun_r0 F K = L7_begun_R F 0 [] [] K := by kernel_rfl

def L7_begun (F : Nat) : M Value :=
  L7_begun_r0 F (L7_begun_r1 F (fun x1 => L7_begun_r2 F x1 (fun x2 => L7_begun_r3 F x2 (fun x0 => ret x0))))

def L7_begun_m (F : Nat) : List Value → M Value
  | [] => L7_begun F
  | _ => fail

theorem L7_begun_body : Tryd.f8.body = some (.seq (.region 0 (opsOf Tryd.f8 0) false) (.seq (.region 1 (opsOf Tryd.f8 1) false) (.seq (.region 2 (opsOf Tryd.f8 2) false) (.seq (.region 3 (opsOf Tryd.f8 3) false) .ret)))) := by kernel_rfl

theorem L7_begun_ok (F : Nat) : Sim Tryd.prog TrydG 8 (L7_begun_m F) := by
 have hE : EnvOK Tryd.prog TrydG (L7_begun_env F) := (EnvOK.cons (front_Of_ok F) (EnvOK.cons (R1_Eq_ok F) (EnvOK.cons (bitset_Set_All_ok F) (EnvOK.cons (front_Closure_ok F) (EnvOK.cons (bitset_Of_ok F) EnvOK.nil)))))
 refine Sim.of_body (E := L7_begun_env F) Tryd.func8 L7_begun_body Tryd.call8 ?_ ?_
 · intro args hl; unfold L7_begun_m; split
   · exact absurd hl (Nat.not_lt.2 (Nat.le_of_ble_eq_true rfl))
   · rfl
 · intro args ρ h w z; unfold L7_begun_m; split
   · show OKc _ _ [] _ _
     refine rSeq ?_
     refine cLess [] ?_
     refine xR hE [] rfl (L7_begun_r0_ok F _) ?_
     show OKq _ _ _ [] _
     refine rThen ?_
     refine rSeq ?_
     refine cLess [] ?_
     refine xR hE [1] rfl (L7_begun_r1_ok F _) ?_
     intro x1
     show OKq _ _ _ [(1, x1)] _
     refine rThen ?_
     refine rSeq ?_
     refine cLess [1] ?_
     refine xR hE [2] rfl (L7_begun_r2_ok F _ _) ?_
     intro x2
     show OKq _ _ _ [(2, x2)] _
     refine rThen ?_
     refine rSeq ?_
     refine cLess [2] ?_
     refine xR hE [0] rfl (L7_begun_r3_ok F _ _) ?_
     intro x0
     show OKq _ _ _ [(0, x0)] _
     refine rThen ?_
     refine rRet ?_
     exact rDone (.inr rfl) rfl
   · exact rFail


/-! ### haruspex/haruspexlaw7.FrontOf -/

def L7_FrontOf_env (F : Nat) : Env := envOf [(8, L7_begun_m F), (9, L5_Made_m F), (10, front_Of_m F), (11, R1_Front_m F), (12, R1_Eq_m F), (13, bitset_Set_All_m F), (14, R1_In_m F), (15, R1_Put_m F), (16, front_Closure_m F), (17, bitset_Of_m F)]

noncomputable def L7_FrontOf_R (F : Nat) := rK Tryd.prog TrydG (L7_FrontOf_env F) Tryd.f3
noncomputable def L7_FrontOf_D (F : Nat) := dK Tryd.prog TrydG (L7_FrontOf_env F) Tryd.f3

def L7_FrontOf_r35 (F : Nat) (x11 x14 x15 : Value) (K : Value → M Value) : M Value :=
  bnd (bitset_Of F x14) fun v141 => bnd (front_Closure F x11 v141) fun v142 => bnd (bitset_Set_All F v142) fun v143 => bnd (R1_Eq F v143 x15) fun v145 => K v145

theorem L7_FrontOf_r35_ok (F : Nat) (x11 x14 x15 : Value) (K : Value → M Value) : L7_FrontOf_r35 F x11 x14 x15 K = L7_FrontOf_R F 35 [(15, x15), (14, x14), (11, x11)] [8] K := by kernel_rfl

def L7_FrontOf_k0 (F : Nat) (x11 x14 x15 : Value) : M Value :=
  L7_FrontOf_r35 F x11 x14 x15 (fun x8 => ret x8)

def L7_FrontOf_r27 (F : Nat) (x10 x11 x12 x14 x15 x18 x19 : Value) (K : Value → Value → Value → Value → Value → Value → Value → M Value) : M Value :=
  bnd (opBin .add x19 (.int .i64 (1))) fun v100 => K x10 x11 x12 x14 x15 x18 v100

theorem L7_FrontOf_r27_ok (F : Nat) (x10 x11 x12 x14 x15 x18 x19 : Value) (K : Value → Value → Value → Value → Value → Value → Value → M Value) : L7_FrontOf_r27 F x10 x11 x12 x14 x15 x18 x19 K = L7_FrontOf_R F 27 [(19, x19), (18, x18), (15, x15), (14, x14), (12, x12), (11, x11), (10, x10)] [10, 11, 12, 14, 15, 18, 19] K := by kernel_rfl

def L7_FrontOf_k3 (F : Nat) (A2 : Value → Value → Value → Value → Value → Value → Value → M Value) (x10 x11 x12 x14 x15 x18 x19 : Value) : M Value :=
  L7_FrontOf_r27 F x10 x11 x12 x14 x15 x18 x19 (fun x10 x11 x12 x14 x15 x18 x19 => A2 x10 x11 x12 x14 x15 x18 x19)

def L7_FrontOf_r31 (F : Nat) (x10 x11 x12 x14 x15 x18 x19 x20 : Value) (K : Value → Value → Value → Value → Value → Value → Value → Value → M Value) : M Value :=
  bnd (opBin .add x20 (.int .i64 (1))) fun v119 => K x10 x11 x12 x14 x15 x18 x19 v119

theorem L7_FrontOf_r31_ok (F : Nat) (x10 x11 x12 x14 x15 x18 x19 x20 : Value) (K : Value → Value → Value → Value → Value → Value → Value → Value → M Value) : L7_FrontOf_r31 F x10 x11 x12 x14 x15 x18 x19 x20 K = L7_FrontOf_R F 31 [(20, x20), (19, x19), (18, x18), (15, x15), (14, x14), (12, x12), (11, x11), (10, x10)] [10, 11, 12, 14, 15, 18, 19, 20] K := by kernel_rfl

def L7_FrontOf_k5 (F : Nat) (A4 : Value → Value → Value → Value → Value → Value → Value → Value → M Value) (x10 x11 x12 x14 x15 x18 x19 x20 : Value) : M Value :=
  L7_FrontOf_r31 F x10 x11 x12 x14 x15 x18 x19 x20 (fun x10 x11 x12 x14 x15 x18 x19 x20 => A4 x10 x11 x12 x14 x15 x18 x19 x20)

def L7_FrontOf_r34 (F : Nat) (x10 x11 x12 x14 x15 x19 x20 : Value) (K : Value → Value → Value → Value → Value → Value → Value → Value → M Value) : M Value :=
  K x10 x11 x12 x14 x15 (.bool true) x19 x20

theorem L7_FrontOf_r34_ok (F : Nat) (x10 x11 x12 x14 x15 x19 x20 : Value) (K : Value → Value → Value → Value → Value → Value → Value → Value → M Value) : L7_FrontOf_r34 F x10 x11 x12 x14 x15 x19 x20 K = L7_FrontOf_R F 34 [(20, x20), (19, x19), (15, x15), (14, x14), (12, x12), (11, x11), (10, x10)] [10, 11, 12, 14, 15, 18, 19, 20] K := by kernel_rfl

def L7_FrontOf_r33 (F : Nat) (x10 x11 x12 x14 x15 x19 x20 : Value) (K : Value → Value → Value → Value → Value → Value → Value → M Value) : M Value :=
  bnd (opIndexAddr 1 x12 x19) fun v133 => bnd (opLoad v133) fun v134 => bnd (opIndexAddr 1 v134 x20) fun v136 => bnd (opLoad v136) fun v137 => bnd (R1_Put F x15 v137) fun v138 => K x10 x11 x12 x14 v138 x19 x20

theorem L7_FrontOf_r33_ok (F : Nat) (x10 x11 x12 x14 x15 x19 x20 : Value) (K : Value → Value → Value → Value → Value → Value → Value → M Value) : L7_FrontOf_r33 F x10 x11 x12 x14 x15 x19 x20 K = L7_FrontOf_R F 33 [(20, x20), (19, x19), (15, x15), (14, x14), (12, x12), (11, x11), (10, x10)] [10, 11, 12, 14, 15, 19, 20] K := by kernel_rfl

def L7_FrontOf_r32 (F : Nat) (x10 x11 x12 x14 x15 x18 x19 x20 : Value) (K : Value → Value → Value → Value → Value → Value → Value → Value → Value → M Value) : M Value :=
  bnd (opIndexAddr 1 x12 x19) fun v123 => bnd (opLoad v123) fun v124 => bnd (opIndexAddr 1 v124 x20) fun v126 => bnd (opLoad v126) fun v127 => bnd (R1_In F x15 v127) fun v128 => bnd (opNot v128) fun v129 => K x10 x11 x12 x14 x15 x18 x19 x20 v129

theorem L7_FrontOf_r32_ok (F : Nat) (x10 x11 x12 x14 x15 x18 x19 x20 : Value) (K : Value → Value → Value → Value → Value → Value → Value → Value → Value → M Value) : L7_FrontOf_r32 F x10 x11 x12 x14 x15 x18 x19 x20 K = L7_FrontOf_R F 32 [(20, x20), (19, x19), (18, x18), (15, x15), (14, x14), (12, x12), (11, x11), (10, x10)] [10, 11, 12, 14, 15, 18, 19, 20, 129] K := by kernel_rfl

def L7_FrontOf_r30 (F : Nat) (x10 x11 x12 x14 x15 x18 x19 x20 : Value) (K : Value → Value → Value → Value → Value → Value → Value → Value → Value → M Value) : M Value :=
  bnd (opIndexAddr 1 x12 x19) fun v114 => bnd (opLoad v114) fun v115 => bnd (opLen v115) fun v116 => bnd (opBin .lss x20 v116) fun v117 => K x10 x11 x12 x14 x15 x18 x19 x20 v117

theorem L7_FrontOf_r30_ok (F : Nat) (x10 x11 x12 x14 x15 x18 x19 x20 : Value) (K : Value → Value → Value → Value → Value → Value → Value → Value → Value → M Value) : L7_FrontOf_r30 F x10 x11 x12 x14 x15 x18 x19 x20 K = L7_FrontOf_R F 30 [(20, x20), (19, x19), (18, x18), (15, x15), (14, x14), (12, x12), (11, x11), (10, x10)] [10, 11, 12, 14, 15, 18, 19, 20, 117] K := by kernel_rfl

def L7_FrontOf_b4 (F : Nat) (E4_8 : Value → Value → Value → Value → Value → Value → Value → M Value) (A4 : Value → Value → Value → Value → Value → Value → Value → Value → M Value) (x10 x11 x12 x14 x15 x18 x19 x20 : Value) : M Value :=
  L7_FrontOf_r30 F x10 x11 x12 x14 x15 x18 x19 x20 (fun x10 x11 x12 x14 x15 x18 x19 x20 x117 => onB x117 (L7_FrontOf_r32 F x10 x11 x12 x14 x15 x18 x19 x20 (fun x10 x11 x12 x14 x15 x18 x19 x20 x129 => onB x129 (L7_FrontOf_r33 F x10 x11 x12 x14 x15 x19 x20 (fun x10 x11 x12 x14 x15 x19 x20 => L7_FrontOf_r34 F x10 x11 x12 x14 x15 x19 x20 (fun x10 x11 x12 x14 x15 x18 x19 x20 => L7_FrontOf_k5 F A4 x10 x11 x12 x14 x15 x18 x19 x20))) (L7_FrontOf_k5 F A4 x10 x11 x12 x14 x15 x18 x19 x20))) (E4_8 x10 x11 x12 x14 x15 x18 x19))

def L7_FrontOf_l4 (F : Nat) (E4_8 : Value → Value → Value → Value → Value → Value → Value → M Value) : Nat → Value → Value → Value → Value → Value → Value → Value → Value → M Value
  | 0, _, _, _, _, _, _, _, _ => fail
  | k4 + 1, x10, x11, x12, x14, x15, x18, x19, x20 => L7_FrontOf_b4 F E4_8 (L7_FrontOf_l4 F E4_8 k4) x10 x11 x12 x14 x15 x18 x19 x20

theorem L7_FrontOf_l4_s (F : Nat) (E4_8 : Value → Value → Value → Value → Value → Value → Value → M Value) (k4 : Nat) (x10 x11 x12 x14 x15 x18 x19 x20 : Value) : L7_FrontOf_l4 F E4_8 (k4 + 1) x10 x11 x12 x14 x15 x18 x19 x20 = L7_FrontOf_b4 F E4_8 (L7_FrontOf_l4 F E4_8 k4) x10 x11 x12 x14 x15 x18 x19 x20 := rfl

def L7_FrontOf_r29 (F : Nat) (x10 x11 x12 x14 x15 x18 x19 : Value) (K : Value → Value → Value → Value → Value → Value → Value → Value → M Value) : M Value :=
  K x10 x11 x12 x14 x15 x18 x19 (.int .i64 (0))

theorem L7_FrontOf_r29_ok (F : Nat) (x10 x11 x12 x14 x15 x18 x19 : Value) (K : Value → Value → Value → Value → Value → Value → Value → Value → M Value) : L7_FrontOf_r29 F x10 x11 x12 x14 x15 x18 x19 K = L7_FrontOf_R F 29 [(19, x19), (18, x18), (15, x15), (14, x14), (12, x12), (11, x11), (10, x10)] [10, 11, 12, 14, 15, 18, 19, 20] K := by kernel_rfl

def L7_FrontOf_r28 (F : Nat) (x10 x11 x12 x14 x15 x18 x19 : Value) (K : Value → Value → Value → Value → Value → Value → Value → Value → M Value) : M Value :=
  bnd (R1_In F x14 x19) fun v103 => bnd (opNot v103) fun v104 => onB v104 (bnd (R1_In F x15 x19) fun v108 => bnd (opNot v108) fun v109 => K x10 x11 x12 x14 x15 x18 x19 v109) (K x10 x11 x12 x14 x15 x18 x19 (.bool false))

theorem L7_FrontOf_r28_ok (F : Nat) (x10 x11 x12 x14 x15 x18 x19 : Value) (K : Value → Value → Value → Value → Value → Value → Value → Value → M Value) : L7_FrontOf_r28 F x10 x11 x12 x14 x15 x18 x19 K = L7_FrontOf_R F 28 [(19, x19), (18, x18), (15, x15), (14, x14), (12, x12), (11, x11), (10, x10)] [10, 11, 12, 14, 15, 18, 19, 110] K := by kernel_rfl

def L7_FrontOf_r26 (F : Nat) (x10 x11 x12 x14 x15 x18 x19 : Value) (K : Value → Value → Value → Value → Value → Value → Value → Value → M Value) : M Value :=
  bnd (opFieldAddr 0 x10) fun v96 => bnd (opLoad v96) fun v97 => bnd (opBin .lss x19 v97) fun v98 => K x10 x11 x12 x14 x15 x18 x19 v98

theorem L7_FrontOf_r26_ok (F : Nat) (x10 x11 x12 x14 x15 x18 x19 : Value) (K : Value → Value → Value → Value → Value → Value → Value → Value → M Value) : L7_FrontOf_r26 F x10 x11 x12 x14 x15 x18 x19 K = L7_FrontOf_R F 26 [(19, x19), (18, x18), (15, x15), (14, x14), (12, x12), (11, x11), (10, x10)] [10, 11, 12, 14, 15, 18, 19, 98] K := by kernel_rfl

def L7_FrontOf_b2 (F : Nat) (E2_6 : Value → Value → Value → Value → Value → Value → M Value) (A2 : Value → Value → Value → Value → Value → Value → Value → M Value) (x10 x11 x12 x14 x15 x18 x19 : Value) : M Value :=
  L7_FrontOf_r26 F x10 x11 x12 x14 x15 x18 x19 (fun x10 x11 x12 x14 x15 x18 x19 x98 => onB x98 (L7_FrontOf_r28 F x10 x11 x12 x14 x15 x18 x19 (fun x10 x11 x12 x14 x15 x18 x19 x110 => onB x110 (L7_FrontOf_k3 F A2 x10 x11 x12 x14 x15 x18 x19) (L7_FrontOf_r29 F x10 x11 x12 x14 x15 x18 x19 (fun x10 x11 x12 x14 x15 x18 x19 x20 => L7_FrontOf_l4 F (fun x10 x11 x12 x14 x15 x18 x19 => L7_FrontOf_k3 F A2 x10 x11 x12 x14 x15 x18 x19) F x10 x11 x12 x14 x15 x18 x19 x20)))) (E2_6 x10 x11 x12 x14 x15 x18))

def L7_FrontOf_l2 (F : Nat) (E2_6 : Value → Value → Value → Value → Value → Value → M Value) : Nat → Value → Value → Value → Value → Value → Value → Value → M Value
  | 0, _, _, _, _, _, _, _ => fail
  | k2 + 1, x10, x11, x12, x14, x15, x18, x19 => L7_FrontOf_b2 F E2_6 (L7_FrontOf_l2 F E2_6 k2) x10 x11 x12 x14 x15 x18 x19

theorem L7_FrontOf_l2_s (F : Nat) (E2_6 : Value → Value → Value → Value → Value → Value → M Value) (k2 : Nat) (x10 x11 x12 x14 x15 x18 x19 : Value) : L7_FrontOf_l2 F E2_6 (k2 + 1) x10 x11 x12 x14 x15 x18 x19 = L7_FrontOf_b2 F E2_6 (L7_FrontOf_l2 F E2_6 k2) x10 x11 x12 x14 x15 x18 x19 := rfl

def L7_FrontOf_r25 (F : Nat) (x10 x11 x12 x14 x15 x18 : Value) (K : Value → Value → Value → Value → Value → Value → Value → M Value) : M Value :=
  K x10 x11 x12 x14 x15 x18 (.int .i64 (0))

theorem L7_FrontOf_r25_ok (F : Nat) (x10 x11 x12 x14 x15 x18 : Value) (K : Value → Value → Value → Value → Value → Value → Value → M Value) : L7_FrontOf_r25 F x10 x11 x12 x14 x15 x18 K = L7_FrontOf_R F 25 [(18, x18), (15, x15), (14, x14), (12, x12), (11, x11), (10, x10)] [10, 11, 12, 14, 15, 18, 19] K := by kernel_rfl

def L7_FrontOf_r24 (F : Nat) (x10 x11 x12 x14 x15 : Value) (K : Value → Value → Value → Value → Value → Value → M Value) : M Value :=
  K x10 x11 x12 x14 x15 (.bool false)

theorem L7_FrontOf_r24_ok (F : Nat) (x10 x11 x12 x14 x15 : Value) (K : Value → Value → Value → Value → Value → Value → M Value) : L7_FrontOf_r24 F x10 x11 x12 x14 x15 K = L7_FrontOf_R F 24 [(15, x15), (14, x14), (12, x12), (11, x11), (10, x10)] [10, 11, 12, 14, 15, 18] K := by kernel_rfl

def L7_FrontOf_r23 (F : Nat) (x10 x11 x12 x14 x15 x18 : Value) (K : Value → Value → Value → Value → Value → Value → M Value) : M Value :=
  K x10 x11 x12 x14 x15 x18

theorem L7_FrontOf_r23_ok (F : Nat) (x10 x11 x12 x14 x15 x18 : Value) (K : Value → Value → Value → Value → Value → Value → M Value) : L7_FrontOf_r23 F x10 x11 x12 x14 x15 x18 K = L7_FrontOf_R F 23 [(18, x18), (15, x15), (14, x14), (12, x12), (11, x11), (10, x10)] [10, 11, 12, 14, 15, 94] K := by kernel_rfl

def L7_FrontOf_b1 (F : Nat) (E1_4 : Value → Value → Value → M Value) (A1 : Value → Value → Value → Value → Value → Value → M Value) (x10 x11 x12 x14 x15 x18 : Value) : M Value :=
  L7_FrontOf_r23 F x10 x11 x12 x14 x15 x18 (fun x10 x11 x12 x14 x15 x94 => onB x94 (L7_FrontOf_r24 F x10 x11 x12 x14 x15 (fun x10 x11 x12 x14 x15 x18 => L7_FrontOf_r25 F x10 x11 x12 x14 x15 x18 (fun x10 x11 x12 x14 x15 x18 x19 => L7_FrontOf_l2 F (fun x10 x11 x12 x14 x15 x18 => A1 x10 x11 x12 x14 x15 x18) F x10 x11 x12 x14 x15 x18 x19))) (E1_4 x11 x14 x15))

def L7_FrontOf_l1 (F : Nat) (E1_4 : Value → Value → Value → M Value) : Nat → Value → Value → Value → Value → Value → Value → M Value
  | 0, _, _, _, _, _, _ => fail
  | k1 + 1, x10, x11, x12, x14, x15, x18 => L7_FrontOf_b1 F E1_4 (L7_FrontOf_l1 F E1_4 k1) x10 x11 x12 x14 x15 x18

theorem L7_FrontOf_l1_s (F : Nat) (E1_4 : Value → Value → Value → M Value) (k1 : Nat) (x10 x11 x12 x14 x15 x18 : Value) : L7_FrontOf_l1 F E1_4 (k1 + 1) x10 x11 x12 x14 x15 x18 = L7_FrontOf_b1 F E1_4 (L7_FrontOf_l1 F E1_4 k1) x10 x11 x12 x14 x15 x18 := rfl

def L7_FrontOf_r22 (F : Nat) (x10 x11 x12 x14 x15 : Value) (K : Value → Value → Value → Value → Value → Value → M Value) : M Value :=
  K x10 x11 x12 x14 x15 (.bool true)

theorem L7_FrontOf_r22_ok (F : Nat) (x10 x11 x12 x14 x15 : Value) (K : Value → Value → Value → Value → Value → Value → M Value) : L7_FrontOf_r22 F x10 x11 x12 x14 x15 K = L7_FrontOf_R F 22 [(15, x15), (14, x14), (12, x12), (11, x11), (10, x10)] [10, 11, 12, 14, 15, 18] K := by kernel_rfl

def L7_FrontOf_k6 (F : Nat) (x10 x11 x12 x14 x15 : Value) : M Value :=
  L7_FrontOf_r22 F x10 x11 x12 x14 x15 (fun x10 x11 x12 x14 x15 x18 => L7_FrontOf_l1 F (fun x11 x14 x15 => L7_FrontOf_k0 F x11 x14 x15) F x10 x11 x12 x14 x15 x18)

def L7_FrontOf_r19 (F : Nat) (x3 x10 x11 x12 x14 x15 x16 : Value) (K : Value → Value → Value → Value → Value → Value → Value → M Value) : M Value :=
  bnd (opBin .add x16 (.int .i64 (1))) fun v76 => K x3 x10 x11 x12 x14 x15 v76

theorem L7_FrontOf_r19_ok (F : Nat) (x3 x10 x11 x12 x14 x15 x16 : Value) (K : Value → Value → Value → Value → Value → Value → Value → M Value) : L7_FrontOf_r19 F x3 x10 x11 x12 x14 x15 x16 K = L7_FrontOf_R F 19 [(16, x16), (15, x15), (14, x14), (12, x12), (11, x11), (10, x10), (3, x3)] [3, 10, 11, 12, 14, 15, 16] K := by kernel_rfl

def L7_FrontOf_r21 (F : Nat) (x3 x10 x11 x12 x14 x15 x16 x17 : Value) (K : Value → Value → Value → Value → Value → Value → Value → M Value) : M Value :=
  bnd (opBuildSlice 1 (rep 1 [(.int .i64 (0))]) [(0, 1, false, x17)]) fun v92 => bnd (opAppend 1 8 x14 v92) fun v93 => K x3 x10 x11 x12 v93 x15 x16

theorem L7_FrontOf_r21_ok (F : Nat) (x3 x10 x11 x12 x14 x15 x16 x17 : Value) (K : Value → Value → Value → Value → Value → Value → Value → M Value) : L7_FrontOf_r21 F x3 x10 x11 x12 x14 x15 x16 x17 K = L7_FrontOf_R F 21 [(17, x17), (16, x16), (15, x15), (14, x14), (12, x12), (11, x11), (10, x10), (3, x3)] [3, 10, 11, 12, 14, 15, 16] K := by kernel_rfl

def L7_FrontOf_r20 (F : Nat) (x3 x10 x11 x12 x14 x15 x16 : Value) (K : Value → Value → Value → Value → Value → Value → Value → Value → M Value) : M Value :=
  bnd (opIndexAddr 1 x3 x16) fun v79 => bnd (opLoad v79) fun v80 => bnd (opFieldAddr 0 x10) fun v81 => bnd (opLoad v81) fun v82 => bnd (opBin .rem v80 v82) fun v83 => bnd (opFieldAddr 0 x10) fun v84 => bnd (opLoad v84) fun v85 => bnd (opBin .add v83 v85) fun v86 => bnd (opFieldAddr 0 x10) fun v87 => bnd (opLoad v87) fun v88 => bnd (opBin .rem v86 v88) fun v89 => K x3 x10 x11 x12 x14 x15 x16 v89

theorem L7_FrontOf_r20_ok (F : Nat) (x3 x10 x11 x12 x14 x15 x16 : Value) (K : Value → Value → Value → Value → Value → Value → Value → Value → M Value) : L7_FrontOf_r20 F x3 x10 x11 x12 x14 x15 x16 K = L7_FrontOf_D F 20 [0, 1, 2, 3, 4, 5, 6, 7, 8, 9, 10, 11, 12, 13] [(16, x16), (15, x15), (14, x14), (12, x12), (11, x11), (10, x10), (3, x3)] [3, 10, 11, 12, 14, 15, 16, 17] K := by kernel_rfl

theorem L7_FrontOf_r20_good : goodOrder (opsOf Tryd.f3 20) [0, 1, 2, 3, 4, 5, 6, 7, 8, 9, 10, 11, 12, 13] = true := by kernel_rfl

def L7_FrontOf_r18 (F : Nat) (x3 x10 x11 x12 x14 x15 x16 : Value) (K : Value → Value → Value → Value → Value → Value → Value → Value → M Value) : M Value :=
  bnd (opLen x3) fun v69 => bnd (opBin .lss x16 v69) fun v70 => onB v70 (bnd (opBin .lss x16 (.int .i64 (8))) fun v73 => K x3 x10 x11 x12 x14 x15 x16 v73) (K x3 x10 x11 x12 x14 x15 x16 (.bool false))

theorem L7_FrontOf_r18_ok (F : Nat) (x3 x10 x11 x12 x14 x15 x16 : Value) (K : Value → Value → Value → Value → Value → Value → Value → Value → M Value) : L7_FrontOf_r18 F x3 x10 x11 x12 x14 x15 x16 K = L7_FrontOf_R F 18 [(16, x16), (15, x15), (14, x14), (12, x12), (11, x11), (10, x10), (3, x3)] [3, 10, 11, 12, 14, 15, 16, 74] K := by kernel_rfl

def L7_FrontOf_b7 (F : Nat) (E7_2 : Value → Value → Value → Value → Value → M Value) (A7 : Value → Value → Value → Value → Value → Value → Value → M Value) (x3 x10 x11 x12 x14 x15 x16 : Value) : M Value :=
  L7_FrontOf_r18 F x3 x10 x11 x12 x14 x15 x16 (fun x3 x10 x11 x12 x14 x15 x16 x74 => onB x74 (L7_FrontOf_r20 F x3 x10 x11 x12 x14 x15 x16 (fun x3 x10 x11 x12 x14 x15 x16 x17 => L7_FrontOf_r21 F x3 x10 x11 x12 x14 x15 x16 x17 (fun x3 x10 x11 x12 x14 x15 x16 => L7_FrontOf_r19 F x3 x10 x11 x12 x14 x15 x16 (fun x3 x10 x11 x12 x14 x15 x16 => A7 x3 x10 x11 x12 x14 x15 x16)))) (E7_2 x10 x11 x12 x14 x15))

def L7_FrontOf_l7 (F : Nat) (E7_2 : Value → Value → Value → Value → Value → M Value) : Nat → Value → Value → Value → Value → Value → Value → Value → M Value
  | 0, _, _, _, _, _, _, _ => fail
  | k7 + 1, x3, x10, x11, x12, x14, x15, x16 => L7_FrontOf_b7 F E7_2 (L7_FrontOf_l7 F E7_2 k7) x3 x10 x11 x12 x14 x15 x16

theorem L7_FrontOf_l7_s (F : Nat) (E7_2 : Value → Value → Value → Value → Value → M Value) (k7 : Nat) (x3 x10 x11 x12 x14 x15 x16 : Value) : L7_FrontOf_l7 F E7_2 (k7 + 1) x3 x10 x11 x12 x14 x15 x16 = L7_FrontOf_b7 F E7_2 (L7_FrontOf_l7 F E7_2 k7) x3 x10 x11 x12 x14 x15 x16 := rfl

def L7_FrontOf_r17 (F : Nat) (x3 x10 x11 x12 x14 x15 : Value) (K : Value → Value → Value → Value → Value → Value → Value → M Value) : M Value :=
  K x3 x10 x11 x12 x14 x15 (.int .i64 (0))

theorem L7_FrontOf_r17_ok (F : Nat) (x3 x10 x11 x12 x14 x15 : Value) (K : Value → Value → Value → Value → Value → Value → Value → M Value) : L7_FrontOf_r17 F x3 x10 x11 x12 x14 x15 K = L7_FrontOf_R F 17 [(15, x15), (14, x14), (12, x12), (11, x11), (10, x10), (3, x3)] [3, 10, 11, 12, 14, 15, 16] K := by kernel_rfl

def L7_FrontOf_r16 (F : Nat) (x3 x10 x11 x12 : Value) (K : Value → Value → Value → Value → Value → Value → M Value) : M Value :=
  K x3 x10 x11 x12 (.slice none 0 0) (.slice none 0 0)

theorem L7_FrontOf_r16_ok (F : Nat) (x3 x10 x11 x12 : Value) (K : Value → Value → Value → Value → Value → Value → M Value) : L7_FrontOf_r16 F x3 x10 x11 x12 K = L7_FrontOf_R F 16 [(12, x12), (11, x11), (10, x10), (3, x3)] [3, 10, 11, 12, 14, 15] K := by kernel_rfl

def L7_FrontOf_k8 (F : Nat) (x3 x10 x11 x12 : Value) : M Value :=
  L7_FrontOf_r16 F x3 x10 x11 x12 (fun x3 x10 x11 x12 x14 x15 => L7_FrontOf_r17 F x3 x10 x11 x12 x14 x15 (fun x3 x10 x11 x12 x14 x15 x16 => L7_FrontOf_l7 F (fun x10 x11 x12 x14 x15 => L7_FrontOf_k6 F x10 x11 x12 x14 x15) F x3 x10 x11 x12 x14 x15 x16))

def L7_FrontOf_r13 (F : Nat) (x3 x10 x11 x12 x13 : Value) (K : Value → Value → Value → Value → Value → M Value) : M Value :=
  bnd (opBin .add x13 (.int .i64 (1))) fun v55 => K x3 x10 x11 x12 v55

theorem L7_FrontOf_r13_ok (F : Nat) (x3 x10 x11 x12 x13 : Value) (K : Value → Value → Value → Value → Value → M Value) : L7_FrontOf_r13 F x3 x10 x11 x12 x13 K = L7_FrontOf_R F 13 [(13, x13), (12, x12), (11, x11), (10, x10), (3, x3)] [3, 10, 11, 12, 13] K := by kernel_rfl

def L7_FrontOf_r15 (F : Nat) (K : Value → M Value) : M Value :=
  K (.bool false)

theorem L7_FrontOf_r15_ok (F : Nat) (K : Value → M Value) : L7_FrontOf_r15 F K = L7_FrontOf_R F 15 [] [8] K := by kernel_rfl

def L7_FrontOf_r14 (F : Nat) (x3 x10 x11 x12 x13 : Value) (K : Value → Value → Value → Value → Value → Value → M Value) : M Value :=
  bnd (opIndexAddr 1 x11 x13) fun v58 => bnd (opLoad v58) fun v59 => bnd (opIndexAddr 1 x12 x13) fun v63 => bnd (opLoad v63) fun v64 => bnd (bitset_Set_All F v59) fun v60 => bnd (opChk false v63 v64) fun _ => bnd (R1_Eq F v60 v64) fun v65 => bnd (opNot v65) fun v66 => K x3 x10 x11 x12 x13 v66

theorem L7_FrontOf_r14_ok (F : Nat) (x3 x10 x11 x12 x13 : Value) (K : Value → Value → Value → Value → Value → Value → M Value) : L7_FrontOf_r14 F x3 x10 x11 x12 x13 K = L7_FrontOf_D F 14 [0, 1, 2, 3, 5, 6, 7, 8, 4, 9, 10] [(13, x13), (12, x12), (11, x11), (10, x10), (3, x3)] [3, 10, 11, 12, 13, 66] K := by kernel_rfl

theorem L7_FrontOf_r14_good : goodOrder (opsOf Tryd.f3 14) [0, 1, 2, 3, 5, 6, 7, 8, 4, 9, 10] = true := by kernel_rfl

def L7_FrontOf_r12 (F : Nat) (x3 x10 x11 x12 x13 : Value) (K : Value → Value → Value → Value → Value → Value → M Value) : M Value :=
  bnd (opFieldAddr 0 x10) fun v51 => bnd (opLoad v51) fun v52 => bnd (opBin .lss x13 v52) fun v53 => K x3 x10 x11 x12 x13 v53

theorem L7_FrontOf_r12_ok (F : Nat) (x3 x10 x11 x12 x13 : Value) (K : Value → Value → Value → Value → Value → Value → M Value) : L7_FrontOf_r12 F x3 x10 x11 x12 x13 K = L7_FrontOf_R F 12 [(13, x13), (12, x12), (11, x11), (10, x10), (3, x3)] [3, 10, 11, 12, 13, 53] K := by kernel_rfl

def L7_FrontOf_b9 (F : Nat) (E9_0 : Value → Value → Value → Value → M Value) (A9 : Value → Value → Value → Value → Value → M Value) (x3 x10 x11 x12 x13 : Value) : M Value :=
  L7_FrontOf_r12 F x3 x10 x11 x12 x13 (fun x3 x10 x11 x12 x13 x53 => onB x53 (L7_FrontOf_r14 F x3 x10 x11 x12 x13 (fun x3 x10 x11 x12 x13 x66 => onB x66 (L7_FrontOf_r15 F (fun x8 => ret x8)) (L7_FrontOf_r13 F x3 x10 x11 x12 x13 (fun x3 x10 x11 x12 x13 => A9 x3 x10 x11 x12 x13)))) (E9_0 x3 x10 x11 x12))

def L7_FrontOf_l9 (F : Nat) (E9_0 : Value → Value → Value → Value → M Value) : Nat → Value → Value → Value → Value → Value → M Value
  | 0, _, _, _, _, _ => fail
  | k9 + 1, x3, x10, x11, x12, x13 => L7_FrontOf_b9 F E9_0 (L7_FrontOf_l9 F E9_0 k9) x3 x10 x11 x12 x13

theorem L7_FrontOf_l9_s (F : Nat) (E9_0 : Value → Value → Value → Value → M Value) (k9 : Nat) (x3 x10 x11 x12 x13 : Value) : L7_FrontOf_l9 F E9_0 (k9 + 1) x3 x10 x11 x12 x13 = L7_FrontOf_b9 F E9_0 (L7_FrontOf_l9 F E9_0 k9) x3 x10 x11 x12 x13 := rfl

def L7_FrontOf_r11 (F : Nat) (x3 x10 x11 x12 : Value) (K : Value → Value → Value → Value → Value → M Value) : M Value :=
  K x3 x10 x11 x12 (.int .i64 (0))

theorem L7_FrontOf_r11_ok (F : Nat) (x3 x10 x11 x12 : Value) (K : Value → Value → Value → Value → Value → M Value) : L7_FrontOf_r11 F x3 x10 x11 x12 K = L7_FrontOf_R F 11 [(12, x12), (11, x11), (10, x10), (3, x3)] [3, 10, 11, 12, 13] K := by kernel_rfl

def L7_FrontOf_r10 (F : Nat) (K : Value → M Value) : M Value :=
  K (.bool false)

theorem L7_FrontOf_r10_ok (F : Nat) (K : Value → M Value) : L7_FrontOf_r10 F K = L7_FrontOf_R F 10 [] [8] K := by kernel_rfl

def L7_FrontOf_r9 (F : Nat) (x3 x10 x11 x12 : Value) (K : Value → Value → Value → Value → Value → M Value) : M Value :=
  bnd (opLen x11) fun v46 => bnd (opFieldAddr 0 x10) fun v47 => bnd (opLoad v47) fun v48 => bnd (opBin .neq v46 v48) fun v49 => K x3 x10 x11 x12 v49

theorem L7_FrontOf_r9_ok (F : Nat) (x3 x10 x11 x12 : Value) (K : Value → Value → Value → Value → Value → M Value) : L7_FrontOf_r9 F x3 x10 x11 x12 K = L7_FrontOf_R F 9 [(12, x12), (11, x11), (10, x10), (3, x3)] [3, 10, 11, 12, 49] K := by kernel_rfl

def L7_FrontOf_r8 (F : Nat) (x2 x3 x10 x11 : Value) (K : Value → Value → Value → Value → M Value) : M Value :=
  bnd (opFieldAddr 1 x10) fun v41 => bnd (opLoad v41) fun v42 => bnd (R1_Front F v42 x2) fun v44 => K x3 x10 x11 v44

theorem L7_FrontOf_r8_ok (F : Nat) (x2 x3 x10 x11 : Value) (K : Value → Value → Value → Value → M Value) : L7_FrontOf_r8 F x2 x3 x10 x11 K = L7_FrontOf_R F 8 [(11, x11), (10, x10), (3, x3), (2, x2)] [3, 10, 11, 12] K := by kernel_rfl

def L7_FrontOf_r7 (F : Nat) (x11 : Value) (K : Value → M Value) : M Value :=
  bnd (opLen x11) fun v39 => bnd (opBin .eql v39 (.int .i64 (0))) fun v40 => K v40

theorem L7_FrontOf_r7_ok (F : Nat) (x11 : Value) (K : Value → M Value) : L7_FrontOf_r7 F x11 K = L7_FrontOf_R F 7 [(11, x11)] [8] K := by kernel_rfl

def L7_FrontOf_r6 (F : Nat) (x2 x3 x10 x11 : Value) (K : Value → Value → Value → Value → Value → M Value) : M Value :=
  bnd (opBin .lss x2 (.int .i64 (0))) fun v31 => onB v31 (K x2 x3 x10 x11 (.bool true)) (bnd (opFieldAddr 0 x10) fun v34 => bnd (opLoad v34) fun v35 => bnd (opBin .geq x2 v35) fun v36 => K x2 x3 x10 x11 v36)

theorem L7_FrontOf_r6_ok (F : Nat) (x2 x3 x10 x11 : Value) (K : Value → Value → Value → Value → Value → M Value) : L7_FrontOf_r6 F x2 x3 x10 x11 K = L7_FrontOf_R F 6 [(11, x11), (10, x10), (3, x3), (2, x2)] [2, 3, 10, 11, 37] K := by kernel_rfl

def L7_FrontOf_r5 (F : Nat) (x2 x3 x10 : Value) (K : Value → Value → Value → Value → M Value) : M Value :=
  bnd (opLoadN 2 x10) fun v27 => bnd (front_Of F v27 x2) fun v29 => K x2 x3 x10 v29

theorem L7_FrontOf_r5_ok (F : Nat) (x2 x3 x10 : Value) (K : Value → Value → Value → Value → M Value) : L7_FrontOf_r5 F x2 x3 x10 K = L7_FrontOf_R F 5 [(10, x10), (3, x3), (2, x2)] [2, 3, 10, 11] K := by kernel_rfl

def L7_FrontOf_r4 (F : Nat) (x0 x1 x2 x3 : Value) (K : Value → Value → Value → M Value) : M Value :=
  bnd (L5_Made F x0 x1) fun v26 => bnd (opPtr [(.int .i64 (0)), (.slice none 0 0)]) fun v10 => bnd (opStoreN 2 v10 v26) fun _ => K x2 x3 v10

theorem L7_FrontOf_r4_ok (F : Nat) (x0 x1 x2 x3 : Value) (K : Value → Value → Value → M Value) : L7_FrontOf_r4 F x0 x1 x2 x3 K = L7_FrontOf_R F 4 [(3, x3), (2, x2), (1, x1), (0, x0)] [2, 3, 10] K := by kernel_rfl

def L7_FrontOf_r3 (F : Nat) (K : Value → M Value) : M Value :=
  K (.bool false)

theorem L7_FrontOf_r3_ok (F : Nat) (K : Value → M Value) : L7_FrontOf_r3 F K = L7_FrontOf_R F 3 [] [8] K := by kernel_rfl

def L7_FrontOf_r2 (F : Nat) (x0 x1 x2 x3 x9 : Value) (K : Value → Value → Value → Value → Value → M Value) : M Value :=
  bnd (opNot x9) fun v23 => K x0 x1 x2 x3 v23

theorem L7_FrontOf_r2_ok (F : Nat) (x0 x1 x2 x3 x9 : Value) (K : Value → Value → Value → Value → Value → M Value) : L7_FrontOf_r2 F x0 x1 x2 x3 x9 K = L7_FrontOf_R F 2 [(9, x9), (3, x3), (2, x2), (1, x1), (0, x0)] [0, 1, 2, 3, 23] K := by kernel_rfl

def L7_FrontOf_r1 (F : Nat) (x0 x1 x2 x3 : Value) (K : Value → Value → Value → Value → Value → M Value) : M Value :=
  bnd (L7_begun F) fun v21 => K x0 x1 x2 x3 v21

theorem L7_FrontOf_r1_ok (F : Nat) (x0 x1 x2 x3 : Value) (K : Value → Value → Value → Value → Value → M Value) : L7_FrontOf_r1 F x0 x1 x2 x3 K = L7_FrontOf_R F 1 [(3, x3), (2, x2), (1, x1), (0, x0)] [0, 1, 2, 3, 9] K := by kernel_rfl

def L7_FrontOf_r0 (F : Nat) (x0 x1 x2 x3 : Value) (K : Value → Value → Value → Value → M Value) : M Value :=
  K x0 x1 x2 x3

theorem L7_FrontOf_r0_ok (F : Nat) (x0 x1 x2 x3 : Value) (K : Value → Value → Value → Value → M Value) : L7_FrontOf_r0 F x0 x1 x2 x3 K = L7_FrontOf_R F 0 [(3, x3), (2, x2), (1, x1), (0, x0)] [0, 1, 2, 3] K := by kernel_rfl

def L7_FrontOf (F : Nat) (x0 x1 x2 x3 : Value) : M Value :=
  L7_FrontOf_r0 F x0 x1 x2 x3 (fun x0 x1 x2 x3 => L7_FrontOf_r1 F x0 x1 x2 x3 (fun x0 x1 x2 x3 x9 => L7_FrontOf_r2 F x0 x1 x2 x3 x9 (fun x0 x1 x2 x3 x23 => onB x23 (L7_FrontOf_r3 F (fun x8 => ret x8)) (L7_FrontOf_r4 F x0 x1 x2 x3 (fun x2 x3 x10 => L7_FrontOf_r5 F x2 x3 x10 (fun x2 x3 x10 x11 => L7_FrontOf_r6 F x2 x3 x10 x11 (fun x2 x3 x10 x11 x37 => onB x37 (L7_FrontOf_r7 F x11 (fun x8 => ret x8)) (L7_FrontOf_r8 F x2 x3 x10 x11 (fun x3 x10 x11 x12 => L7_FrontOf_r9 F x3 x10 x11 x12 (fun x3 x10 x11 x12 x49 => onB x49 (L7_FrontOf_r10 F (fun x8 => ret x8)) (L7_FrontOf_r11 F x3 x10 x11 x12 (fun x3 x10 x11 x12 x13 => L7_FrontOf_l9 F (fun x3 x10 x11 x12 => L7_FrontOf_k8 F x3 x10 x11 x12) F x3 x10 x11 x12 x13))))))))))))

def L7_FrontOf_m (F : Nat) : List Value → M Value
  | [x0, x1, x2, x3] => L7_FrontOf F x0 x1 x2 x3
  | _ => fail

theorem L7_FrontOf_body : Tryd.f3.body = some (.seq (.region 0 (opsOf Tryd.f3 0) false) (.seq (.region 1 (opsOf Tryd.f3 1) false) (.seq (.seq (.region 2 (opsOf Tryd.f3 2) false) (.cond (.tmp 23) (.seq (.region 3 (opsOf Tryd.f3 3) false) .ret) .skip)) (.seq (.region 4 (opsOf Tryd.f3 4) false) (.seq (.region 5 (opsOf Tryd.f3 5) false) (.seq (.seq (.region 6 (opsOf Tryd.f3 6) false) (.cond (.tmp 37) (.seq (.region 7 (opsOf Tryd.f3 7) false) .ret) .skip)) (.seq (.region 8 (opsOf Tryd.f3 8) false) (.seq (.seq (.region 9 (opsOf Tryd.f3 9) false) (.cond (.tmp 49) (.seq (.region 10 (opsOf Tryd.f3 10) false) .ret) .skip)) (.seq (.seq (.region 11 (opsOf Tryd.f3 11) false) (.block 0 (.loop (.seq (.seq (.region 12 (opsOf Tryd.f3 12) false) (.cond (.tmp 53) .skip (.exit 0))) (.seq (.block 1 (.seq (.region 14 (opsOf Tryd.f3 14) true) (.cond (.tmp 66) (.seq (.region 15 (opsOf Tryd.f3 15) false) .ret) .skip))) (.region 13 (opsOf Tryd.f3 13) false)))))) (.seq (.region 16 (opsOf Tryd.f3 16) false) (.seq (.seq (.region 17 (opsOf Tryd.f3 17) false) (.block 2 (.loop (.seq (.seq (.region 18 (opsOf Tryd.f3 18) false) (.cond (.tmp 74) .skip (.exit 2))) (.seq (.block 3 (.seq (.region 20 (opsOf Tryd.f3 20) true) (.region 21 (opsOf Tryd.f3 21) false))) (.region 19 (opsOf Tryd.f3 19) false)))))) (.seq (.seq (.region 22 (opsOf Tryd.f3 22) false) (.block 4 (.loop (.seq (.seq (.region 23 (opsOf Tryd.f3 23) false) (.cond (.tmp 94) .skip (.exit 4))) (.block 5 (.seq (.region 24 (opsOf Tryd.f3 24) false) (.seq (.region 25 (opsOf Tryd.f3 25) false) (.block 6 (.loop (.seq (.seq (.region 26 (opsOf Tryd.f3 26) false) (.cond (.tmp 98) .skip (.exit 6))) (.seq (.block 7 (.seq (.seq (.region 28 (opsOf Tryd.f3 28) false) (.cond (.tmp 110) (.exit 7) .skip)) (.seq (.region 29 (opsOf Tryd.f3 29) false) (.block 8 (.loop (.seq (.seq (.region 30 (opsOf Tryd.f3 30) false) (.cond (.tmp 117) .skip (.exit 8))) (.seq (.block 9 (.seq (.region 32 (opsOf Tryd.f3 32) false) (.cond (.tmp 129) (.seq (.region 33 (opsOf Tryd.f3 33) false) (.region 34 (opsOf Tryd.f3 34) false)) .skip))) (.region 31 (opsOf Tryd.f3 31) false)))))))) (.region 27 (opsOf Tryd.f3 27) false)))))))))))) (.seq (.region 35 (opsOf Tryd.f3 35) false) .ret))))))))))))) := by kernel_rfl

theorem L7_FrontOf_ok (F : Nat) : Sim Tryd.prog TrydG 3 (L7_FrontOf_m F) := by
 have hE : EnvOK Tryd.prog TrydG (L7_FrontOf_env F) := (EnvOK.cons (L7_begun_ok F) (EnvOK.cons (L5_Made_ok F) (EnvOK.cons (front_Of_ok F) (EnvOK.cons (R1_Front_ok F) (EnvOK.cons (R1_Eq_ok F) (EnvOK.cons (bitset_Set_All_ok F) (EnvOK.cons (R1_In_ok F) (EnvOK.cons (R1_Put_ok F) (EnvOK.cons (front_Closure_ok F) (EnvOK.cons (bitset_Of_ok F) EnvOK.nil))))))))))
 refine Sim.of_body (E := L7_FrontOf_env F) Tryd.func3 L7_FrontOf_body Tryd.call3 ?_ ?_
 · intro args hl; unfold L7_FrontOf_m; split
   · exact absurd hl (Nat.not_lt.2 (Nat.le_of_ble_eq_true rfl))
   · rfl
 · intro args ρ h w z; unfold L7_FrontOf_m; split
   · rename_i x0 x1 x2 x3; show OKc _ _ [(0, x0), (1, x1), (2, x2), (3, x3)] _ _
     refine rSeq ?_
     refine cLess [3, 2, 1, 0] ?_
     refine xR hE [0, 1, 2, 3] rfl (L7_FrontOf_r0_ok F _ _ _ _ _) ?_
     intro x0 x1 x2 x3
     show OKq _ _ _ [(3, x3), (2, x2), (1, x1), (0, x0)] _
     refine rThen ?_
     refine rSeq ?_
     refine cLess [3, 2, 1, 0] ?_
     refine xR hE [0, 1, 2, 3, 9] rfl (L7_FrontOf_r1_ok F _ _ _ _ _) ?_
     intro x0 x1 x2 x3 x9
     show OKq _ _ _ [(9, x9), (3, x3), (2, x2), (1, x1), (0, x0)] _
     refine rThen ?_
     refine rSeq ?_
     refine rSeq ?_
     refine cLess [9, 3, 2, 1, 0] ?_
     refine xR hE [0, 1, 2, 3, 23] rfl (L7_FrontOf_r2_ok F _ _ _ _ _ _) ?_
     intro x0 x1 x2 x3 x23
     show OKq _ _ _ [(23, x23), (3, x3), (2, x2), (1, x1), (0, x0)] _
     refine rThen ?_
     refine xCond rfl rfl ?_ ?_
     · refine rSeq ?_
       refine cLess [] ?_
       refine xR hE [8] rfl (L7_FrontOf_r3_ok F _) ?_
       intro x8
       show OKq _ _ _ [(8, x8)] _
       refine rThen ?_
       refine rRet ?_
       refine xThenR ?_
       exact rDone (.inr rfl) rfl
     · refine rSkip ?_
       refine rThen ?_
       refine rSeq ?_
       refine cLess [3, 2, 1, 0] ?_
       refine xR hE [2, 3, 10] rfl (L7_FrontOf_r4_ok F _ _ _ _ _) ?_
       intro x2 x3 x10
       show OKq _ _ _ [(10, x10), (3, x3), (2, x2)] _
       refine rThen ?_
       refine rSeq ?_
       refine cLess [10, 3, 2] ?_
       refine xR hE [2, 3, 10, 11] rfl (L7_FrontOf_r5_ok F _ _ _ _) ?_
       intro x2 x3 x10 x11
       show OKq _ _ _ [(11, x11), (10, x10), (3, x3), (2, x2)] _
       refine rThen ?_
       refine rSeq ?_
       refine rSeq ?_
       refine cLess [11, 10, 3, 2] ?_
       refine xR hE [2, 3, 10, 11, 37] rfl (L7_FrontOf_r6_ok F _ _ _ _ _) ?_
       intro x2 x3 x10 x11 x37
       show OKq _ _ _ [(37, x37), (11, x11), (10, x10), (3, x3), (2, x2)] _
       refine rThen ?_
       refine xCond rfl rfl ?_ ?_
       · refine rSeq ?_
         refine cLess [11] ?_
         refine xR hE [8] rfl (L7_FrontOf_r7_ok F _ _) ?_
         intro x8
         show OKq _ _ _ [(8, x8)] _
         refine rThen ?_
         refine rRet ?_
         refine xThenR ?_
         exact rDone (.inr rfl) rfl
       · refine rSkip ?_
         refine rThen ?_
         refine rSeq ?_
         refine cLess [11, 10, 3, 2] ?_
         refine xR hE [3, 10, 11, 12] rfl (L7_FrontOf_r8_ok F _ _ _ _ _) ?_
         intro x3 x10 x11 x12
         show OKq _ _ _ [(12, x12), (11, x11), (10, x10), (3, x3)] _
         refine rThen ?_
         refine rSeq ?_
         refine rSeq ?_
         refine cLess [12, 11, 10, 3] ?_
         refine xR hE [3, 10, 11, 12, 49] rfl (L7_FrontOf_r9_ok F _ _ _ _ _) ?_
         intro x3 x10 x11 x12 x49
         show OKq _ _ _ [(49, x49), (12, x12), (11, x11), (10, x10), (3, x3)] _
         refine rThen ?_
         refine xCond rfl rfl ?_ ?_
         · refine rSeq ?_
           refine cLess [] ?_
           refine xR hE [8] rfl (L7_FrontOf_r10_ok F _) ?_
           intro x8
           show OKq _ _ _ [(8, x8)] _
           refine rThen ?_
           refine rRet ?_
           refine xThenR ?_
           exact rDone (.inr rfl) rfl
         · refine rSkip ?_
           refine rThen ?_
           refine xSeq [3, 10, 11, 12] (L7_FrontOf_k8 F ) ?_ fun hj8 => ?_
           · intro x3 x10 x11 x12
             show OKc _ _ [(12, x12), (11, x11), (10, x10), (3, x3)] _ _
             refine rSeq ?_
             refine cLess [12, 11, 10, 3] ?_
             refine xR hE [3, 10, 11, 12, 14, 15] rfl (L7_FrontOf_r16_ok F _ _ _ _ _) ?_
             intro x3 x10 x11 x12 x14 x15
             show OKq _ _ _ [(15, x15), (14, x14), (12, x12), (11, x11), (10, x10), (3, x3)] _
             refine rThen ?_
             refine xSeq [10, 11, 12, 14, 15] (L7_FrontOf_k6 F ) ?_ fun hj6 => ?_
             · intro x10 x11 x12 x14 x15
               show OKc _ _ [(15, x15), (14, x14), (12, x12), (11, x11), (10, x10)] _ _
               refine xSeq [11, 14, 15] (L7_FrontOf_k0 F ) ?_ fun hj0 => ?_
               · intro x11 x14 x15
                 show OKc _ _ [(15, x15), (14, x14), (11, x11)] _ _
                 refine rSeq ?_
                 refine cLess [15, 14, 11] ?_
                 refine xR hE [8] rfl (L7_FrontOf_r35_ok F _ _ _ _) ?_
                 intro x8
                 show OKq _ _ _ [(8, x8)] _
                 refine rThen ?_
                 refine rRet ?_
                 exact rDone (.inr rfl) rfl
               · refine rSeq ?_
                 refine cLess [15, 14, 12, 11, 10] ?_
                 refine xR hE [10, 11, 12, 14, 15, 18] rfl (L7_FrontOf_r22_ok F _ _ _ _ _ _) ?_
                 intro x10 x11 x12 x14 x15 x18
                 show OKq _ _ _ [(18, x18), (15, x15), (14, x14), (12, x12), (11, x11), (10, x10)] _
                 refine rThen ?_
                 refine rBlock ?_
                 refine cLess [18, 15, 14, 12, 11, 10] ?_
                 refine xLoopAt [10, 11, 12, 14, 15, 18] [] (fun k1 => L7_FrontOf_l1 F (fun x11 x14 x15 => L7_FrontOf_k0 F x11 x14 x15) k1) F [x10, x11, x12, x14, x15, x18] rfl rfl (fun _ _ _ _ _ _ => rfl) fun I hI1 k1 => ?_
                 intro x10 x11 x12 x14 x15 x18
                 show OKc _ _ [(18, x18), (15, x15), (14, x14), (12, x12), (11, x11), (10, x10)] _ _
                 refine cAs (L7_FrontOf_l1_s F _ _ _ _ _ _ _ _) ?_
                 refine rSeq ?_
                 refine rSeq ?_
                 refine cLess [18, 15, 14, 12, 11, 10] ?_
                 refine xR hE [10, 11, 12, 14, 15, 94] rfl (L7_FrontOf_r23_ok F _ _ _ _ _ _ _) ?_
                 intro x10 x11 x12 x14 x15 x94
                 show OKq _ _ _ [(94, x94), (15, x15), (14, x14), (12, x12), (11, x11), (10, x10)] _
                 refine rThen ?_
                 refine xCond rfl rfl ?_ ?_
                 · refine rSkip ?_
                   refine rThen ?_
                   refine rBlock ?_
                   refine rSeq ?_
                   refine cLess [15, 14, 12, 11, 10] ?_
                   refine xR hE [10, 11, 12, 14, 15, 18] rfl (L7_FrontOf_r24_ok F _ _ _ _ _ _) ?_
                   intro x10 x11 x12 x14 x15 x18
                   show OKq _ _ _ [(18, x18), (15, x15), (14, x14), (12, x12), (11, x11), (10, x10)] _
                   refine rThen ?_
                   refine rSeq ?_
                   refine cLess [18, 15, 14, 12, 11, 10] ?_
                   refine xR hE [10, 11, 12, 14, 15, 18, 19] rfl (L7_FrontOf_r25_ok F _ _ _ _ _ _ _) ?_
                   intro x10 x11 x12 x14 x15 x18 x19
                   show OKq _ _ _ [(19, x19), (18, x18), (15, x15), (14, x14), (12, x12), (11, x11), (10, x10)] _
                   refine rThen ?_
                   refine rBlock ?_
                   refine cLess [19, 18, 15, 14, 12, 11, 10] ?_
                   refine xLoopAt [10, 11, 12, 14, 15, 18, 19] [] (fun k2 => L7_FrontOf_l2 F (fun x10 x11 x12 x14 x15 x18 => (L7_FrontOf_l1 F (fun x11 x14 x15 => L7_FrontOf_k0 F x11 x14 x15) k1) x10 x11 x12 x14 x15 x18) k2) F [x10, x11, x12, x14, x15, x18, x19] rfl rfl (fun _ _ _ _ _ _ _ => rfl) fun I hI2 k2 => ?_
                   intro x10 x11 x12 x14 x15 x18 x19
                   show OKc _ _ [(19, x19), (18, x18), (15, x15), (14, x14), (12, x12), (11, x11), (10, x10)] _ _
                   refine cAs (L7_FrontOf_l2_s F _ _ _ _ _ _ _ _ _) ?_
                   refine rSeq ?_
                   refine rSeq ?_
                   refine cLess [19, 18, 15, 14, 12, 11, 10] ?_
                   refine xR hE [10, 11, 12, 14, 15, 18, 19, 98] rfl (L7_FrontOf_r26_ok F _ _ _ _ _ _ _ _) ?_
                   intro x10 x11 x12 x14 x15 x18 x19 x98
                   show OKq _ _ _ [(98, x98), (19, x19), (18, x18), (15, x15), (14, x14), (12, x12), (11, x11), (10, x10)] _
                   refine rThen ?_
                   refine xCond rfl rfl ?_ ?_
                   · refine rSkip ?_
                     refine rThen ?_
                     refine xSeq [10, 11, 12, 14, 15, 18, 19] (L7_FrontOf_k3 F (L7_FrontOf_l2 F (fun x10 x11 x12 x14 x15 x18 => (L7_FrontOf_l1 F (fun x11 x14 x15 => L7_FrontOf_k0 F x11 x14 x15) k1) x10 x11 x12 x14 x15 x18) k2) ) ?_ fun hj3 => ?_
                     · intro x10 x11 x12 x14 x15 x18 x19
                       show OKc _ _ [(19, x19), (18, x18), (15, x15), (14, x14), (12, x12), (11, x11), (10, x10)] _ _
                       refine cLess [19, 18, 15, 14, 12, 11, 10] ?_
                       refine xR hE [10, 11, 12, 14, 15, 18, 19] rfl (L7_FrontOf_r27_ok F _ _ _ _ _ _ _ _) ?_
                       intro x10 x11 x12 x14 x15 x18 x19
                       show OKq _ _ _ [(19, x19), (18, x18), (15, x15), (14, x14), (12, x12), (11, x11), (10, x10)] _
                       exact qLess [19, 18, 15, 14, 12, 11, 10] (hI2 k2 x10 x11 x12 x14 x15 x18 x19)
                     · refine rBlock ?_
                       refine rSeq ?_
                       refine rSeq ?_
                       refine cLess [19, 18, 15, 14, 12, 11, 10] ?_
                       refine xR hE [10, 11, 12, 14, 15, 18, 19, 110] rfl (L7_FrontOf_r28_ok F _ _ _ _ _ _ _ _) ?_
                       intro x10 x11 x12 x14 x15 x18 x19 x110
                       show OKq _ _ _ [(110, x110), (19, x19), (18, x18), (15, x15), (14, x14), (12, x12), (11, x11), (10, x10)] _
                       refine rThen ?_
                       refine xCond rfl rfl ?_ ?_
                       · refine rExit ?_
                         refine xThenX ?_
                         refine rOut ?_
                         exact qLess [19, 18, 15, 14, 12, 11, 10] (hj3 x10 x11 x12 x14 x15 x18 x19)
                       · refine rSkip ?_
                         refine rThen ?_
                         refine rSeq ?_
                         refine cLess [19, 18, 15, 14, 12, 11, 10] ?_
                         refine xR hE [10, 11, 12, 14, 15, 18, 19, 20] rfl (L7_FrontOf_r29_ok F _ _ _ _ _ _ _ _) ?_
                         intro x10 x11 x12 x14 x15 x18 x19 x20
                         show OKq _ _ _ [(20, x20), (19, x19), (18, x18), (15, x15), (14, x14), (12, x12), (11, x11), (10, x10)] _
                         refine rThen ?_
                         refine rBlock ?_
                         refine cLess [20, 19, 18, 15, 14, 12, 11, 10] ?_
                         refine xLoopAt [10, 11, 12, 14, 15, 18, 19, 20] [] (fun k4 => L7_FrontOf_l4 F (fun x10 x11 x12 x14 x15 x18 x19 => L7_FrontOf_k3 F (L7_FrontOf_l2 F (fun x10 x11 x12 x14 x15 x18 => (L7_FrontOf_l1 F (fun x11 x14 x15 => L7_FrontOf_k0 F x11 x14 x15) k1) x10 x11 x12 x14 x15 x18) k2) x10 x11 x12 x14 x15 x18 x19) k4) F [x10, x11, x12, x14, x15, x18, x19, x20] rfl rfl (fun _ _ _ _ _ _ _ _ => rfl) fun I hI4 k4 => ?_
                         intro x10 x11 x12 x14 x15 x18 x19 x20
                         show OKc _ _ [(20, x20), (19, x19), (18, x18), (15, x15), (14, x14), (12, x12), (11, x11), (10, x10)] _ _
                         refine cAs (L7_FrontOf_l4_s F _ _ _ _ _ _ _ _ _ _) ?_
                         refine rSeq ?_
                         refine rSeq ?_
                         refine cLess [20, 19, 18, 15, 14, 12, 11, 10] ?_
                         refine xR hE [10, 11, 12, 14, 15, 18, 19, 20, 117] rfl (L7_FrontOf_r30_ok F _ _ _ _ _ _ _ _ _) ?_
                         intro x10 x11 x12 x14 x15 x18 x19 x20 x117
                         show OKq _ _ _ [(117, x117), (20, x20), (19, x19), (18, x18), (15, x15), (14, x14), (12, x12), (11, x11), (10, x10)] _
                         refine rThen ?_
                         refine xCond rfl rfl ?_ ?_
                         · refine rSkip ?_
                           refine rThen ?_
                           refine xSeq [10, 11, 12, 14, 15, 18, 19, 20] (L7_FrontOf_k5 F (L7_FrontOf_l4 F (fun x10 x11 x12 x14 x15 x18 x19 => L7_FrontOf_k3 F (L7_FrontOf_l2 F (fun x10 x11 x12 x14 x15 x18 => (L7_FrontOf_l1 F (fun x11 x14 x15 => L7_FrontOf_k0 F x11 x14 x15) k1) x10 x11 x12 x14 x15 x18) k2) x10 x11 x12 x14 x15 x18 x19) k4) ) ?_ fun hj5 => ?_
                           · intro x10 x11 x12 x14 x15 x18 x19 x20
                             show OKc _ _ [(20, x20), (19, x19), (18, x18), (15, x15), (14, x14), (12, x12), (11, x11), (10, x10)] _ _
                             refine cLess [20, 19, 18, 15, 14, 12, 11, 10] ?_
                             refine xR hE [10, 11, 12, 14, 15, 18, 19, 20] rfl (L7_FrontOf_r31_ok F _ _ _ _ _ _ _ _ _) ?_
                             intro x10 x11 x12 x14 x15 x18 x19 x20
                             show OKq _ _ _ [(20, x20), (19, x19), (18, x18), (15, x15), (14, x14), (12, x12), (11, x11), (10, x10)] _
                             exact qLess [20, 19, 18, 15, 14, 12, 11, 10] (hI4 k4 x10 x11 x12 x14 x15 x18 x19 x20)
                           · refine rBlock ?_
                             refine rSeq ?_
                             refine cLess [20, 19, 18, 15, 14, 12, 11, 10] ?_
                             refine xR hE [10, 11, 12, 14, 15, 18, 19, 20, 129] rfl (L7_FrontOf_r32_ok F _ _ _ _ _ _ _ _ _) ?_
                             intro x10 x11 x12 x14 x15 x18 x19 x20 x129
                             show OKq _ _ _ [(129, x129), (20, x20), (19, x19), (18, x18), (15, x15), (14, x14), (12, x12), (11, x11), (10, x10)] _
                             refine rThen ?_
                             refine xCond rfl rfl ?_ ?_
                             · refine rSeq ?_
                               refine cLess [20, 19, 15, 14, 12, 11, 10] ?_
                               refine xR hE [10, 11, 12, 14, 15, 19, 20] rfl (L7_FrontOf_r33_ok F _ _ _ _ _ _ _ _) ?_
                               intro x10 x11 x12 x14 x15 x19 x20
                               show OKq _ _ _ [(20, x20), (19, x19), (15, x15), (14, x14), (12, x12), (11, x11), (10, x10)] _
                               refine rThen ?_
                               refine cLess [20, 19, 15, 14, 12, 11, 10] ?_
                               refine xR hE [10, 11, 12, 14, 15, 18, 19, 20] rfl (L7_FrontOf_r34_ok F _ _ _ _ _ _ _ _) ?_
                               intro x10 x11 x12 x14 x15 x18 x19 x20
                               show OKq _ _ _ [(20, x20), (19, x19), (18, x18), (15, x15), (14, x14), (12, x12), (11, x11), (10, x10)] _
                               refine xBlockN ?_
                               exact qLess [20, 19, 18, 15, 14, 12, 11, 10] (hj5 x10 x11 x12 x14 x15 x18 x19 x20)
                             · refine rSkip ?_
                               refine xBlockN ?_
                               exact qLess [20, 19, 18, 15, 14, 12, 11, 10] (hj5 x10 x11 x12 x14 x15 x18 x19 x20)
                         · refine rExit ?_
                           refine xThenX ?_
                           refine xThenX ?_
                           refine rOut ?_
                           refine xBlockN ?_
                           exact qLess [19, 18, 15, 14, 12, 11, 10] (hj3 x10 x11 x12 x14 x15 x18 x19)
                   · refine rExit ?_
                     refine xThenX ?_
                     refine xThenX ?_
                     refine rOut ?_
                     refine xBlockN ?_
                     exact qLess [18, 15, 14, 12, 11, 10] (hI1 k1 x10 x11 x12 x14 x15 x18)
                 · refine rExit ?_
                   refine xThenX ?_
                   refine xThenX ?_
                   refine rOut ?_
                   exact qLess [15, 14, 11] (hj0 x11 x14 x15)
             · refine rSeq ?_
               refine cLess [15, 14, 12, 11, 10, 3] ?_
               refine xR hE [3, 10, 11, 12, 14, 15, 16] rfl (L7_FrontOf_r17_ok F _ _ _ _ _ _ _) ?_
               intro x3 x10 x11 x12 x14 x15 x16
               show OKq _ _ _ [(16, x16), (15, x15), (14, x14), (12, x12), (11, x11), (10, x10), (3, x3)] _
               refine rThen ?_
               refine rBlock ?_
               refine cLess [16, 15, 14, 12, 11, 10, 3] ?_
               refine xLoopAt [3, 10, 11, 12, 14, 15, 16] [] (fun k7 => L7_FrontOf_l7 F (fun x10 x11 x12 x14 x15 => L7_FrontOf_k6 F x10 x11 x12 x14 x15) k7) F [x3, x10, x11, x12, x14, x15, x16] rfl rfl (fun _ _ _ _ _ _ _ => rfl) fun I hI7 k7 => ?_
               intro x3 x10 x11 x12 x14 x15 x16
               show OKc _ _ [(16, x16), (15, x15), (14, x14), (12, x12), (11, x11), (10, x10), (3, x3)] _ _
               refine cAs (L7_FrontOf_l7_s F _ _ _ _ _ _ _ _ _) ?_
               refine rSeq ?_
               refine rSeq ?_
               refine cLess [16, 15, 14, 12, 11, 10, 3] ?_
               refine xR hE [3, 10, 11, 12, 14, 15, 16, 74] rfl (L7_FrontOf_r18_ok F _ _ _ _ _ _ _ _) ?_
               intro x3 x10 x11 x12 x14 x15 x16 x74
               show OKq _ _ _ [(74, x74), (16, x16), (15, x15), (14, x14), (12, x12), (11, x11), (10, x10), (3, x3)] _
               refine rThen ?_
               refine xCond rfl rfl ?_ ?_
               · refine rSkip ?_
                 refine rThen ?_
                 refine rSeq ?_
                 refine rBlock ?_
                 refine rSeq ?_
                 refine cLess [16, 15, 14, 12, 11, 10, 3] ?_
                 refine xD Trydmix hE [3, 10, 11, 12, 14, 15, 16, 17] rfl L7_FrontOf_r20_good (L7_FrontOf_r20_ok F _ _ _ _ _ _ _ _) ?_
                 intro x3 x10 x11 x12 x14 x15 x16 x17
                 show OKq _ _ _ [(17, x17), (16, x16), (15, x15), (14, x14), (12, x12), (11, x11), (10, x10), (3, x3)] _
                 refine rThen ?_
                 refine cLess [17, 16, 15, 14, 12, 11, 10, 3] ?_
                 refine xR hE [3, 10, 11, 12, 14, 15, 16] rfl (L7_FrontOf_r21_ok F _ _ _ _ _ _ _ _ _) ?_
                 intro x3 x10 x11 x12 x14 x15 x16
                 show OKq _ _ _ [(16, x16), (15, x15), (14, x14), (12, x12), (11, x11), (10, x10), (3, x3)] _
                 refine xBlockN ?_
                 refine rThen ?_
                 refine cLess [16, 15, 14, 12, 11, 10, 3] ?_
                 refine xR hE [3, 10, 11, 12, 14, 15, 16] rfl (L7_FrontOf_r19_ok F _ _ _ _ _ _ _ _) ?_
                 intro x3 x10 x11 x12 x14 x15 x16
                 show OKq _ _ _ [(16, x16), (15, x15), (14, x14), (12, x12), (11, x11), (10, x10), (3, x3)] _
                 exact qLess [16, 15, 14, 12, 11, 10, 3] (hI7 k7 x3 x10 x11 x12 x14 x15 x16)
               · refine rExit ?_
                 refine xThenX ?_
                 refine xThenX ?_
                 refine rOut ?_
                 exact qLess [15, 14, 12, 11, 10] (hj6 x10 x11 x12 x14 x15)
           · refine rSeq ?_
             refine cLess [12, 11, 10, 3] ?_
             refine xR hE [3, 10, 11, 12, 13] rfl (L7_FrontOf_r11_ok F _ _ _ _ _) ?_
             intro x3 x10 x11 x12 x13
             show OKq _ _ _ [(13, x13), (12, x12), (11, x11), (10, x10), (3, x3)] _
             refine rThen ?_
             refine rBlock ?_
             refine cLess [13, 12, 11, 10, 3] ?_
             refine xLoopAt [3, 10, 11, 12, 13] [] (fun k9 => L7_FrontOf_l9 F (fun x3 x10 x11 x12 => L7_FrontOf_k8 F x3 x10 x11 x12) k9) F [x3, x10, x11, x12, x13] rfl rfl (fun _ _ _ _ _ => rfl) fun I hI9 k9 => ?_
             intro x3 x10 x11 x12 x13
             show OKc _ _ [(13, x13), (12, x12), (11, x11), (10, x10), (3, x3)] _ _
             refine cAs (L7_FrontOf_l9_s F _ _ _ _ _ _ _) ?_
             refine rSeq ?_
             refine rSeq ?_
             refine cLess [13, 12, 11, 10, 3] ?_
             refine xR hE [3, 10, 11, 12, 13, 53] rfl (L7_FrontOf_r12_ok F _ _ _ _ _ _) ?_
             intro x3 x10 x11 x12 x13 x53
             show OKq _ _ _ [(53, x53), (13, x13), (12, x12), (11, x11), (10, x10), (3, x3)] _
             refine rThen ?_
             refine xCond rfl rfl ?_ ?_
             · refine rSkip ?_
               refine rThen ?_
               refine rSeq ?_
               refine rBlock ?_
               refine rSeq ?_
               refine cLess [13, 12, 11, 10, 3] ?_
               refine xD Trydmix hE [3, 10, 11, 12, 13, 66] rfl L7_FrontOf_r14_good (L7_FrontOf_r14_ok F _ _ _ _ _ _) ?_
               intro x3 x10 x11 x12 x13 x66
               show OKq _ _ _ [(66, x66), (13, x13), (12, x12), (11, x11), (10, x10), (3, x3)] _
               refine rThen ?_
               refine xCond rfl rfl ?_ ?_
               · refine rSeq ?_
                 refine cLess [] ?_
                 refine xR hE [8] rfl (L7_FrontOf_r15_ok F _) ?_
                 intro x8
                 show OKq _ _ _ [(8, x8)] _
                 refine rThen ?_
                 refine rRet ?_
                 refine xBlockR ?_
                 refine xThenR ?_
                 refine xThenR ?_
                 refine xBlockR ?_
                 refine xThenR ?_
                 exact rDone (.inr rfl) rfl
               · refine rSkip ?_
                 refine xBlockN ?_
                 refine rThen ?_
                 refine cLess [13, 12, 11, 10, 3] ?_
                 refine xR hE [3, 10, 11, 12, 13] rfl (L7_FrontOf_r13_ok F _ _ _ _ _ _) ?_
                 intro x3 x10 x11 x12 x13
                 show OKq _ _ _ [(13, x13), (12, x12), (11, x11), (10, x10), (3, x3)] _
                 exact qLess [13, 12, 11, 10, 3] (hI9 k9 x3 x10 x11 x12 x13)
             · refine rExit ?_
               refine xThenX ?_
               refine xThenX ?_
               refine rOut ?_
               exact qLess [12, 11, 10, 3] (hj8 x3 x10 x11 x12)
   · exact rFail


/-! ### haruspex/haruspexlaw7.FrontMeet -/

def L7_FrontMeet_env (F : Nat) : Env := envOf [(8, L7_begun_m F), (9, L5_Made_m F), (10, front_Of_m F), (18, R1_Reach_m F), (19, R1_Above_m F), (20, bitset_Set_Has_m F)]

noncomputable def L7_FrontMeet_R (F : Nat) := rK Tryd.prog TrydG (L7_FrontMeet_env F) Tryd.f4
noncomputable def L7_FrontMeet_D (F : Nat) := dK Tryd.prog TrydG (L7_FrontMeet_env F) Tryd.f4

def L7_FrontMeet_r17 (F : Nat) (K : Value → M Value) : M Value :=
  K (.bool true)

theorem L7_FrontMeet_r17_ok (F : Nat) (K : Value → M Value) : L7_FrontMeet_r17 F K = L7_FrontMeet_R F 17 [] [4] K := by kernel_rfl

def L7_FrontMeet_k0 (F : Nat) : M Value :=
  L7_FrontMeet_r17 F (fun x4 => ret x4)

def L7_FrontMeet_r9 (F : Nat) (x6 x7 x8 x9 : Value) (K : Value → Value → Value → Value → M Value) : M Value :=
  bnd (opBin .add x9 (.int .i64 (1))) fun v29 => K x6 x7 x8 v29

theorem L7_FrontMeet_r9_ok (F : Nat) (x6 x7 x8 x9 : Value) (K : Value → Value → Value → Value → M Value) : L7_FrontMeet_r9 F x6 x7 x8 x9 K = L7_FrontMeet_R F 9 [(9, x9), (8, x8), (7, x7), (6, x6)] [6, 7, 8, 9] K := by kernel_rfl

def L7_FrontMeet_k2 (F : Nat) (A1 : Value → Value → Value → Value → M Value) (x6 x7 x8 x9 : Value) : M Value :=
  L7_FrontMeet_r9 F x6 x7 x8 x9 (fun x6 x7 x8 x9 => A1 x6 x7 x8 x9)

def L7_FrontMeet_r12 (F : Nat) (x6 x7 x8 x9 x10 : Value) (K : Value → Value → Value → Value → Value → M Value) : M Value :=
  bnd (opBin .add x10 (.int .i64 (1))) fun v45 => K x6 x7 x8 x9 v45

theorem L7_FrontMeet_r12_ok (F : Nat) (x6 x7 x8 x9 x10 : Value) (K : Value → Value → Value → Value → Value → M Value) : L7_FrontMeet_r12 F x6 x7 x8 x9 x10 K = L7_FrontMeet_R F 12 [(10, x10), (9, x9), (8, x8), (7, x7), (6, x6)] [6, 7, 8, 9, 10] K := by kernel_rfl

def L7_FrontMeet_k4 (F : Nat) (A3 : Value → Value → Value → Value → Value → M Value) (x6 x7 x8 x9 x10 : Value) : M Value :=
  L7_FrontMeet_r12 F x6 x7 x8 x9 x10 (fun x6 x7 x8 x9 x10 => A3 x6 x7 x8 x9 x10)

def L7_FrontMeet_r16 (F : Nat) (K : Value → M Value) : M Value :=
  K (.bool false)

theorem L7_FrontMeet_r16_ok (F : Nat) (K : Value → M Value) : L7_FrontMeet_r16 F K = L7_FrontMeet_R F 16 [] [4] K := by kernel_rfl

def L7_FrontMeet_r15 (F : Nat) (x6 x7 x8 x9 x10 x11 : Value) (K : Value → Value → Value → Value → Value → Value → M Value) : M Value :=
  bnd (opIndexAddr 1 x7 x9) fun v66 => bnd (opLoad v66) fun v67 => bnd (bitset_Set_Has F v67 x11) fun v69 => bnd (opNot v69) fun v70 => K x6 x7 x8 x9 x10 v70

theorem L7_FrontMeet_r15_ok (F : Nat) (x6 x7 x8 x9 x10 x11 : Value) (K : Value → Value → Value → Value → Value → Value → M Value) : L7_FrontMeet_r15 F x6 x7 x8 x9 x10 x11 K = L7_FrontMeet_R F 15 [(11, x11), (10, x10), (9, x9), (8, x8), (7, x7), (6, x6)] [6, 7, 8, 9, 10, 70] K := by kernel_rfl

def L7_FrontMeet_r14 (F : Nat) (x6 x7 x8 x9 x10 x11 : Value) (K : Value → Value → Value → Value → Value → Value → Value → M Value) : M Value :=
  bnd (opFieldAddr 1 x6) fun v54 => bnd (opLoad v54) fun v55 => bnd (R1_Above F v55 (.int .i64 (0)) x9 x11) fun v58 => onB v58 (bnd (opBin .neq x9 x11) fun v62 => K x6 x7 x8 x9 x10 x11 v62) (K x6 x7 x8 x9 x10 x11 (.bool false))

theorem L7_FrontMeet_r14_ok (F : Nat) (x6 x7 x8 x9 x10 x11 : Value) (K : Value → Value → Value → Value → Value → Value → Value → M Value) : L7_FrontMeet_r14 F x6 x7 x8 x9 x10 x11 K = L7_FrontMeet_R F 14 [(11, x11), (10, x10), (9, x9), (8, x8), (7, x7), (6, x6)] [6, 7, 8, 9, 10, 11, 63] K := by kernel_rfl

def L7_FrontMeet_r13 (F : Nat) (x6 x7 x8 x9 x10 : Value) (K : Value → Value → Value → Value → Value → Value → M Value) : M Value :=
  bnd (opFieldAddr 1 x6) fun v46 => bnd (opLoad v46) fun v47 => bnd (opIndexAddr 1 v47 x9) fun v49 => bnd (opLoad v49) fun v50 => bnd (opIndexAddr 1 v50 x10) fun v52 => bnd (opLoad v52) fun v53 => K x6 x7 x8 x9 x10 v53

theorem L7_FrontMeet_r13_ok (F : Nat) (x6 x7 x8 x9 x10 : Value) (K : Value → Value → Value → Value → Value → Value → M Value) : L7_FrontMeet_r13 F x6 x7 x8 x9 x10 K = L7_FrontMeet_R F 13 [(10, x10), (9, x9), (8, x8), (7, x7), (6, x6)] [6, 7, 8, 9, 10, 11] K := by kernel_rfl

def L7_FrontMeet_r11 (F : Nat) (x6 x7 x8 x9 x10 : Value) (K : Value → Value → Value → Value → Value → Value → M Value) : M Value :=
  bnd (opIndexAddr 1 x8 x9) fun v32 => bnd (opLoad v32) fun v33 => onB v33 (bnd (opFieldAddr 1 x6) fun v36 => bnd (opLoad v36) fun v37 => bnd (opIndexAddr 1 v37 x9) fun v39 => bnd (opLoad v39) fun v40 => bnd (opLen v40) fun v41 => bnd (opBin .lss x10 v41) fun v42 => K x6 x7 x8 x9 x10 v42) (K x6 x7 x8 x9 x10 (.bool false))

theorem L7_FrontMeet_r11_ok (F : Nat) (x6 x7 x8 x9 x10 : Value) (K : Value → Value → Value → Value → Value → Value → M Value) : L7_FrontMeet_r11 F x6 x7 x8 x9 x10 K = L7_FrontMeet_R F 11 [(10, x10), (9, x9), (8, x8), (7, x7), (6, x6)] [6, 7, 8, 9, 10, 43] K := by kernel_rfl

def L7_FrontMeet_b3 (F : Nat) (E3_2 : Value → Value → Value → Value → M Value) (A3 : Value → Value → Value → Value → Value → M Value) (x6 x7 x8 x9 x10 : Value) : M Value :=
  L7_FrontMeet_r11 F x6 x7 x8 x9 x10 (fun x6 x7 x8 x9 x10 x43 => onB x43 (L7_FrontMeet_r13 F x6 x7 x8 x9 x10 (fun x6 x7 x8 x9 x10 x11 => L7_FrontMeet_r14 F x6 x7 x8 x9 x10 x11 (fun x6 x7 x8 x9 x10 x11 x63 => onB x63 (L7_FrontMeet_k4 F A3 x6 x7 x8 x9 x10) (L7_FrontMeet_r15 F x6 x7 x8 x9 x10 x11 (fun x6 x7 x8 x9 x10 x70 => onB x70 (L7_FrontMeet_r16 F (fun x4 => ret x4)) (L7_FrontMeet_k4 F A3 x6 x7 x8 x9 x10)))))) (E3_2 x6 x7 x8 x9))

def L7_FrontMeet_l3 (F : Nat) (E3_2 : Value → Value → Value → Value → M Value) : Nat → Value → Value → Value → Value → Value → M Value
  | 0, _, _, _, _, _ => fail
  | k3 + 1, x6, x7, x8, x9, x10 => L7_FrontMeet_b3 F E3_2 (L7_FrontMeet_l3 F E3_2 k3) x6 x7 x8 x9 x10

theorem L7_FrontMeet_l3_s (F : Nat) (E3_2 : Value → Value → Value → Value → M Value) (k3 : Nat) (x6 x7 x8 x9 x10 : Value) : L7_FrontMeet_l3 F E3_2 (k3 + 1) x6 x7 x8 x9 x10 = L7_FrontMeet_b3 F E3_2 (L7_FrontMeet_l3 F E3_2 k3) x6 x7 x8 x9 x10 := rfl

def L7_FrontMeet_r10 (F : Nat) (x6 x7 x8 x9 : Value) (K : Value → Value → Value → Value → Value → M Value) : M Value :=
  K x6 x7 x8 x9 (.int .i64 (0))

theorem L7_FrontMeet_r10_ok (F : Nat) (x6 x7 x8 x9 : Value) (K : Value → Value → Value → Value → Value → M Value) : L7_FrontMeet_r10 F x6 x7 x8 x9 K = L7_FrontMeet_R F 10 [(9, x9), (8, x8), (7, x7), (6, x6)] [6, 7, 8, 9, 10] K := by kernel_rfl

def L7_FrontMeet_r8 (F : Nat) (x6 x7 x8 x9 : Value) (K : Value → Value → Value → Value → Value → M Value) : M Value :=
  bnd (opFieldAddr 0 x6) fun v25 => bnd (opLoad v25) fun v26 => bnd (opBin .lss x9 v26) fun v27 => K x6 x7 x8 x9 v27

theorem L7_FrontMeet_r8_ok (F : Nat) (x6 x7 x8 x9 : Value) (K : Value → Value → Value → Value → Value → M Value) : L7_FrontMeet_r8 F x6 x7 x8 x9 K = L7_FrontMeet_R F 8 [(9, x9), (8, x8), (7, x7), (6, x6)] [6, 7, 8, 9, 27] K := by kernel_rfl

def L7_FrontMeet_b1 (F : Nat) (E1_0 : M Value) (A1 : Value → Value → Value → Value → M Value) (x6 x7 x8 x9 : Value) : M Value :=
  L7_FrontMeet_r8 F x6 x7 x8 x9 (fun x6 x7 x8 x9 x27 => onB x27 (L7_FrontMeet_r10 F x6 x7 x8 x9 (fun x6 x7 x8 x9 x10 => L7_FrontMeet_l3 F (fun x6 x7 x8 x9 => L7_FrontMeet_k2 F A1 x6 x7 x8 x9) F x6 x7 x8 x9 x10)) (E1_0 ))

def L7_FrontMeet_l1 (F : Nat) (E1_0 : M Value) : Nat → Value → Value → Value → Value → M Value
  | 0, _, _, _, _ => fail
  | k1 + 1, x6, x7, x8, x9 => L7_FrontMeet_b1 F E1_0 (L7_FrontMeet_l1 F E1_0 k1) x6 x7 x8 x9

theorem L7_FrontMeet_l1_s (F : Nat) (E1_0 : M Value) (k1 : Nat) (x6 x7 x8 x9 : Value) : L7_FrontMeet_l1 F E1_0 (k1 + 1) x6 x7 x8 x9 = L7_FrontMeet_b1 F E1_0 (L7_FrontMeet_l1 F E1_0 k1) x6 x7 x8 x9 := rfl

def L7_FrontMeet_r7 (F : Nat) (x6 x7 x8 : Value) (K : Value → Value → Value → Value → M Value) : M Value :=
  K x6 x7 x8 (.int .i64 (0))

theorem L7_FrontMeet_r7_ok (F : Nat) (x6 x7 x8 : Value) (K : Value → Value → Value → Value → M Value) : L7_FrontMeet_r7 F x6 x7 x8 K = L7_FrontMeet_R F 7 [(8, x8), (7, x7), (6, x6)] [6, 7, 8, 9] K := by kernel_rfl

def L7_FrontMeet_r6 (F : Nat) (x6 x7 : Value) (K : Value → Value → Value → M Value) : M Value :=
  bnd (opFieldAddr 1 x6) fun v20 => bnd (opLoad v20) fun v21 => bnd (opBuildSlice 1 (rep 1 [(.int .i64 (0))]) [(0, 1, false, (.int .i64 (0)))]) fun v22 => bnd (R1_Reach F v21 v22 (.int .i64 (-1))) fun v23 => K x6 x7 v23

theorem L7_FrontMeet_r6_ok (F : Nat) (x6 x7 : Value) (K : Value → Value → Value → M Value) : L7_FrontMeet_r6 F x6 x7 K = L7_FrontMeet_R F 6 [(7, x7), (6, x6)] [6, 7, 8] K := by kernel_rfl

def L7_FrontMeet_r5 (F : Nat) (x6 : Value) (K : Value → Value → M Value) : M Value :=
  bnd (opLoadN 2 x6) fun v18 => bnd (front_Of F v18 (.int .i64 (0))) fun v19 => K x6 v19

theorem L7_FrontMeet_r5_ok (F : Nat) (x6 : Value) (K : Value → Value → M Value) : L7_FrontMeet_r5 F x6 K = L7_FrontMeet_R F 5 [(6, x6)] [6, 7] K := by kernel_rfl

def L7_FrontMeet_r4 (F : Nat) (x0 x1 : Value) (K : Value → M Value) : M Value :=
  bnd (L5_Made F x0 x1) fun v17 => bnd (opPtr [(.int .i64 (0)), (.slice none 0 0)]) fun v6 => bnd (opStoreN 2 v6 v17) fun _ => K v6

theorem L7_FrontMeet_r4_ok (F : Nat) (x0 x1 : Value) (K : Value → M Value) : L7_FrontMeet_r4 F x0 x1 K = L7_FrontMeet_R F 4 [(1, x1), (0, x0)] [6] K := by kernel_rfl

def L7_FrontMeet_r3 (F : Nat) (K : Value → M Value) : M Value :=
  K (.bool false)

theorem L7_FrontMeet_r3_ok (F : Nat) (K : Value → M Value) : L7_FrontMeet_r3 F K = L7_FrontMeet_R F 3 [] [4] K := by kernel_rfl

def L7_FrontMeet_r2 (F : Nat) (x0 x1 x5 : Value) (K : Value → Value → Value → M Value) : M Value :=
  bnd (opNot x5) fun v14 => K x0 x1 v14

theorem L7_FrontMeet_r2_ok (F : Nat) (x0 x1 x5 : Value) (K : Value → Value → Value → M Value) : L7_FrontMeet_r2 F x0 x1 x5 K = L7_FrontMeet_R F 2 [(5, x5), (1, x1), (0, x0)] [0, 1, 14] K := by kernel_rfl

def L7_FrontMeet_r1 (F : Nat) (x0 x1 : Value) (K : Value → Value → Value → M Value) : M Value :=
  bnd (L7_begun F) fun v12 => K x0 x1 v12

theorem L7_FrontMeet_r1_ok (F : Nat) (x0 x1 : Value) (K : Value → Value → Value → M Value) : L7_FrontMeet_r1 F x0 x1 K = L7_FrontMeet_R F 1 [(1, x1), (0, x0)] [0, 1, 5] K := by kernel_rfl

def L7_FrontMeet_r0 (F : Nat) (x0 x1 : Value) (K : Value → Value → M Value) : M Value :=
  K x0 x1

theorem L7_FrontMeet_r0_ok (F : Nat) (x0 x1 : Value) (K : Value → Value → M Value) : L7_FrontMeet_r0 F x0 x1 K = L7_FrontMeet_R F 0 [(1, x1), (0, x0)] [0, 1] K := by kernel_rfl

def L7_FrontMeet (F : Nat) (x0 x1 : Value) : M Value :=
  L7_FrontMeet_r0 F x0 x1 (fun x0 x1 => L7_FrontMeet_r1 F x0 x1 (fun x0 x1 x5 => L7_FrontMeet_r2 F x0 x1 x5 (fun x0 x1 x14 => onB x14 (L7_FrontMeet_r3 F (fun x4 => ret x4)) (L7_FrontMeet_r4 F x0 x1 (fun x6 => L7_FrontMeet_r5 F x6 (fun x6 x7 => L7_FrontMeet_r6 F x6 x7 (fun x6 x7 x8 => L7_FrontMeet_r7 F x6 x7 x8 (fun x6 x7 x8 x9 => L7_FrontMeet_l1 F (L7_FrontMeet_k0 F ) F x6 x7 x8 x9))))))))

def L7_FrontMeet_m (F : Nat) : List Value → M Value
  | [x0, x1] => L7_FrontMeet F x0 x1
  | _ => fail

theorem L7_FrontMeet_body : Tryd.f4.body = some (.seq (.region 0 (opsOf Tryd.f4 0) false) (.seq (.region 1 (opsOf Tryd.f4 1) false) (.seq (.seq (.region 2 (opsOf Tryd.f4 2) false) (.cond (.tmp 14) (.seq (.region 3 (opsOf Tryd.f4 3) false) .ret) .skip)) (.seq (.region 4 (opsOf Tryd.f4 4) false) (.seq (.region 5 (opsOf Tryd.f4 5) false) (.seq (.region 6 (opsOf Tryd.f4 6) false) (.seq (.seq (.region 7 (opsOf Tryd.f4 7) false) (.block 0 (.loop (.seq (.seq (.region 8 (opsOf Tryd.f4 8) false) (.cond (.tmp 27) .skip (.exit 0))) (.seq (.block 1 (.seq (.region 10 (opsOf Tryd.f4 10) false) (.block 2 (.loop (.seq (.seq (.region 11 (opsOf Tryd.f4 11) false) (.cond (.tmp 43) .skip (.exit 2))) (.seq (.block 3 (.seq (.region 13 (opsOf Tryd.f4 13) false) (.seq (.seq (.region 14 (opsOf Tryd.f4 14) false) (.cond (.tmp 63) (.exit 3) .skip)) (.seq (.region 15 (opsOf Tryd.f4 15) false) (.cond (.tmp 70) (.seq (.region 16 (opsOf Tryd.f4 16) false) .ret) .skip))))) (.region 12 (opsOf Tryd.f4 12) false))))))) (.region 9 (opsOf Tryd.f4 9) false)))))) (.seq (.region 17 (opsOf Tryd.f4 17) false) .ret)))))))) := by kernel_rfl

theorem L7_FrontMeet_ok (F : Nat) : Sim Tryd.prog TrydG 4 (L7_FrontMeet_m F) := by
 have hE : EnvOK Tryd.prog TrydG (L7_FrontMeet_env F) := (EnvOK.cons (L7_begun_ok F) (EnvOK.cons (L5_Made_ok F) (EnvOK.cons (front_Of_ok F) (EnvOK.cons (R1_Reach_ok F) (EnvOK.cons (R1_Above_ok F) (EnvOK.cons (bitset_Set_Has_ok F) EnvOK.nil))))))
 refine Sim.of_body (E := L7_FrontMeet_env F) Tryd.func4 L7_FrontMeet_body Tryd.call4 ?_ ?_
 · intro args hl; unfold L7_FrontMeet_m; split
   · exact absurd hl (Nat.not_lt.2 (Nat.le_of_ble_eq_true rfl))
   · rfl
 · intro args ρ h w z; unfold L7_FrontMeet_m; split
   · rename_i x0 x1; show OKc _ _ [(0, x0), (1, x1)] _ _
     refine rSeq ?_
     refine cLess [1, 0] ?_
     refine xR hE [0, 1] rfl (L7_FrontMeet_r0_ok F _ _ _) ?_
     intro x0 x1
     show OKq _ _ _ [(1, x1), (0, x0)] _
     refine rThen ?_
     refine rSeq ?_
     refine cLess [1, 0] ?_
     refine xR hE [0, 1, 5] rfl (L7_FrontMeet_r1_ok F _ _ _) ?_
     intro x0 x1 x5
     show OKq _ _ _ [(5, x5), (1, x1), (0, x0)] _
     refine rThen ?_
     refine rSeq ?_
     refine rSeq ?_
     refine cLess [5, 1, 0] ?_
     refine xR hE [0, 1, 14] rfl (L7_FrontMeet_r2_ok F _ _ _ _) ?_
     intro x0 x1 x14
     show OKq _ _ _ [(14, x14), (1, x1), (0, x0)] _
     refine rThen ?_
     refine xCond rfl rfl ?_ ?_
     · refine rSeq ?_
       refine cLess [] ?_
       refine xR hE [4] rfl (L7_FrontMeet_r3_ok F _) ?_
       intro x4
       show OKq _ _ _ [(4, x4)] _
       refine rThen ?_
       refine rRet ?_
       refine xThenR ?_
       exact rDone (.inr rfl) rfl
     · refine rSkip ?_
       refine rThen ?_
       refine rSeq ?_
       refine cLess [1, 0] ?_
       refine xR hE [6] rfl (L7_FrontMeet_r4_ok F _ _ _) ?_
       intro x6
       show OKq _ _ _ [(6, x6)] _
       refine rThen ?_
       refine rSeq ?_
       refine cLess [6] ?_
       refine xR hE [6, 7] rfl (L7_FrontMeet_r5_ok F _ _) ?_
       intro x6 x7
       show OKq _ _ _ [(7, x7), (6, x6)] _
       refine rThen ?_
       refine rSeq ?_
       refine cLess [7, 6] ?_
       refine xR hE [6, 7, 8] rfl (L7_FrontMeet_r6_ok F _ _ _) ?_
       intro x6 x7 x8
       show OKq _ _ _ [(8, x8), (7, x7), (6, x6)] _
       refine rThen ?_
       refine xSeq [] (L7_FrontMeet_k0 F ) ?_ fun hj0 => ?_
       · show OKc _ _ [] _ _
         refine rSeq ?_
         refine cLess [] ?_
         refine xR hE [4] rfl (L7_FrontMeet_r17_ok F _) ?_
         intro x4
         show OKq _ _ _ [(4, x4)] _
         refine rThen ?_
         refine rRet ?_
         exact rDone (.inr rfl) rfl
       · refine rSeq ?_
         refine cLess [8, 7, 6] ?_
         refine xR hE [6, 7, 8, 9] rfl (L7_FrontMeet_r7_ok F _ _ _ _) ?_
         intro x6 x7 x8 x9
         show OKq _ _ _ [(9, x9), (8, x8), (7, x7), (6, x6)] _
         refine rThen ?_
         refine rBlock ?_
         refine cLess [9, 8, 7, 6] ?_
         refine xLoopAt [6, 7, 8, 9] [] (fun k1 => L7_FrontMeet_l1 F (L7_FrontMeet_k0 F ) k1) F [x6, x7, x8, x9] rfl rfl (fun _ _ _ _ => rfl) fun I hI1 k1 => ?_
         intro x6 x7 x8 x9
         show OKc _ _ [(9, x9), (8, x8), (7, x7), (6, x6)] _ _
         refine cAs (L7_FrontMeet_l1_s F _ _ _ _ _ _) ?_
         refine rSeq ?_
         refine rSeq ?_
         refine cLess [9, 8, 7, 6] ?_
         refine xR hE [6, 7, 8, 9, 27] rfl (L7_FrontMeet_r8_ok F _ _ _ _ _) ?_
         intro x6 x7 x8 x9 x27
         show OKq _ _ _ [(27, x27), (9, x9), (8, x8), (7, x7), (6, x6)] _
         refine rThen ?_
         refine xCond rfl rfl ?_ ?_
         · refine rSkip ?_
           refine rThen ?_
           refine xSeq [6, 7, 8, 9] (L7_FrontMeet_k2 F (L7_FrontMeet_l1 F (L7_FrontMeet_k0 F ) k1) ) ?_ fun hj2 => ?_
           · intro x6 x7 x8 x9
             show OKc _ _ [(9, x9), (8, x8), (7, x7), (6, x6)] _ _
             refine cLess [9, 8, 7, 6] ?_
             refine xR hE [6, 7, 8, 9] rfl (L7_FrontMeet_r9_ok F _ _ _ _ _) ?_
             intro x6 x7 x8 x9
             show OKq _ _ _ [(9, x9), (8, x8), (7, x7), (6, x6)] _
             exact qLess [9, 8, 7, 6] (hI1 k1 x6 x7 x8 x9)
           · refine rBlock ?_
             refine rSeq ?_
             refine cLess [9, 8, 7, 6] ?_
             refine xR hE [6, 7, 8, 9, 10] rfl (L7_FrontMeet_r10_ok F _ _ _ _ _) ?_
             intro x6 x7 x8 x9 x10
             show OKq _ _ _ [(10, x10), (9, x9), (8, x8), (7, x7), (6, x6)] _
             refine rThen ?_
             refine rBlock ?_
             refine cLess [10, 9, 8, 7, 6] ?_
             refine xLoopAt [6, 7, 8, 9, 10] [] (fun k3 => L7_FrontMeet_l3 F (fun x6 x7 x8 x9 => L7_FrontMeet_k2 F (L7_FrontMeet_l1 F (L7_FrontMeet_k0 F ) k1) x6 x7 x8 x9) k3) F [x6, x7, x8, x9, x10] rfl rfl (fun _ _ _ _ _ => rfl) fun I hI3 k3 => ?_
             intro x6 x7 x8 x9 x10
             show OKc _ _ [(10, x10), (9, x9), (8, x8), (7, x7), (6, x6)] _ _
             refine cAs (L7_FrontMeet_l3_s F _ _ _ _ _ _ _) ?_
             refine rSeq ?_
             refine rSeq ?_
             refine cLess [10, 9, 8, 7, 6] ?_
             refine xR hE [6, 7, 8, 9, 10, 43] rfl (L7_FrontMeet_r11_ok F _ _ _ _ _ _) ?_
             intro x6 x7 x8 x9 x10 x43
             show OKq _ _ _ [(43, x43), (10, x10), (9, x9), (8, x8), (7, x7), (6, x6)] _
             refine rThen ?_
             refine xCond rfl rfl ?_ ?_
             · refine rSkip ?_
               refine rThen ?_
               refine xSeq [6, 7, 8, 9, 10] (L7_FrontMeet_k4 F (L7_FrontMeet_l3 F (fun x6 x7 x8 x9 => L7_FrontMeet_k2 F (L7_FrontMeet_l1 F (L7_FrontMeet_k0 F ) k1) x6 x7 x8 x9) k3) ) ?_ fun hj4 => ?_
               · intro x6 x7 x8 x9 x10
                 show OKc _ _ [(10, x10), (9, x9), (8, x8), (7, x7), (6, x6)] _ _
                 refine cLess [10, 9, 8, 7, 6] ?_
                 refine xR hE [6, 7, 8, 9, 10] rfl (L7_FrontMeet_r12_ok F _ _ _ _ _ _) ?_
                 intro x6 x7 x8 x9 x10
                 show OKq _ _ _ [(10, x10), (9, x9), (8, x8), (7, x7), (6, x6)] _
                 exact qLess [10, 9, 8, 7, 6] (hI3 k3 x6 x7 x8 x9 x10)
               · refine rBlock ?_
                 refine rSeq ?_
                 refine cLess [10, 9, 8, 7, 6] ?_
                 refine xR hE [6, 7, 8, 9, 10, 11] rfl (L7_FrontMeet_r13_ok F _ _ _ _ _ _) ?_
                 intro x6 x7 x8 x9 x10 x11
                 show OKq _ _ _ [(11, x11), (10, x10), (9, x9), (8, x8), (7, x7), (6, x6)] _
                 refine rThen ?_
                 refine rSeq ?_
                 refine rSeq ?_
                 refine cLess [11, 10, 9, 8, 7, 6] ?_
                 refine xR hE [6, 7, 8, 9, 10, 11, 63] rfl (L7_FrontMeet_r14_ok F _ _ _ _ _ _ _) ?_
                 intro x6 x7 x8 x9 x10 x11 x63
                 show OKq _ _ _ [(63, x63), (11, x11), (10, x10), (9, x9), (8, x8), (7, x7), (6, x6)] _
                 refine rThen ?_
                 refine xCond rfl rfl ?_ ?_
                 · refine rExit ?_
                   refine xThenX ?_
                   refine rOut ?_
                   exact qLess [10, 9, 8, 7, 6] (hj4 x6 x7 x8 x9 x10)
                 · refine rSkip ?_
                   refine rThen ?_
                   refine rSeq ?_
                   refine cLess [11, 10, 9, 8, 7, 6] ?_
                   refine xR hE [6, 7, 8, 9, 10, 70] rfl (L7_FrontMeet_r15_ok F _ _ _ _ _ _ _) ?_
                   intro x6 x7 x8 x9 x10 x70
                   show OKq _ _ _ [(70, x70), (10, x10), (9, x9), (8, x8), (7, x7), (6, x6)] _
                   refine rThen ?_
                   refine xCond rfl rfl ?_ ?_
                   · refine rSeq ?_
                     refine cLess [] ?_
                     refine xR hE [4] rfl (L7_FrontMeet_r16_ok F _) ?_
                     intro x4
                     show OKq _ _ _ [(4, x4)] _
                     refine rThen ?_
                     refine rRet ?_
                     refine xBlockR ?_
                     refine xThenR ?_
                     refine xThenR ?_
                     refine xBlockR ?_
                     refine xBlockR ?_
                     refine xThenR ?_
                     refine xThenR ?_
                     refine xBlockR ?_
                     refine xThenR ?_
                     exact rDone (.inr rfl) rfl
                   · refine rSkip ?_
                     refine xBlockN ?_
                     exact qLess [10, 9, 8, 7, 6] (hj4 x6 x7 x8 x9 x10)
             · refine rExit ?_
               refine xThenX ?_
               refine xThenX ?_
               refine rOut ?_
               refine xBlockN ?_
               exact qLess [9, 8, 7, 6] (hj2 x6 x7 x8 x9)
         · refine rExit ?_
           refine xThenX ?_
           refine xThenX ?_
           refine rOut ?_
           exact qLess [] (hj0 )
   · exact rFail


/-! ### haruspex/haruspexlaw7.FrontBelow -/

def L7_FrontBelow_env (F : Nat) : Env := envOf [(8, L7_begun_m F), (9, L5_Made_m F), (10, front_Of_m F), (13, bitset_Set_All_m F), (21, dom_Up_m F), (22, graph_Turn_m F), (23, dom_Above_m F)]

noncomputable def L7_FrontBelow_R (F : Nat) := rK Tryd.prog TrydG (L7_FrontBelow_env F) Tryd.f5
noncomputable def L7_FrontBelow_D (F : Nat) := dK Tryd.prog TrydG (L7_FrontBelow_env F) Tryd.f5

def L7_FrontBelow_r23 (F : Nat) (K : Value → M Value) : M Value :=
  K (.bool true)

theorem L7_FrontBelow_r23_ok (F : Nat) (K : Value → M Value) : L7_FrontBelow_r23 F K = L7_FrontBelow_R F 23 [] [4] K := by kernel_rfl

def L7_FrontBelow_k0 (F : Nat) : M Value :=
  L7_FrontBelow_r23 F (fun x4 => ret x4)

def L7_FrontBelow_r10 (F : Nat) (x6 x7 x8 x9 x10 : Value) (K : Value → Value → Value → Value → Value → M Value) : M Value :=
  bnd (opBin .add x10 (.int .i64 (1))) fun v33 => K x6 x7 x8 x9 v33

theorem L7_FrontBelow_r10_ok (F : Nat) (x6 x7 x8 x9 x10 : Value) (K : Value → Value → Value → Value → Value → M Value) : L7_FrontBelow_r10 F x6 x7 x8 x9 x10 K = L7_FrontBelow_R F 10 [(10, x10), (9, x9), (8, x8), (7, x7), (6, x6)] [6, 7, 8, 9, 10] K := by kernel_rfl

def L7_FrontBelow_k2 (F : Nat) (A1 : Value → Value → Value → Value → Value → M Value) (x6 x7 x8 x9 x10 : Value) : M Value :=
  L7_FrontBelow_r10 F x6 x7 x8 x9 x10 (fun x6 x7 x8 x9 x10 => A1 x6 x7 x8 x9 x10)

def L7_FrontBelow_r14 (F : Nat) (x6 x7 x8 x9 x10 x11 x12 : Value) (K : Value → Value → Value → Value → Value → Value → Value → M Value) : M Value :=
  bnd (opBin .add x12 (.int .i64 (1))) fun v44 => K x6 x7 x8 x9 x10 x11 v44

theorem L7_FrontBelow_r14_ok (F : Nat) (x6 x7 x8 x9 x10 x11 x12 : Value) (K : Value → Value → Value → Value → Value → Value → Value → M Value) : L7_FrontBelow_r14 F x6 x7 x8 x9 x10 x11 x12 K = L7_FrontBelow_R F 14 [(12, x12), (11, x11), (10, x10), (9, x9), (8, x8), (7, x7), (6, x6)] [6, 7, 8, 9, 10, 11, 12] K := by kernel_rfl

def L7_FrontBelow_k4 (F : Nat) (A3 : Value → Value → Value → Value → Value → Value → Value → M Value) (x6 x7 x8 x9 x10 x11 x12 : Value) : M Value :=
  L7_FrontBelow_r14 F x6 x7 x8 x9 x10 x11 x12 (fun x6 x7 x8 x9 x10 x11 x12 => A3 x6 x7 x8 x9 x10 x11 x12)

def L7_FrontBelow_r22 (F : Nat) (K : Value → M Value) : M Value :=
  K (.bool false)

theorem L7_FrontBelow_r22_ok (F : Nat) (K : Value → M Value) : L7_FrontBelow_r22 F K = L7_FrontBelow_R F 22 [] [4] K := by kernel_rfl

def L7_FrontBelow_r21 (F : Nat) (x6 x7 x8 x9 x10 x11 x12 x13 x14 : Value) (K : Value → Value → Value → Value → Value → Value → Value → Value → M Value) : M Value :=
  bnd (opNot x14) fun v74 => onB v74 (K x6 x7 x8 x9 x10 x11 x12 (.bool true)) (bnd (opBin .neq x10 x13) fun v78 => onB v78 (bnd (dom_Above F x8 x10 x13) fun v83 => K x6 x7 x8 x9 x10 x11 x12 v83) (K x6 x7 x8 x9 x10 x11 x12 (.bool false)))

theorem L7_FrontBelow_r21_ok (F : Nat) (x6 x7 x8 x9 x10 x11 x12 x13 x14 : Value) (K : Value → Value → Value → Value → Value → Value → Value → Value → M Value) : L7_FrontBelow_r21 F x6 x7 x8 x9 x10 x11 x12 x13 x14 K = L7_FrontBelow_R F 21 [(14, x14), (13, x13), (12, x12), (11, x11), (10, x10), (9, x9), (8, x8), (7, x7), (6, x6)] [6, 7, 8, 9, 10, 11, 12, 85] K := by kernel_rfl

def L7_FrontBelow_k5 (F : Nat) (A3 : Value → Value → Value → Value → Value → Value → Value → M Value) (x6 x7 x8 x9 x10 x11 x12 x13 x14 : Value) : M Value :=
  L7_FrontBelow_r21 F x6 x7 x8 x9 x10 x11 x12 x13 x14 (fun x6 x7 x8 x9 x10 x11 x12 x85 => onB x85 (L7_FrontBelow_r22 F (fun x4 => ret x4)) (L7_FrontBelow_k4 F A3 x6 x7 x8 x9 x10 x11 x12))

def L7_FrontBelow_r19 (F : Nat) (x6 x7 x8 x9 x10 x11 x12 x13 x14 x15 : Value) (K : Value → Value → Value → Value → Value → Value → Value → Value → Value → Value → M Value) : M Value :=
  bnd (opBin .add x15 (.int .i64 (1))) fun v58 => K x6 x7 x8 x9 x10 x11 x12 x13 x14 v58

theorem L7_FrontBelow_r19_ok (F : Nat) (x6 x7 x8 x9 x10 x11 x12 x13 x14 x15 : Value) (K : Value → Value → Value → Value → Value → Value → Value → Value → Value → Value → M Value) : L7_FrontBelow_r19 F x6 x7 x8 x9 x10 x11 x12 x13 x14 x15 K = L7_FrontBelow_R F 19 [(15, x15), (14, x14), (13, x13), (12, x12), (11, x11), (10, x10), (9, x9), (8, x8), (7, x7), (6, x6)] [6, 7, 8, 9, 10, 11, 12, 13, 14, 15] K := by kernel_rfl

def L7_FrontBelow_r20 (F : Nat) (x6 x7 x8 x9 x10 x11 x12 x13 x14 x15 : Value) (K : Value → Value → Value → Value → Value → Value → Value → Value → Value → Value → M Value) : M Value :=
  onB x14 (K x6 x7 x8 x9 x10 x11 x12 x13 (.bool true) x15) (bnd (opFieldAddr 1 x9) fun v63 => bnd (opLoad v63) fun v64 => bnd (opIndexAddr 1 v64 x13) fun v66 => bnd (opLoad v66) fun v67 => bnd (opIndexAddr 1 v67 x15) fun v69 => bnd (opLoad v69) fun v70 => bnd (dom_Above F x8 x10 v70) fun v71 => K x6 x7 x8 x9 x10 x11 x12 x13 v71 x15)

theorem L7_FrontBelow_r20_ok (F : Nat) (x6 x7 x8 x9 x10 x11 x12 x13 x14 x15 : Value) (K : Value → Value → Value → Value → Value → Value → Value → Value → Value → Value → M Value) : L7_FrontBelow_r20 F x6 x7 x8 x9 x10 x11 x12 x13 x14 x15 K = L7_FrontBelow_R F 20 [(15, x15), (14, x14), (13, x13), (12, x12), (11, x11), (10, x10), (9, x9), (8, x8), (7, x7), (6, x6)] [6, 7, 8, 9, 10, 11, 12, 13, 14, 15] K := by kernel_rfl

def L7_FrontBelow_r18 (F : Nat) (x6 x7 x8 x9 x10 x11 x12 x13 x14 x15 : Value) (K : Value → Value → Value → Value → Value → Value → Value → Value → Value → Value → Value → M Value) : M Value :=
  bnd (opFieldAddr 1 x9) fun v50 => bnd (opLoad v50) fun v51 => bnd (opIndexAddr 1 v51 x13) fun v53 => bnd (opLoad v53) fun v54 => bnd (opLen v54) fun v55 => bnd (opBin .lss x15 v55) fun v56 => K x6 x7 x8 x9 x10 x11 x12 x13 x14 x15 v56

theorem L7_FrontBelow_r18_ok (F : Nat) (x6 x7 x8 x9 x10 x11 x12 x13 x14 x15 : Value) (K : Value → Value → Value → Value → Value → Value → Value → Value → Value → Value → Value → M Value) : L7_FrontBelow_r18 F x6 x7 x8 x9 x10 x11 x12 x13 x14 x15 K = L7_FrontBelow_R F 18 [(15, x15), (14, x14), (13, x13), (12, x12), (11, x11), (10, x10), (9, x9), (8, x8), (7, x7), (6, x6)] [6, 7, 8, 9, 10, 11, 12, 13, 14, 15, 56] K := by kernel_rfl

def L7_FrontBelow_b6 (F : Nat) (E6_4 : Value → Value → Value → Value → Value → Value → Value → Value → Value → M Value) (A6 : Value → Value → Value → Value → Value → Value → Value → Value → Value → Value → M Value) (x6 x7 x8 x9 x10 x11 x12 x13 x14 x15 : Value) : M Value :=
  L7_FrontBelow_r18 F x6 x7 x8 x9 x10 x11 x12 x13 x14 x15 (fun x6 x7 x8 x9 x10 x11 x12 x13 x14 x15 x56 => onB x56 (L7_FrontBelow_r20 F x6 x7 x8 x9 x10 x11 x12 x13 x14 x15 (fun x6 x7 x8 x9 x10 x11 x12 x13 x14 x15 => L7_FrontBelow_r19 F x6 x7 x8 x9 x10 x11 x12 x13 x14 x15 (fun x6 x7 x8 x9 x10 x11 x12 x13 x14 x15 => A6 x6 x7 x8 x9 x10 x11 x12 x13 x14 x15))) (E6_4 x6 x7 x8 x9 x10 x11 x12 x13 x14))

def L7_FrontBelow_l6 (F : Nat) (E6_4 : Value → Value → Value → Value → Value → Value → Value → Value → Value → M Value) : Nat → Value → Value → Value → Value → Value → Value → Value → Value → Value → Value → M Value
  | 0, _, _, _, _, _, _, _, _, _, _ => fail
  | k6 + 1, x6, x7, x8, x9, x10, x11, x12, x13, x14, x15 => L7_FrontBelow_b6 F E6_4 (L7_FrontBelow_l6 F E6_4 k6) x6 x7 x8 x9 x10 x11 x12 x13 x14 x15

theorem L7_FrontBelow_l6_s (F : Nat) (E6_4 : Value → Value → Value → Value → Value → Value → Value → Value → Value → M Value) (k6 : Nat) (x6 x7 x8 x9 x10 x11 x12 x13 x14 x15 : Value) : L7_FrontBelow_l6 F E6_4 (k6 + 1) x6 x7 x8 x9 x10 x11 x12 x13 x14 x15 = L7_FrontBelow_b6 F E6_4 (L7_FrontBelow_l6 F E6_4 k6) x6 x7 x8 x9 x10 x11 x12 x13 x14 x15 := rfl

def L7_FrontBelow_r17 (F : Nat) (x6 x7 x8 x9 x10 x11 x12 x13 x14 : Value) (K : Value → Value → Value → Value → Value → Value → Value → Value → Value → Value → M Value) : M Value :=
  K x6 x7 x8 x9 x10 x11 x12 x13 x14 (.int .i64 (0))

theorem L7_FrontBelow_r17_ok (F : Nat) (x6 x7 x8 x9 x10 x11 x12 x13 x14 : Value) (K : Value → Value → Value → Value → Value → Value → Value → Value → Value → Value → M Value) : L7_FrontBelow_r17 F x6 x7 x8 x9 x10 x11 x12 x13 x14 K = L7_FrontBelow_R F 17 [(14, x14), (13, x13), (12, x12), (11, x11), (10, x10), (9, x9), (8, x8), (7, x7), (6, x6)] [6, 7, 8, 9, 10, 11, 12, 13, 14, 15] K := by kernel_rfl

def L7_FrontBelow_r16 (F : Nat) (x6 x7 x8 x9 x10 x11 x12 x13 : Value) (K : Value → Value → Value → Value → Value → Value → Value → Value → Value → M Value) : M Value :=
  K x6 x7 x8 x9 x10 x11 x12 x13 (.bool false)

theorem L7_FrontBelow_r16_ok (F : Nat) (x6 x7 x8 x9 x10 x11 x12 x13 : Value) (K : Value → Value → Value → Value → Value → Value → Value → Value → Value → M Value) : L7_FrontBelow_r16 F x6 x7 x8 x9 x10 x11 x12 x13 K = L7_FrontBelow_R F 16 [(13, x13), (12, x12), (11, x11), (10, x10), (9, x9), (8, x8), (7, x7), (6, x6)] [6, 7, 8, 9, 10, 11, 12, 13, 14] K := by kernel_rfl

def L7_FrontBelow_r15 (F : Nat) (x6 x7 x8 x9 x10 x11 x12 : Value) (K : Value → Value → Value → Value → Value → Value → Value → Value → M Value) : M Value :=
  bnd (opIndexAddr 1 x11 x12) fun v47 => bnd (opLoad v47) fun v48 => K x6 x7 x8 x9 x10 x11 x12 v48

theorem L7_FrontBelow_r15_ok (F : Nat) (x6 x7 x8 x9 x10 x11 x12 : Value) (K : Value → Value → Value → Value → Value → Value → Value → Value → M Value) : L7_FrontBelow_r15 F x6 x7 x8 x9 x10 x11 x12 K = L7_FrontBelow_R F 15 [(12, x12), (11, x11), (10, x10), (9, x9), (8, x8), (7, x7), (6, x6)] [6, 7, 8, 9, 10, 11, 12, 13] K := by kernel_rfl

def L7_FrontBelow_r13 (F : Nat) (x6 x7 x8 x9 x10 x11 x12 : Value) (K : Value → Value → Value → Value → Value → Value → Value → Value → M Value) : M Value :=
  bnd (opLen x11) fun v41 => bnd (opBin .lss x12 v41) fun v42 => K x6 x7 x8 x9 x10 x11 x12 v42

theorem L7_FrontBelow_r13_ok (F : Nat) (x6 x7 x8 x9 x10 x11 x12 : Value) (K : Value → Value → Value → Value → Value → Value → Value → Value → M Value) : L7_FrontBelow_r13 F x6 x7 x8 x9 x10 x11 x12 K = L7_FrontBelow_R F 13 [(12, x12), (11, x11), (10, x10), (9, x9), (8, x8), (7, x7), (6, x6)] [6, 7, 8, 9, 10, 11, 12, 42] K := by kernel_rfl

def L7_FrontBelow_b3 (F : Nat) (E3_2 : Value → Value → Value → Value → Value → M Value) (A3 : Value → Value → Value → Value → Value → Value → Value → M Value) (x6 x7 x8 x9 x10 x11 x12 : Value) : M Value :=
  L7_FrontBelow_r13 F x6 x7 x8 x9 x10 x11 x12 (fun x6 x7 x8 x9 x10 x11 x12 x42 => onB x42 (L7_FrontBelow_r15 F x6 x7 x8 x9 x10 x11 x12 (fun x6 x7 x8 x9 x10 x11 x12 x13 => L7_FrontBelow_r16 F x6 x7 x8 x9 x10 x11 x12 x13 (fun x6 x7 x8 x9 x10 x11 x12 x13 x14 => L7_FrontBelow_r17 F x6 x7 x8 x9 x10 x11 x12 x13 x14 (fun x6 x7 x8 x9 x10 x11 x12 x13 x14 x15 => L7_FrontBelow_l6 F (fun x6 x7 x8 x9 x10 x11 x12 x13 x14 => L7_FrontBelow_k5 F A3 x6 x7 x8 x9 x10 x11 x12 x13 x14) F x6 x7 x8 x9 x10 x11 x12 x13 x14 x15)))) (E3_2 x6 x7 x8 x9 x10))

def L7_FrontBelow_l3 (F : Nat) (E3_2 : Value → Value → Value → Value → Value → M Value) : Nat → Value → Value → Value → Value → Value → Value → Value → M Value
  | 0, _, _, _, _, _, _, _ => fail
  | k3 + 1, x6, x7, x8, x9, x10, x11, x12 => L7_FrontBelow_b3 F E3_2 (L7_FrontBelow_l3 F E3_2 k3) x6 x7 x8 x9 x10 x11 x12

theorem L7_FrontBelow_l3_s (F : Nat) (E3_2 : Value → Value → Value → Value → Value → M Value) (k3 : Nat) (x6 x7 x8 x9 x10 x11 x12 : Value) : L7_FrontBelow_l3 F E3_2 (k3 + 1) x6 x7 x8 x9 x10 x11 x12 = L7_FrontBelow_b3 F E3_2 (L7_FrontBelow_l3 F E3_2 k3) x6 x7 x8 x9 x10 x11 x12 := rfl

def L7_FrontBelow_r12 (F : Nat) (x6 x7 x8 x9 x10 x11 : Value) (K : Value → Value → Value → Value → Value → Value → Value → M Value) : M Value :=
  K x6 x7 x8 x9 x10 x11 (.int .i64 (0))

theorem L7_FrontBelow_r12_ok (F : Nat) (x6 x7 x8 x9 x10 x11 : Value) (K : Value → Value → Value → Value → Value → Value → Value → M Value) : L7_FrontBelow_r12 F x6 x7 x8 x9 x10 x11 K = L7_FrontBelow_R F 12 [(11, x11), (10, x10), (9, x9), (8, x8), (7, x7), (6, x6)] [6, 7, 8, 9, 10, 11, 12] K := by kernel_rfl

def L7_FrontBelow_r11 (F : Nat) (x6 x7 x8 x9 x10 : Value) (K : Value → Value → Value → Value → Value → Value → M Value) : M Value :=
  bnd (opIndexAddr 1 x7 x10) fun v36 => bnd (opLoad v36) fun v37 => bnd (bitset_Set_All F v37) fun v38 => K x6 x7 x8 x9 x10 v38

theorem L7_FrontBelow_r11_ok (F : Nat) (x6 x7 x8 x9 x10 : Value) (K : Value → Value → Value → Value → Value → Value → M Value) : L7_FrontBelow_r11 F x6 x7 x8 x9 x10 K = L7_FrontBelow_R F 11 [(10, x10), (9, x9), (8, x8), (7, x7), (6, x6)] [6, 7, 8, 9, 10, 11] K := by kernel_rfl

def L7_FrontBelow_r9 (F : Nat) (x6 x7 x8 x9 x10 : Value) (K : Value → Value → Value → Value → Value → Value → M Value) : M Value :=
  bnd (opFieldAddr 0 x6) fun v29 => bnd (opLoad v29) fun v30 => bnd (opBin .lss x10 v30) fun v31 => K x6 x7 x8 x9 x10 v31

theorem L7_FrontBelow_r9_ok (F : Nat) (x6 x7 x8 x9 x10 : Value) (K : Value → Value → Value → Value → Value → Value → M Value) : L7_FrontBelow_r9 F x6 x7 x8 x9 x10 K = L7_FrontBelow_R F 9 [(10, x10), (9, x9), (8, x8), (7, x7), (6, x6)] [6, 7, 8, 9, 10, 31] K := by kernel_rfl

def L7_FrontBelow_b1 (F : Nat) (E1_0 : M Value) (A1 : Value → Value → Value → Value → Value → M Value) (x6 x7 x8 x9 x10 : Value) : M Value :=
  L7_FrontBelow_r9 F x6 x7 x8 x9 x10 (fun x6 x7 x8 x9 x10 x31 => onB x31 (L7_FrontBelow_r11 F x6 x7 x8 x9 x10 (fun x6 x7 x8 x9 x10 x11 => L7_FrontBelow_r12 F x6 x7 x8 x9 x10 x11 (fun x6 x7 x8 x9 x10 x11 x12 => L7_FrontBelow_l3 F (fun x6 x7 x8 x9 x10 => L7_FrontBelow_k2 F A1 x6 x7 x8 x9 x10) F x6 x7 x8 x9 x10 x11 x12))) (E1_0 ))

def L7_FrontBelow_l1 (F : Nat) (E1_0 : M Value) : Nat → Value → Value → Value → Value → Value → M Value
  | 0, _, _, _, _, _ => fail
  | k1 + 1, x6, x7, x8, x9, x10 => L7_FrontBelow_b1 F E1_0 (L7_FrontBelow_l1 F E1_0 k1) x6 x7 x8 x9 x10

theorem L7_FrontBelow_l1_s (F : Nat) (E1_0 : M Value) (k1 : Nat) (x6 x7 x8 x9 x10 : Value) : L7_FrontBelow_l1 F E1_0 (k1 + 1) x6 x7 x8 x9 x10 = L7_FrontBelow_b1 F E1_0 (L7_FrontBelow_l1 F E1_0 k1) x6 x7 x8 x9 x10 := rfl

def L7_FrontBelow_r8 (F : Nat) (x6 x7 x8 x9 : Value) (K : Value → Value → Value → Value → Value → M Value) : M Value :=
  K x6 x7 x8 x9 (.int .i64 (0))

theorem L7_FrontBelow_r8_ok (F : Nat) (x6 x7 x8 x9 : Value) (K : Value → Value → Value → Value → Value → M Value) : L7_FrontBelow_r8 F x6 x7 x8 x9 K = L7_FrontBelow_R F 8 [(9, x9), (8, x8), (7, x7), (6, x6)] [6, 7, 8, 9, 10] K := by kernel_rfl

def L7_FrontBelow_r7 (F : Nat) (x6 x7 x8 : Value) (K : Value → Value → Value → Value → M Value) : M Value :=
  bnd (opLoadN 2 x6) fun v26 => bnd (graph_Turn F v26) fun v27 => bnd (opPtr [(.int .i64 (0)), (.slice none 0 0)]) fun v9 => bnd (opStoreN 2 v9 v27) fun _ => K x6 x7 x8 v9

theorem L7_FrontBelow_r7_ok (F : Nat) (x6 x7 x8 : Value) (K : Value → Value → Value → Value → M Value) : L7_FrontBelow_r7 F x6 x7 x8 K = L7_FrontBelow_R F 7 [(8, x8), (7, x7), (6, x6)] [6, 7, 8, 9] K := by kernel_rfl

def L7_FrontBelow_r6 (F : Nat) (x6 x7 : Value) (K : Value → Value → Value → M Value) : M Value :=
  bnd (opLoadN 2 x6) fun v24 => bnd (dom_Up F v24 (.int .i64 (0))) fun v25 => K x6 x7 v25

theorem L7_FrontBelow_r6_ok (F : Nat) (x6 x7 : Value) (K : Value → Value → Value → M Value) : L7_FrontBelow_r6 F x6 x7 K = L7_FrontBelow_R F 6 [(7, x7), (6, x6)] [6, 7, 8] K := by kernel_rfl

def L7_FrontBelow_r5 (F : Nat) (x6 : Value) (K : Value → Value → M Value) : M Value :=
  bnd (opLoadN 2 x6) fun v22 => bnd (front_Of F v22 (.int .i64 (0))) fun v23 => K x6 v23

theorem L7_FrontBelow_r5_ok (F : Nat) (x6 : Value) (K : Value → Value → M Value) : L7_FrontBelow_r5 F x6 K = L7_FrontBelow_R F 5 [(6, x6)] [6, 7] K := by kernel_rfl

def L7_FrontBelow_r4 (F : Nat) (x0 x1 : Value) (K : Value → M Value) : M Value :=
  bnd (L5_Made F x0 x1) fun v21 => bnd (opPtr [(.int .i64 (0)), (.slice none 0 0)]) fun v6 => bnd (opStoreN 2 v6 v21) fun _ => K v6

theorem L7_FrontBelow_r4_ok (F : Nat) (x0 x1 : Value) (K : Value → M Value) : L7_FrontBelow_r4 F x0 x1 K = L7_FrontBelow_R F 4 [(1, x1), (0, x0)] [6] K := by kernel_rfl

def L7_FrontBelow_r3 (F : Nat) (K : Value → M Value) : M Value :=
  K (.bool false)

theorem L7_FrontBelow_r3_ok (F : Nat) (K : Value → M Value) : L7_FrontBelow_r3 F K = L7_FrontBelow_R F 3 [] [4] K := by kernel_rfl

def L7_FrontBelow_r2 (F : Nat) (x0 x1 x5 : Value) (K : Value → Value → Value → M Value) : M Value :=
  bnd (opNot x5) fun v18 => K x0 x1 v18

theorem L7_FrontBelow_r2_ok (F : Nat) (x0 x1 x5 : Value) (K : Value → Value → Value → M Value) : L7_FrontBelow_r2 F x0 x1 x5 K = L7_FrontBelow_R F 2 [(5, x5), (1, x1), (0, x0)] [0, 1, 18] K := by kernel_rfl

def L7_FrontBelow_r1 (F : Nat) (x0 x1 : Value) (K : Value → Value → Value → M Value) : M Value :=
  bnd (L7_begun F) fun v16 => K x0 x1 v16

theorem L7_FrontBelow_r1_ok (F : Nat) (x0 x1 : Value) (K : Value → Value → Value → M Value) : L7_FrontBelow_r1 F x0 x1 K = L7_FrontBelow_R F 1 [(1, x1), (0, x0)] [0, 1, 5] K := by kernel_rfl

def L7_FrontBelow_r0 (F : Nat) (x0 x1 : Value) (K : Value → Value → M Value) : M Value :=
  K x0 x1

theorem L7_FrontBelow_r0_ok (F : Nat) (x0 x1 : Value) (K : Value → Value → M Value) : L7_FrontBelow_r0 F x0 x1 K = L7_FrontBelow_R F 0 [(1, x1), (0, x0)] [0, 1] K := by kernel_rfl

def L7_FrontBelow (F : Nat) (x0 x1 : Value) : M Value :=
  L7_FrontBelow_r0 F x0 x1 (fun x0 x1 => L7_FrontBelow_r1 F x0 x1 (fun x0 x1 x5 => L7_FrontBelow_r2 F x0 x1 x5 (fun x0 x1 x18 => onB x18 (L7_FrontBelow_r3 F (fun x4 => ret x4)) (L7_FrontBelow_r4 F x0 x1 (fun x6 => L7_FrontBelow_r5 F x6 (fun x6 x7 => L7_FrontBelow_r6 F x6 x7 (fun x6 x7 x8 => L7_FrontBelow_r7 F x6 x7 x8 (fun x6 x7 x8 x9 => L7_FrontBelow_r8 F x6 x7 x8 x9 (fun x6 x7 x8 x9 x10 => L7_FrontBelow_l1 F (L7_FrontBelow_k0 F ) F x6 x7 x8 x9 x10)))))))))

def L7_FrontBelow_m (F : Nat) : List Value → M Value
  | [x0, x1] => L7_FrontBelow F x0 x1
  | _ => fail

theorem L7_FrontBelow_body : Tryd.f5.body = some (.seq (.region 0 (opsOf Tryd.f5 0) false) (.seq (.region 1 (opsOf Tryd.f5 1) false) (.seq (.seq (.region 2 (opsOf Tryd.f5 2) false) (.cond (.tmp 18) (.seq (.region 3 (opsOf Tryd.f5 3) false) .ret) .skip)) (.seq (.region 4 (opsOf Tryd.f5 4) false) (.seq (.region 5 (opsOf Tryd.f5 5) false) (.seq (.region 6 (opsOf Tryd.f5 6) false) (.seq (.region 7 (opsOf Tryd.f5 7) false) (.seq (.seq (.region 8 (opsOf Tryd.f5 8) false) (.block 0 (.loop (.seq (.seq (.region 9 (opsOf Tryd.f5 9) false) (.cond (.tmp 31) .skip (.exit 0))) (.seq (.block 1 (.seq (.region 11 (opsOf Tryd.f5 11) false) (.seq (.region 12 (opsOf Tryd.f5 12) false) (.block 2 (.loop (.seq (.seq (.region 13 (opsOf Tryd.f5 13) false) (.cond (.tmp 42) .skip (.exit 2))) (.seq (.block 3 (.seq (.region 15 (opsOf Tryd.f5 15) false) (.seq (.region 16 (opsOf Tryd.f5 16) false) (.seq (.seq (.region 17 (opsOf Tryd.f5 17) false) (.block 4 (.loop (.seq (.seq (.region 18 (opsOf Tryd.f5 18) false) (.cond (.tmp 56) .skip (.exit 4))) (.seq (.block 5 (.region 20 (opsOf Tryd.f5 20) false)) (.region 19 (opsOf Tryd.f5 19) false)))))) (.seq (.region 21 (opsOf Tryd.f5 21) false) (.cond (.tmp 85) (.seq (.region 22 (opsOf Tryd.f5 22) false) .ret) .skip)))))) (.region 14 (opsOf Tryd.f5 14) false)))))))) (.region 10 (opsOf Tryd.f5 10) false)))))) (.seq (.region 23 (opsOf Tryd.f5 23) false) .ret))))))))) := by kernel_rfl

theorem L7_FrontBelow_ok (F : Nat) : Sim Tryd.prog TrydG 5 (L7_FrontBelow_m F) := by
 have hE : EnvOK Tryd.prog TrydG (L7_FrontBelow_env F) := (EnvOK.cons (L7_begun_ok F) (EnvOK.cons (L5_Made_ok F) (EnvOK.cons (front_Of_ok F) (EnvOK.cons (bitset_Set_All_ok F) (EnvOK.cons (dom_Up_ok F) (EnvOK.cons (graph_Turn_ok F) (EnvOK.cons (dom_Above_ok F) EnvOK.nil)))))))
 refine Sim.of_body (E := L7_FrontBelow_env F) Tryd.func5 L7_FrontBelow_body Tryd.call5 ?_ ?_
 · intro args hl; unfold L7_FrontBelow_m; split
   · exact absurd hl (Nat.not_lt.2 (Nat.le_of_ble_eq_true rfl))
   · rfl
 · intro args ρ h w z; unfold L7_FrontBelow_m; split
   · rename_i x0 x1; show OKc _ _ [(0, x0), (1, x1)] _ _
     refine rSeq ?_
     refine cLess [1, 0] ?_
     refine xR hE [0, 1] rfl (L7_FrontBelow_r0_ok F _ _ _) ?_
     intro x0 x1
     show OKq _ _ _ [(1, x1), (0, x0)] _
     refine rThen ?_
     refine rSeq ?_
     refine cLess [1, 0] ?_
     refine xR hE [0, 1, 5] rfl (L7_FrontBelow_r1_ok F _ _ _) ?_
     intro x0 x1 x5
     show OKq _ _ _ [(5, x5), (1, x1), (0, x0)] _
     refine rThen ?_
     refine rSeq ?_
     refine rSeq ?_
     refine cLess [5, 1, 0] ?_
     refine xR hE [0, 1, 18] rfl (L7_FrontBelow_r2_ok F _ _ _ _) ?_
     intro x0 x1 x18
     show OKq _ _ _ [(18, x18), (1, x1), (0, x0)] _
     refine rThen ?_
     refine xCond rfl rfl ?_ ?_
     · refine rSeq ?_
       refine cLess [] ?_
       refine xR hE [4] rfl (L7_FrontBelow_r3_ok F _) ?_
       intro x4
       show OKq _ _ _ [(4, x4)] _
       refine rThen ?_
       refine rRet ?_
       refine xThenR ?_
       exact rDone (.inr rfl) rfl
     · refine rSkip ?_
       refine rThen ?_
       refine rSeq ?_
       refine cLess [1, 0] ?_
       refine xR hE [6] rfl (L7_FrontBelow_r4_ok F _ _ _) ?_
       intro x6
       show OKq _ _ _ [(6, x6)] _
       refine rThen ?_
       refine rSeq ?_
       refine cLess [6] ?_
       refine xR hE [6, 7] rfl (L7_FrontBelow_r5_ok F _ _) ?_
       intro x6 x7
       show OKq _ _ _ [(7, x7), (6, x6)] _
       refine rThen ?_
       refine rSeq ?_
       refine cLess [7, 6] ?_
       refine xR hE [6, 7, 8] rfl (L7_FrontBelow_r6_ok F _ _ _) ?_
       intro x6 x7 x8
       show OKq _ _ _ [(8, x8), (7, x7), (6, x6)] _
       refine rThen ?_
       refine rSeq ?_
       refine cLess [8, 7, 6] ?_
       refine xR hE [6, 7, 8, 9] rfl (L7_FrontBelow_r7_ok F _ _ _ _) ?_
       intro x6 x7 x8 x9
       show OKq _ _ _ [(9, x9), (8, x8), (7, x7), (6, x6)] _
       refine rThen ?_
       refine xSeq [] (L7_FrontBelow_k0 F ) ?_ fun hj0 => ?_
       · show OKc _ _ [] _ _
         refine rSeq ?_
         refine cLess [] ?_
         refine xR hE [4] rfl (L7_FrontBelow_r23_ok F _) ?_
         intro x4
         show OKq _ _ _ [(4, x4)] _
         refine rThen ?_
         refine rRet ?_
         exact rDone (.inr rfl) rfl
       · refine rSeq ?_
         refine cLess [9, 8, 7, 6] ?_
         refine xR hE [6, 7, 8, 9, 10] rfl (L7_FrontBelow_r8_ok F _ _ _ _ _) ?_
         intro x6 x7 x8 x9 x10
         show OKq _ _ _ [(10, x10), (9, x9), (8, x8), (7, x7), (6, x6)] _
         refine rThen ?_
         refine rBlock ?_
         refine cLess [10, 9, 8, 7, 6] ?_
         refine xLoopAt [6, 7, 8, 9, 10] [] (fun k1 => L7_FrontBelow_l1 F (L7_FrontBelow_k0 F ) k1) F [x6, x7, x8, x9, x10] rfl rfl (fun _ _ _ _ _ => rfl) fun I hI1 k1 => ?_
         intro x6 x7 x8 x9 x10
         show OKc _ _ [(10, x10), (9, x9), (8, x8), (7, x7), (6, x6)] _ _
         refine cAs (L7_FrontBelow_l1_s F _ _ _ _ _ _ _) ?_
         refine rSeq ?_
         refine rSeq ?_
         refine cLess [10, 9, 8, 7, 6] ?_
         refine xR hE [6, 7, 8, 9, 10, 31] rfl (L7_FrontBelow_r9_ok F _ _ _ _ _ _) ?_
         intro x6 x7 x8 x9 x10 x31
         show OKq _ _ _ [(31, x31), (10, x10), (9, x9), (8, x8), (7, x7), (6, x6)] _
         refine rThen ?_
         refine xCond rfl rfl ?_ ?_
         · refine rSkip ?_
           refine rThen ?_
           refine xSeq [6, 7, 8, 9, 10] (L7_FrontBelow_k2 F (L7_FrontBelow_l1 F (L7_FrontBelow_k0 F ) k1) ) ?_ fun hj2 => ?_
           · intro x6 x7 x8 x9 x10
             show OKc _ _ [(10, x10), (9, x9), (8, x8), (7, x7), (6, x6)] _ _
             refine cLess [10, 9, 8, 7, 6] ?_
             refine xR hE [6, 7, 8, 9, 10] rfl (L7_FrontBelow_r10_ok F _ _ _ _ _ _) ?_
             intro x6 x7 x8 x9 x10
             show OKq _ _ _ [(10, x10), (9, x9), (8, x8), (7, x7), (6, x6)] _
             exact qLess [10, 9, 8, 7, 6] (hI1 k1 x6 x7 x8 x9 x10)
           · refine rBlock ?_
             refine rSeq ?_
             refine cLess [10, 9, 8, 7, 6] ?_
             refine xR hE [6, 7, 8, 9, 10, 11] rfl (L7_FrontBelow_r11_ok F _ _ _ _ _ _) ?_
             intro x6 x7 x8 x9 x10 x11
             show OKq _ _ _ [(11, x11), (10, x10), (9, x9), (8, x8), (7, x7), (6, x6)] _
             refine rThen ?_
             refine rSeq ?_
             refine cLess [11, 10, 9, 8, 7, 6] ?_
             refine xR hE [6, 7, 8, 9, 10, 11, 12] rfl (L7_FrontBelow_r12_ok F _ _ _ _ _ _ _) ?_
             intro x6 x7 x8 x9 x10 x11 x12
             show OKq _ _ _ [(12, x12), (11, x11), (10, x10), (9, x9), (8, x8), (7, x7), (6, x6)] _
             refine rThen ?_
             refine rBlock ?_
             refine cLess [12, 11, 10, 9, 8, 7, 6] ?_
             refine xLoopAt [6, 7, 8, 9, 10, 11, 12] [] (fun k3 => L7_FrontBelow_l3 F (fun x6 x7 x8 x9 x10 => L7_FrontBelow_k2 F (L7_FrontBelow_l1 F (L7_FrontBelow_k0 F ) k1) x6 x7 x8 x9 x10) k3) F [x6, x7, x8, x9, x10, x11, x12] rfl rfl (fun _ _ _ _ _ _ _ => rfl) fun I hI3 k3 => ?_
             intro x6 x7 x8 x9 x10 x11 x12
             show OKc _ _ [(12, x12), (11, x11), (10, x10), (9, x9), (8, x8), (7, x7), (6, x6)] _ _
             refine cAs (L7_FrontBelow_l3_s F _ _ _ _ _ _ _ _ _) ?_
             refine rSeq ?_
             refine rSeq ?_
             refine cLess [12, 11, 10, 9, 8, 7, 6] ?_
             refine xR hE [6, 7, 8, 9, 10, 11, 12, 42] rfl (L7_FrontBelow_r13_ok F _ _ _ _ _ _ _ _) ?_
             intro x6 x7 x8 x9 x10 x11 x12 x42
             show OKq _ _ _ [(42, x42), (12, x12), (11, x11), (10, x10), (9, x9), (8, x8), (7, x7), (6, x6)] _
             refine rThen ?_
             refine xCond rfl rfl ?_ ?_
             · refine rSkip ?_
               refine rThen ?_
               refine xSeq [6, 7, 8, 9, 10, 11, 12] (L7_FrontBelow_k4 F (L7_FrontBelow_l3 F (fun x6 x7 x8 x9 x10 => L7_FrontBelow_k2 F (L7_FrontBelow_l1 F (L7_FrontBelow_k0 F ) k1) x6 x7 x8 x9 x10) k3) ) ?_ fun hj4 => ?_
               · intro x6 x7 x8 x9 x10 x11 x12
                 show OKc _ _ [(12, x12), (11, x11), (10, x10), (9, x9), (8, x8), (7, x7), (6, x6)] _ _
                 refine cLess [12, 11, 10, 9, 8, 7, 6] ?_
                 refine xR hE [6, 7, 8, 9, 10, 11, 12] rfl (L7_FrontBelow_r14_ok F _ _ _ _ _ _ _ _) ?_
                 intro x6 x7 x8 x9 x10 x11 x12
                 show OKq _ _ _ [(12, x12), (11, x11), (10, x10), (9, x9), (8, x8), (7, x7), (6, x6)] _
                 exact qLess [12, 11, 10, 9, 8, 7, 6] (hI3 k3 x6 x7 x8 x9 x10 x11 x12)
               · refine rBlock ?_
                 refine rSeq ?_
                 refine cLess [12, 11, 10, 9, 8, 7, 6] ?_
                 refine xR hE [6, 7, 8, 9, 10, 11, 12, 13] rfl (L7_FrontBelow_r15_ok F _ _ _ _ _ _ _ _) ?_
                 intro x6 x7 x8 x9 x10 x11 x12 x13
                 show OKq _ _ _ [(13, x13), (12, x12), (11, x11), (10, x10), (9, x9), (8, x8), (7, x7), (6, x6)] _
                 refine rThen ?_
                 refine rSeq ?_
                 refine cLess [13, 12, 11, 10, 9, 8, 7, 6] ?_
                 refine xR hE [6, 7, 8, 9, 10, 11, 12, 13, 14] rfl (L7_FrontBelow_r16_ok F _ _ _ _ _ _ _ _ _) ?_
                 intro x6 x7 x8 x9 x10 x11 x12 x13 x14
                 show OKq _ _ _ [(14, x14), (13, x13), (12, x12), (11, x11), (10, x10), (9, x9), (8, x8), (7, x7), (6, x6)] _
                 refine rThen ?_
                 refine xSeq [6, 7, 8, 9, 10, 11, 12, 13, 14] (L7_FrontBelow_k5 F (L7_FrontBelow_l3 F (fun x6 x7 x8 x9 x10 => L7_FrontBelow_k2 F (L7_FrontBelow_l1 F (L7_FrontBelow_k0 F ) k1) x6 x7 x8 x9 x10) k3) ) ?_ fun hj5 => ?_
                 · intro x6 x7 x8 x9 x10 x11 x12 x13 x14
                   show OKc _ _ [(14, x14), (13, x13), (12, x12), (11, x11), (10, x10), (9, x9), (8, x8), (7, x7), (6, x6)] _ _
                   refine rSeq ?_
                   refine cLess [14, 13, 12, 11, 10, 9, 8, 7, 6] ?_
                   refine xR hE [6, 7, 8, 9, 10, 11, 12, 85] rfl (L7_FrontBelow_r21_ok F _ _ _ _ _ _ _ _ _ _) ?_
                   intro x6 x7 x8 x9 x10 x11 x12 x85
                   show OKq _ _ _ [(85, x85), (12, x12), (11, x11), (10, x10), (9, x9), (8, x8), (7, x7), (6, x6)] _
                   refine rThen ?_
                   refine xCond rfl rfl ?_ ?_
                   · refine rSeq ?_
                     refine cLess [] ?_
                     refine xR hE [4] rfl (L7_FrontBelow_r22_ok F _) ?_
                     intro x4
                     show OKq _ _ _ [(4, x4)] _
                     refine rThen ?_
                     refine rRet ?_
                     refine xBlockR ?_
                     refine xThenR ?_
                     refine xThenR ?_
                     refine xBlockR ?_
                     refine xBlockR ?_
                     refine xThenR ?_
                     refine xThenR ?_
                     refine xBlockR ?_
                     refine xThenR ?_
                     exact rDone (.inr rfl) rfl
                   · refine rSkip ?_
                     refine xBlockN ?_
                     exact qLess [12, 11, 10, 9, 8, 7, 6] (hj4 x6 x7 x8 x9 x10 x11 x12)
                 · refine rSeq ?_
                   refine cLess [14, 13, 12, 11, 10, 9, 8, 7, 6] ?_
                   refine xR hE [6, 7, 8, 9, 10, 11, 12, 13, 14, 15] rfl (L7_FrontBelow_r17_ok F _ _ _ _ _ _ _ _ _ _) ?_
                   intro x6 x7 x8 x9 x10 x11 x12 x13 x14 x15
                   show OKq _ _ _ [(15, x15), (14, x14), (13, x13), (12, x12), (11, x11), (10, x10), (9, x9), (8, x8), (7, x7), (6, x6)] _
                   refine rThen ?_
                   refine rBlock ?_
                   refine cLess [15, 14, 13, 12, 11, 10, 9, 8, 7, 6] ?_
                   refine xLoopAt [6, 7, 8, 9, 10, 11, 12, 13, 14, 15] [] (fun k6 => L7_FrontBelow_l6 F (fun x6 x7 x8 x9 x10 x11 x12 x13 x14 => L7_FrontBelow_k5 F (L7_FrontBelow_l3 F (fun x6 x7 x8 x9 x10 => L7_FrontBelow_k2 F (L7_FrontBelow_l1 F (L7_FrontBelow_k0 F ) k1) x6 x7 x8 x9 x10) k3) x6 x7 x8 x9 x10 x11 x12 x13 x14) k6) F [x6, x7, x8, x9, x10, x11, x12, x13, x14, x15] rfl rfl (fun _ _ _ _ _ _ _ _ _ _ => rfl) fun I hI6 k6 => ?_
                   intro x6 x7 x8 x9 x10 x11 x12 x13 x14 x15
                   show OKc _ _ [(15, x15), (14, x14), (13, x13), (12, x12), (11, x11), (10, x10), (9, x9), (8, x8), (7, x7), (6, x6)] _ _
                   refine cAs (L7_FrontBelow_l6_s F _ _ _ _ _ _ _ _ _ _ _ _) ?_
                   refine rSeq ?_
                   refine rSeq ?_
                   refine cLess [15, 14, 13, 12, 11, 10, 9, 8, 7, 6] ?_
                   refine xR hE [6, 7, 8, 9, 10, 11, 12, 13, 14, 15, 56] rfl (L7_FrontBelow_r18_ok F _ _ _ _ _ _ _ _ _ _ _) ?_
                   intro x6 x7 x8 x9 x10 x11 x12 x13 x14 x15 x56
                   show OKq _ _ _ [(56, x56), (15, x15), (14, x14), (13, x13), (12, x12), (11, x11), (10, x10), (9, x9), (8, x8), (7, x7), (6, x6)] _
                   refine rThen ?_
                   refine xCond rfl rfl ?_ ?_
                   · refine rSkip ?_
                     refine rThen ?_
                     refine rSeq ?_
                     refine rBlock ?_
                     refine cLess [15, 14, 13, 12, 11, 10, 9, 8, 7, 6] ?_
                     refine xR hE [6, 7, 8, 9, 10, 11, 12, 13, 14, 15] rfl (L7_FrontBelow_r20_ok F _ _ _ _ _ _ _ _ _ _ _) ?_
                     intro x6 x7 x8 x9 x10 x11 x12 x13 x14 x15
                     show OKq _ _ _ [(15, x15), (14, x14), (13, x13), (12, x12), (11, x11), (10, x10), (9, x9), (8, x8), (7, x7), (6, x6)] _
                     refine xBlockN ?_
                     refine rThen ?_
                     refine cLess [15, 14, 13, 12, 11, 10, 9, 8, 7, 6] ?_
                     refine xR hE [6, 7, 8, 9, 10, 11, 12, 13, 14, 15] rfl (L7_FrontBelow_r19_ok F _ _ _ _ _ _ _ _ _ _ _) ?_
                     intro x6 x7 x8 x9 x10 x11 x12 x13 x14 x15
                     show OKq _ _ _ [(15, x15), (14, x14), (13, x13), (12, x12), (11, x11), (10, x10), (9, x9), (8, x8), (7, x7), (6, x6)] _
                     exact qLess [15, 14, 13, 12, 11, 10, 9, 8, 7, 6] (hI6 k6 x6 x7 x8 x9 x10 x11 x12 x13 x14 x15)
                   · refine rExit ?_
                     refine xThenX ?_
                     refine xThenX ?_
                     refine rOut ?_
                     exact qLess [14, 13, 12, 11, 10, 9, 8, 7, 6] (hj5 x6 x7 x8 x9 x10 x11 x12 x13 x14)
             · refine rExit ?_
               refine xThenX ?_
               refine xThenX ?_
               refine rOut ?_
               refine xBlockN ?_
               exact qLess [10, 9, 8, 7, 6] (hj2 x6 x7 x8 x9 x10)
         · refine rExit ?_
           refine xThenX ?_
           refine xThenX ?_
           refine rOut ?_
           exact qLess [] (hj0 )
   · exact rFail



end Go.Fw
