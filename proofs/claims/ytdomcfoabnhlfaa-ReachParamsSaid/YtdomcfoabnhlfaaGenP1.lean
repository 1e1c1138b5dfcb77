/-
  What functions of this seat come to, and that they do: part 1.
-/
import Derived.Test.YtdomcfoabnhlfaaProg
import Derived.Test.YtdomcfoabnhlfaaFwP
import Derived.KernelRfl
import Derived.Test.YtdomcfoabnhlfaaFwSc
set_option linter.unusedVariables false
set_option maxRecDepth 20000
namespace Go.Fw
open Go.Proofs

-- values: [45]
-- left: []
def TryG : Nat := 0
theorem Trymix : Try.prog.follows .mixedOrders = true := by kernel_rfl

/-! ### haruspex/haruspexlaw10.One -/

def L10_One_env (F : Nat) : Env := envOf []

noncomputable def L10_One_R (F : Nat) := rK Try.prog TryG (L10_One_env F) Try.f16
noncomputable def L10_One_D (F : Nat) := dK Try.prog TryG (L10_One_env F) Try.f16

def L10_One_r1 (F : Nat) (K : Value → M Value) : M Value :=
  bnd (opBuild [(.slice none 0 0), (.int .i64 (0)), (.int .i64 (0))] []) fun v1 => bnd (opBuildSlice 1 (rep 1 [(.slice none 0 0), (.int .i64 (0)), (.int .i64 (0))]) [(0, 3, true, v1)]) fun v2 => bnd (opBuild [(.int .i64 (0)), (.int .i64 (0))] []) fun v3 => bnd (opBuildSlice 1 (rep 1 [(.int .i64 (0)), (.int .i64 (0))]) [(0, 2, true, v3)]) fun v4 => bnd (opBuild [(.int .i64 (0)), (.int .i64 (0)), (.int .i64 (0)), (.int .i64 (0)), (.int .i64 (0)), (.slice none 0 0)] [(0, 1, false, (.int .i64 (1))), (4, 1, false, (.int .i64 (7)))]) fun v5 => bnd (opBuildSlice 1 (rep 1 [(.int .i64 (0)), (.int .i64 (0)), (.int .i64 (0)), (.int .i64 (0)), (.int .i64 (0)), (.slice none 0 0)]) [(0, 6, true, v5)]) fun v6 => bnd (opBuild [(.slice none 0 0), (.int .i64 (0)), (.int .i64 (0)), (.int .i64 (0)), (.int .i64 (0))] [(0, 1, false, v6), (1, 1, false, (.int .i64 (3)))]) fun v7 => bnd (opBuildSlice 1 (rep 1 [(.slice none 0 0), (.int .i64 (0)), (.int .i64 (0)), (.int .i64 (0)), (.int .i64 (0))]) [(0, 5, true, v7)]) fun v8 => bnd (opBuild [(.int .i64 (0)), (.slice none 0 0), (.slice none 0 0)] [(1, 1, false, v4), (2, 1, false, v8)]) fun v9 => bnd (opBuildSlice 1 (rep 1 [(.int .i64 (0)), (.slice none 0 0), (.slice none 0 0)]) [(0, 3, true, v9)]) fun v10 => bnd (opBuild [(.slice none 0 0), (.slice none 0 0), (.slice none 0 0), (.slice none 0 0), (.slice none 0 0), (.int .i64 (0))] [(1, 1, false, v2), (4, 1, false, v10)]) fun v11 => bnd (opBoxN v11) fun v12 => K v12

theorem L10_One_r1_ok (F : Nat) (K : Value → M Value) : L10_One_r1 F K = L10_One_R F 1 [] [0] K := by kernel_rfl

def L10_One_r0 (F : Nat) (K : M Value) : M Value :=
  K

theorem L10_One_r0_ok (F : Nat) (K : M Value) : L10_One_r0 F K = L10_One_R F 0 [] [] K := by kernel_rfl

def L10_One (F : Nat) : M Value :=
  L10_One_r0 F (L10_One_r1 F (fun x0 => ret x0))

def L10_One_m (F : Nat) : List Value → M Value
  | [] => L10_One F
  | _ => fail

theorem L10_One_body : Try.f16.body = some (.seq (.region 0 (opsOf Try.f16 0) false) (.seq (.region 1 (opsOf Try.f16 1) false) .ret)) := by kernel_rfl

theorem L10_One_ok (F : Nat) : Sim Try.prog TryG 16 (L10_One_m F) := by
 have hE : EnvOK Try.prog TryG (L10_One_env F) := EnvOK.nil
 refine Sim.of_body (E := L10_One_env F) Try.func16 L10_One_body Try.call16 ?_ ?_
 · intro args hl; unfold L10_One_m; split
   · exact absurd hl (Nat.not_lt.2 (Nat.le_of_ble_eq_true rfl))
   · rfl
 · intro args ρ h w z; unfold L10_One_m; split
   · show OKc _ _ [] _ _
     refine rSeq ?_
     refine cLess [] ?_
     refine xR hE [] rfl (L10_One_r0_ok F _) ?_
     show OKq _ _ _ [] _
     refine rThen ?_
     refine rSeq ?_
     refine cLess [] ?_
     refine xR hE [0] rfl (L10_One_r1_ok F _) ?_
     intro x0
     show OKq _ _ _ [(0, x0)] _
     refine rThen ?_
     refine rRet ?_
     exact rDone (.inr rfl) rfl
   · exact rFail


/-! ### haruspex/haruspexref1.Eq -/

def R1_Eq_env (F : Nat) : Env := envOf []

noncomputable def R1_Eq_R (F : Nat) := rK Try.prog TryG (R1_Eq_env F) Try.f18
noncomputable def R1_Eq_D (F : Nat) := dK Try.prog TryG (R1_Eq_env F) Try.f18

def R1_Eq_r8 (F : Nat) (K : Value → M Value) : M Value :=
  K (.bool true)

theorem R1_Eq_r8_ok (F : Nat) (K : Value → M Value) : R1_Eq_r8 F K = R1_Eq_R F 8 [] [4] K := by kernel_rfl

def R1_Eq_k0 (F : Nat) : M Value :=
  R1_Eq_r8 F (fun x4 => ret x4)

def R1_Eq_r5 (F : Nat) (x0 x1 x5 : Value) (K : Value → Value → Value → M Value) : M Value :=
  bnd (opBin .add x5 (.int .i64 (1))) fun v16 => K x0 x1 v16

theorem R1_Eq_r5_ok (F : Nat) (x0 x1 x5 : Value) (K : Value → Value → Value → M Value) : R1_Eq_r5 F x0 x1 x5 K = R1_Eq_R F 5 [(5, x5), (1, x1), (0, x0)] [0, 1, 5] K := by kernel_rfl

def R1_Eq_r7 (F : Nat) (K : Value → M Value) : M Value :=
  K (.bool false)

theorem R1_Eq_r7_ok (F : Nat) (K : Value → M Value) : R1_Eq_r7 F K = R1_Eq_R F 7 [] [4] K := by kernel_rfl

def R1_Eq_r6 (F : Nat) (x0 x1 x5 : Value) (K : Value → Value → Value → Value → M Value) : M Value :=
  bnd (opIndexAddr 1 x0 x5) fun v19 => bnd (opLoad v19) fun v20 => bnd (opIndexAddr 1 x1 x5) fun v23 => bnd (opLoad v23) fun v24 => bnd (opBin .neq v20 v24) fun v25 => K x0 x1 x5 v25

theorem R1_Eq_r6_ok (F : Nat) (x0 x1 x5 : Value) (K : Value → Value → Value → Value → M Value) : R1_Eq_r6 F x0 x1 x5 K = R1_Eq_D F 6 [0, 1, 2, 3, 4, 5, 6, 7, 8] [(5, x5), (1, x1), (0, x0)] [0, 1, 5, 25] K := by kernel_rfl

theorem R1_Eq_r6_good : goodOrder (opsOf Try.f18 6) [0, 1, 2, 3, 4, 5, 6, 7, 8] = true := by kernel_rfl

def R1_Eq_r4 (F : Nat) (x0 x1 x5 : Value) (K : Value → Value → Value → Value → M Value) : M Value :=
  bnd (opLen x0) fun v13 => bnd (opBin .lss x5 v13) fun v14 => K x0 x1 x5 v14

theorem R1_Eq_r4_ok (F : Nat) (x0 x1 x5 : Value) (K : Value → Value → Value → Value → M Value) : R1_Eq_r4 F x0 x1 x5 K = R1_Eq_R F 4 [(5, x5), (1, x1), (0, x0)] [0, 1, 5, 14] K := by kernel_rfl

def R1_Eq_b1 (F : Nat) (E1_0 : M Value) (A1 : Value → Value → Value → M Value) (x0 x1 x5 : Value) : M Value :=
  R1_Eq_r4 F x0 x1 x5 (fun x0 x1 x5 x14 => onB x14 (R1_Eq_r6 F x0 x1 x5 (fun x0 x1 x5 x25 => onB x25 (R1_Eq_r7 F (fun x4 => ret x4)) (R1_Eq_r5 F x0 x1 x5 (fun x0 x1 x5 => A1 x0 x1 x5)))) (E1_0 ))

def R1_Eq_l1 (F : Nat) (E1_0 : M Value) : Nat → Value → Value → Value → M Value
  | 0, _, _, _ => fail
  | k1 + 1, x0, x1, x5 => R1_Eq_b1 F E1_0 (R1_Eq_l1 F E1_0 k1) x0 x1 x5

theorem R1_Eq_l1_s (F : Nat) (E1_0 : M Value) (k1 : Nat) (x0 x1 x5 : Value) : R1_Eq_l1 F E1_0 (k1 + 1) x0 x1 x5 = R1_Eq_b1 F E1_0 (R1_Eq_l1 F E1_0 k1) x0 x1 x5 := rfl

def R1_Eq_r3 (F : Nat) (x0 x1 : Value) (K : Value → Value → Value → M Value) : M Value :=
  K x0 x1 (.int .i64 (0))

theorem R1_Eq_r3_ok (F : Nat) (x0 x1 : Value) (K : Value → Value → Value → M Value) : R1_Eq_r3 F x0 x1 K = R1_Eq_R F 3 [(1, x1), (0, x0)] [0, 1, 5] K := by kernel_rfl

def R1_Eq_r2 (F : Nat) (K : Value → M Value) : M Value :=
  K (.bool false)

theorem R1_Eq_r2_ok (F : Nat) (K : Value → M Value) : R1_Eq_r2 F K = R1_Eq_R F 2 [] [4] K := by kernel_rfl

def R1_Eq_r1 (F : Nat) (x0 x1 : Value) (K : Value → Value → Value → M Value) : M Value :=
  bnd (opLen x0) fun v7 => bnd (opLen x1) fun v9 => bnd (opBin .neq v7 v9) fun v10 => K x0 x1 v10

theorem R1_Eq_r1_ok (F : Nat) (x0 x1 : Value) (K : Value → Value → Value → M Value) : R1_Eq_r1 F x0 x1 K = R1_Eq_R F 1 [(1, x1), (0, x0)] [0, 1, 10] K := by kernel_rfl

def R1_Eq_r0 (F : Nat) (x0 x1 : Value) (K : Value → Value → M Value) : M Value :=
  K x0 x1

theorem R1_Eq_r0_ok (F : Nat) (x0 x1 : Value) (K : Value → Value → M Value) : R1_Eq_r0 F x0 x1 K = R1_Eq_R F 0 [(1, x1), (0, x0)] [0, 1] K := by kernel_rfl

def R1_Eq (F : Nat) (x0 x1 : Value) : M Value :=
  R1_Eq_r0 F x0 x1 (fun x0 x1 => R1_Eq_r1 F x0 x1 (fun x0 x1 x10 => onB x10 (R1_Eq_r2 F (fun x4 => ret x4)) (R1_Eq_r3 F x0 x1 (fun x0 x1 x5 => R1_Eq_l1 F (R1_Eq_k0 F ) F x0 x1 x5))))

def R1_Eq_m (F : Nat) : List Value → M Value
  | [x0, x1] => R1_Eq F x0 x1
  | _ => fail

theorem R1_Eq_body : Try.f18.body = some (.seq (.region 0 (opsOf Try.f18 0) false) (.seq (.seq (.region 1 (opsOf Try.f18 1) false) (.cond (.tmp 10) (.seq (.region 2 (opsOf Try.f18 2) false) .ret) .skip)) (.seq (.seq (.region 3 (opsOf Try.f18 3) false) (.block 0 (.loop (.seq (.seq (.region 4 (opsOf Try.f18 4) false) (.cond (.tmp 14) .skip (.exit 0))) (.seq (.block 1 (.seq (.region 6 (opsOf Try.f18 6) true) (.cond (.tmp 25) (.seq (.region 7 (opsOf Try.f18 7) false) .ret) .skip))) (.region 5 (opsOf Try.f18 5) false)))))) (.seq (.region 8 (opsOf Try.f18 8) false) .ret)))) := by kernel_rfl

theorem R1_Eq_ok (F : Nat) : Sim Try.prog TryG 18 (R1_Eq_m F) := by
 have hE : EnvOK Try.prog TryG (R1_Eq_env F) := EnvOK.nil
 refine Sim.of_body (E := R1_Eq_env F) Try.func18 R1_Eq_body Try.call18 ?_ ?_
 · intro args hl; unfold R1_Eq_m; split
   · exact absurd hl (Nat.not_lt.2 (Nat.le_of_ble_eq_true rfl))
   · rfl
 · intro args ρ h w z; unfold R1_Eq_m; split
   · rename_i x0 x1; show OKc _ _ [(0, x0), (1, x1)] _ _
     refine rSeq ?_
     refine cLess [1, 0] ?_
     refine xR hE [0, 1] rfl (R1_Eq_r0_ok F _ _ _) ?_
     intro x0 x1
     show OKq _ _ _ [(1, x1), (0, x0)] _
     refine rThen ?_
     refine rSeq ?_
     refine rSeq ?_
     refine cLess [1, 0] ?_
     refine xR hE [0, 1, 10] rfl (R1_Eq_r1_ok F _ _ _) ?_
     intro x0 x1 x10
     show OKq _ _ _ [(10, x10), (1, x1), (0, x0)] _
     refine rThen ?_
     refine xCond rfl rfl ?_ ?_
     · refine rSeq ?_
       refine cLess [] ?_
       refine xR hE [4] rfl (R1_Eq_r2_ok F _) ?_
       intro x4
       show OKq _ _ _ [(4, x4)] _
       refine rThen ?_
       refine rRet ?_
       refine xThenR ?_
       exact rDone (.inr rfl) rfl
     · refine rSkip ?_
       refine rThen ?_
       refine xSeq [] (R1_Eq_k0 F ) ?_ fun hj0 => ?_
       · show OKc _ _ [] _ _
         refine rSeq ?_
         refine cLess [] ?_
         refine xR hE [4] rfl (R1_Eq_r8_ok F _) ?_
         intro x4
         show OKq _ _ _ [(4, x4)] _
         refine rThen ?_
         refine rRet ?_
         exact rDone (.inr rfl) rfl
       · refine rSeq ?_
         refine cLess [1, 0] ?_
         refine xR hE [0, 1, 5] rfl (R1_Eq_r3_ok F _ _ _) ?_
         intro x0 x1 x5
         show OKq _ _ _ [(5, x5), (1, x1), (0, x0)] _
         refine rThen ?_
         refine rBlock ?_
         refine cLess [5, 1, 0] ?_
         refine xLoopAt [0, 1, 5] [] (fun k1 => R1_Eq_l1 F (R1_Eq_k0 F ) k1) F [x0, x1, x5] rfl rfl (fun _ _ _ => rfl) fun I hI1 k1 => ?_
         intro x0 x1 x5
         show OKc _ _ [(5, x5), (1, x1), (0, x0)] _ _
         refine cAs (R1_Eq_l1_s F _ _ _ _ _) ?_
         refine rSeq ?_
         refine rSeq ?_
         refine cLess [5, 1, 0] ?_
         refine xR hE [0, 1, 5, 14] rfl (R1_Eq_r4_ok F _ _ _ _) ?_
         intro x0 x1 x5 x14
         show OKq _ _ _ [(14, x14), (5, x5), (1, x1), (0, x0)] _
         refine rThen ?_
         refine xCond rfl rfl ?_ ?_
         · refine rSkip ?_
           refine rThen ?_
           refine rSeq ?_
           refine rBlock ?_
           refine rSeq ?_
           refine cLess [5, 1, 0] ?_
           refine xD Trymix hE [0, 1, 5, 25] rfl R1_Eq_r6_good (R1_Eq_r6_ok F _ _ _ _) ?_
           intro x0 x1 x5 x25
           show OKq _ _ _ [(25, x25), (5, x5), (1, x1), (0, x0)] _
           refine rThen ?_
           refine xCond rfl rfl ?_ ?_
           · refine rSeq ?_
             refine cLess [] ?_
             refine xR hE [4] rfl (R1_Eq_r7_ok F _) ?_
             intro x4
             show OKq _ _ _ [(4, x4)] _
             refine rThen ?_
             refine rRet ?_
             refine xBlockR ?_
             refine xThenR ?_
             refine xThenR ?_
             refine xBlockR ?_
             refine xThenR ?_
             exact rDone (.inr rfl) rfl
           · refine rSkip ?_
             refine xBlockN ?_
             refine rThen ?_
             refine cLess [5, 1, 0] ?_
             refine xR hE [0, 1, 5] rfl (R1_Eq_r5_ok F _ _ _ _) ?_
             intro x0 x1 x5
             show OKq _ _ _ [(5, x5), (1, x1), (0, x0)] _
             exact qLess [5, 1, 0] (hI1 k1 x0 x1 x5)
         · refine rExit ?_
           refine xThenX ?_
           refine xThenX ?_
           refine rOut ?_
           exact qLess [] (hj0 )
   · exact rFail


/-! ### haruspex/ir.Point -/

def ir_Point_env (F : Nat) : Env := envOf []

noncomputable def ir_Point_R (F : Nat) := rK Try.prog TryG (ir_Point_env F) Try.f27
noncomputable def ir_Point_D (F : Nat) := dK Try.prog TryG (ir_Point_env F) Try.f27

def ir_Point_r15 (F : Nat) (x4 : Value) (K : Value → Value → M Value) : M Value :=
  bnd (opBuild [(.int .i64 (0)), (.int .i64 (0)), (.int .i64 (0))] []) fun v62 => bnd (opStoreN 3 x4 v62) fun _ => K x4 (.bool false)

theorem ir_Point_r15_ok (F : Nat) (x4 : Value) (K : Value → Value → M Value) : ir_Point_r15 F x4 K = ir_Point_R F 15 [(4, x4)] [4, 5] K := by kernel_rfl

def ir_Point_k0 (F : Nat) (x4 : Value) : M Value :=
  ir_Point_r15 F x4 (fun x4 x5 => bnd (opLoadN 3 x4) fun r0 => tupK [r0, x5])

def ir_Point_r14 (F : Nat) (x0 x1 x4 x20 x21 : Value) (K : Value → Value → Value → Value → Value → M Value) : M Value :=
  bnd (opBin .add x21 (.int .i64 (1))) fun v61 => K x0 x1 x4 x20 v61

theorem ir_Point_r14_ok (F : Nat) (x0 x1 x4 x20 x21 : Value) (K : Value → Value → Value → Value → Value → M Value) : ir_Point_r14 F x0 x1 x4 x20 x21 K = ir_Point_R F 14 [(21, x21), (20, x20), (4, x4), (1, x1), (0, x0)] [0, 1, 4, 20, 21] K := by kernel_rfl

def ir_Point_k2 (F : Nat) (A1 : Value → Value → Value → Value → Value → M Value) (x0 x1 x4 x20 x21 : Value) : M Value :=
  ir_Point_r14 F x0 x1 x4 x20 x21 (fun x0 x1 x4 x20 x21 => A1 x0 x1 x4 x20 x21)

def ir_Point_r13 (F : Nat) (x0 x1 x4 x6 x20 x21 x32 x33 : Value) (K : Value → Value → Value → Value → Value → Value → Value → Value → M Value) : M Value :=
  bnd (opBin .add x33 (.int .i64 (1))) fun v60 => K x0 x1 x4 x6 x20 x21 x32 v60

theorem ir_Point_r13_ok (F : Nat) (x0 x1 x4 x6 x20 x21 x32 x33 : Value) (K : Value → Value → Value → Value → Value → Value → Value → Value → M Value) : ir_Point_r13 F x0 x1 x4 x6 x20 x21 x32 x33 K = ir_Point_R F 13 [(33, x33), (32, x32), (21, x21), (20, x20), (6, x6), (4, x4), (1, x1), (0, x0)] [0, 1, 4, 6, 20, 21, 32, 33] K := by kernel_rfl

def ir_Point_r12 (F : Nat) (x0 x1 x4 x6 x8 x20 x21 x32 x33 : Value) (K : Value → Value → Value → Value → Value → Value → Value → Value → M Value) : M Value :=
  bnd (opBin .sub x1 x8) fun v59 => K x0 v59 x4 x6 x20 x21 x32 x33

theorem ir_Point_r12_ok (F : Nat) (x0 x1 x4 x6 x8 x20 x21 x32 x33 : Value) (K : Value → Value → Value → Value → Value → Value → Value → Value → M Value) : ir_Point_r12 F x0 x1 x4 x6 x8 x20 x21 x32 x33 K = ir_Point_R F 12 [(33, x33), (32, x32), (21, x21), (20, x20), (8, x8), (6, x6), (4, x4), (1, x1), (0, x0)] [0, 1, 4, 6, 20, 21, 32, 33] K := by kernel_rfl

def ir_Point_r11 (F : Nat) (x1 x4 x6 x7 : Value) (K : Value → Value → M Value) : M Value :=
  bnd (opBuild [(.int .i64 (0)), (.int .i64 (0)), (.int .i64 (0))] [(0, 1, false, x6), (1, 1, false, x7), (2, 1, false, x1)]) fun v56 => bnd (opStoreN 3 x4 v56) fun _ => K x4 (.bool true)

theorem ir_Point_r11_ok (F : Nat) (x1 x4 x6 x7 : Value) (K : Value → Value → M Value) : ir_Point_r11 F x1 x4 x6 x7 K = ir_Point_R F 11 [(7, x7), (6, x6), (4, x4), (1, x1)] [4, 5] K := by kernel_rfl

def ir_Point_r10 (F : Nat) (x0 x1 x4 x6 x7 x8 x20 x21 x32 x33 : Value) (K : Value → Value → Value → Value → Value → Value → Value → Value → Value → Value → Value → M Value) : M Value :=
  bnd (opBin .lss x1 x8) fun v52 => K x0 x1 x4 x6 x7 x8 x20 x21 x32 x33 v52

theorem ir_Point_r10_ok (F : Nat) (x0 x1 x4 x6 x7 x8 x20 x21 x32 x33 : Value) (K : Value → Value → Value → Value → Value → Value → Value → Value → Value → Value → Value → M Value) : ir_Point_r10 F x0 x1 x4 x6 x7 x8 x20 x21 x32 x33 K = ir_Point_R F 10 [(33, x33), (32, x32), (21, x21), (20, x20), (8, x8), (7, x7), (6, x6), (4, x4), (1, x1), (0, x0)] [0, 1, 4, 6, 7, 8, 20, 21, 32, 33, 52] K := by kernel_rfl

def ir_Point_r9 (F : Nat) (x0 x1 x4 x6 x7 x20 x21 x32 x33 : Value) (K : Value → Value → Value → Value → Value → Value → Value → Value → Value → Value → M Value) : M Value :=
  bnd (opNil x0) fun v37 => bnd (opFieldAddr 4 v37) fun v38 => bnd (opLoad v38) fun v39 => bnd (opIndexAddr 3 v39 x6) fun v41 => bnd (opFieldAddr 2 v41) fun v42 => bnd (opLoad v42) fun v43 => bnd (opIndexAddr 5 v43 x7) fun v45 => bnd (opFieldAddr 0 v45) fun v46 => bnd (opLoad v46) fun v47 => bnd (opLen v47) fun v48 => bnd (opBin .add v48 (.int .i64 (1))) fun v49 => K x0 x1 x4 x6 x7 v49 x20 x21 x32 x33

theorem ir_Point_r9_ok (F : Nat) (x0 x1 x4 x6 x7 x20 x21 x32 x33 : Value) (K : Value → Value → Value → Value → Value → Value → Value → Value → Value → Value → M Value) : ir_Point_r9 F x0 x1 x4 x6 x7 x20 x21 x32 x33 K = ir_Point_R F 9 [(33, x33), (32, x32), (21, x21), (20, x20), (7, x7), (6, x6), (4, x4), (1, x1), (0, x0)] [0, 1, 4, 6, 7, 8, 20, 21, 32, 33] K := by kernel_rfl

def ir_Point_r8 (F : Nat) (x0 x1 x4 x6 x20 x21 x32 x33 : Value) (K : Value → Value → Value → Value → Value → Value → Value → Value → Value → M Value) : M Value :=
  K x0 x1 x4 x6 x33 x20 x21 x32 x33

theorem ir_Point_r8_ok (F : Nat) (x0 x1 x4 x6 x20 x21 x32 x33 : Value) (K : Value → Value → Value → Value → Value → Value → Value → Value → Value → M Value) : ir_Point_r8 F x0 x1 x4 x6 x20 x21 x32 x33 K = ir_Point_R F 8 [(33, x33), (32, x32), (21, x21), (20, x20), (6, x6), (4, x4), (1, x1), (0, x0)] [0, 1, 4, 6, 7, 20, 21, 32, 33] K := by kernel_rfl

def ir_Point_r7 (F : Nat) (x0 x1 x4 x6 x20 x21 x32 x33 : Value) (K : Value → Value → Value → Value → Value → Value → Value → Value → Value → M Value) : M Value :=
  bnd (opBin .lss x33 x32) fun v34 => K x0 x1 x4 x6 x20 x21 x32 x33 v34

theorem ir_Point_r7_ok (F : Nat) (x0 x1 x4 x6 x20 x21 x32 x33 : Value) (K : Value → Value → Value → Value → Value → Value → Value → Value → Value → M Value) : ir_Point_r7 F x0 x1 x4 x6 x20 x21 x32 x33 K = ir_Point_R F 7 [(33, x33), (32, x32), (21, x21), (20, x20), (6, x6), (4, x4), (1, x1), (0, x0)] [0, 1, 4, 6, 20, 21, 32, 33, 34] K := by kernel_rfl

def ir_Point_b3 (F : Nat) (E3_2 : Value → Value → Value → Value → Value → M Value) (A3 : Value → Value → Value → Value → Value → Value → Value → Value → M Value) (x0 x1 x4 x6 x20 x21 x32 x33 : Value) : M Value :=
  ir_Point_r7 F x0 x1 x4 x6 x20 x21 x32 x33 (fun x0 x1 x4 x6 x20 x21 x32 x33 x34 => onB x34 (ir_Point_r8 F x0 x1 x4 x6 x20 x21 x32 x33 (fun x0 x1 x4 x6 x7 x20 x21 x32 x33 => ir_Point_r9 F x0 x1 x4 x6 x7 x20 x21 x32 x33 (fun x0 x1 x4 x6 x7 x8 x20 x21 x32 x33 => ir_Point_r10 F x0 x1 x4 x6 x7 x8 x20 x21 x32 x33 (fun x0 x1 x4 x6 x7 x8 x20 x21 x32 x33 x52 => onB x52 (ir_Point_r11 F x1 x4 x6 x7 (fun x4 x5 => bnd (opLoadN 3 x4) fun r0 => tupK [r0, x5])) (ir_Point_r12 F x0 x1 x4 x6 x8 x20 x21 x32 x33 (fun x0 x1 x4 x6 x20 x21 x32 x33 => ir_Point_r13 F x0 x1 x4 x6 x20 x21 x32 x33 (fun x0 x1 x4 x6 x20 x21 x32 x33 => A3 x0 x1 x4 x6 x20 x21 x32 x33))))))) (E3_2 x0 x1 x4 x20 x21))

def ir_Point_l3 (F : Nat) (E3_2 : Value → Value → Value → Value → Value → M Value) : Nat → Value → Value → Value → Value → Value → Value → Value → Value → M Value
  | 0, _, _, _, _, _, _, _, _ => fail
  | k3 + 1, x0, x1, x4, x6, x20, x21, x32, x33 => ir_Point_b3 F E3_2 (ir_Point_l3 F E3_2 k3) x0 x1 x4 x6 x20 x21 x32 x33

theorem ir_Point_l3_s (F : Nat) (E3_2 : Value → Value → Value → Value → Value → M Value) (k3 : Nat) (x0 x1 x4 x6 x20 x21 x32 x33 : Value) : ir_Point_l3 F E3_2 (k3 + 1) x0 x1 x4 x6 x20 x21 x32 x33 = ir_Point_b3 F E3_2 (ir_Point_l3 F E3_2 k3) x0 x1 x4 x6 x20 x21 x32 x33 := rfl

def ir_Point_r6 (F : Nat) (x0 x1 x4 x6 x20 x21 : Value) (K : Value → Value → Value → Value → Value → Value → Value → Value → M Value) : M Value :=
  bnd (opNil x0) fun v25 => bnd (opFieldAddr 4 v25) fun v26 => bnd (opLoad v26) fun v27 => bnd (opIndexAddr 3 v27 x6) fun v29 => bnd (opFieldAddr 2 v29) fun v30 => bnd (opLoad v30) fun v31 => bnd (opLen v31) fun v32 => K x0 x1 x4 x6 x20 x21 v32 (.int .i64 (0))

theorem ir_Point_r6_ok (F : Nat) (x0 x1 x4 x6 x20 x21 : Value) (K : Value → Value → Value → Value → Value → Value → Value → Value → M Value) : ir_Point_r6 F x0 x1 x4 x6 x20 x21 K = ir_Point_R F 6 [(21, x21), (20, x20), (6, x6), (4, x4), (1, x1), (0, x0)] [0, 1, 4, 6, 20, 21, 32, 33] K := by kernel_rfl

def ir_Point_r5 (F : Nat) (x0 x1 x4 x20 x21 : Value) (K : Value → Value → Value → Value → Value → Value → M Value) : M Value :=
  K x0 x1 x4 x21 x20 x21

theorem ir_Point_r5_ok (F : Nat) (x0 x1 x4 x20 x21 : Value) (K : Value → Value → Value → Value → Value → Value → M Value) : ir_Point_r5 F x0 x1 x4 x20 x21 K = ir_Point_R F 5 [(21, x21), (20, x20), (4, x4), (1, x1), (0, x0)] [0, 1, 4, 6, 20, 21] K := by kernel_rfl

def ir_Point_r4 (F : Nat) (x0 x1 x4 x20 x21 : Value) (K : Value → Value → Value → Value → Value → Value → M Value) : M Value :=
  bnd (opBin .lss x21 x20) fun v22 => K x0 x1 x4 x20 x21 v22

theorem ir_Point_r4_ok (F : Nat) (x0 x1 x4 x20 x21 : Value) (K : Value → Value → Value → Value → Value → Value → M Value) : ir_Point_r4 F x0 x1 x4 x20 x21 K = ir_Point_R F 4 [(21, x21), (20, x20), (4, x4), (1, x1), (0, x0)] [0, 1, 4, 20, 21, 22] K := by kernel_rfl

def ir_Point_b1 (F : Nat) (E1_0 : Value → M Value) (A1 : Value → Value → Value → Value → Value → M Value) (x0 x1 x4 x20 x21 : Value) : M Value :=
  ir_Point_r4 F x0 x1 x4 x20 x21 (fun x0 x1 x4 x20 x21 x22 => onB x22 (ir_Point_r5 F x0 x1 x4 x20 x21 (fun x0 x1 x4 x6 x20 x21 => ir_Point_r6 F x0 x1 x4 x6 x20 x21 (fun x0 x1 x4 x6 x20 x21 x32 x33 => ir_Point_l3 F (fun x0 x1 x4 x20 x21 => ir_Point_k2 F A1 x0 x1 x4 x20 x21) F x0 x1 x4 x6 x20 x21 x32 x33))) (E1_0 x4))

def ir_Point_l1 (F : Nat) (E1_0 : Value → M Value) : Nat → Value → Value → Value → Value → Value → M Value
  | 0, _, _, _, _, _ => fail
  | k1 + 1, x0, x1, x4, x20, x21 => ir_Point_b1 F E1_0 (ir_Point_l1 F E1_0 k1) x0 x1 x4 x20 x21

theorem ir_Point_l1_s (F : Nat) (E1_0 : Value → M Value) (k1 : Nat) (x0 x1 x4 x20 x21 : Value) : ir_Point_l1 F E1_0 (k1 + 1) x0 x1 x4 x20 x21 = ir_Point_b1 F E1_0 (ir_Point_l1 F E1_0 k1) x0 x1 x4 x20 x21 := rfl

def ir_Point_r3 (F : Nat) (x0 x1 x4 : Value) (K : Value → Value → Value → Value → Value → M Value) : M Value :=
  bnd (opNil x0) fun v17 => bnd (opFieldAddr 4 v17) fun v18 => bnd (opLoad v18) fun v19 => bnd (opLen v19) fun v20 => K x0 x1 x4 v20 (.int .i64 (0))

theorem ir_Point_r3_ok (F : Nat) (x0 x1 x4 : Value) (K : Value → Value → Value → Value → Value → M Value) : ir_Point_r3 F x0 x1 x4 K = ir_Point_R F 3 [(4, x4), (1, x1), (0, x0)] [0, 1, 4, 20, 21] K := by kernel_rfl

def ir_Point_r2 (F : Nat) (x4 : Value) (K : Value → Value → M Value) : M Value :=
  bnd (opBuild [(.int .i64 (0)), (.int .i64 (0)), (.int .i64 (0))] []) fun v15 => bnd (opStoreN 3 x4 v15) fun _ => K x4 (.bool false)

theorem ir_Point_r2_ok (F : Nat) (x4 : Value) (K : Value → Value → M Value) : ir_Point_r2 F x4 K = ir_Point_R F 2 [(4, x4)] [4, 5] K := by kernel_rfl

def ir_Point_r1 (F : Nat) (x0 x1 x4 : Value) (K : Value → Value → Value → Value → M Value) : M Value :=
  bnd (opEq eqP false x0 (.pointer none)) fun v10 => onB v10 (K x0 x1 x4 (.bool true)) (bnd (opBin .lss x1 (.int .i64 (0))) fun v13 => K x0 x1 x4 v13)

theorem ir_Point_r1_ok (F : Nat) (x0 x1 x4 : Value) (K : Value → Value → Value → Value → M Value) : ir_Point_r1 F x0 x1 x4 K = ir_Point_R F 1 [(4, x4), (1, x1), (0, x0)] [0, 1, 4, 14] K := by kernel_rfl

def ir_Point_r0 (F : Nat) (x0 x1 : Value) (K : Value → Value → Value → M Value) : M Value :=
  bnd (opPtr [(.int .i64 (0)), (.int .i64 (0)), (.int .i64 (0))]) fun v4 => K x0 x1 v4

theorem ir_Point_r0_ok (F : Nat) (x0 x1 : Value) (K : Value → Value → Value → M Value) : ir_Point_r0 F x0 x1 K = ir_Point_R F 0 [(1, x1), (0, x0)] [0, 1, 4] K := by kernel_rfl

def ir_Point (F : Nat) (x0 x1 : Value) : M Value :=
  ir_Point_r0 F x0 x1 (fun x0 x1 x4 => ir_Point_r1 F x0 x1 x4 (fun x0 x1 x4 x14 => onB x14 (ir_Point_r2 F x4 (fun x4 x5 => bnd (opLoadN 3 x4) fun r0 => tupK [r0, x5])) (ir_Point_r3 F x0 x1 x4 (fun x0 x1 x4 x20 x21 => ir_Point_l1 F (fun x4 => ir_Point_k0 F x4) F x0 x1 x4 x20 x21))))

def ir_Point_m (F : Nat) : List Value → M Value
  | [x0, x1] => ir_Point F x0 x1
  | _ => fail

theorem ir_Point_body : Try.f27.body = some (.seq (.region 0 (opsOf Try.f27 0) false) (.seq (.seq (.region 1 (opsOf Try.f27 1) false) (.cond (.tmp 14) (.seq (.region 2 (opsOf Try.f27 2) false) .ret) .skip)) (.seq (.seq (.region 3 (opsOf Try.f27 3) false) (.block 0 (.loop (.seq (.region 4 (opsOf Try.f27 4) false) (.seq (.cond (.tmp 22) .skip (.exit 0)) (.seq (.block 1 (.seq (.region 5 (opsOf Try.f27 5) false) (.seq (.region 6 (opsOf Try.f27 6) false) (.block 2 (.loop (.seq (.region 7 (opsOf Try.f27 7) false) (.seq (.cond (.tmp 34) .skip (.exit 2)) (.seq (.block 3 (.seq (.region 8 (opsOf Try.f27 8) false) (.seq (.region 9 (opsOf Try.f27 9) false) (.seq (.seq (.region 10 (opsOf Try.f27 10) false) (.cond (.tmp 52) (.seq (.region 11 (opsOf Try.f27 11) false) .ret) .skip)) (.region 12 (opsOf Try.f27 12) false))))) (.region 13 (opsOf Try.f27 13) false))))))))) (.region 14 (opsOf Try.f27 14) false))))))) (.seq (.region 15 (opsOf Try.f27 15) false) .ret)))) := by kernel_rfl

theorem ir_Point_ok (F : Nat) : Sim Try.prog TryG 27 (ir_Point_m F) := by
 have hE : EnvOK Try.prog TryG (ir_Point_env F) := EnvOK.nil
 refine Sim.of_body (E := ir_Point_env F) Try.func27 ir_Point_body Try.call27 ?_ ?_
 · intro args hl; unfold ir_Point_m; split
   · exact absurd hl (Nat.not_lt.2 (Nat.le_of_ble_eq_true rfl))
   · rfl
 · intro args ρ h w z; unfold ir_Point_m; split
   · rename_i x0 x1; show OKc _ _ [(0, x0), (1, x1)] _ _
     refine rSeq ?_
     refine cLess [1, 0] ?_
     refine xR hE [0, 1, 4] rfl (ir_Point_r0_ok F _ _ _) ?_
     intro x0 x1 x4
     show OKq _ _ _ [(4, x4), (1, x1), (0, x0)] _
     refine rThen ?_
     refine rSeq ?_
     refine rSeq ?_
     refine cLess [4, 1, 0] ?_
     refine xR hE [0, 1, 4, 14] rfl (ir_Point_r1_ok F _ _ _ _) ?_
     intro x0 x1 x4 x14
     show OKq _ _ _ [(14, x14), (4, x4), (1, x1), (0, x0)] _
     refine rThen ?_
     refine xCond rfl rfl ?_ ?_
     · refine rSeq ?_
       refine cLess [4] ?_
       refine xR hE [4, 5] rfl (ir_Point_r2_ok F _ _) ?_
       intro x4 x5
       show OKq _ _ _ [(5, x5), (4, x4)] _
       refine rThen ?_
       refine rRet ?_
       refine xThenR ?_
       exact rDone (.inr rfl) rfl
     · refine rSkip ?_
       refine rThen ?_
       refine xSeq [4] (ir_Point_k0 F ) ?_ fun hj0 => ?_
       · intro x4
         show OKc _ _ [(4, x4)] _ _
         refine rSeq ?_
         refine cLess [4] ?_
         refine xR hE [4, 5] rfl (ir_Point_r15_ok F _ _) ?_
         intro x4 x5
         show OKq _ _ _ [(5, x5), (4, x4)] _
         refine rThen ?_
         refine rRet ?_
         exact rDone (.inr rfl) rfl
       · refine rSeq ?_
         refine cLess [4, 1, 0] ?_
         refine xR hE [0, 1, 4, 20, 21] rfl (ir_Point_r3_ok F _ _ _ _) ?_
         intro x0 x1 x4 x20 x21
         show OKq _ _ _ [(21, x21), (20, x20), (4, x4), (1, x1), (0, x0)] _
         refine rThen ?_
         refine rBlock ?_
         refine cLess [21, 20, 4, 1, 0] ?_
         refine xLoopAt [0, 1, 4, 20, 21] [] (fun k1 => ir_Point_l1 F (fun x4 => ir_Point_k0 F x4) k1) F [x0, x1, x4, x20, x21] rfl rfl (fun _ _ _ _ _ => rfl) fun I hI1 k1 => ?_
         intro x0 x1 x4 x20 x21
         show OKc _ _ [(21, x21), (20, x20), (4, x4), (1, x1), (0, x0)] _ _
         refine cAs (ir_Point_l1_s F _ _ _ _ _ _ _) ?_
         refine rSeq ?_
         refine cLess [21, 20, 4, 1, 0] ?_
         refine xR hE [0, 1, 4, 20, 21, 22] rfl (ir_Point_r4_ok F _ _ _ _ _ _) ?_
         intro x0 x1 x4 x20 x21 x22
         show OKq _ _ _ [(22, x22), (21, x21), (20, x20), (4, x4), (1, x1), (0, x0)] _
         refine rThen ?_
         refine rSeq ?_
         refine xCond rfl rfl ?_ ?_
         · refine rSkip ?_
           refine rThen ?_
           refine xSeq [0, 1, 4, 20, 21] (ir_Point_k2 F (ir_Point_l1 F (fun x4 => ir_Point_k0 F x4) k1) ) ?_ fun hj2 => ?_
           · intro x0 x1 x4 x20 x21
             show OKc _ _ [(21, x21), (20, x20), (4, x4), (1, x1), (0, x0)] _ _
             refine cLess [21, 20, 4, 1, 0] ?_
             refine xR hE [0, 1, 4, 20, 21] rfl (ir_Point_r14_ok F _ _ _ _ _ _) ?_
             intro x0 x1 x4 x20 x21
             show OKq _ _ _ [(21, x21), (20, x20), (4, x4), (1, x1), (0, x0)] _
             exact qLess [21, 20, 4, 1, 0] (hI1 k1 x0 x1 x4 x20 x21)
           · refine rBlock ?_
             refine rSeq ?_
             refine cLess [21, 20, 4, 1, 0] ?_
             refine xR hE [0, 1, 4, 6, 20, 21] rfl (ir_Point_r5_ok F _ _ _ _ _ _) ?_
             intro x0 x1 x4 x6 x20 x21
             show OKq _ _ _ [(21, x21), (20, x20), (6, x6), (4, x4), (1, x1), (0, x0)] _
             refine rThen ?_
             refine rSeq ?_
             refine cLess [21, 20, 6, 4, 1, 0] ?_
             refine xR hE [0, 1, 4, 6, 20, 21, 32, 33] rfl (ir_Point_r6_ok F _ _ _ _ _ _ _) ?_
             intro x0 x1 x4 x6 x20 x21 x32 x33
             show OKq _ _ _ [(33, x33), (32, x32), (21, x21), (20, x20), (6, x6), (4, x4), (1, x1), (0, x0)] _
             refine rThen ?_
             refine rBlock ?_
             refine cLess [33, 32, 21, 20, 6, 4, 1, 0] ?_
             refine xLoopAt [0, 1, 4, 6, 20, 21, 32, 33] [] (fun k3 => ir_Point_l3 F (fun x0 x1 x4 x20 x21 => ir_Point_k2 F (ir_Point_l1 F (fun x4 => ir_Point_k0 F x4) k1) x0 x1 x4 x20 x21) k3) F [x0, x1, x4, x6, x20, x21, x32, x33] rfl rfl (fun _ _ _ _ _ _ _ _ => rfl) fun I hI3 k3 => ?_
             intro x0 x1 x4 x6 x20 x21 x32 x33
             show OKc _ _ [(33, x33), (32, x32), (21, x21), (20, x20), (6, x6), (4, x4), (1, x1), (0, x0)] _ _
             refine cAs (ir_Point_l3_s F _ _ _ _ _ _ _ _ _ _) ?_
             refine rSeq ?_
             refine cLess [33, 32, 21, 20, 6, 4, 1, 0] ?_
             refine xR hE [0, 1, 4, 6, 20, 21, 32, 33, 34] rfl (ir_Point_r7_ok F _ _ _ _ _ _ _ _ _) ?_
             intro x0 x1 x4 x6 x20 x21 x32 x33 x34
             show OKq _ _ _ [(34, x34), (33, x33), (32, x32), (21, x21), (20, x20), (6, x6), (4, x4), (1, x1), (0, x0)] _
             refine rThen ?_
             refine rSeq ?_
             refine xCond rfl rfl ?_ ?_
             · refine rSkip ?_
               refine rThen ?_
               refine rSeq ?_
               refine rBlock ?_
               refine rSeq ?_
               refine cLess [33, 32, 21, 20, 6, 4, 1, 0] ?_
               refine xR hE [0, 1, 4, 6, 7, 20, 21, 32, 33] rfl (ir_Point_r8_ok F _ _ _ _ _ _ _ _ _) ?_
               intro x0 x1 x4 x6 x7 x20 x21 x32 x33
               show OKq _ _ _ [(33, x33), (32, x32), (21, x21), (20, x20), (7, x7), (6, x6), (4, x4), (1, x1), (0, x0)] _
               refine rThen ?_
               refine rSeq ?_
               refine cLess [33, 32, 21, 20, 7, 6, 4, 1, 0] ?_
               refine xR hE [0, 1, 4, 6, 7, 8, 20, 21, 32, 33] rfl (ir_Point_r9_ok F _ _ _ _ _ _ _ _ _ _) ?_
               intro x0 x1 x4 x6 x7 x8 x20 x21 x32 x33
               show OKq _ _ _ [(33, x33), (32, x32), (21, x21), (20, x20), (8, x8), (7, x7), (6, x6), (4, x4), (1, x1), (0, x0)] _
               refine rThen ?_
               refine rSeq ?_
               refine rSeq ?_
               refine cLess [33, 32, 21, 20, 8, 7, 6, 4, 1, 0] ?_
               refine xR hE [0, 1, 4, 6, 7, 8, 20, 21, 32, 33, 52] rfl (ir_Point_r10_ok F _ _ _ _ _ _ _ _ _ _ _) ?_
               intro x0 x1 x4 x6 x7 x8 x20 x21 x32 x33 x52
               show OKq _ _ _ [(52, x52), (33, x33), (32, x32), (21, x21), (20, x20), (8, x8), (7, x7), (6, x6), (4, x4), (1, x1), (0, x0)] _
               refine rThen ?_
               refine xCond rfl rfl ?_ ?_
               · refine rSeq ?_
                 refine cLess [7, 6, 4, 1] ?_
                 refine xR hE [4, 5] rfl (ir_Point_r11_ok F _ _ _ _ _) ?_
                 intro x4 x5
                 show OKq _ _ _ [(5, x5), (4, x4)] _
                 refine rThen ?_
                 refine rRet ?_
                 refine xThenR ?_
                 refine xBlockR ?_
                 refine xThenR ?_
                 refine xThenR ?_
                 refine xBlockR ?_
                 refine xBlockR ?_
                 refine xThenR ?_
                 refine xThenR ?_
                 refine xBlockR ?_
                 refine xThenR ?_
                 exact rDone (.inr rfl) rfl
               · refine rSkip ?_
                 refine rThen ?_
                 refine cLess [33, 32, 21, 20, 8, 6, 4, 1, 0] ?_
                 refine xR hE [0, 1, 4, 6, 20, 21, 32, 33] rfl (ir_Point_r12_ok F _ _ _ _ _ _ _ _ _ _) ?_
                 intro x0 x1 x4 x6 x20 x21 x32 x33
                 show OKq _ _ _ [(33, x33), (32, x32), (21, x21), (20, x20), (6, x6), (4, x4), (1, x1), (0, x0)] _
                 refine xBlockN ?_
                 refine rThen ?_
                 refine cLess [33, 32, 21, 20, 6, 4, 1, 0] ?_
                 refine xR hE [0, 1, 4, 6, 20, 21, 32, 33] rfl (ir_Point_r13_ok F _ _ _ _ _ _ _ _ _) ?_
                 intro x0 x1 x4 x6 x20 x21 x32 x33
                 show OKq _ _ _ [(33, x33), (32, x32), (21, x21), (20, x20), (6, x6), (4, x4), (1, x1), (0, x0)] _
                 exact qLess [33, 32, 21, 20, 6, 4, 1, 0] (hI3 k3 x0 x1 x4 x6 x20 x21 x32 x33)
             · refine rExit ?_
               refine xThenX ?_
               refine xThenX ?_
               refine rOut ?_
               refine xBlockN ?_
               exact qLess [21, 20, 4, 1, 0] (hj2 x0 x1 x4 x20 x21)
         · refine rExit ?_
           refine xThenX ?_
           refine xThenX ?_
           refine rOut ?_
           exact qLess [4] (hj0 x4)
   · exact rFail


/-! ### haruspex/ir.Uses -/

def ir_Uses_env (F : Nat) : Env := envOf []

noncomputable def ir_Uses_R (F : Nat) := rK Try.prog TryG (ir_Uses_env F) Try.f34
noncomputable def ir_Uses_D (F : Nat) := dK Try.prog TryG (ir_Uses_env F) Try.f34

def ir_Uses_r17 (F : Nat) (x3 : Value) (K : Value → M Value) : M Value :=
  K x3

theorem ir_Uses_r17_ok (F : Nat) (x3 : Value) (K : Value → M Value) : ir_Uses_r17 F x3 K = ir_Uses_R F 17 [(3, x3)] [2] K := by kernel_rfl

def ir_Uses_k0 (F : Nat) (x3 : Value) : M Value :=
  ir_Uses_r17 F x3 (fun x2 => ret x2)

def ir_Uses_r16 (F : Nat) (x1 x3 : Value) (K : Value → M Value) : M Value :=
  bnd (opFieldAddr 5 x1) fun v38 => bnd (opLoad v38) fun v39 => bnd (opAppend 1 8 x3 v39) fun v40 => K v40

theorem ir_Uses_r16_ok (F : Nat) (x1 x3 : Value) (K : Value → M Value) : ir_Uses_r16 F x1 x3 K = ir_Uses_R F 16 [(3, x3), (1, x1)] [3] K := by kernel_rfl

def ir_Uses_k1 (F : Nat) (x1 x3 : Value) : M Value :=
  ir_Uses_r16 F x1 x3 (fun x3 => ir_Uses_k0 F x3)

def ir_Uses_r15 (F : Nat) (x1 x3 : Value) (K : Value → Value → M Value) : M Value :=
  bnd (opFieldAddr 2 x1) fun v33 => bnd (opLoad v33) fun v34 => bnd (opBuildSlice 1 (rep 1 [(.int .i64 (0))]) [(0, 1, false, v34)]) fun v35 => bnd (opAppend 1 8 x3 v35) fun v36 => K x1 v36

theorem ir_Uses_r15_ok (F : Nat) (x1 x3 : Value) (K : Value → Value → M Value) : ir_Uses_r15 F x1 x3 K = ir_Uses_R F 15 [(3, x3), (1, x1)] [1, 3] K := by kernel_rfl

def ir_Uses_r14 (F : Nat) (x1 x3 : Value) (K : Value → M Value) : M Value :=
  bnd (opFieldAddr 2 x1) fun v28 => bnd (opLoad v28) fun v29 => bnd (opBuildSlice 1 (rep 1 [(.int .i64 (0))]) [(0, 1, false, v29)]) fun v30 => bnd (opAppend 1 8 x3 v30) fun v31 => K v31

theorem ir_Uses_r14_ok (F : Nat) (x1 x3 : Value) (K : Value → M Value) : ir_Uses_r14 F x1 x3 K = ir_Uses_R F 14 [(3, x3), (1, x1)] [3] K := by kernel_rfl

def ir_Uses_r13 (F : Nat) (x1 x3 : Value) (K : Value → M Value) : M Value :=
  bnd (opFieldAddr 2 x1) fun v21 => bnd (opLoad v21) fun v22 => bnd (opFieldAddr 3 x1) fun v23 => bnd (opLoad v23) fun v24 => bnd (opBuildSlice 2 (rep 2 [(.int .i64 (0))]) [(0, 1, false, v22), (1, 1, false, v24)]) fun v25 => bnd (opAppend 1 8 x3 v25) fun v26 => K v26

theorem ir_Uses_r13_ok (F : Nat) (x1 x3 : Value) (K : Value → M Value) : ir_Uses_r13 F x1 x3 K = ir_Uses_R F 13 [(3, x3), (1, x1)] [3] K := by kernel_rfl

def ir_Uses_r12 (F : Nat) (x1 x3 x5 : Value) (K : Value → Value → Value → M Value) : M Value :=
  bnd (opBin .eql x5 (.int .i64 (12))) fun v19 => K x1 x3 v19

theorem ir_Uses_r12_ok (F : Nat) (x1 x3 x5 : Value) (K : Value → Value → Value → M Value) : ir_Uses_r12 F x1 x3 x5 K = ir_Uses_R F 12 [(5, x5), (3, x3), (1, x1)] [1, 3, 18] K := by kernel_rfl

def ir_Uses_k2 (F : Nat) (x1 x3 x5 x15 : Value) : M Value :=
  onB x15 (ir_Uses_r15 F x1 x3 (fun x1 x3 => ir_Uses_k1 F x1 x3)) (ir_Uses_r12 F x1 x3 x5 (fun x1 x3 x18 => onB x18 (ir_Uses_k1 F x1 x3) (ir_Uses_k0 F x3)))

def ir_Uses_r11 (F : Nat) (x1 x3 x5 : Value) (K : Value → Value → Value → Value → M Value) : M Value :=
  bnd (opBin .eql x5 (.int .i64 (14))) fun v17 => K x1 x3 x5 v17

theorem ir_Uses_r11_ok (F : Nat) (x1 x3 x5 : Value) (K : Value → Value → Value → Value → M Value) : ir_Uses_r11 F x1 x3 x5 K = ir_Uses_R F 11 [(5, x5), (3, x3), (1, x1)] [1, 3, 5, 15] K := by kernel_rfl

def ir_Uses_r10 (F : Nat) (x1 x3 x5 : Value) (K : Value → Value → Value → Value → M Value) : M Value :=
  bnd (opBin .eql x5 (.int .i64 (13))) fun v16 => K x1 x3 x5 v16

theorem ir_Uses_r10_ok (F : Nat) (x1 x3 x5 : Value) (K : Value → Value → Value → Value → M Value) : ir_Uses_r10 F x1 x3 x5 K = ir_Uses_R F 10 [(5, x5), (3, x3), (1, x1)] [1, 3, 5, 15] K := by kernel_rfl

def ir_Uses_k3 (F : Nat) (x1 x3 x5 x9 : Value) : M Value :=
  onB x9 (ir_Uses_r14 F x1 x3 (fun x3 => ir_Uses_k0 F x3)) (ir_Uses_r10 F x1 x3 x5 (fun x1 x3 x5 x15 => onB x15 (ir_Uses_k2 F x1 x3 x5 x15) (ir_Uses_r11 F x1 x3 x5 (fun x1 x3 x5 x15 => ir_Uses_k2 F x1 x3 x5 x15))))

def ir_Uses_r9 (F : Nat) (x1 x3 x5 : Value) (K : Value → Value → Value → Value → M Value) : M Value :=
  bnd (opBin .eql x5 (.int .i64 (15))) fun v14 => K x1 x3 x5 v14

theorem ir_Uses_r9_ok (F : Nat) (x1 x3 x5 : Value) (K : Value → Value → Value → Value → M Value) : ir_Uses_r9 F x1 x3 x5 K = ir_Uses_R F 9 [(5, x5), (3, x3), (1, x1)] [1, 3, 5, 9] K := by kernel_rfl

def ir_Uses_r8 (F : Nat) (x1 x3 x5 : Value) (K : Value → Value → Value → Value → M Value) : M Value :=
  bnd (opBin .eql x5 (.int .i64 (11))) fun v13 => K x1 x3 x5 v13

theorem ir_Uses_r8_ok (F : Nat) (x1 x3 x5 : Value) (K : Value → Value → Value → Value → M Value) : ir_Uses_r8 F x1 x3 x5 K = ir_Uses_R F 8 [(5, x5), (3, x3), (1, x1)] [1, 3, 5, 9] K := by kernel_rfl

def ir_Uses_r7 (F : Nat) (x1 x3 x5 : Value) (K : Value → Value → Value → Value → M Value) : M Value :=
  bnd (opBin .eql x5 (.int .i64 (9))) fun v12 => K x1 x3 x5 v12

theorem ir_Uses_r7_ok (F : Nat) (x1 x3 x5 : Value) (K : Value → Value → Value → Value → M Value) : ir_Uses_r7 F x1 x3 x5 K = ir_Uses_R F 7 [(5, x5), (3, x3), (1, x1)] [1, 3, 5, 9] K := by kernel_rfl

def ir_Uses_r6 (F : Nat) (x1 x3 x5 : Value) (K : Value → Value → Value → Value → M Value) : M Value :=
  bnd (opBin .eql x5 (.int .i64 (7))) fun v11 => K x1 x3 x5 v11

theorem ir_Uses_r6_ok (F : Nat) (x1 x3 x5 : Value) (K : Value → Value → Value → Value → M Value) : ir_Uses_r6 F x1 x3 x5 K = ir_Uses_R F 6 [(5, x5), (3, x3), (1, x1)] [1, 3, 5, 9] K := by kernel_rfl

def ir_Uses_r5 (F : Nat) (x1 x3 x5 : Value) (K : Value → Value → Value → Value → M Value) : M Value :=
  bnd (opBin .eql x5 (.int .i64 (6))) fun v10 => K x1 x3 x5 v10

theorem ir_Uses_r5_ok (F : Nat) (x1 x3 x5 : Value) (K : Value → Value → Value → Value → M Value) : ir_Uses_r5 F x1 x3 x5 K = ir_Uses_R F 5 [(5, x5), (3, x3), (1, x1)] [1, 3, 5, 9] K := by kernel_rfl

def ir_Uses_k4 (F : Nat) (x1 x3 x5 x6 : Value) : M Value :=
  onB x6 (ir_Uses_r13 F x1 x3 (fun x3 => ir_Uses_k0 F x3)) (ir_Uses_r5 F x1 x3 x5 (fun x1 x3 x5 x9 => onB x9 (ir_Uses_k3 F x1 x3 x5 x9) (ir_Uses_r6 F x1 x3 x5 (fun x1 x3 x5 x9 => onB x9 (ir_Uses_k3 F x1 x3 x5 x9) (ir_Uses_r7 F x1 x3 x5 (fun x1 x3 x5 x9 => onB x9 (ir_Uses_k3 F x1 x3 x5 x9) (ir_Uses_r8 F x1 x3 x5 (fun x1 x3 x5 x9 => onB x9 (ir_Uses_k3 F x1 x3 x5 x9) (ir_Uses_r9 F x1 x3 x5 (fun x1 x3 x5 x9 => ir_Uses_k3 F x1 x3 x5 x9))))))))))

def ir_Uses_r4 (F : Nat) (x1 x3 x5 : Value) (K : Value → Value → Value → Value → M Value) : M Value :=
  bnd (opBin .eql x5 (.int .i64 (8))) fun v8 => K x1 x3 x5 v8

theorem ir_Uses_r4_ok (F : Nat) (x1 x3 x5 : Value) (K : Value → Value → Value → Value → M Value) : ir_Uses_r4 F x1 x3 x5 K = ir_Uses_R F 4 [(5, x5), (3, x3), (1, x1)] [1, 3, 5, 6] K := by kernel_rfl

def ir_Uses_r3 (F : Nat) (x1 x3 x5 : Value) (K : Value → Value → Value → Value → M Value) : M Value :=
  bnd (opBin .eql x5 (.int .i64 (2))) fun v7 => K x1 x3 x5 v7

theorem ir_Uses_r3_ok (F : Nat) (x1 x3 x5 : Value) (K : Value → Value → Value → Value → M Value) : ir_Uses_r3 F x1 x3 x5 K = ir_Uses_R F 3 [(5, x5), (3, x3), (1, x1)] [1, 3, 5, 6] K := by kernel_rfl

def ir_Uses_r2 (F : Nat) (x1 x3 : Value) (K : Value → Value → Value → M Value) : M Value :=
  bnd (opFieldAddr 0 x1) fun v4 => bnd (opLoad v4) fun v5 => K x1 x3 v5

theorem ir_Uses_r2_ok (F : Nat) (x1 x3 : Value) (K : Value → Value → Value → M Value) : ir_Uses_r2 F x1 x3 K = ir_Uses_R F 2 [(3, x3), (1, x1)] [1, 3, 5] K := by kernel_rfl

def ir_Uses_r1 (F : Nat) (x1 : Value) (K : Value → Value → M Value) : M Value :=
  K x1 (.slice none 0 0)

theorem ir_Uses_r1_ok (F : Nat) (x1 : Value) (K : Value → Value → M Value) : ir_Uses_r1 F x1 K = ir_Uses_R F 1 [(1, x1)] [1, 3] K := by kernel_rfl

def ir_Uses_r0 (F : Nat) (x0 : Value) (K : Value → M Value) : M Value :=
  bnd (opBoxN x0) fun v1 => K v1

theorem ir_Uses_r0_ok (F : Nat) (x0 : Value) (K : Value → M Value) : ir_Uses_r0 F x0 K = ir_Uses_R F 0 [(0, x0)] [1] K := by kernel_rfl

def ir_Uses (F : Nat) (x0 : Value) : M Value :=
  ir_Uses_r0 F x0 (fun x1 => ir_Uses_r1 F x1 (fun x1 x3 => ir_Uses_r2 F x1 x3 (fun x1 x3 x5 => ir_Uses_r3 F x1 x3 x5 (fun x1 x3 x5 x6 => onB x6 (ir_Uses_k4 F x1 x3 x5 x6) (ir_Uses_r4 F x1 x3 x5 (fun x1 x3 x5 x6 => ir_Uses_k4 F x1 x3 x5 x6))))))

def ir_Uses_m (F : Nat) : List Value → M Value
  | [x0] => ir_Uses F x0
  | _ => fail

theorem ir_Uses_body : Try.f34.body = some (.seq (.region 0 (opsOf Try.f34 0) false) (.seq (.region 1 (opsOf Try.f34 1) false) (.seq (.seq (.region 2 (opsOf Try.f34 2) false) (.block 0 (.seq (.block 4 (.seq (.block 3 (.seq (.block 2 (.seq (.block 1 (.seq (.seq (.seq (.seq (.region 3 (opsOf Try.f34 3) false) (.cond (.tmp 6) .skip (.region 4 (opsOf Try.f34 4) false))) (.cond (.tmp 6) (.exit 1) .skip)) (.seq (.seq (.seq (.region 5 (opsOf Try.f34 5) false) (.cond (.tmp 9) .skip (.seq (.region 6 (opsOf Try.f34 6) false) (.cond (.tmp 9) .skip (.seq (.region 7 (opsOf Try.f34 7) false) (.cond (.tmp 9) .skip (.seq (.region 8 (opsOf Try.f34 8) false) (.cond (.tmp 9) .skip (.region 9 (opsOf Try.f34 9) false))))))))) (.cond (.tmp 9) (.exit 2) .skip)) (.seq (.seq (.seq (.region 10 (opsOf Try.f34 10) false) (.cond (.tmp 15) .skip (.region 11 (opsOf Try.f34 11) false))) (.cond (.tmp 15) (.exit 3) .skip)) (.seq (.region 12 (opsOf Try.f34 12) false) (.cond (.tmp 18) (.exit 4) .skip))))) (.exit 0))) (.seq (.region 13 (opsOf Try.f34 13) false) (.exit 0)))) (.seq (.region 14 (opsOf Try.f34 14) false) (.exit 0)))) (.region 15 (opsOf Try.f34 15) false))) (.seq (.region 16 (opsOf Try.f34 16) false) (.exit 0))))) (.seq (.region 17 (opsOf Try.f34 17) false) .ret)))) := by kernel_rfl

theorem ir_Uses_ok (F : Nat) : Sim Try.prog TryG 34 (ir_Uses_m F) := by
 have hE : EnvOK Try.prog TryG (ir_Uses_env F) := EnvOK.nil
 refine Sim.of_body (E := ir_Uses_env F) Try.func34 ir_Uses_body Try.call34 ?_ ?_
 · intro args hl; unfold ir_Uses_m; split
   · exact absurd hl (Nat.not_lt.2 (Nat.le_of_ble_eq_true rfl))
   · rfl
 · intro args ρ h w z; unfold ir_Uses_m; split
   · rename_i x0; show OKc _ _ [(0, x0)] _ _
     refine rSeq ?_
     refine cLess [0] ?_
     refine xR hE [1] rfl (ir_Uses_r0_ok F _ _) ?_
     intro x1
     show OKq _ _ _ [(1, x1)] _
     refine rThen ?_
     refine rSeq ?_
     refine cLess [1] ?_
     refine xR hE [1, 3] rfl (ir_Uses_r1_ok F _ _) ?_
     intro x1 x3
     show OKq _ _ _ [(3, x3), (1, x1)] _
     refine rThen ?_
     refine xSeq [3] (ir_Uses_k0 F ) ?_ fun hj0 => ?_
     · intro x3
       show OKc _ _ [(3, x3)] _ _
       refine rSeq ?_
       refine cLess [3] ?_
       refine xR hE [2] rfl (ir_Uses_r17_ok F _ _) ?_
       intro x2
       show OKq _ _ _ [(2, x2)] _
       refine rThen ?_
       refine rRet ?_
       exact rDone (.inr rfl) rfl
     · refine rSeq ?_
       refine cLess [3, 1] ?_
       refine xR hE [1, 3, 5] rfl (ir_Uses_r2_ok F _ _ _) ?_
       intro x1 x3 x5
       show OKq _ _ _ [(5, x5), (3, x3), (1, x1)] _
       refine rThen ?_
       refine rBlock ?_
       refine xSeq [1, 3] (ir_Uses_k1 F ) ?_ fun hj1 => ?_
       · intro x1 x3
         show OKc _ _ [(3, x3), (1, x1)] _ _
         refine rSeq ?_
         refine cLess [3, 1] ?_
         refine xR hE [3] rfl (ir_Uses_r16_ok F _ _ _) ?_
         intro x3
         show OKq _ _ _ [(3, x3)] _
         refine rThen ?_
         refine rExit ?_
         refine rOut ?_
         exact qLess [3] (hj0 x3)
       · refine rBlock ?_
         refine rSeq ?_
         refine rBlock ?_
         refine rSeq ?_
         refine rBlock ?_
         refine rSeq ?_
         refine rBlock ?_
         refine rSeq ?_
         refine rSeq ?_
         refine xSeq [1, 3, 5, 6] (ir_Uses_k4 F ) ?_ fun hj4 => ?_
         · intro x1 x3 x5 x6
           show OKc _ _ [(6, x6), (5, x5), (3, x3), (1, x1)] _ _
           refine xCond rfl rfl ?_ ?_
           · refine rExit ?_
             refine xThenX ?_
             refine xThenX ?_
             refine rOut ?_
             refine rThen ?_
             refine rSeq ?_
             refine cLess [3, 1] ?_
             refine xR hE [3] rfl (ir_Uses_r13_ok F _ _ _) ?_
             intro x3
             show OKq _ _ _ [(3, x3)] _
             refine rThen ?_
             refine rExit ?_
             refine rPast rfl ?_
             refine xThenX ?_
             refine rPast rfl ?_
             refine xThenX ?_
             refine rPast rfl ?_
             refine xThenX ?_
             refine rOut ?_
             exact qLess [3] (hj0 x3)
           · refine rSkip ?_
             refine rThen ?_
             refine rSeq ?_
             refine xSeq [1, 3, 5, 9] (ir_Uses_k3 F ) ?_ fun hj3 => ?_
             · intro x1 x3 x5 x9
               show OKc _ _ [(9, x9), (5, x5), (3, x3), (1, x1)] _ _
               refine xCond rfl rfl ?_ ?_
               · refine rExit ?_
                 refine xThenX ?_
                 refine xThenX ?_
                 refine rPast rfl ?_
                 refine xThenX ?_
                 refine rOut ?_
                 refine rThen ?_
                 refine rSeq ?_
                 refine cLess [3, 1] ?_
                 refine xR hE [3] rfl (ir_Uses_r14_ok F _ _ _) ?_
                 intro x3
                 show OKq _ _ _ [(3, x3)] _
                 refine rThen ?_
                 refine rExit ?_
                 refine rPast rfl ?_
                 refine xThenX ?_
                 refine rPast rfl ?_
                 refine xThenX ?_
                 refine rOut ?_
                 exact qLess [3] (hj0 x3)
               · refine rSkip ?_
                 refine rThen ?_
                 refine rSeq ?_
                 refine xSeq [1, 3, 5, 15] (ir_Uses_k2 F ) ?_ fun hj2 => ?_
                 · intro x1 x3 x5 x15
                   show OKc _ _ [(15, x15), (5, x5), (3, x3), (1, x1)] _ _
                   refine xCond rfl rfl ?_ ?_
                   · refine rExit ?_
                     refine xThenX ?_
                     refine xThenX ?_
                     refine rPast rfl ?_
                     refine xThenX ?_
                     refine rPast rfl ?_
                     refine xThenX ?_
                     refine rOut ?_
                     refine rThen ?_
                     refine cLess [3, 1] ?_
                     refine xR hE [1, 3] rfl (ir_Uses_r15_ok F _ _ _) ?_
                     intro x1 x3
                     show OKq _ _ _ [(3, x3), (1, x1)] _
                     refine xBlockN ?_
                     exact qLess [3, 1] (hj1 x1 x3)
                   · refine rSkip ?_
                     refine rThen ?_
                     refine rSeq ?_
                     refine cLess [5, 3, 1] ?_
                     refine xR hE [1, 3, 18] rfl (ir_Uses_r12_ok F _ _ _ _) ?_
                     intro x1 x3 x18
                     show OKq _ _ _ [(18, x18), (3, x3), (1, x1)] _
                     refine rThen ?_
                     refine xCond rfl rfl ?_ ?_
                     · refine rExit ?_
                       refine xThenX ?_
                       refine rPast rfl ?_
                       refine xThenX ?_
                       refine rPast rfl ?_
                       refine xThenX ?_
                       refine rPast rfl ?_
                       refine xThenX ?_
                       refine rOut ?_
                       exact qLess [3, 1] (hj1 x1 x3)
                     · refine rSkip ?_
                       refine rThen ?_
                       refine rExit ?_
                       refine rPast rfl ?_
                       refine xThenX ?_
                       refine rPast rfl ?_
                       refine xThenX ?_
                       refine rPast rfl ?_
                       refine xThenX ?_
                       refine rPast rfl ?_
                       refine xThenX ?_
                       refine rOut ?_
                       exact qLess [3] (hj0 x3)
                 · refine rSeq ?_
                   refine cLess [5, 3, 1] ?_
                   refine xR hE [1, 3, 5, 15] rfl (ir_Uses_r10_ok F _ _ _ _) ?_
                   intro x1 x3 x5 x15
                   show OKq _ _ _ [(15, x15), (5, x5), (3, x3), (1, x1)] _
                   refine rThen ?_
                   refine xCond rfl rfl ?_ ?_
                   · refine rSkip ?_
                     exact qLess [15, 5, 3, 1] (hj2 x1 x3 x5 x15)
                   · refine cLess [5, 3, 1] ?_
                     refine xR hE [1, 3, 5, 15] rfl (ir_Uses_r11_ok F _ _ _ _) ?_
                     intro x1 x3 x5 x15
                     show OKq _ _ _ [(15, x15), (5, x5), (3, x3), (1, x1)] _
                     exact qLess [15, 5, 3, 1] (hj2 x1 x3 x5 x15)
             · refine rSeq ?_
               refine cLess [5, 3, 1] ?_
               refine xR hE [1, 3, 5, 9] rfl (ir_Uses_r5_ok F _ _ _ _) ?_
               intro x1 x3 x5 x9
               show OKq _ _ _ [(9, x9), (5, x5), (3, x3), (1, x1)] _
               refine rThen ?_
               refine xCond rfl rfl ?_ ?_
               · refine rSkip ?_
                 exact qLess [9, 5, 3, 1] (hj3 x1 x3 x5 x9)
               · refine rSeq ?_
                 refine cLess [5, 3, 1] ?_
                 refine xR hE [1, 3, 5, 9] rfl (ir_Uses_r6_ok F _ _ _ _) ?_
                 intro x1 x3 x5 x9
                 show OKq _ _ _ [(9, x9), (5, x5), (3, x3), (1, x1)] _
                 refine rThen ?_
                 refine xCond rfl rfl ?_ ?_
                 · refine rSkip ?_
                   exact qLess [9, 5, 3, 1] (hj3 x1 x3 x5 x9)
                 · refine rSeq ?_
                   refine cLess [5, 3, 1] ?_
                   refine xR hE [1, 3, 5, 9] rfl (ir_Uses_r7_ok F _ _ _ _) ?_
                   intro x1 x3 x5 x9
                   show OKq _ _ _ [(9, x9), (5, x5), (3, x3), (1, x1)] _
                   refine rThen ?_
                   refine xCond rfl rfl ?_ ?_
                   · refine rSkip ?_
                     exact qLess [9, 5, 3, 1] (hj3 x1 x3 x5 x9)
                   · refine rSeq ?_
                     refine cLess [5, 3, 1] ?_
                     refine xR hE [1, 3, 5, 9] rfl (ir_Uses_r8_ok F _ _ _ _) ?_
                     intro x1 x3 x5 x9
                     show OKq _ _ _ [(9, x9), (5, x5), (3, x3), (1, x1)] _
                     refine rThen ?_
                     refine xCond rfl rfl ?_ ?_
                     · refine rSkip ?_
                       exact qLess [9, 5, 3, 1] (hj3 x1 x3 x5 x9)
                     · refine cLess [5, 3, 1] ?_
                       refine xR hE [1, 3, 5, 9] rfl (ir_Uses_r9_ok F _ _ _ _) ?_
                       intro x1 x3 x5 x9
                       show OKq _ _ _ [(9, x9), (5, x5), (3, x3), (1, x1)] _
                       exact qLess [9, 5, 3, 1] (hj3 x1 x3 x5 x9)
         · refine rSeq ?_
           refine cLess [5, 3, 1] ?_
           refine xR hE [1, 3, 5, 6] rfl (ir_Uses_r3_ok F _ _ _ _) ?_
           intro x1 x3 x5 x6
           show OKq _ _ _ [(6, x6), (5, x5), (3, x3), (1, x1)] _
           refine rThen ?_
           refine xCond rfl rfl ?_ ?_
           · refine rSkip ?_
             exact qLess [6, 5, 3, 1] (hj4 x1 x3 x5 x6)
           · refine cLess [5, 3, 1] ?_
             refine xR hE [1, 3, 5, 6] rfl (ir_Uses_r4_ok F _ _ _ _) ?_
             intro x1 x3 x5 x6
             show OKq _ _ _ [(6, x6), (5, x5), (3, x3), (1, x1)] _
             exact qLess [6, 5, 3, 1] (hj4 x1 x3 x5 x6)
   · exact rFail


/-! ### slices.Compact[[]int,int] -/

def slices_Compact_env (F : Nat) : Env := envOf []

noncomputable def slices_Compact_R (F : Nat) := rK Try.prog TryG (slices_Compact_env F) Try.f37
noncomputable def slices_Compact_D (F : Nat) := dK Try.prog TryG (slices_Compact_env F) Try.f37

def slices_Compact_r16 (F : Nat) (x0 : Value) (K : Value → M Value) : M Value :=
  K x0

theorem slices_Compact_r16_ok (F : Nat) (x0 : Value) (K : Value → M Value) : slices_Compact_r16 F x0 K = slices_Compact_R F 16 [(0, x0)] [2] K := by kernel_rfl

def slices_Compact_k0 (F : Nat) (x0 : Value) : M Value :=
  slices_Compact_r16 F x0 (fun x2 => ret x2)

def slices_Compact_r5 (F : Nat) (x0 x3 : Value) (K : Value → Value → M Value) : M Value :=
  bnd (opBin .add x3 (.int .i64 (1))) fun v15 => K x0 v15

theorem slices_Compact_r5_ok (F : Nat) (x0 x3 : Value) (K : Value → Value → M Value) : slices_Compact_r5 F x0 x3 K = slices_Compact_R F 5 [(3, x3), (0, x0)] [0, 3] K := by kernel_rfl

def slices_Compact_k2 (F : Nat) (A1 : Value → Value → M Value) (x0 x3 : Value) : M Value :=
  slices_Compact_r5 F x0 x3 (fun x0 x3 => A1 x0 x3)

def slices_Compact_r15 (F : Nat) (x0 x3 : Value) (K : Value → M Value) : M Value :=
  bnd (opSlice 1 x0 none (some x3) none) fun v59 => K v59

theorem slices_Compact_r15_ok (F : Nat) (x0 x3 : Value) (K : Value → M Value) : slices_Compact_r15 F x0 x3 K = slices_Compact_R F 15 [(3, x3), (0, x0)] [2] K := by kernel_rfl

def slices_Compact_r14 (F : Nat) (x0 x3 : Value) (K : Value → Value → M Value) : M Value :=
  bnd (opSlice 1 x0 (some x3) none none) fun v56 => bnd ((fail : M Value)) fun _ => K x0 x3

theorem slices_Compact_r14_ok (F : Nat) (x0 x3 : Value) (K : Value → Value → M Value) : slices_Compact_r14 F x0 x3 K = slices_Compact_R F 14 [(3, x3), (0, x0)] [0, 3] K := by kernel_rfl

def slices_Compact_k3 (F : Nat) (x0 x3 : Value) : M Value :=
  slices_Compact_r14 F x0 x3 (fun x0 x3 => slices_Compact_r15 F x0 x3 (fun x2 => ret x2))

def slices_Compact_r10 (F : Nat) (x0 x3 x4 x5 : Value) (K : Value → Value → Value → Value → M Value) : M Value :=
  bnd (opBin .add x5 (.int .i64 (1))) fun v34 => K x0 x3 x4 v34

theorem slices_Compact_r10_ok (F : Nat) (x0 x3 x4 x5 : Value) (K : Value → Value → Value → Value → M Value) : slices_Compact_r10 F x0 x3 x4 x5 K = slices_Compact_R F 10 [(5, x5), (4, x4), (3, x3), (0, x0)] [0, 3, 4, 5] K := by kernel_rfl

def slices_Compact_k5 (F : Nat) (A4 : Value → Value → Value → Value → M Value) (x0 x3 x4 x5 : Value) : M Value :=
  slices_Compact_r10 F x0 x3 x4 x5 (fun x0 x3 x4 x5 => A4 x0 x3 x4 x5)

def slices_Compact_r13 (F : Nat) (x0 x3 x4 x5 : Value) (K : Value → Value → Value → Value → M Value) : M Value :=
  bnd (opBin .add x3 (.int .i64 (1))) fun v53 => K x0 v53 x4 x5

theorem slices_Compact_r13_ok (F : Nat) (x0 x3 x4 x5 : Value) (K : Value → Value → Value → Value → M Value) : slices_Compact_r13 F x0 x3 x4 x5 K = slices_Compact_R F 13 [(5, x5), (4, x4), (3, x3), (0, x0)] [0, 3, 4, 5] K := by kernel_rfl

def slices_Compact_r12 (F : Nat) (x0 x3 x4 x5 : Value) (K : Value → Value → Value → Value → M Value) : M Value :=
  bnd (opIndexAddr 1 x4 x5) fun v49 => bnd (opLoad v49) fun v50 => bnd (opIndexAddr 1 x0 x3) fun v51 => bnd (opStore v51 v50) fun _ => K x0 x3 x4 x5

theorem slices_Compact_r12_ok (F : Nat) (x0 x3 x4 x5 : Value) (K : Value → Value → Value → Value → M Value) : slices_Compact_r12 F x0 x3 x4 x5 K = slices_Compact_R F 12 [(5, x5), (4, x4), (3, x3), (0, x0)] [0, 3, 4, 5] K := by kernel_rfl

def slices_Compact_r11 (F : Nat) (x0 x3 x4 x5 : Value) (K : Value → Value → Value → Value → Value → M Value) : M Value :=
  bnd (opIndexAddr 1 x4 x5) fun v37 => bnd (opLoad v37) fun v38 => bnd (opBin .sub x5 (.int .i64 (1))) fun v41 => bnd (opIndexAddr 1 x4 v41) fun v42 => bnd (opLoad v42) fun v43 => bnd (opBin .neq v38 v43) fun v44 => K x0 x3 x4 x5 v44

theorem slices_Compact_r11_ok (F : Nat) (x0 x3 x4 x5 : Value) (K : Value → Value → Value → Value → Value → M Value) : slices_Compact_r11 F x0 x3 x4 x5 K = slices_Compact_D F 11 [0, 1, 2, 3, 4, 5, 6, 7, 8, 9] [(5, x5), (4, x4), (3, x3), (0, x0)] [0, 3, 4, 5, 44] K := by kernel_rfl

theorem slices_Compact_r11_good : goodOrder (opsOf Try.f37 11) [0, 1, 2, 3, 4, 5, 6, 7, 8, 9] = true := by kernel_rfl

def slices_Compact_r9 (F : Nat) (x0 x3 x4 x5 : Value) (K : Value → Value → Value → Value → Value → M Value) : M Value :=
  bnd (opLen x4) fun v31 => bnd (opBin .lss x5 v31) fun v32 => K x0 x3 x4 x5 v32

theorem slices_Compact_r9_ok (F : Nat) (x0 x3 x4 x5 : Value) (K : Value → Value → Value → Value → Value → M Value) : slices_Compact_r9 F x0 x3 x4 x5 K = slices_Compact_R F 9 [(5, x5), (4, x4), (3, x3), (0, x0)] [0, 3, 4, 5, 32] K := by kernel_rfl

def slices_Compact_b4 (F : Nat) (E4_2 : Value → Value → M Value) (A4 : Value → Value → Value → Value → M Value) (x0 x3 x4 x5 : Value) : M Value :=
  slices_Compact_r9 F x0 x3 x4 x5 (fun x0 x3 x4 x5 x32 => onB x32 (slices_Compact_r11 F x0 x3 x4 x5 (fun x0 x3 x4 x5 x44 => onB x44 (slices_Compact_r12 F x0 x3 x4 x5 (fun x0 x3 x4 x5 => slices_Compact_r13 F x0 x3 x4 x5 (fun x0 x3 x4 x5 => slices_Compact_k5 F A4 x0 x3 x4 x5))) (slices_Compact_k5 F A4 x0 x3 x4 x5))) (E4_2 x0 x3))

def slices_Compact_l4 (F : Nat) (E4_2 : Value → Value → M Value) : Nat → Value → Value → Value → Value → M Value
  | 0, _, _, _, _ => fail
  | k4 + 1, x0, x3, x4, x5 => slices_Compact_b4 F E4_2 (slices_Compact_l4 F E4_2 k4) x0 x3 x4 x5

theorem slices_Compact_l4_s (F : Nat) (E4_2 : Value → Value → M Value) (k4 : Nat) (x0 x3 x4 x5 : Value) : slices_Compact_l4 F E4_2 (k4 + 1) x0 x3 x4 x5 = slices_Compact_b4 F E4_2 (slices_Compact_l4 F E4_2 k4) x0 x3 x4 x5 := rfl

def slices_Compact_r8 (F : Nat) (x0 x3 x4 : Value) (K : Value → Value → Value → Value → M Value) : M Value :=
  K x0 x3 x4 (.int .i64 (1))

theorem slices_Compact_r8_ok (F : Nat) (x0 x3 x4 : Value) (K : Value → Value → Value → Value → M Value) : slices_Compact_r8 F x0 x3 x4 K = slices_Compact_R F 8 [(4, x4), (3, x3), (0, x0)] [0, 3, 4, 5] K := by kernel_rfl

def slices_Compact_r7 (F : Nat) (x0 x3 : Value) (K : Value → Value → Value → M Value) : M Value :=
  bnd (opSlice 1 x0 (some x3) none none) fun v28 => K x0 x3 v28

theorem slices_Compact_r7_ok (F : Nat) (x0 x3 : Value) (K : Value → Value → Value → M Value) : slices_Compact_r7 F x0 x3 K = slices_Compact_R F 7 [(3, x3), (0, x0)] [0, 3, 4] K := by kernel_rfl

def slices_Compact_r6 (F : Nat) (x0 x3 : Value) (K : Value → Value → Value → M Value) : M Value :=
  bnd (opIndexAddr 1 x0 x3) fun v18 => bnd (opLoad v18) fun v19 => bnd (opBin .sub x3 (.int .i64 (1))) fun v22 => bnd (opIndexAddr 1 x0 v22) fun v23 => bnd (opLoad v23) fun v24 => bnd (opBin .eql v19 v24) fun v25 => K x0 x3 v25

theorem slices_Compact_r6_ok (F : Nat) (x0 x3 : Value) (K : Value → Value → Value → M Value) : slices_Compact_r6 F x0 x3 K = slices_Compact_D F 6 [0, 1, 2, 3, 4, 5, 6, 7, 8, 9] [(3, x3), (0, x0)] [0, 3, 25] K := by kernel_rfl

theorem slices_Compact_r6_good : goodOrder (opsOf Try.f37 6) [0, 1, 2, 3, 4, 5, 6, 7, 8, 9] = true := by kernel_rfl

def slices_Compact_r4 (F : Nat) (x0 x3 : Value) (K : Value → Value → Value → M Value) : M Value :=
  bnd (opLen x0) fun v12 => bnd (opBin .lss x3 v12) fun v13 => K x0 x3 v13

theorem slices_Compact_r4_ok (F : Nat) (x0 x3 : Value) (K : Value → Value → Value → M Value) : slices_Compact_r4 F x0 x3 K = slices_Compact_R F 4 [(3, x3), (0, x0)] [0, 3, 13] K := by kernel_rfl

def slices_Compact_b1 (F : Nat) (E1_0 : Value → M Value) (A1 : Value → Value → M Value) (x0 x3 : Value) : M Value :=
  slices_Compact_r4 F x0 x3 (fun x0 x3 x13 => onB x13 (slices_Compact_r6 F x0 x3 (fun x0 x3 x25 => onB x25 (slices_Compact_r7 F x0 x3 (fun x0 x3 x4 => slices_Compact_r8 F x0 x3 x4 (fun x0 x3 x4 x5 => slices_Compact_l4 F (fun x0 x3 => slices_Compact_k3 F x0 x3) F x0 x3 x4 x5))) (slices_Compact_k2 F A1 x0 x3))) (E1_0 x0))

def slices_Compact_l1 (F : Nat) (E1_0 : Value → M Value) : Nat → Value → Value → M Value
  | 0, _, _ => fail
  | k1 + 1, x0, x3 => slices_Compact_b1 F E1_0 (slices_Compact_l1 F E1_0 k1) x0 x3

theorem slices_Compact_l1_s (F : Nat) (E1_0 : Value → M Value) (k1 : Nat) (x0 x3 : Value) : slices_Compact_l1 F E1_0 (k1 + 1) x0 x3 = slices_Compact_b1 F E1_0 (slices_Compact_l1 F E1_0 k1) x0 x3 := rfl

def slices_Compact_r3 (F : Nat) (x0 : Value) (K : Value → Value → M Value) : M Value :=
  K x0 (.int .i64 (1))

theorem slices_Compact_r3_ok (F : Nat) (x0 : Value) (K : Value → Value → M Value) : slices_Compact_r3 F x0 K = slices_Compact_R F 3 [(0, x0)] [0, 3] K := by kernel_rfl

def slices_Compact_r2 (F : Nat) (x0 : Value) (K : Value → M Value) : M Value :=
  K x0

theorem slices_Compact_r2_ok (F : Nat) (x0 : Value) (K : Value → M Value) : slices_Compact_r2 F x0 K = slices_Compact_R F 2 [(0, x0)] [2] K := by kernel_rfl

def slices_Compact_r1 (F : Nat) (x0 : Value) (K : Value → Value → M Value) : M Value :=
  bnd (opLen x0) fun v7 => bnd (opBin .lss v7 (.int .i64 (2))) fun v8 => K x0 v8

theorem slices_Compact_r1_ok (F : Nat) (x0 : Value) (K : Value → Value → M Value) : slices_Compact_r1 F x0 K = slices_Compact_R F 1 [(0, x0)] [0, 8] K := by kernel_rfl

def slices_Compact_r0 (F : Nat) (x0 : Value) (K : Value → M Value) : M Value :=
  K x0

theorem slices_Compact_r0_ok (F : Nat) (x0 : Value) (K : Value → M Value) : slices_Compact_r0 F x0 K = slices_Compact_R F 0 [(0, x0)] [0] K := by kernel_rfl

def slices_Compact (F : Nat) (x0 : Value) : M Value :=
  slices_Compact_r0 F x0 (fun x0 => slices_Compact_r1 F x0 (fun x0 x8 => onB x8 (slices_Compact_r2 F x0 (fun x2 => ret x2)) (slices_Compact_r3 F x0 (fun x0 x3 => slices_Compact_l1 F (fun x0 => slices_Compact_k0 F x0) F x0 x3))))

def slices_Compact_m (F : Nat) : List Value → M Value
  | [x0] => slices_Compact F x0
  | _ => fail

theorem slices_Compact_body : Try.f37.body = some (.seq (.region 0 (opsOf Try.f37 0) false) (.seq (.seq (.region 1 (opsOf Try.f37 1) false) (.cond (.tmp 8) (.seq (.region 2 (opsOf Try.f37 2) false) .ret) .skip)) (.seq (.seq (.region 3 (opsOf Try.f37 3) false) (.block 0 (.loop (.seq (.seq (.region 4 (opsOf Try.f37 4) false) (.cond (.tmp 13) .skip (.exit 0))) (.seq (.block 1 (.seq (.region 6 (opsOf Try.f37 6) true) (.cond (.tmp 25) (.seq (.region 7 (opsOf Try.f37 7) false) (.seq (.seq (.region 8 (opsOf Try.f37 8) false) (.block 2 (.loop (.seq (.seq (.region 9 (opsOf Try.f37 9) false) (.cond (.tmp 32) .skip (.exit 2))) (.seq (.block 3 (.seq (.region 11 (opsOf Try.f37 11) true) (.cond (.tmp 44) (.seq (.region 12 (opsOf Try.f37 12) false) (.region 13 (opsOf Try.f37 13) false)) .skip))) (.region 10 (opsOf Try.f37 10) false)))))) (.seq (.region 14 (opsOf Try.f37 14) false) (.seq (.region 15 (opsOf Try.f37 15) false) .ret)))) .skip))) (.region 5 (opsOf Try.f37 5) false)))))) (.seq (.region 16 (opsOf Try.f37 16) false) .ret)))) := by kernel_rfl

theorem slices_Compact_ok (F : Nat) : Sim Try.prog TryG 37 (slices_Compact_m F) := by
 have hE : EnvOK Try.prog TryG (slices_Compact_env F) := EnvOK.nil
 refine Sim.of_body (E := slices_Compact_env F) Try.func37 slices_Compact_body Try.call37 ?_ ?_
 · intro args hl; unfold slices_Compact_m; split
   · exact absurd hl (Nat.not_lt.2 (Nat.le_of_ble_eq_true rfl))
   · rfl
 · intro args ρ h w z; unfold slices_Compact_m; split
   · rename_i x0; show OKc _ _ [(0, x0)] _ _
     refine rSeq ?_
     refine cLess [0] ?_
     refine xR hE [0] rfl (slices_Compact_r0_ok F _ _) ?_
     intro x0
     show OKq _ _ _ [(0, x0)] _
     refine rThen ?_
     refine rSeq ?_
     refine rSeq ?_
     refine cLess [0] ?_
     refine xR hE [0, 8] rfl (slices_Compact_r1_ok F _ _) ?_
     intro x0 x8
     show OKq _ _ _ [(8, x8), (0, x0)] _
     refine rThen ?_
     refine xCond rfl rfl ?_ ?_
     · refine rSeq ?_
       refine cLess [0] ?_
       refine xR hE [2] rfl (slices_Compact_r2_ok F _ _) ?_
       intro x2
       show OKq _ _ _ [(2, x2)] _
       refine rThen ?_
       refine rRet ?_
       refine xThenR ?_
       exact rDone (.inr rfl) rfl
     · refine rSkip ?_
       refine rThen ?_
       refine xSeq [0] (slices_Compact_k0 F ) ?_ fun hj0 => ?_
       · intro x0
         show OKc _ _ [(0, x0)] _ _
         refine rSeq ?_
         refine cLess [0] ?_
         refine xR hE [2] rfl (slices_Compact_r16_ok F _ _) ?_
         intro x2
         show OKq _ _ _ [(2, x2)] _
         refine rThen ?_
         refine rRet ?_
         exact rDone (.inr rfl) rfl
       · refine rSeq ?_
         refine cLess [0] ?_
         refine xR hE [0, 3] rfl (slices_Compact_r3_ok F _ _) ?_
         intro x0 x3
         show OKq _ _ _ [(3, x3), (0, x0)] _
         refine rThen ?_
         refine rBlock ?_
         refine cLess [3, 0] ?_
         refine xLoopAt [0, 3] [] (fun k1 => slices_Compact_l1 F (fun x0 => slices_Compact_k0 F x0) k1) F [x0, x3] rfl rfl (fun _ _ => rfl) fun I hI1 k1 => ?_
         intro x0 x3
         show OKc _ _ [(3, x3), (0, x0)] _ _
         refine cAs (slices_Compact_l1_s F _ _ _ _) ?_
         refine rSeq ?_
         refine rSeq ?_
         refine cLess [3, 0] ?_
         refine xR hE [0, 3, 13] rfl (slices_Compact_r4_ok F _ _ _) ?_
         intro x0 x3 x13
         show OKq _ _ _ [(13, x13), (3, x3), (0, x0)] _
         refine rThen ?_
         refine xCond rfl rfl ?_ ?_
         · refine rSkip ?_
           refine rThen ?_
           refine xSeq [0, 3] (slices_Compact_k2 F (slices_Compact_l1 F (fun x0 => slices_Compact_k0 F x0) k1) ) ?_ fun hj2 => ?_
           · intro x0 x3
             show OKc _ _ [(3, x3), (0, x0)] _ _
             refine cLess [3, 0] ?_
             refine xR hE [0, 3] rfl (slices_Compact_r5_ok F _ _ _) ?_
             intro x0 x3
             show OKq _ _ _ [(3, x3), (0, x0)] _
             exact qLess [3, 0] (hI1 k1 x0 x3)
           · refine rBlock ?_
             refine rSeq ?_
             refine cLess [3, 0] ?_
             refine xD Trymix hE [0, 3, 25] rfl slices_Compact_r6_good (slices_Compact_r6_ok F _ _ _) ?_
             intro x0 x3 x25
             show OKq _ _ _ [(25, x25), (3, x3), (0, x0)] _
             refine rThen ?_
             refine xCond rfl rfl ?_ ?_
             · refine rSeq ?_
               refine cLess [3, 0] ?_
               refine xR hE [0, 3, 4] rfl (slices_Compact_r7_ok F _ _ _) ?_
               intro x0 x3 x4
               show OKq _ _ _ [(4, x4), (3, x3), (0, x0)] _
               refine rThen ?_
               refine xSeq [0, 3] (slices_Compact_k3 F ) ?_ fun hj3 => ?_
               · intro x0 x3
                 show OKc _ _ [(3, x3), (0, x0)] _ _
                 refine rSeq ?_
                 refine cLess [3, 0] ?_
                 refine xR hE [0, 3] rfl (slices_Compact_r14_ok F _ _ _) ?_
                 intro x0 x3
                 show OKq _ _ _ [(3, x3), (0, x0)] _
                 refine rThen ?_
                 refine rSeq ?_
                 refine cLess [3, 0] ?_
                 refine xR hE [2] rfl (slices_Compact_r15_ok F _ _ _) ?_
                 intro x2
                 show OKq _ _ _ [(2, x2)] _
                 refine rThen ?_
                 refine rRet ?_
                 refine xBlockR ?_
                 refine xThenR ?_
                 refine xThenR ?_
                 refine xBlockR ?_
                 refine xThenR ?_
                 exact rDone (.inr rfl) rfl
               · refine rSeq ?_
                 refine cLess [4, 3, 0] ?_
                 refine xR hE [0, 3, 4, 5] rfl (slices_Compact_r8_ok F _ _ _ _) ?_
                 intro x0 x3 x4 x5
                 show OKq _ _ _ [(5, x5), (4, x4), (3, x3), (0, x0)] _
                 refine rThen ?_
                 refine rBlock ?_
                 refine cLess [5, 4, 3, 0] ?_
                 refine xLoopAt [0, 3, 4, 5] [] (fun k4 => slices_Compact_l4 F (fun x0 x3 => slices_Compact_k3 F x0 x3) k4) F [x0, x3, x4, x5] rfl rfl (fun _ _ _ _ => rfl) fun I hI4 k4 => ?_
                 intro x0 x3 x4 x5
                 show OKc _ _ [(5, x5), (4, x4), (3, x3), (0, x0)] _ _
                 refine cAs (slices_Compact_l4_s F _ _ _ _ _ _) ?_
                 refine rSeq ?_
                 refine rSeq ?_
                 refine cLess [5, 4, 3, 0] ?_
                 refine xR hE [0, 3, 4, 5, 32] rfl (slices_Compact_r9_ok F _ _ _ _ _) ?_
                 intro x0 x3 x4 x5 x32
                 show OKq _ _ _ [(32, x32), (5, x5), (4, x4), (3, x3), (0, x0)] _
                 refine rThen ?_
                 refine xCond rfl rfl ?_ ?_
                 · refine rSkip ?_
                   refine rThen ?_
                   refine xSeq [0, 3, 4, 5] (slices_Compact_k5 F (slices_Compact_l4 F (fun x0 x3 => slices_Compact_k3 F x0 x3) k4) ) ?_ fun hj5 => ?_
                   · intro x0 x3 x4 x5
                     show OKc _ _ [(5, x5), (4, x4), (3, x3), (0, x0)] _ _
                     refine cLess [5, 4, 3, 0] ?_
                     refine xR hE [0, 3, 4, 5] rfl (slices_Compact_r10_ok F _ _ _ _ _) ?_
                     intro x0 x3 x4 x5
                     show OKq _ _ _ [(5, x5), (4, x4), (3, x3), (0, x0)] _
                     exact qLess [5, 4, 3, 0] (hI4 k4 x0 x3 x4 x5)
                   · refine rBlock ?_
                     refine rSeq ?_
                     refine cLess [5, 4, 3, 0] ?_
                     refine xD Trymix hE [0, 3, 4, 5, 44] rfl slices_Compact_r11_good (slices_Compact_r11_ok F _ _ _ _ _) ?_
                     intro x0 x3 x4 x5 x44
                     show OKq _ _ _ [(44, x44), (5, x5), (4, x4), (3, x3), (0, x0)] _
                     refine rThen ?_
                     refine xCond rfl rfl ?_ ?_
                     · refine rSeq ?_
                       refine cLess [5, 4, 3, 0] ?_
                       refine xR hE [0, 3, 4, 5] rfl (slices_Compact_r12_ok F _ _ _ _ _) ?_
                       intro x0 x3 x4 x5
                       show OKq _ _ _ [(5, x5), (4, x4), (3, x3), (0, x0)] _
                       refine rThen ?_
                       refine cLess [5, 4, 3, 0] ?_
                       refine xR hE [0, 3, 4, 5] rfl (slices_Compact_r13_ok F _ _ _ _ _) ?_
                       intro x0 x3 x4 x5
                       show OKq _ _ _ [(5, x5), (4, x4), (3, x3), (0, x0)] _
                       refine xBlockN ?_
                       exact qLess [5, 4, 3, 0] (hj5 x0 x3 x4 x5)
                     · refine rSkip ?_
                       refine xBlockN ?_
                       exact qLess [5, 4, 3, 0] (hj5 x0 x3 x4 x5)
                 · refine rExit ?_
                   refine xThenX ?_
                   refine xThenX ?_
                   refine rOut ?_
                   exact qLess [3, 0] (hj3 x0 x3)
             · refine rSkip ?_
               refine xBlockN ?_
               exact qLess [3, 0] (hj2 x0 x3)
         · refine rExit ?_
           refine xThenX ?_
           refine xThenX ?_
           refine rOut ?_
           exact qLess [0] (hj0 x0)
   · exact rFail


/-! ### haruspex/ir.Def -/

def ir_Def_env (F : Nat) : Env := envOf []

noncomputable def ir_Def_R (F : Nat) := rK Try.prog TryG (ir_Def_env F) Try.f46
noncomputable def ir_Def_D (F : Nat) := dK Try.prog TryG (ir_Def_env F) Try.f46

def ir_Def_r8 (F : Nat) (x1 : Value) (K : Value → Value → M Value) : M Value :=
  bnd (opFieldAddr 1 x1) fun v18 => bnd (opLoad v18) fun v19 => K v19 (.bool true)

theorem ir_Def_r8_ok (F : Nat) (x1 : Value) (K : Value → Value → M Value) : ir_Def_r8 F x1 K = ir_Def_R F 8 [(1, x1)] [2, 3] K := by kernel_rfl

def ir_Def_r7 (F : Nat) (K : Value → Value → M Value) : M Value :=
  K (.int .i64 (0)) (.bool false)

theorem ir_Def_r7_ok (F : Nat) (K : Value → Value → M Value) : ir_Def_r7 F K = ir_Def_R F 7 [] [2, 3] K := by kernel_rfl

def ir_Def_r6 (F : Nat) (x1 : Value) (K : Value → Value → M Value) : M Value :=
  bnd (opFieldAddr 0 x1) fun v10 => bnd (opLoad v10) fun v11 => bnd (opBin .lss v11 (.int .i64 (1))) fun v12 => onB v12 (K x1 (.bool true)) (bnd (opFieldAddr 0 x1) fun v14 => bnd (opLoad v14) fun v15 => bnd (opBin .gtr v15 (.int .i64 (15))) fun v16 => K x1 v16)

theorem ir_Def_r6_ok (F : Nat) (x1 : Value) (K : Value → Value → M Value) : ir_Def_r6 F x1 K = ir_Def_R F 6 [(1, x1)] [1, 17] K := by kernel_rfl

def ir_Def_r5 (F : Nat) (K : Value → Value → M Value) : M Value :=
  K (.int .i64 (0)) (.bool false)

theorem ir_Def_r5_ok (F : Nat) (K : Value → Value → M Value) : ir_Def_r5 F K = ir_Def_R F 5 [] [2, 3] K := by kernel_rfl

def ir_Def_k0 (F : Nat) (x1 x6 : Value) : M Value :=
  onB x6 (ir_Def_r5 F (fun x2 x3 => tupK [x2, x3])) (ir_Def_r6 F x1 (fun x1 x17 => onB x17 (ir_Def_r7 F (fun x2 x3 => tupK [x2, x3])) (ir_Def_r8 F x1 (fun x2 x3 => tupK [x2, x3]))))

def ir_Def_r4 (F : Nat) (x1 x5 : Value) (K : Value → Value → M Value) : M Value :=
  bnd (opBin .eql x5 (.int .i64 (15))) fun v9 => K x1 v9

theorem ir_Def_r4_ok (F : Nat) (x1 x5 : Value) (K : Value → Value → M Value) : ir_Def_r4 F x1 x5 K = ir_Def_R F 4 [(5, x5), (1, x1)] [1, 6] K := by kernel_rfl

def ir_Def_r3 (F : Nat) (x1 x5 : Value) (K : Value → Value → Value → M Value) : M Value :=
  bnd (opBin .eql x5 (.int .i64 (9))) fun v8 => K x1 x5 v8

theorem ir_Def_r3_ok (F : Nat) (x1 x5 : Value) (K : Value → Value → Value → M Value) : ir_Def_r3 F x1 x5 K = ir_Def_R F 3 [(5, x5), (1, x1)] [1, 5, 6] K := by kernel_rfl

def ir_Def_r2 (F : Nat) (x1 x5 : Value) (K : Value → Value → Value → M Value) : M Value :=
  bnd (opBin .eql x5 (.int .i64 (8))) fun v7 => K x1 x5 v7

theorem ir_Def_r2_ok (F : Nat) (x1 x5 : Value) (K : Value → Value → Value → M Value) : ir_Def_r2 F x1 x5 K = ir_Def_R F 2 [(5, x5), (1, x1)] [1, 5, 6] K := by kernel_rfl

def ir_Def_r1 (F : Nat) (x1 : Value) (K : Value → Value → M Value) : M Value :=
  bnd (opFieldAddr 0 x1) fun v4 => bnd (opLoad v4) fun v5 => K x1 v5

theorem ir_Def_r1_ok (F : Nat) (x1 : Value) (K : Value → Value → M Value) : ir_Def_r1 F x1 K = ir_Def_R F 1 [(1, x1)] [1, 5] K := by kernel_rfl

def ir_Def_r0 (F : Nat) (x0 : Value) (K : Value → M Value) : M Value :=
  bnd (opBoxN x0) fun v1 => K v1

theorem ir_Def_r0_ok (F : Nat) (x0 : Value) (K : Value → M Value) : ir_Def_r0 F x0 K = ir_Def_R F 0 [(0, x0)] [1] K := by kernel_rfl

def ir_Def (F : Nat) (x0 : Value) : M Value :=
  ir_Def_r0 F x0 (fun x1 => ir_Def_r1 F x1 (fun x1 x5 => ir_Def_r2 F x1 x5 (fun x1 x5 x6 => onB x6 (ir_Def_k0 F x1 x6) (ir_Def_r3 F x1 x5 (fun x1 x5 x6 => onB x6 (ir_Def_k0 F x1 x6) (ir_Def_r4 F x1 x5 (fun x1 x6 => ir_Def_k0 F x1 x6)))))))

def ir_Def_m (F : Nat) : List Value → M Value
  | [x0] => ir_Def F x0
  | _ => fail

theorem ir_Def_body : Try.f46.body = some (.seq (.region 0 (opsOf Try.f46 0) false) (.seq (.seq (.region 1 (opsOf Try.f46 1) false) (.block 0 (.seq (.seq (.region 2 (opsOf Try.f46 2) false) (.cond (.tmp 6) .skip (.seq (.region 3 (opsOf Try.f46 3) false) (.cond (.tmp 6) .skip (.region 4 (opsOf Try.f46 4) false))))) (.cond (.tmp 6) (.seq (.region 5 (opsOf Try.f46 5) false) .ret) .skip)))) (.seq (.seq (.region 6 (opsOf Try.f46 6) false) (.cond (.tmp 17) (.seq (.region 7 (opsOf Try.f46 7) false) .ret) .skip)) (.seq (.region 8 (opsOf Try.f46 8) false) .ret)))) := by kernel_rfl

theorem ir_Def_ok (F : Nat) : Sim Try.prog TryG 46 (ir_Def_m F) := by
 have hE : EnvOK Try.prog TryG (ir_Def_env F) := EnvOK.nil
 refine Sim.of_body (E := ir_Def_env F) Try.func46 ir_Def_body Try.call46 ?_ ?_
 · intro args hl; unfold ir_Def_m; split
   · exact absurd hl (Nat.not_lt.2 (Nat.le_of_ble_eq_true rfl))
   · rfl
 · intro args ρ h w z; unfold ir_Def_m; split
   · rename_i x0; show OKc _ _ [(0, x0)] _ _
     refine rSeq ?_
     refine cLess [0] ?_
     refine xR hE [1] rfl (ir_Def_r0_ok F _ _) ?_
     intro x1
     show OKq _ _ _ [(1, x1)] _
     refine rThen ?_
     refine rSeq ?_
     refine rSeq ?_
     refine cLess [1] ?_
     refine xR hE [1, 5] rfl (ir_Def_r1_ok F _ _) ?_
     intro x1 x5
     show OKq _ _ _ [(5, x5), (1, x1)] _
     refine rThen ?_
     refine rBlock ?_
     refine xSeq [1, 6] (ir_Def_k0 F ) ?_ fun hj0 => ?_
     · intro x1 x6
       show OKc _ _ [(6, x6), (1, x1)] _ _
       refine xCond rfl rfl ?_ ?_
       · refine rSeq ?_
         refine cLess [] ?_
         refine xR hE [2, 3] rfl (ir_Def_r5_ok F _) ?_
         intro x2 x3
         show OKq _ _ _ [(3, x3), (2, x2)] _
         refine rThen ?_
         refine rRet ?_
         refine xBlockR ?_
         refine xThenR ?_
         exact rDone (.inr rfl) rfl
       · refine rSkip ?_
         refine xBlockN ?_
         refine rThen ?_
         refine rSeq ?_
         refine rSeq ?_
         refine cLess [1] ?_
         refine xR hE [1, 17] rfl (ir_Def_r6_ok F _ _) ?_
         intro x1 x17
         show OKq _ _ _ [(17, x17), (1, x1)] _
         refine rThen ?_
         refine xCond rfl rfl ?_ ?_
         · refine rSeq ?_
           refine cLess [] ?_
           refine xR hE [2, 3] rfl (ir_Def_r7_ok F _) ?_
           intro x2 x3
           show OKq _ _ _ [(3, x3), (2, x2)] _
           refine rThen ?_
           refine rRet ?_
           refine xThenR ?_
           exact rDone (.inr rfl) rfl
         · refine rSkip ?_
           refine rThen ?_
           refine rSeq ?_
           refine cLess [1] ?_
           refine xR hE [2, 3] rfl (ir_Def_r8_ok F _ _) ?_
           intro x2 x3
           show OKq _ _ _ [(3, x3), (2, x2)] _
           refine rThen ?_
           refine rRet ?_
           exact rDone (.inr rfl) rfl
     · refine rSeq ?_
       refine cLess [5, 1] ?_
       refine xR hE [1, 5, 6] rfl (ir_Def_r2_ok F _ _ _) ?_
       intro x1 x5 x6
       show OKq _ _ _ [(6, x6), (5, x5), (1, x1)] _
       refine rThen ?_
       refine xCond rfl rfl ?_ ?_
       · refine rSkip ?_
         exact qLess [6, 1] (hj0 x1 x6)
       · refine rSeq ?_
         refine cLess [5, 1] ?_
         refine xR hE [1, 5, 6] rfl (ir_Def_r3_ok F _ _ _) ?_
         intro x1 x5 x6
         show OKq _ _ _ [(6, x6), (5, x5), (1, x1)] _
         refine rThen ?_
         refine xCond rfl rfl ?_ ?_
         · refine rSkip ?_
           exact qLess [6, 1] (hj0 x1 x6)
         · refine cLess [5, 1] ?_
           refine xR hE [1, 6] rfl (ir_Def_r4_ok F _ _ _) ?_
           intro x1 x6
           show OKq _ _ _ [(6, x6), (1, x1)] _
           exact qLess [6, 1] (hj0 x1 x6)
   · exact rFail


/-! ### haruspex/ir.block -/

def ir_block_env (F : Nat) : Env := envOf []

noncomputable def ir_block_R (F : Nat) := rK Try.prog TryG (ir_block_env F) Try.f52
noncomputable def ir_block_D (F : Nat) := dK Try.prog TryG (ir_block_env F) Try.f52

def ir_block_r6 (F : Nat) (x5 : Value) (K : Value → M Value) : M Value :=
  K x5

theorem ir_block_r6_ok (F : Nat) (x5 : Value) (K : Value → M Value) : ir_block_r6 F x5 K = ir_block_R F 6 [(5, x5)] [4] K := by kernel_rfl

def ir_block_r5 (F : Nat) (K : Value → M Value) : M Value :=
  K (.pointer none)

theorem ir_block_r5_ok (F : Nat) (K : Value → M Value) : ir_block_r5 F K = ir_block_R F 5 [] [4] K := by kernel_rfl

def ir_block_r4 (F : Nat) (x3 x5 : Value) (K : Value → Value → M Value) : M Value :=
  bnd (opFieldAddr 2 x3) fun v55 => bnd (opLoad v55) fun v56 => bnd (opBin .lss v56 (.int .i64 (0))) fun v57 => onB v57 (K x5 (.bool true)) (bnd (opFieldAddr 2 x3) fun v59 => bnd (opLoad v59) fun v60 => bnd (opNil x5) fun v62 => bnd (opFieldAddr 0 v62) fun v63 => bnd (opLoad v63) fun v64 => bnd (opLen v64) fun v65 => bnd (opBin .gtr v60 v65) fun v66 => K x5 v66)

theorem ir_block_r4_ok (F : Nat) (x3 x5 : Value) (K : Value → Value → M Value) : ir_block_r4 F x3 x5 K = ir_block_D F 4 [0, 1, 2, 3, 4, 5, 6, 7, 8, 9, 10, 11, 12] [(5, x5), (3, x3)] [5, 67] K := by kernel_rfl

theorem ir_block_r4_good : goodOrder (opsOf Try.f52 4) [0, 1, 2, 3, 4, 5, 6, 7, 8, 9, 10, 11, 12] = true := by kernel_rfl

def ir_block_r3 (F : Nat) (x0 x3 : Value) (K : Value → Value → M Value) : M Value :=
  bnd (opNil x0) fun v44 => bnd (opFieldAddr 4 v44) fun v45 => bnd (opLoad v45) fun v46 => bnd (opFieldAddr 0 x3) fun v47 => bnd (opLoad v47) fun v48 => bnd (opIndexAddr 3 v46 v48) fun v49 => bnd (opFieldAddr 2 v49) fun v50 => bnd (opLoad v50) fun v51 => bnd (opFieldAddr 1 x3) fun v52 => bnd (opLoad v52) fun v53 => bnd (opIndexAddr 5 v51 v53) fun v54 => K x3 v54

theorem ir_block_r3_ok (F : Nat) (x0 x3 : Value) (K : Value → Value → M Value) : ir_block_r3 F x0 x3 K = ir_block_D F 3 [0, 1, 2, 3, 4, 5, 6, 7, 8, 9, 10, 11, 12] [(3, x3), (0, x0)] [3, 5] K := by kernel_rfl

theorem ir_block_r3_good : goodOrder (opsOf Try.f52 3) [0, 1, 2, 3, 4, 5, 6, 7, 8, 9, 10, 11, 12] = true := by kernel_rfl

def ir_block_r2 (F : Nat) (K : Value → M Value) : M Value :=
  K (.pointer none)

theorem ir_block_r2_ok (F : Nat) (K : Value → M Value) : ir_block_r2 F K = ir_block_R F 2 [] [4] K := by kernel_rfl

def ir_block_r1 (F : Nat) (x0 x3 : Value) (K : Value → Value → Value → M Value) : M Value :=
  bnd (opEq eqP false x0 (.pointer none)) fun v7 => onB v7 (K x0 x3 (.bool true)) (bnd (opFieldAddr 0 x3) fun v9 => bnd (opLoad v9) fun v10 => bnd (opBin .lss v10 (.int .i64 (0))) fun v11 => onB v11 (K x0 x3 (.bool true)) (bnd (opFieldAddr 0 x3) fun v14 => bnd (opLoad v14) fun v15 => bnd (opNil x0) fun v17 => bnd (opFieldAddr 4 v17) fun v18 => bnd (opLoad v18) fun v19 => bnd (opLen v19) fun v20 => bnd (opBin .geq v15 v20) fun v21 => onB v21 (K x0 x3 (.bool true)) (bnd (opFieldAddr 1 x3) fun v24 => bnd (opLoad v24) fun v25 => bnd (opBin .lss v25 (.int .i64 (0))) fun v26 => onB v26 (K x0 x3 (.bool true)) (bnd (opFieldAddr 1 x3) fun v29 => bnd (opLoad v29) fun v30 => bnd (opNil x0) fun v32 => bnd (opFieldAddr 4 v32) fun v33 => bnd (opLoad v33) fun v34 => bnd (opFieldAddr 0 x3) fun v35 => bnd (opLoad v35) fun v36 => bnd (opIndexAddr 3 v34 v36) fun v37 => bnd (opFieldAddr 2 v37) fun v38 => bnd (opLoad v38) fun v39 => bnd (opLen v39) fun v40 => bnd (opBin .geq v30 v40) fun v41 => K x0 x3 v41))))

theorem ir_block_r1_ok (F : Nat) (x0 x3 : Value) (K : Value → Value → Value → M Value) : ir_block_r1 F x0 x3 K = ir_block_D F 1 [0, 1, 2, 3, 4, 5, 6, 7, 8, 9, 10, 11, 12, 13, 14, 15, 16, 17, 18, 19, 20, 21, 22, 23, 24, 25, 26, 27, 28, 29, 30, 31, 32, 33, 34, 35, 36] [(3, x3), (0, x0)] [0, 3, 42] K := by kernel_rfl

theorem ir_block_r1_good : goodOrder (opsOf Try.f52 1) [0, 1, 2, 3, 4, 5, 6, 7, 8, 9, 10, 11, 12, 13, 14, 15, 16, 17, 18, 19, 20, 21, 22, 23, 24, 25, 26, 27, 28, 29, 30, 31, 32, 33, 34, 35, 36] = true := by kernel_rfl

def ir_block_r0 (F : Nat) (x0 x1 : Value) (K : Value → Value → M Value) : M Value :=
  bnd (opBoxN x1) fun v3 => K x0 v3

theorem ir_block_r0_ok (F : Nat) (x0 x1 : Value) (K : Value → Value → M Value) : ir_block_r0 F x0 x1 K = ir_block_R F 0 [(1, x1), (0, x0)] [0, 3] K := by kernel_rfl

def ir_block (F : Nat) (x0 x1 : Value) : M Value :=
  ir_block_r0 F x0 x1 (fun x0 x3 => ir_block_r1 F x0 x3 (fun x0 x3 x42 => onB x42 (ir_block_r2 F (fun x4 => ret x4)) (ir_block_r3 F x0 x3 (fun x3 x5 => ir_block_r4 F x3 x5 (fun x5 x67 => onB x67 (ir_block_r5 F (fun x4 => ret x4)) (ir_block_r6 F x5 (fun x4 => ret x4)))))))

def ir_block_m (F : Nat) : List Value → M Value
  | [x0, x1] => ir_block F x0 x1
  | _ => fail

theorem ir_block_body : Try.f52.body = some (.seq (.region 0 (opsOf Try.f52 0) false) (.seq (.seq (.region 1 (opsOf Try.f52 1) true) (.cond (.tmp 42) (.seq (.region 2 (opsOf Try.f52 2) false) .ret) .skip)) (.seq (.region 3 (opsOf Try.f52 3) true) (.seq (.seq (.region 4 (opsOf Try.f52 4) true) (.cond (.tmp 67) (.seq (.region 5 (opsOf Try.f52 5) false) .ret) .skip)) (.seq (.region 6 (opsOf Try.f52 6) false) .ret))))) := by kernel_rfl

theorem ir_block_ok (F : Nat) : Sim Try.prog TryG 52 (ir_block_m F) := by
 have hE : EnvOK Try.prog TryG (ir_block_env F) := EnvOK.nil
 refine Sim.of_body (E := ir_block_env F) Try.func52 ir_block_body Try.call52 ?_ ?_
 · intro args hl; unfold ir_block_m; split
   · exact absurd hl (Nat.not_lt.2 (Nat.le_of_ble_eq_true rfl))
   · rfl
 · intro args ρ h w z; unfold ir_block_m; split
   · rename_i x0 x1; show OKc _ _ [(0, x0), (1, x1)] _ _
     refine rSeq ?_
     refine cLess [1, 0] ?_
     refine xR hE [0, 3] rfl (ir_block_r0_ok F _ _ _) ?_
     intro x0 x3
     show OKq _ _ _ [(3, x3), (0, x0)] _
     refine rThen ?_
     refine rSeq ?_
     refine rSeq ?_
     refine cLess [3, 0] ?_
     refine xD Trymix hE [0, 3, 42] rfl ir_block_r1_good (ir_block_r1_ok F _ _ _) ?_
     intro x0 x3 x42
     show OKq _ _ _ [(42, x42), (3, x3), (0, x0)] _
     refine rThen ?_
     refine xCond rfl rfl ?_ ?_
     · refine rSeq ?_
       refine cLess [] ?_
       refine xR hE [4] rfl (ir_block_r2_ok F _) ?_
       intro x4
       show OKq _ _ _ [(4, x4)] _
       refine rThen ?_
       refine rRet ?_
       refine xThenR ?_
       exact rDone (.inr rfl) rfl
     · refine rSkip ?_
       refine rThen ?_
       refine rSeq ?_
       refine cLess [3, 0] ?_
       refine xD Trymix hE [3, 5] rfl ir_block_r3_good (ir_block_r3_ok F _ _ _) ?_
       intro x3 x5
       show OKq _ _ _ [(5, x5), (3, x3)] _
       refine rThen ?_
       refine rSeq ?_
       refine rSeq ?_
       refine cLess [5, 3] ?_
       refine xD Trymix hE [5, 67] rfl ir_block_r4_good (ir_block_r4_ok F _ _ _) ?_
       intro x5 x67
       show OKq _ _ _ [(67, x67), (5, x5)] _
       refine rThen ?_
       refine xCond rfl rfl ?_ ?_
       · refine rSeq ?_
         refine cLess [] ?_
         refine xR hE [4] rfl (ir_block_r5_ok F _) ?_
         intro x4
         show OKq _ _ _ [(4, x4)] _
         refine rThen ?_
         refine rRet ?_
         refine xThenR ?_
         exact rDone (.inr rfl) rfl
       · refine rSkip ?_
         refine rThen ?_
         refine rSeq ?_
         refine cLess [5] ?_
         refine xR hE [4] rfl (ir_block_r6_ok F _ _) ?_
         intro x4
         show OKq _ _ _ [(4, x4)] _
         refine rThen ?_
         refine rRet ?_
         exact rDone (.inr rfl) rfl
   · exact rFail


/-! ### haruspex/ir.Outs -/

def ir_Outs_env (F : Nat) : Env := envOf []

noncomputable def ir_Outs_R (F : Nat) := rK Try.prog TryG (ir_Outs_env F) Try.f65
noncomputable def ir_Outs_D (F : Nat) := dK Try.prog TryG (ir_Outs_env F) Try.f65

def ir_Outs_r6 (F : Nat) (K : Value → M Value) : M Value :=
  K (.slice none 0 0)

theorem ir_Outs_r6_ok (F : Nat) (K : Value → M Value) : ir_Outs_r6 F K = ir_Outs_R F 6 [] [2] K := by kernel_rfl

def ir_Outs_r3 (F : Nat) (x0 : Value) (K : Value → M Value) : M Value :=
  bnd (opNil x0) fun v26 => bnd (opFieldAddr 3 v26) fun v27 => bnd (opLoad v27) fun v28 => bnd (opBuildSlice 1 (rep 1 [(.int .i64 (0))]) [(0, 1, false, v28)]) fun v29 => K v29

theorem ir_Outs_r3_ok (F : Nat) (x0 : Value) (K : Value → M Value) : ir_Outs_r3 F x0 K = ir_Outs_R F 3 [(0, x0)] [2] K := by kernel_rfl

def ir_Outs_r5 (F : Nat) (x0 : Value) (K : Value → M Value) : M Value :=
  bnd (opNil x0) fun v37 => bnd (opFieldAddr 3 v37) fun v38 => bnd (opLoad v38) fun v39 => bnd (opNil x0) fun v41 => bnd (opFieldAddr 4 v41) fun v42 => bnd (opLoad v42) fun v43 => bnd (opBuildSlice 2 (rep 2 [(.int .i64 (0))]) [(0, 1, false, v39), (1, 1, false, v43)]) fun v44 => K v44

theorem ir_Outs_r5_ok (F : Nat) (x0 : Value) (K : Value → M Value) : ir_Outs_r5 F x0 K = ir_Outs_D F 5 [0, 1, 2, 3, 4, 5, 6, 7, 8, 9] [(0, x0)] [2] K := by kernel_rfl

theorem ir_Outs_r5_good : goodOrder (opsOf Try.f65 5) [0, 1, 2, 3, 4, 5, 6, 7, 8, 9] = true := by kernel_rfl

def ir_Outs_r4 (F : Nat) (x0 : Value) (K : Value → Value → M Value) : M Value :=
  bnd (opNil x0) fun v32 => bnd (opFieldAddr 1 v32) fun v33 => bnd (opLoad v33) fun v34 => bnd (opBin .eql v34 (.int .i64 (2))) fun v35 => K x0 v35

theorem ir_Outs_r4_ok (F : Nat) (x0 : Value) (K : Value → Value → M Value) : ir_Outs_r4 F x0 K = ir_Outs_R F 4 [(0, x0)] [0, 30] K := by kernel_rfl

def ir_Outs_k0 (F : Nat) (x0 x3 : Value) : M Value :=
  onB x3 (ir_Outs_r3 F x0 (fun x2 => ret x2)) (ir_Outs_r4 F x0 (fun x0 x30 => onB x30 (ir_Outs_r5 F x0 (fun x2 => ret x2)) (ir_Outs_r6 F (fun x2 => ret x2))))

def ir_Outs_r2 (F : Nat) (x0 : Value) (K : Value → Value → M Value) : M Value :=
  bnd (opNil x0) fun v10 => bnd (opFieldAddr 1 v10) fun v11 => bnd (opLoad v11) fun v12 => bnd (opBin .eql v12 (.int .i64 (2))) fun v13 => onB v13 (bnd (opNil x0) fun v16 => bnd (opFieldAddr 3 v16) fun v17 => bnd (opLoad v17) fun v18 => bnd (opNil x0) fun v20 => bnd (opFieldAddr 4 v20) fun v21 => bnd (opLoad v21) fun v22 => bnd (opBin .eql v18 v22) fun v23 => K x0 v23) (K x0 (.bool false))

theorem ir_Outs_r2_ok (F : Nat) (x0 : Value) (K : Value → Value → M Value) : ir_Outs_r2 F x0 K = ir_Outs_D F 2 [0, 1, 2, 3, 4, 5, 6, 7, 8, 9, 10, 11, 12, 13, 14, 15, 16] [(0, x0)] [0, 3] K := by kernel_rfl

theorem ir_Outs_r2_good : goodOrder (opsOf Try.f65 2) [0, 1, 2, 3, 4, 5, 6, 7, 8, 9, 10, 11, 12, 13, 14, 15, 16] = true := by kernel_rfl

def ir_Outs_r1 (F : Nat) (x0 : Value) (K : Value → Value → M Value) : M Value :=
  bnd (opNil x0) fun v5 => bnd (opFieldAddr 1 v5) fun v6 => bnd (opLoad v6) fun v7 => bnd (opBin .eql v7 (.int .i64 (1))) fun v8 => K x0 v8

theorem ir_Outs_r1_ok (F : Nat) (x0 : Value) (K : Value → Value → M Value) : ir_Outs_r1 F x0 K = ir_Outs_R F 1 [(0, x0)] [0, 3] K := by kernel_rfl

def ir_Outs_r0 (F : Nat) (x0 : Value) (K : Value → M Value) : M Value :=
  K x0

theorem ir_Outs_r0_ok (F : Nat) (x0 : Value) (K : Value → M Value) : ir_Outs_r0 F x0 K = ir_Outs_R F 0 [(0, x0)] [0] K := by kernel_rfl

def ir_Outs (F : Nat) (x0 : Value) : M Value :=
  ir_Outs_r0 F x0 (fun x0 => ir_Outs_r1 F x0 (fun x0 x3 => onB x3 (ir_Outs_k0 F x0 x3) (ir_Outs_r2 F x0 (fun x0 x3 => ir_Outs_k0 F x0 x3))))

def ir_Outs_m (F : Nat) : List Value → M Value
  | [x0] => ir_Outs F x0
  | _ => fail

theorem ir_Outs_body : Try.f65.body = some (.seq (.region 0 (opsOf Try.f65 0) false) (.seq (.block 0 (.seq (.seq (.region 1 (opsOf Try.f65 1) false) (.cond (.tmp 3) .skip (.region 2 (opsOf Try.f65 2) true))) (.cond (.tmp 3) (.seq (.region 3 (opsOf Try.f65 3) false) .ret) (.seq (.region 4 (opsOf Try.f65 4) false) (.cond (.tmp 30) (.seq (.region 5 (opsOf Try.f65 5) true) .ret) .skip))))) (.seq (.region 6 (opsOf Try.f65 6) false) .ret))) := by kernel_rfl

theorem ir_Outs_ok (F : Nat) : Sim Try.prog TryG 65 (ir_Outs_m F) := by
 have hE : EnvOK Try.prog TryG (ir_Outs_env F) := EnvOK.nil
 refine Sim.of_body (E := ir_Outs_env F) Try.func65 ir_Outs_body Try.call65 ?_ ?_
 · intro args hl; unfold ir_Outs_m; split
   · exact absurd hl (Nat.not_lt.2 (Nat.le_of_ble_eq_true rfl))
   · rfl
 · intro args ρ h w z; unfold ir_Outs_m; split
   · rename_i x0; show OKc _ _ [(0, x0)] _ _
     refine rSeq ?_
     refine cLess [0] ?_
     refine xR hE [0] rfl (ir_Outs_r0_ok F _ _) ?_
     intro x0
     show OKq _ _ _ [(0, x0)] _
     refine rThen ?_
     refine rSeq ?_
     refine rBlock ?_
     refine xSeq [0, 3] (ir_Outs_k0 F ) ?_ fun hj0 => ?_
     · intro x0 x3
       show OKc _ _ [(3, x3), (0, x0)] _ _
       refine xCond rfl rfl ?_ ?_
       · refine rSeq ?_
         refine cLess [0] ?_
         refine xR hE [2] rfl (ir_Outs_r3_ok F _ _) ?_
         intro x2
         show OKq _ _ _ [(2, x2)] _
         refine rThen ?_
         refine rRet ?_
         refine xBlockR ?_
         refine xThenR ?_
         exact rDone (.inr rfl) rfl
       · refine rSeq ?_
         refine cLess [0] ?_
         refine xR hE [0, 30] rfl (ir_Outs_r4_ok F _ _) ?_
         intro x0 x30
         show OKq _ _ _ [(30, x30), (0, x0)] _
         refine rThen ?_
         refine xCond rfl rfl ?_ ?_
         · refine rSeq ?_
           refine cLess [0] ?_
           refine xD Trymix hE [2] rfl ir_Outs_r5_good (ir_Outs_r5_ok F _ _) ?_
           intro x2
           show OKq _ _ _ [(2, x2)] _
           refine rThen ?_
           refine rRet ?_
           refine xBlockR ?_
           refine xThenR ?_
           exact rDone (.inr rfl) rfl
         · refine rSkip ?_
           refine xBlockN ?_
           refine rThen ?_
           refine rSeq ?_
           refine cLess [] ?_
           refine xR hE [2] rfl (ir_Outs_r6_ok F _) ?_
           intro x2
           show OKq _ _ _ [(2, x2)] _
           refine rThen ?_
           refine rRet ?_
           exact rDone (.inr rfl) rfl
     · refine rSeq ?_
       refine cLess [0] ?_
       refine xR hE [0, 3] rfl (ir_Outs_r1_ok F _ _) ?_
       intro x0 x3
       show OKq _ _ _ [(3, x3), (0, x0)] _
       refine rThen ?_
       refine xCond rfl rfl ?_ ?_
       · refine rSkip ?_
         exact qLess [3, 0] (hj0 x0 x3)
       · refine cLess [0] ?_
         refine xD Trymix hE [0, 3] rfl ir_Outs_r2_good (ir_Outs_r2_ok F _ _) ?_
         intro x0 x3
         show OKq _ _ _ [(3, x3), (0, x0)] _
         exact qLess [3, 0] (hj0 x0 x3)
   · exact rFail


/-! ### slices.heapSortOrdered[int] -/

def slices_heapSortOrdered (F : Nat) (x0 x1 x2 : Value) : M Value := fail

def slices_heapSortOrdered_m (F : Nat) : List Value → M Value
  | [x0, x1, x2] => slices_heapSortOrdered F x0 x1 x2
  | _ => fail

theorem slices_heapSortOrdered_ok (F : Nat) : Sim Try.prog TryG 72 (slices_heapSortOrdered_m F) := Sim.of_fail Try.call72 (by intro args; unfold slices_heapSortOrdered_m; split <;> rfl)


/-! ### slices.breakPatternsOrdered[int] -/

def slices_breakPatternsOrdered (F : Nat) (x0 x1 x2 : Value) : M Value := fail

def slices_breakPatternsOrdered_m (F : Nat) : List Value → M Value
  | [x0, x1, x2] => slices_breakPatternsOrdered F x0 x1 x2
  | _ => fail

theorem slices_breakPatternsOrdered_ok (F : Nat) : Sim Try.prog TryG 73 (slices_breakPatternsOrdered_m F) := Sim.of_fail Try.call73 (by intro args; unfold slices_breakPatternsOrdered_m; split <;> rfl)


/-! ### slices.choosePivotOrdered[int] -/

def slices_choosePivotOrdered (F : Nat) (x0 x1 x2 : Value) : M Value := fail

def slices_choosePivotOrdered_m (F : Nat) : List Value → M Value
  | [x0, x1, x2] => slices_choosePivotOrdered F x0 x1 x2
  | _ => fail

theorem slices_choosePivotOrdered_ok (F : Nat) : Sim Try.prog TryG 74 (slices_choosePivotOrdered_m F) := Sim.of_fail Try.call74 (by intro args; unfold slices_choosePivotOrdered_m; split <;> rfl)


/-! ### slices.reverseRangeOrdered[int] -/

def slices_reverseRangeOrdered (F : Nat) (x0 x1 x2 : Value) : M Value := fail

def slices_reverseRangeOrdered_m (F : Nat) : List Value → M Value
  | [x0, x1, x2] => slices_reverseRangeOrdered F x0 x1 x2
  | _ => fail

theorem slices_reverseRangeOrdered_ok (F : Nat) : Sim Try.prog TryG 75 (slices_reverseRangeOrdered_m F) := Sim.of_fail Try.call75 (by intro args; unfold slices_reverseRangeOrdered_m; split <;> rfl)


/-! ### slices.partialInsertionSortOrdered[int] -/

def slices_partialInsertionSortOrdered (F : Nat) (x0 x1 x2 : Value) : M Value := fail

def slices_partialInsertionSortOrdered_m (F : Nat) : List Value → M Value
  | [x0, x1, x2] => slices_partialInsertionSortOrdered F x0 x1 x2
  | _ => fail

theorem slices_partialInsertionSortOrdered_ok (F : Nat) : Sim Try.prog TryG 76 (slices_partialInsertionSortOrdered_m F) := Sim.of_fail Try.call76 (by intro args; unfold slices_partialInsertionSortOrdered_m; split <;> rfl)


/-! ### slices.partitionEqualOrdered[int] -/

def slices_partitionEqualOrdered (F : Nat) (x0 x1 x2 x3 : Value) : M Value := fail

def slices_partitionEqualOrdered_m (F : Nat) : List Value → M Value
  | [x0, x1, x2, x3] => slices_partitionEqualOrdered F x0 x1 x2 x3
  | _ => fail

theorem slices_partitionEqualOrdered_ok (F : Nat) : Sim Try.prog TryG 78 (slices_partitionEqualOrdered_m F) := Sim.of_fail Try.call78 (by intro args; unfold slices_partitionEqualOrdered_m; split <;> rfl)


/-! ### slices.partitionOrdered[int] -/

def slices_partitionOrdered (F : Nat) (x0 x1 x2 x3 : Value) : M Value := fail

def slices_partitionOrdered_m (F : Nat) : List Value → M Value
  | [x0, x1, x2, x3] => slices_partitionOrdered F x0 x1 x2 x3
  | _ => fail

theorem slices_partitionOrdered_ok (F : Nat) : Sim Try.prog TryG 79 (slices_partitionOrdered_m F) := Sim.of_fail Try.call79 (by intro args; unfold slices_partitionOrdered_m; split <;> rfl)


/-! ### math/bits.Len32 -/

def bits_Len32_env (F : Nat) : Env := envOf []

noncomputable def bits_Len32_R (F : Nat) := rK Try.prog TryG (bits_Len32_env F) Try.f80
noncomputable def bits_Len32_D (F : Nat) := dK Try.prog TryG (bits_Len32_env F) Try.f80

def bits_Len32_r7 (F : Nat) (x0 x2 : Value) (K : Value → M Value) : M Value :=
  bnd (opConv .u8 x0) fun v15 => bnd (opIndexS (.string ⟨#[0, 1, 2, 2, 3, 3, 3, 3, 4, 4, 4, 4, 4, 4, 4, 4, 5, 5, 5, 5, 5, 5, 5, 5, 5, 5, 5, 5, 5, 5, 5, 5, 6, 6, 6, 6, 6, 6, 6, 6, 6, 6, 6, 6, 6, 6, 6, 6, 6, 6, 6, 6, 6, 6, 6, 6, 6, 6, 6, 6, 6, 6, 6, 6, 7, 7, 7, 7, 7, 7, 7, 7, 7, 7, 7, 7, 7, 7, 7, 7, 7, 7, 7, 7, 7, 7, 7, 7, 7, 7, 7, 7, 7, 7, 7, 7, 7, 7, 7, 7, 7, 7, 7, 7, 7, 7, 7, 7, 7, 7, 7, 7, 7, 7, 7, 7, 7, 7, 7, 7, 7, 7, 7, 7, 7, 7, 7, 7, 8, 8, 8, 8, 8, 8, 8, 8, 8, 8, 8, 8, 8, 8, 8, 8, 8, 8, 8, 8, 8, 8, 8, 8, 8, 8, 8, 8, 8, 8, 8, 8, 8, 8, 8, 8, 8, 8, 8, 8, 8, 8, 8, 8, 8, 8, 8, 8, 8, 8, 8, 8, 8, 8, 8, 8, 8, 8, 8, 8, 8, 8, 8, 8, 8, 8, 8, 8, 8, 8, 8, 8, 8, 8, 8, 8, 8, 8, 8, 8, 8, 8, 8, 8, 8, 8, 8, 8, 8, 8, 8, 8, 8, 8, 8, 8, 8, 8, 8, 8, 8, 8, 8, 8, 8, 8, 8, 8, 8, 8, 8, 8, 8, 8, 8, 8, 8, 8, 8, 8, 8, 8, 8, 8, 8, 8, 8, 8]⟩) v15) fun v16 => bnd (opConv .i64 v16) fun v17 => bnd (opBin .add x2 v17) fun v18 => K v18

theorem bits_Len32_r7_ok (F : Nat) (x0 x2 : Value) (K : Value → M Value) : bits_Len32_r7 F x0 x2 K = bits_Len32_R F 7 [(2, x2), (0, x0)] [2] K := by kernel_rfl

def bits_Len32_k0 (F : Nat) (x0 x2 : Value) : M Value :=
  bits_Len32_r7 F x0 x2 (fun x2 => ret x2)

def bits_Len32_r6 (F : Nat) (x0 x2 : Value) (K : Value → Value → M Value) : M Value :=
  bnd (opBin .add x2 (.int .i64 (8))) fun v12 => K x0 v12

theorem bits_Len32_r6_ok (F : Nat) (x0 x2 : Value) (K : Value → Value → M Value) : bits_Len32_r6 F x0 x2 K = bits_Len32_R F 6 [(2, x2), (0, x0)] [0, 2] K := by kernel_rfl

def bits_Len32_r5 (F : Nat) (x0 x2 : Value) (K : Value → Value → M Value) : M Value :=
  bnd (opBin .shr x0 (.int .u64 (8))) fun v10 => K v10 x2

theorem bits_Len32_r5_ok (F : Nat) (x0 x2 : Value) (K : Value → Value → M Value) : bits_Len32_r5 F x0 x2 K = bits_Len32_R F 5 [(2, x2), (0, x0)] [0, 2] K := by kernel_rfl

def bits_Len32_r4 (F : Nat) (x0 x2 : Value) (K : Value → Value → Value → M Value) : M Value :=
  bnd (opBin .geq x0 (.int .u32 (256))) fun v8 => K x0 x2 v8

theorem bits_Len32_r4_ok (F : Nat) (x0 x2 : Value) (K : Value → Value → Value → M Value) : bits_Len32_r4 F x0 x2 K = bits_Len32_R F 4 [(2, x2), (0, x0)] [0, 2, 8] K := by kernel_rfl

def bits_Len32_k1 (F : Nat) (x0 x2 : Value) : M Value :=
  bits_Len32_r4 F x0 x2 (fun x0 x2 x8 => onB x8 (bits_Len32_r5 F x0 x2 (fun x0 x2 => bits_Len32_r6 F x0 x2 (fun x0 x2 => bits_Len32_k0 F x0 x2))) (bits_Len32_k0 F x0 x2))

def bits_Len32_r3 (F : Nat) (x0 : Value) (K : Value → Value → M Value) : M Value :=
  K x0 (.int .i64 (16))

theorem bits_Len32_r3_ok (F : Nat) (x0 : Value) (K : Value → Value → M Value) : bits_Len32_r3 F x0 K = bits_Len32_R F 3 [(0, x0)] [0, 2] K := by kernel_rfl

def bits_Len32_r2 (F : Nat) (x0 : Value) (K : Value → M Value) : M Value :=
  bnd (opBin .shr x0 (.int .u64 (16))) fun v6 => K v6

theorem bits_Len32_r2_ok (F : Nat) (x0 : Value) (K : Value → M Value) : bits_Len32_r2 F x0 K = bits_Len32_R F 2 [(0, x0)] [0] K := by kernel_rfl

def bits_Len32_r1 (F : Nat) (x0 x2 : Value) (K : Value → Value → Value → M Value) : M Value :=
  bnd (opBin .geq x0 (.int .u32 (65536))) fun v4 => K x0 x2 v4

theorem bits_Len32_r1_ok (F : Nat) (x0 x2 : Value) (K : Value → Value → Value → M Value) : bits_Len32_r1 F x0 x2 K = bits_Len32_R F 1 [(2, x2), (0, x0)] [0, 2, 4] K := by kernel_rfl

def bits_Len32_r0 (F : Nat) (x0 : Value) (K : Value → Value → M Value) : M Value :=
  K x0 (.int .i64 (0))

theorem bits_Len32_r0_ok (F : Nat) (x0 : Value) (K : Value → Value → M Value) : bits_Len32_r0 F x0 K = bits_Len32_R F 0 [(0, x0)] [0, 2] K := by kernel_rfl

def bits_Len32 (F : Nat) (x0 : Value) : M Value :=
  bits_Len32_r0 F x0 (fun x0 x2 => bits_Len32_r1 F x0 x2 (fun x0 x2 x4 => onB x4 (bits_Len32_r2 F x0 (fun x0 => bits_Len32_r3 F x0 (fun x0 x2 => bits_Len32_k1 F x0 x2))) (bits_Len32_k1 F x0 x2)))

def bits_Len32_m (F : Nat) : List Value → M Value
  | [x0] => bits_Len32 F x0
  | _ => fail

theorem bits_Len32_body : Try.f80.body = some (.seq (.region 0 (opsOf Try.f80 0) false) (.seq (.seq (.region 1 (opsOf Try.f80 1) false) (.cond (.tmp 4) (.seq (.region 2 (opsOf Try.f80 2) false) (.region 3 (opsOf Try.f80 3) false)) .skip)) (.seq (.seq (.region 4 (opsOf Try.f80 4) false) (.cond (.tmp 8) (.seq (.region 5 (opsOf Try.f80 5) false) (.region 6 (opsOf Try.f80 6) false)) .skip)) (.seq (.region 7 (opsOf Try.f80 7) false) .ret)))) := by kernel_rfl

theorem bits_Len32_ok (F : Nat) : Sim Try.prog TryG 80 (bits_Len32_m F) := by
 have hE : EnvOK Try.prog TryG (bits_Len32_env F) := EnvOK.nil
 refine Sim.of_body (E := bits_Len32_env F) Try.func80 bits_Len32_body Try.call80 ?_ ?_
 · intro args hl; unfold bits_Len32_m; split
   · exact absurd hl (Nat.not_lt.2 (Nat.le_of_ble_eq_true rfl))
   · rfl
 · intro args ρ h w z; unfold bits_Len32_m; split
   · rename_i x0; show OKc _ _ [(0, x0)] _ _
     refine rSeq ?_
     refine cLess [0] ?_
     refine xR hE [0, 2] rfl (bits_Len32_r0_ok F _ _) ?_
     intro x0 x2
     show OKq _ _ _ [(2, x2), (0, x0)] _
     refine rThen ?_
     refine xSeq [0, 2] (bits_Len32_k1 F ) ?_ fun hj1 => ?_
     · intro x0 x2
       show OKc _ _ [(2, x2), (0, x0)] _ _
       refine xSeq [0, 2] (bits_Len32_k0 F ) ?_ fun hj0 => ?_
       · intro x0 x2
         show OKc _ _ [(2, x2), (0, x0)] _ _
         refine rSeq ?_
         refine cLess [2, 0] ?_
         refine xR hE [2] rfl (bits_Len32_r7_ok F _ _ _) ?_
         intro x2
         show OKq _ _ _ [(2, x2)] _
         refine rThen ?_
         refine rRet ?_
         exact rDone (.inr rfl) rfl
       · refine rSeq ?_
         refine cLess [2, 0] ?_
         refine xR hE [0, 2, 8] rfl (bits_Len32_r4_ok F _ _ _) ?_
         intro x0 x2 x8
         show OKq _ _ _ [(8, x8), (2, x2), (0, x0)] _
         refine rThen ?_
         refine xCond rfl rfl ?_ ?_
         · refine rSeq ?_
           refine cLess [2, 0] ?_
           refine xR hE [0, 2] rfl (bits_Len32_r5_ok F _ _ _) ?_
           intro x0 x2
           show OKq _ _ _ [(2, x2), (0, x0)] _
           refine rThen ?_
           refine cLess [2, 0] ?_
           refine xR hE [0, 2] rfl (bits_Len32_r6_ok F _ _ _) ?_
           intro x0 x2
           show OKq _ _ _ [(2, x2), (0, x0)] _
           exact qLess [2, 0] (hj0 x0 x2)
         · refine rSkip ?_
           exact qLess [2, 0] (hj0 x0 x2)
     · refine rSeq ?_
       refine cLess [2, 0] ?_
       refine xR hE [0, 2, 4] rfl (bits_Len32_r1_ok F _ _ _) ?_
       intro x0 x2 x4
       show OKq _ _ _ [(4, x4), (2, x2), (0, x0)] _
       refine rThen ?_
       refine xCond rfl rfl ?_ ?_
       · refine rSeq ?_
         refine cLess [0] ?_
         refine xR hE [0] rfl (bits_Len32_r2_ok F _ _) ?_
         intro x0
         show OKq _ _ _ [(0, x0)] _
         refine rThen ?_
         refine cLess [0] ?_
         refine xR hE [0, 2] rfl (bits_Len32_r3_ok F _ _) ?_
         intro x0 x2
         show OKq _ _ _ [(2, x2), (0, x0)] _
         exact qLess [2, 0] (hj1 x0 x2)
       · refine rSkip ?_
         exact qLess [2, 0] (hj1 x0 x2)
   · exact rFail


/-! ### math/bits.Len64 -/

def bits_Len64_env (F : Nat) : Env := envOf []

noncomputable def bits_Len64_R (F : Nat) := rK Try.prog TryG (bits_Len64_env F) Try.f81
noncomputable def bits_Len64_D (F : Nat) := dK Try.prog TryG (bits_Len64_env F) Try.f81

def bits_Len64_r10 (F : Nat) (x0 x2 : Value) (K : Value → M Value) : M Value :=
  bnd (opConv .u8 x0) fun v21 => bnd (opIndexS (.string ⟨#[0, 1, 2, 2, 3, 3, 3, 3, 4, 4, 4, 4, 4, 4, 4, 4, 5, 5, 5, 5, 5, 5, 5, 5, 5, 5, 5, 5, 5, 5, 5, 5, 6, 6, 6, 6, 6, 6, 6, 6, 6, 6, 6, 6, 6, 6, 6, 6, 6, 6, 6, 6, 6, 6, 6, 6, 6, 6, 6, 6, 6, 6, 6, 6, 7, 7, 7, 7, 7, 7, 7, 7, 7, 7, 7, 7, 7, 7, 7, 7, 7, 7, 7, 7, 7, 7, 7, 7, 7, 7, 7, 7, 7, 7, 7, 7, 7, 7, 7, 7, 7, 7, 7, 7, 7, 7, 7, 7, 7, 7, 7, 7, 7, 7, 7, 7, 7, 7, 7, 7, 7, 7, 7, 7, 7, 7, 7, 7, 8, 8, 8, 8, 8, 8, 8, 8, 8, 8, 8, 8, 8, 8, 8, 8, 8, 8, 8, 8, 8, 8, 8, 8, 8, 8, 8, 8, 8, 8, 8, 8, 8, 8, 8, 8, 8, 8, 8, 8, 8, 8, 8, 8, 8, 8, 8, 8, 8, 8, 8, 8, 8, 8, 8, 8, 8, 8, 8, 8, 8, 8, 8, 8, 8, 8, 8, 8, 8, 8, 8, 8, 8, 8, 8, 8, 8, 8, 8, 8, 8, 8, 8, 8, 8, 8, 8, 8, 8, 8, 8, 8, 8, 8, 8, 8, 8, 8, 8, 8, 8, 8, 8, 8, 8, 8, 8, 8, 8, 8, 8, 8, 8, 8, 8, 8, 8, 8, 8, 8, 8, 8, 8, 8, 8, 8, 8, 8]⟩) v21) fun v22 => bnd (opConv .i64 v22) fun v23 => bnd (opBin .add x2 v23) fun v24 => K v24

theorem bits_Len64_r10_ok (F : Nat) (x0 x2 : Value) (K : Value → M Value) : bits_Len64_r10 F x0 x2 K = bits_Len64_R F 10 [(2, x2), (0, x0)] [2] K := by kernel_rfl

def bits_Len64_k0 (F : Nat) (x0 x2 : Value) : M Value :=
  bits_Len64_r10 F x0 x2 (fun x2 => ret x2)

def bits_Len64_r9 (F : Nat) (x0 x2 : Value) (K : Value → Value → M Value) : M Value :=
  bnd (opBin .add x2 (.int .i64 (8))) fun v18 => K x0 v18

theorem bits_Len64_r9_ok (F : Nat) (x0 x2 : Value) (K : Value → Value → M Value) : bits_Len64_r9 F x0 x2 K = bits_Len64_R F 9 [(2, x2), (0, x0)] [0, 2] K := by kernel_rfl

def bits_Len64_r8 (F : Nat) (x0 x2 : Value) (K : Value → Value → M Value) : M Value :=
  bnd (opBin .shr x0 (.int .u64 (8))) fun v16 => K v16 x2

theorem bits_Len64_r8_ok (F : Nat) (x0 x2 : Value) (K : Value → Value → M Value) : bits_Len64_r8 F x0 x2 K = bits_Len64_R F 8 [(2, x2), (0, x0)] [0, 2] K := by kernel_rfl

def bits_Len64_r7 (F : Nat) (x0 x2 : Value) (K : Value → Value → Value → M Value) : M Value :=
  bnd (opBin .geq x0 (.int .u64 (256))) fun v14 => K x0 x2 v14

theorem bits_Len64_r7_ok (F : Nat) (x0 x2 : Value) (K : Value → Value → Value → M Value) : bits_Len64_r7 F x0 x2 K = bits_Len64_R F 7 [(2, x2), (0, x0)] [0, 2, 14] K := by kernel_rfl

def bits_Len64_k1 (F : Nat) (x0 x2 : Value) : M Value :=
  bits_Len64_r7 F x0 x2 (fun x0 x2 x14 => onB x14 (bits_Len64_r8 F x0 x2 (fun x0 x2 => bits_Len64_r9 F x0 x2 (fun x0 x2 => bits_Len64_k0 F x0 x2))) (bits_Len64_k0 F x0 x2))

def bits_Len64_r6 (F : Nat) (x0 x2 : Value) (K : Value → Value → M Value) : M Value :=
  bnd (opBin .add x2 (.int .i64 (16))) fun v12 => K x0 v12

theorem bits_Len64_r6_ok (F : Nat) (x0 x2 : Value) (K : Value → Value → M Value) : bits_Len64_r6 F x0 x2 K = bits_Len64_R F 6 [(2, x2), (0, x0)] [0, 2] K := by kernel_rfl

def bits_Len64_r5 (F : Nat) (x0 x2 : Value) (K : Value → Value → M Value) : M Value :=
  bnd (opBin .shr x0 (.int .u64 (16))) fun v10 => K v10 x2

theorem bits_Len64_r5_ok (F : Nat) (x0 x2 : Value) (K : Value → Value → M Value) : bits_Len64_r5 F x0 x2 K = bits_Len64_R F 5 [(2, x2), (0, x0)] [0, 2] K := by kernel_rfl

def bits_Len64_r4 (F : Nat) (x0 x2 : Value) (K : Value → Value → Value → M Value) : M Value :=
  bnd (opBin .geq x0 (.int .u64 (65536))) fun v8 => K x0 x2 v8

theorem bits_Len64_r4_ok (F : Nat) (x0 x2 : Value) (K : Value → Value → Value → M Value) : bits_Len64_r4 F x0 x2 K = bits_Len64_R F 4 [(2, x2), (0, x0)] [0, 2, 8] K := by kernel_rfl

def bits_Len64_k2 (F : Nat) (x0 x2 : Value) : M Value :=
  bits_Len64_r4 F x0 x2 (fun x0 x2 x8 => onB x8 (bits_Len64_r5 F x0 x2 (fun x0 x2 => bits_Len64_r6 F x0 x2 (fun x0 x2 => bits_Len64_k1 F x0 x2))) (bits_Len64_k1 F x0 x2))

def bits_Len64_r3 (F : Nat) (x0 : Value) (K : Value → Value → M Value) : M Value :=
  K x0 (.int .i64 (32))

theorem bits_Len64_r3_ok (F : Nat) (x0 : Value) (K : Value → Value → M Value) : bits_Len64_r3 F x0 K = bits_Len64_R F 3 [(0, x0)] [0, 2] K := by kernel_rfl

def bits_Len64_r2 (F : Nat) (x0 : Value) (K : Value → M Value) : M Value :=
  bnd (opBin .shr x0 (.int .u64 (32))) fun v6 => K v6

theorem bits_Len64_r2_ok (F : Nat) (x0 : Value) (K : Value → M Value) : bits_Len64_r2 F x0 K = bits_Len64_R F 2 [(0, x0)] [0] K := by kernel_rfl

def bits_Len64_r1 (F : Nat) (x0 x2 : Value) (K : Value → Value → Value → M Value) : M Value :=
  bnd (opBin .geq x0 (.int .u64 (4294967296))) fun v4 => K x0 x2 v4

theorem bits_Len64_r1_ok (F : Nat) (x0 x2 : Value) (K : Value → Value → Value → M Value) : bits_Len64_r1 F x0 x2 K = bits_Len64_R F 1 [(2, x2), (0, x0)] [0, 2, 4] K := by kernel_rfl

def bits_Len64_r0 (F : Nat) (x0 : Value) (K : Value → Value → M Value) : M Value :=
  K x0 (.int .i64 (0))

theorem bits_Len64_r0_ok (F : Nat) (x0 : Value) (K : Value → Value → M Value) : bits_Len64_r0 F x0 K = bits_Len64_R F 0 [(0, x0)] [0, 2] K := by kernel_rfl

def bits_Len64 (F : Nat) (x0 : Value) : M Value :=
  bits_Len64_r0 F x0 (fun x0 x2 => bits_Len64_r1 F x0 x2 (fun x0 x2 x4 => onB x4 (bits_Len64_r2 F x0 (fun x0 => bits_Len64_r3 F x0 (fun x0 x2 => bits_Len64_k2 F x0 x2))) (bits_Len64_k2 F x0 x2)))

def bits_Len64_m (F : Nat) : List Value → M Value
  | [x0] => bits_Len64 F x0
  | _ => fail

theorem bits_Len64_body : Try.f81.body = some (.seq (.region 0 (opsOf Try.f81 0) false) (.seq (.seq (.region 1 (opsOf Try.f81 1) false) (.cond (.tmp 4) (.seq (.region 2 (opsOf Try.f81 2) false) (.region 3 (opsOf Try.f81 3) false)) .skip)) (.seq (.seq (.region 4 (opsOf Try.f81 4) false) (.cond (.tmp 8) (.seq (.region 5 (opsOf Try.f81 5) false) (.region 6 (opsOf Try.f81 6) false)) .skip)) (.seq (.seq (.region 7 (opsOf Try.f81 7) false) (.cond (.tmp 14) (.seq (.region 8 (opsOf Try.f81 8) false) (.region 9 (opsOf Try.f81 9) false)) .skip)) (.seq (.region 10 (opsOf Try.f81 10) false) .ret))))) := by kernel_rfl

theorem bits_Len64_ok (F : Nat) : Sim Try.prog TryG 81 (bits_Len64_m F) := by
 have hE : EnvOK Try.prog TryG (bits_Len64_env F) := EnvOK.nil
 refine Sim.of_body (E := bits_Len64_env F) Try.func81 bits_Len64_body Try.call81 ?_ ?_
 · intro args hl; unfold bits_Len64_m; split
   · exact absurd hl (Nat.not_lt.2 (Nat.le_of_ble_eq_true rfl))
   · rfl
 · intro args ρ h w z; unfold bits_Len64_m; split
   · rename_i x0; show OKc _ _ [(0, x0)] _ _
     refine rSeq ?_
     refine cLess [0] ?_
     refine xR hE [0, 2] rfl (bits_Len64_r0_ok F _ _) ?_
     intro x0 x2
     show OKq _ _ _ [(2, x2), (0, x0)] _
     refine rThen ?_
     refine xSeq [0, 2] (bits_Len64_k2 F ) ?_ fun hj2 => ?_
     · intro x0 x2
       show OKc _ _ [(2, x2), (0, x0)] _ _
       refine xSeq [0, 2] (bits_Len64_k1 F ) ?_ fun hj1 => ?_
       · intro x0 x2
         show OKc _ _ [(2, x2), (0, x0)] _ _
         refine xSeq [0, 2] (bits_Len64_k0 F ) ?_ fun hj0 => ?_
         · intro x0 x2
           show OKc _ _ [(2, x2), (0, x0)] _ _
           refine rSeq ?_
           refine cLess [2, 0] ?_
           refine xR hE [2] rfl (bits_Len64_r10_ok F _ _ _) ?_
           intro x2
           show OKq _ _ _ [(2, x2)] _
           refine rThen ?_
           refine rRet ?_
           exact rDone (.inr rfl) rfl
         · refine rSeq ?_
           refine cLess [2, 0] ?_
           refine xR hE [0, 2, 14] rfl (bits_Len64_r7_ok F _ _ _) ?_
           intro x0 x2 x14
           show OKq _ _ _ [(14, x14), (2, x2), (0, x0)] _
           refine rThen ?_
           refine xCond rfl rfl ?_ ?_
           · refine rSeq ?_
             refine cLess [2, 0] ?_
             refine xR hE [0, 2] rfl (bits_Len64_r8_ok F _ _ _) ?_
             intro x0 x2
             show OKq _ _ _ [(2, x2), (0, x0)] _
             refine rThen ?_
             refine cLess [2, 0] ?_
             refine xR hE [0, 2] rfl (bits_Len64_r9_ok F _ _ _) ?_
             intro x0 x2
             show OKq _ _ _ [(2, x2), (0, x0)] _
             exact qLess [2, 0] (hj0 x0 x2)
           · refine rSkip ?_
             exact qLess [2, 0] (hj0 x0 x2)
       · refine rSeq ?_
         refine cLess [2, 0] ?_
         refine xR hE [0, 2, 8] rfl (bits_Len64_r4_ok F _ _ _) ?_
         intro x0 x2 x8
         show OKq _ _ _ [(8, x8), (2, x2), (0, x0)] _
         refine rThen ?_
         refine xCond rfl rfl ?_ ?_
         · refine rSeq ?_
           refine cLess [2, 0] ?_
           refine xR hE [0, 2] rfl (bits_Len64_r5_ok F _ _ _) ?_
           intro x0 x2
           show OKq _ _ _ [(2, x2), (0, x0)] _
           refine rThen ?_
           refine cLess [2, 0] ?_
           refine xR hE [0, 2] rfl (bits_Len64_r6_ok F _ _ _) ?_
           intro x0 x2
           show OKq _ _ _ [(2, x2), (0, x0)] _
           exact qLess [2, 0] (hj1 x0 x2)
         · refine rSkip ?_
           exact qLess [2, 0] (hj1 x0 x2)
     · refine rSeq ?_
       refine cLess [2, 0] ?_
       refine xR hE [0, 2, 4] rfl (bits_Len64_r1_ok F _ _ _) ?_
       intro x0 x2 x4
       show OKq _ _ _ [(4, x4), (2, x2), (0, x0)] _
       refine rThen ?_
       refine xCond rfl rfl ?_ ?_
       · refine rSeq ?_
         refine cLess [0] ?_
         refine xR hE [0] rfl (bits_Len64_r2_ok F _ _) ?_
         intro x0
         show OKq _ _ _ [(0, x0)] _
         refine rThen ?_
         refine cLess [0] ?_
         refine xR hE [0, 2] rfl (bits_Len64_r3_ok F _ _) ?_
         intro x0 x2
         show OKq _ _ _ [(2, x2), (0, x0)] _
         exact qLess [2, 0] (hj2 x0 x2)
       · refine rSkip ?_
         exact qLess [2, 0] (hj2 x0 x2)
   · exact rFail


/-! ### cmp.isNaN[int] -/

def cmp_isNaN_env (F : Nat) : Env := envOf []

noncomputable def cmp_isNaN_R (F : Nat) := rK Try.prog TryG (cmp_isNaN_env F) Try.f90
noncomputable def cmp_isNaN_D (F : Nat) := dK Try.prog TryG (cmp_isNaN_env F) Try.f90

def cmp_isNaN_r1 (F : Nat) (x0 : Value) (K : Value → M Value) : M Value :=
  bnd (opBin .neq x0 x0) fun v5 => K v5

theorem cmp_isNaN_r1_ok (F : Nat) (x0 : Value) (K : Value → M Value) : cmp_isNaN_r1 F x0 K = cmp_isNaN_R F 1 [(0, x0)] [2] K := by kernel_rfl

def cmp_isNaN_r0 (F : Nat) (x0 : Value) (K : Value → M Value) : M Value :=
  K x0

theorem cmp_isNaN_r0_ok (F : Nat) (x0 : Value) (K : Value → M Value) : cmp_isNaN_r0 F x0 K = cmp_isNaN_R F 0 [(0, x0)] [0] K := by kernel_rfl

def cmp_isNaN (F : Nat) (x0 : Value) : M Value :=
  cmp_isNaN_r0 F x0 (fun x0 => cmp_isNaN_r1 F x0 (fun x2 => ret x2))

def cmp_isNaN_m (F : Nat) : List Value → M Value
  | [x0] => cmp_isNaN F x0
  | _ => fail

theorem cmp_isNaN_body : Try.f90.body = some (.seq (.region 0 (opsOf Try.f90 0) false) (.seq (.region 1 (opsOf Try.f90 1) false) .ret)) := by kernel_rfl

theorem cmp_isNaN_ok (F : Nat) : Sim Try.prog TryG 90 (cmp_isNaN_m F) := by
 have hE : EnvOK Try.prog TryG (cmp_isNaN_env F) := EnvOK.nil
 refine Sim.of_body (E := cmp_isNaN_env F) Try.func90 cmp_isNaN_body Try.call90 ?_ ?_
 · intro args hl; unfold cmp_isNaN_m; split
   · exact absurd hl (Nat.not_lt.2 (Nat.le_of_ble_eq_true rfl))
   · rfl
 · intro args ρ h w z; unfold cmp_isNaN_m; split
   · rename_i x0; show OKc _ _ [(0, x0)] _ _
     refine rSeq ?_
     refine cLess [0] ?_
     refine xR hE [0] rfl (cmp_isNaN_r0_ok F _ _) ?_
     intro x0
     show OKq _ _ _ [(0, x0)] _
     refine rThen ?_
     refine rSeq ?_
     refine cLess [0] ?_
     refine xR hE [2] rfl (cmp_isNaN_r1_ok F _ _) ?_
     intro x2
     show OKq _ _ _ [(2, x2)] _
     refine rThen ?_
     refine rRet ?_
     exact rDone (.inr rfl) rfl
   · exact rFail


/-! ### haruspex/ir.At -/

def ir_At_env (F : Nat) : Env := envOf [(27, ir_Point_m F), (52, ir_block_m F)]

noncomputable def ir_At_R (F : Nat) := rK Try.prog TryG (ir_At_env F) Try.f33
noncomputable def ir_At_D (F : Nat) := dK Try.prog TryG (ir_At_env F) Try.f33

def ir_At_r7 (F : Nat) (x4 x6 x8 : Value) (K : Value → Value → M Value) : M Value :=
  bnd (opNil x8) fun v31 => bnd (opFieldAddr 0 v31) fun v32 => bnd (opLoad v32) fun v33 => bnd (opFieldAddr 2 x6) fun v34 => bnd (opLoad v34) fun v35 => bnd (opIndexAddr 6 v33 v35) fun v36 => bnd (opLoadN 6 v36) fun v37 => bnd (opStoreN 6 x4 v37) fun _ => K x4 (.bool true)

theorem ir_At_r7_ok (F : Nat) (x4 x6 x8 : Value) (K : Value → Value → M Value) : ir_At_r7 F x4 x6 x8 K = ir_At_D F 7 [0, 1, 2, 3, 4, 5, 6, 7, 8, 9] [(8, x8), (6, x6), (4, x4)] [4, 5] K := by kernel_rfl

theorem ir_At_r7_good : goodOrder (opsOf Try.f33 7) [0, 1, 2, 3, 4, 5, 6, 7, 8, 9] = true := by kernel_rfl

def ir_At_r6 (F : Nat) (x4 : Value) (K : Value → Value → M Value) : M Value :=
  bnd (opBuild [(.int .i64 (0)), (.int .i64 (0)), (.int .i64 (0)), (.int .i64 (0)), (.int .i64 (0)), (.slice none 0 0)] []) fun v29 => bnd (opStoreN 6 x4 v29) fun _ => K x4 (.bool false)

theorem ir_At_r6_ok (F : Nat) (x4 : Value) (K : Value → Value → M Value) : ir_At_r6 F x4 K = ir_At_R F 6 [(4, x4)] [4, 5] K := by kernel_rfl

def ir_At_r5 (F : Nat) (x4 x6 x8 : Value) (K : Value → Value → Value → Value → M Value) : M Value :=
  bnd (opFieldAddr 2 x6) fun v21 => bnd (opLoad v21) fun v22 => bnd (opNil x8) fun v24 => bnd (opFieldAddr 0 v24) fun v25 => bnd (opLoad v25) fun v26 => bnd (opLen v26) fun v27 => bnd (opBin .eql v22 v27) fun v28 => K x4 x6 x8 v28

theorem ir_At_r5_ok (F : Nat) (x4 x6 x8 : Value) (K : Value → Value → Value → Value → M Value) : ir_At_r5 F x4 x6 x8 K = ir_At_D F 5 [0, 1, 2, 3, 4, 5, 6, 7] [(8, x8), (6, x6), (4, x4)] [4, 6, 8, 28] K := by kernel_rfl

theorem ir_At_r5_good : goodOrder (opsOf Try.f33 5) [0, 1, 2, 3, 4, 5, 6, 7] = true := by kernel_rfl

def ir_At_r4 (F : Nat) (x0 x4 x6 : Value) (K : Value → Value → Value → M Value) : M Value :=
  bnd (opLoadN 3 x6) fun v19 => bnd (ir_block F x0 v19) fun v20 => K x4 x6 v20

theorem ir_At_r4_ok (F : Nat) (x0 x4 x6 : Value) (K : Value → Value → Value → M Value) : ir_At_r4 F x0 x4 x6 K = ir_At_R F 4 [(6, x6), (4, x4), (0, x0)] [4, 6, 8] K := by kernel_rfl

def ir_At_r3 (F : Nat) (x4 : Value) (K : Value → Value → M Value) : M Value :=
  bnd (opBuild [(.int .i64 (0)), (.int .i64 (0)), (.int .i64 (0)), (.int .i64 (0)), (.int .i64 (0)), (.slice none 0 0)] []) fun v17 => bnd (opStoreN 6 x4 v17) fun _ => K x4 (.bool false)

theorem ir_At_r3_ok (F : Nat) (x4 : Value) (K : Value → Value → M Value) : ir_At_r3 F x4 K = ir_At_R F 3 [(4, x4)] [4, 5] K := by kernel_rfl

def ir_At_r2 (F : Nat) (x0 x4 x6 x7 : Value) (K : Value → Value → Value → Value → M Value) : M Value :=
  bnd (opNot x7) fun v16 => K x0 x4 x6 v16

theorem ir_At_r2_ok (F : Nat) (x0 x4 x6 x7 : Value) (K : Value → Value → Value → Value → M Value) : ir_At_r2 F x0 x4 x6 x7 K = ir_At_R F 2 [(7, x7), (6, x6), (4, x4), (0, x0)] [0, 4, 6, 16] K := by kernel_rfl

def ir_At_r1 (F : Nat) (x0 x1 x4 : Value) (K : Value → Value → Value → Value → M Value) : M Value :=
  bnd (ir_Point F x0 x1) fun v12 => bnd (opExtract v12 0) fun v13 => bnd (opExtract v12 1) fun v14 => bnd (opPtr [(.int .i64 (0)), (.int .i64 (0)), (.int .i64 (0))]) fun v6 => bnd (opStoreN 3 v6 v13) fun _ => K x0 x4 v6 v14

theorem ir_At_r1_ok (F : Nat) (x0 x1 x4 : Value) (K : Value → Value → Value → Value → M Value) : ir_At_r1 F x0 x1 x4 K = ir_At_R F 1 [(4, x4), (1, x1), (0, x0)] [0, 4, 6, 7] K := by kernel_rfl

def ir_At_r0 (F : Nat) (x0 x1 : Value) (K : Value → Value → Value → M Value) : M Value :=
  bnd (opPtr [(.int .i64 (0)), (.int .i64 (0)), (.int .i64 (0)), (.int .i64 (0)), (.int .i64 (0)), (.slice none 0 0)]) fun v4 => K x0 x1 v4

theorem ir_At_r0_ok (F : Nat) (x0 x1 : Value) (K : Value → Value → Value → M Value) : ir_At_r0 F x0 x1 K = ir_At_R F 0 [(1, x1), (0, x0)] [0, 1, 4] K := by kernel_rfl

def ir_At (F : Nat) (x0 x1 : Value) : M Value :=
  ir_At_r0 F x0 x1 (fun x0 x1 x4 => ir_At_r1 F x0 x1 x4 (fun x0 x4 x6 x7 => ir_At_r2 F x0 x4 x6 x7 (fun x0 x4 x6 x16 => onB x16 (ir_At_r3 F x4 (fun x4 x5 => bnd (opLoadN 6 x4) fun r0 => tupK [r0, x5])) (ir_At_r4 F x0 x4 x6 (fun x4 x6 x8 => ir_At_r5 F x4 x6 x8 (fun x4 x6 x8 x28 => onB x28 (ir_At_r6 F x4 (fun x4 x5 => bnd (opLoadN 6 x4) fun r0 => tupK [r0, x5])) (ir_At_r7 F x4 x6 x8 (fun x4 x5 => bnd (opLoadN 6 x4) fun r0 => tupK [r0, x5]))))))))

def ir_At_m (F : Nat) : List Value → M Value
  | [x0, x1] => ir_At F x0 x1
  | _ => fail

theorem ir_At_body : Try.f33.body = some (.seq (.region 0 (opsOf Try.f33 0) false) (.seq (.region 1 (opsOf Try.f33 1) false) (.seq (.seq (.region 2 (opsOf Try.f33 2) false) (.cond (.tmp 16) (.seq (.region 3 (opsOf Try.f33 3) false) .ret) .skip)) (.seq (.region 4 (opsOf Try.f33 4) false) (.seq (.seq (.region 5 (opsOf Try.f33 5) true) (.cond (.tmp 28) (.seq (.region 6 (opsOf Try.f33 6) false) .ret) .skip)) (.seq (.region 7 (opsOf Try.f33 7) true) .ret)))))) := by kernel_rfl

theorem ir_At_ok (F : Nat) : Sim Try.prog TryG 33 (ir_At_m F) := by
 have hE : EnvOK Try.prog TryG (ir_At_env F) := (EnvOK.cons (ir_Point_ok F) (EnvOK.cons (ir_block_ok F) EnvOK.nil))
 refine Sim.of_body (E := ir_At_env F) Try.func33 ir_At_body Try.call33 ?_ ?_
 · intro args hl; unfold ir_At_m; split
   · exact absurd hl (Nat.not_lt.2 (Nat.le_of_ble_eq_true rfl))
   · rfl
 · intro args ρ h w z; unfold ir_At_m; split
   · rename_i x0 x1; show OKc _ _ [(0, x0), (1, x1)] _ _
     refine rSeq ?_
     refine cLess [1, 0] ?_
     refine xR hE [0, 1, 4] rfl (ir_At_r0_ok F _ _ _) ?_
     intro x0 x1 x4
     show OKq _ _ _ [(4, x4), (1, x1), (0, x0)] _
     refine rThen ?_
     refine rSeq ?_
     refine cLess [4, 1, 0] ?_
     refine xR hE [0, 4, 6, 7] rfl (ir_At_r1_ok F _ _ _ _) ?_
     intro x0 x4 x6 x7
     show OKq _ _ _ [(7, x7), (6, x6), (4, x4), (0, x0)] _
     refine rThen ?_
     refine rSeq ?_
     refine rSeq ?_
     refine cLess [7, 6, 4, 0] ?_
     refine xR hE [0, 4, 6, 16] rfl (ir_At_r2_ok F _ _ _ _ _) ?_
     intro x0 x4 x6 x16
     show OKq _ _ _ [(16, x16), (6, x6), (4, x4), (0, x0)] _
     refine rThen ?_
     refine xCond rfl rfl ?_ ?_
     · refine rSeq ?_
       refine cLess [4] ?_
       refine xR hE [4, 5] rfl (ir_At_r3_ok F _ _) ?_
       intro x4 x5
       show OKq _ _ _ [(5, x5), (4, x4)] _
       refine rThen ?_
       refine rRet ?_
       refine xThenR ?_
       exact rDone (.inr rfl) rfl
     · refine rSkip ?_
       refine rThen ?_
       refine rSeq ?_
       refine cLess [6, 4, 0] ?_
       refine xR hE [4, 6, 8] rfl (ir_At_r4_ok F _ _ _ _) ?_
       intro x4 x6 x8
       show OKq _ _ _ [(8, x8), (6, x6), (4, x4)] _
       refine rThen ?_
       refine rSeq ?_
       refine rSeq ?_
       refine cLess [8, 6, 4] ?_
       refine xD Trymix hE [4, 6, 8, 28] rfl ir_At_r5_good (ir_At_r5_ok F _ _ _ _) ?_
       intro x4 x6 x8 x28
       show OKq _ _ _ [(28, x28), (8, x8), (6, x6), (4, x4)] _
       refine rThen ?_
       refine xCond rfl rfl ?_ ?_
       · refine rSeq ?_
         refine cLess [4] ?_
         refine xR hE [4, 5] rfl (ir_At_r6_ok F _ _) ?_
         intro x4 x5
         show OKq _ _ _ [(5, x5), (4, x4)] _
         refine rThen ?_
         refine rRet ?_
         refine xThenR ?_
         exact rDone (.inr rfl) rfl
       · refine rSkip ?_
         refine rThen ?_
         refine rSeq ?_
         refine cLess [8, 6, 4] ?_
         refine xD Trymix hE [4, 5] rfl ir_At_r7_good (ir_At_r7_ok F _ _ _ _) ?_
         intro x4 x5
         show OKq _ _ _ [(5, x5), (4, x4)] _
         refine rThen ?_
         refine rRet ?_
         exact rDone (.inr rfl) rfl
   · exact rFail


/-! ### haruspex/ir.End -/

def ir_End_env (F : Nat) : Env := envOf [(27, ir_Point_m F), (52, ir_block_m F)]

noncomputable def ir_End_R (F : Nat) := rK Try.prog TryG (ir_End_env F) Try.f35
noncomputable def ir_End_D (F : Nat) := dK Try.prog TryG (ir_End_env F) Try.f35

def ir_End_r7 (F : Nat) (x7 : Value) (K : Value → M Value) : M Value :=
  K x7

theorem ir_End_r7_ok (F : Nat) (x7 : Value) (K : Value → M Value) : ir_End_r7 F x7 K = ir_End_R F 7 [(7, x7)] [4] K := by kernel_rfl

def ir_End_r6 (F : Nat) (K : Value → M Value) : M Value :=
  K (.pointer none)

theorem ir_End_r6_ok (F : Nat) (K : Value → M Value) : ir_End_r6 F K = ir_End_R F 6 [] [4] K := by kernel_rfl

def ir_End_r5 (F : Nat) (x5 x7 : Value) (K : Value → Value → M Value) : M Value :=
  bnd (opFieldAddr 2 x5) fun v19 => bnd (opLoad v19) fun v20 => bnd (opNil x7) fun v22 => bnd (opFieldAddr 0 v22) fun v23 => bnd (opLoad v23) fun v24 => bnd (opLen v24) fun v25 => bnd (opBin .lss v20 v25) fun v26 => K x7 v26

theorem ir_End_r5_ok (F : Nat) (x5 x7 : Value) (K : Value → Value → M Value) : ir_End_r5 F x5 x7 K = ir_End_D F 5 [0, 1, 2, 3, 4, 5, 6, 7] [(7, x7), (5, x5)] [7, 26] K := by kernel_rfl

theorem ir_End_r5_good : goodOrder (opsOf Try.f35 5) [0, 1, 2, 3, 4, 5, 6, 7] = true := by kernel_rfl

def ir_End_r4 (F : Nat) (x0 x5 : Value) (K : Value → Value → M Value) : M Value :=
  bnd (opLoadN 3 x5) fun v17 => bnd (ir_block F x0 v17) fun v18 => K x5 v18

theorem ir_End_r4_ok (F : Nat) (x0 x5 : Value) (K : Value → Value → M Value) : ir_End_r4 F x0 x5 K = ir_End_R F 4 [(5, x5), (0, x0)] [5, 7] K := by kernel_rfl

def ir_End_r3 (F : Nat) (K : Value → M Value) : M Value :=
  K (.pointer none)

theorem ir_End_r3_ok (F : Nat) (K : Value → M Value) : ir_End_r3 F K = ir_End_R F 3 [] [4] K := by kernel_rfl

def ir_End_r2 (F : Nat) (x0 x5 x6 : Value) (K : Value → Value → Value → M Value) : M Value :=
  bnd (opNot x6) fun v15 => K x0 x5 v15

theorem ir_End_r2_ok (F : Nat) (x0 x5 x6 : Value) (K : Value → Value → Value → M Value) : ir_End_r2 F x0 x5 x6 K = ir_End_R F 2 [(6, x6), (5, x5), (0, x0)] [0, 5, 15] K := by kernel_rfl

def ir_End_r1 (F : Nat) (x0 x1 : Value) (K : Value → Value → Value → M Value) : M Value :=
  bnd (ir_Point F x0 x1) fun v11 => bnd (opExtract v11 0) fun v12 => bnd (opExtract v11 1) fun v13 => bnd (opPtr [(.int .i64 (0)), (.int .i64 (0)), (.int .i64 (0))]) fun v5 => bnd (opStoreN 3 v5 v12) fun _ => K x0 v5 v13

theorem ir_End_r1_ok (F : Nat) (x0 x1 : Value) (K : Value → Value → Value → M Value) : ir_End_r1 F x0 x1 K = ir_End_R F 1 [(1, x1), (0, x0)] [0, 5, 6] K := by kernel_rfl

def ir_End_r0 (F : Nat) (x0 x1 : Value) (K : Value → Value → M Value) : M Value :=
  K x0 x1

theorem ir_End_r0_ok (F : Nat) (x0 x1 : Value) (K : Value → Value → M Value) : ir_End_r0 F x0 x1 K = ir_End_R F 0 [(1, x1), (0, x0)] [0, 1] K := by kernel_rfl

def ir_End (F : Nat) (x0 x1 : Value) : M Value :=
  ir_End_r0 F x0 x1 (fun x0 x1 => ir_End_r1 F x0 x1 (fun x0 x5 x6 => ir_End_r2 F x0 x5 x6 (fun x0 x5 x15 => onB x15 (ir_End_r3 F (fun x4 => ret x4)) (ir_End_r4 F x0 x5 (fun x5 x7 => ir_End_r5 F x5 x7 (fun x7 x26 => onB x26 (ir_End_r6 F (fun x4 => ret x4)) (ir_End_r7 F x7 (fun x4 => ret x4))))))))

def ir_End_m (F : Nat) : List Value → M Value
  | [x0, x1] => ir_End F x0 x1
  | _ => fail

theorem ir_End_body : Try.f35.body = some (.seq (.region 0 (opsOf Try.f35 0) false) (.seq (.region 1 (opsOf Try.f35 1) false) (.seq (.seq (.region 2 (opsOf Try.f35 2) false) (.cond (.tmp 15) (.seq (.region 3 (opsOf Try.f35 3) false) .ret) .skip)) (.seq (.region 4 (opsOf Try.f35 4) false) (.seq (.seq (.region 5 (opsOf Try.f35 5) true) (.cond (.tmp 26) (.seq (.region 6 (opsOf Try.f35 6) false) .ret) .skip)) (.seq (.region 7 (opsOf Try.f35 7) false) .ret)))))) := by kernel_rfl

theorem ir_End_ok (F : Nat) : Sim Try.prog TryG 35 (ir_End_m F) := by
 have hE : EnvOK Try.prog TryG (ir_End_env F) := (EnvOK.cons (ir_Point_ok F) (EnvOK.cons (ir_block_ok F) EnvOK.nil))
 refine Sim.of_body (E := ir_End_env F) Try.func35 ir_End_body Try.call35 ?_ ?_
 · intro args hl; unfold ir_End_m; split
   · exact absurd hl (Nat.not_lt.2 (Nat.le_of_ble_eq_true rfl))
   · rfl
 · intro args ρ h w z; unfold ir_End_m; split
   · rename_i x0 x1; show OKc _ _ [(0, x0), (1, x1)] _ _
     refine rSeq ?_
     refine cLess [1, 0] ?_
     refine xR hE [0, 1] rfl (ir_End_r0_ok F _ _ _) ?_
     intro x0 x1
     show OKq _ _ _ [(1, x1), (0, x0)] _
     refine rThen ?_
     refine rSeq ?_
     refine cLess [1, 0] ?_
     refine xR hE [0, 5, 6] rfl (ir_End_r1_ok F _ _ _) ?_
     intro x0 x5 x6
     show OKq _ _ _ [(6, x6), (5, x5), (0, x0)] _
     refine rThen ?_
     refine rSeq ?_
     refine rSeq ?_
     refine cLess [6, 5, 0] ?_
     refine xR hE [0, 5, 15] rfl (ir_End_r2_ok F _ _ _ _) ?_
     intro x0 x5 x15
     show OKq _ _ _ [(15, x15), (5, x5), (0, x0)] _
     refine rThen ?_
     refine xCond rfl rfl ?_ ?_
     · refine rSeq ?_
       refine cLess [] ?_
       refine xR hE [4] rfl (ir_End_r3_ok F _) ?_
       intro x4
       show OKq _ _ _ [(4, x4)] _
       refine rThen ?_
       refine rRet ?_
       refine xThenR ?_
       exact rDone (.inr rfl) rfl
     · refine rSkip ?_
       refine rThen ?_
       refine rSeq ?_
       refine cLess [5, 0] ?_
       refine xR hE [5, 7] rfl (ir_End_r4_ok F _ _ _) ?_
       intro x5 x7
       show OKq _ _ _ [(7, x7), (5, x5)] _
       refine rThen ?_
       refine rSeq ?_
       refine rSeq ?_
       refine cLess [7, 5] ?_
       refine xD Trymix hE [7, 26] rfl ir_End_r5_good (ir_End_r5_ok F _ _ _) ?_
       intro x7 x26
       show OKq _ _ _ [(26, x26), (7, x7)] _
       refine rThen ?_
       refine xCond rfl rfl ?_ ?_
       · refine rSeq ?_
         refine cLess [] ?_
         refine xR hE [4] rfl (ir_End_r6_ok F _) ?_
         intro x4
         show OKq _ _ _ [(4, x4)] _
         refine rThen ?_
         refine rRet ?_
         refine xThenR ?_
         exact rDone (.inr rfl) rfl
       · refine rSkip ?_
         refine rThen ?_
         refine rSeq ?_
         refine cLess [7] ?_
         refine xR hE [4] rfl (ir_End_r7_ok F _ _) ?_
         intro x4
         show OKq _ _ _ [(4, x4)] _
         refine rThen ?_
         refine rRet ?_
         exact rDone (.inr rfl) rfl
   · exact rFail


/-! ### haruspex/ir.Number -/

def ir_Number_env (F : Nat) : Env := envOf [(52, ir_block_m F)]

noncomputable def ir_Number_R (F : Nat) := rK Try.prog TryG (ir_Number_env F) Try.f47
noncomputable def ir_Number_D (F : Nat) := dK Try.prog TryG (ir_Number_env F) Try.f47

def ir_Number_r14 (F : Nat) (x5 : Value) (K : Value → M Value) : M Value :=
  K x5

theorem ir_Number_r14_ok (F : Nat) (x5 : Value) (K : Value → M Value) : ir_Number_r14 F x5 K = ir_Number_R F 14 [(5, x5)] [4] K := by kernel_rfl

def ir_Number_k0 (F : Nat) (x5 : Value) : M Value :=
  ir_Number_r14 F x5 (fun x4 => ret x4)

def ir_Number_r13 (F : Nat) (x0 x3 x5 x16 x17 : Value) (K : Value → Value → Value → Value → Value → M Value) : M Value :=
  bnd (opBin .add x17 (.int .i64 (1))) fun v59 => K x0 x3 x5 x16 v59

theorem ir_Number_r13_ok (F : Nat) (x0 x3 x5 x16 x17 : Value) (K : Value → Value → Value → Value → Value → M Value) : ir_Number_r13 F x0 x3 x5 x16 x17 K = ir_Number_R F 13 [(17, x17), (16, x16), (5, x5), (3, x3), (0, x0)] [0, 3, 5, 16, 17] K := by kernel_rfl

def ir_Number_k2 (F : Nat) (A1 : Value → Value → Value → Value → Value → M Value) (x0 x3 x5 x16 x17 : Value) : M Value :=
  ir_Number_r13 F x0 x3 x5 x16 x17 (fun x0 x3 x5 x16 x17 => A1 x0 x3 x5 x16 x17)

def ir_Number_r12 (F : Nat) (x0 x3 x5 x6 x16 x17 x28 x29 : Value) (K : Value → Value → Value → Value → Value → Value → Value → Value → M Value) : M Value :=
  bnd (opBin .add x29 (.int .i64 (1))) fun v58 => K x0 x3 x5 x6 x16 x17 x28 v58

theorem ir_Number_r12_ok (F : Nat) (x0 x3 x5 x6 x16 x17 x28 x29 : Value) (K : Value → Value → Value → Value → Value → Value → Value → Value → M Value) : ir_Number_r12 F x0 x3 x5 x6 x16 x17 x28 x29 K = ir_Number_R F 12 [(29, x29), (28, x28), (17, x17), (16, x16), (6, x6), (5, x5), (3, x3), (0, x0)] [0, 3, 5, 6, 16, 17, 28, 29] K := by kernel_rfl

def ir_Number_k4 (F : Nat) (A3 : Value → Value → Value → Value → Value → Value → Value → Value → M Value) (x0 x3 x5 x6 x16 x17 x28 x29 : Value) : M Value :=
  ir_Number_r12 F x0 x3 x5 x6 x16 x17 x28 x29 (fun x0 x3 x5 x6 x16 x17 x28 x29 => A3 x0 x3 x5 x6 x16 x17 x28 x29)

def ir_Number_r11 (F : Nat) (x0 x3 x5 x6 x7 x16 x17 x28 x29 : Value) (K : Value → Value → Value → Value → Value → Value → Value → Value → M Value) : M Value :=
  bnd (opNil x0) fun v44 => bnd (opFieldAddr 4 v44) fun v45 => bnd (opLoad v45) fun v46 => bnd (opIndexAddr 3 v46 x6) fun v48 => bnd (opFieldAddr 2 v48) fun v49 => bnd (opLoad v49) fun v50 => bnd (opIndexAddr 5 v50 x7) fun v52 => bnd (opFieldAddr 0 v52) fun v53 => bnd (opLoad v53) fun v54 => bnd (opLen v54) fun v55 => bnd (opBin .add v55 (.int .i64 (1))) fun v56 => bnd (opBin .add x5 v56) fun v57 => K x0 x3 v57 x6 x16 x17 x28 x29

theorem ir_Number_r11_ok (F : Nat) (x0 x3 x5 x6 x7 x16 x17 x28 x29 : Value) (K : Value → Value → Value → Value → Value → Value → Value → Value → M Value) : ir_Number_r11 F x0 x3 x5 x6 x7 x16 x17 x28 x29 K = ir_Number_R F 11 [(29, x29), (28, x28), (17, x17), (16, x16), (7, x7), (6, x6), (5, x5), (3, x3), (0, x0)] [0, 3, 5, 6, 16, 17, 28, 29] K := by kernel_rfl

def ir_Number_r10 (F : Nat) (x0 x3 x5 x6 x7 x16 x17 x28 x29 : Value) (K : Value → Value → Value → Value → Value → Value → Value → Value → Value → Value → M Value) : M Value :=
  bnd (opFieldAddr 0 x3) fun v33 => bnd (opLoad v33) fun v34 => bnd (opBin .lss x6 v34) fun v35 => onB v35 (K x0 x3 x5 x6 x7 x16 x17 x28 x29 (.bool true)) (bnd (opFieldAddr 1 x3) fun v38 => bnd (opLoad v38) fun v39 => bnd (opBin .lss x7 v39) fun v40 => K x0 x3 x5 x6 x7 x16 x17 x28 x29 v40)

theorem ir_Number_r10_ok (F : Nat) (x0 x3 x5 x6 x7 x16 x17 x28 x29 : Value) (K : Value → Value → Value → Value → Value → Value → Value → Value → Value → Value → M Value) : ir_Number_r10 F x0 x3 x5 x6 x7 x16 x17 x28 x29 K = ir_Number_R F 10 [(29, x29), (28, x28), (17, x17), (16, x16), (7, x7), (6, x6), (5, x5), (3, x3), (0, x0)] [0, 3, 5, 6, 7, 16, 17, 28, 29, 41] K := by kernel_rfl

def ir_Number_r9 (F : Nat) (x0 x3 x5 x6 x16 x17 x28 x29 : Value) (K : Value → Value → Value → Value → Value → Value → Value → Value → Value → M Value) : M Value :=
  K x0 x3 x5 x6 x29 x16 x17 x28 x29

theorem ir_Number_r9_ok (F : Nat) (x0 x3 x5 x6 x16 x17 x28 x29 : Value) (K : Value → Value → Value → Value → Value → Value → Value → Value → Value → M Value) : ir_Number_r9 F x0 x3 x5 x6 x16 x17 x28 x29 K = ir_Number_R F 9 [(29, x29), (28, x28), (17, x17), (16, x16), (6, x6), (5, x5), (3, x3), (0, x0)] [0, 3, 5, 6, 7, 16, 17, 28, 29] K := by kernel_rfl

def ir_Number_r8 (F : Nat) (x0 x3 x5 x6 x16 x17 x28 x29 : Value) (K : Value → Value → Value → Value → Value → Value → Value → Value → Value → M Value) : M Value :=
  bnd (opBin .lss x29 x28) fun v30 => K x0 x3 x5 x6 x16 x17 x28 x29 v30

theorem ir_Number_r8_ok (F : Nat) (x0 x3 x5 x6 x16 x17 x28 x29 : Value) (K : Value → Value → Value → Value → Value → Value → Value → Value → Value → M Value) : ir_Number_r8 F x0 x3 x5 x6 x16 x17 x28 x29 K = ir_Number_R F 8 [(29, x29), (28, x28), (17, x17), (16, x16), (6, x6), (5, x5), (3, x3), (0, x0)] [0, 3, 5, 6, 16, 17, 28, 29, 30] K := by kernel_rfl

def ir_Number_b3 (F : Nat) (E3_2 : Value → Value → Value → Value → Value → M Value) (A3 : Value → Value → Value → Value → Value → Value → Value → Value → M Value) (x0 x3 x5 x6 x16 x17 x28 x29 : Value) : M Value :=
  ir_Number_r8 F x0 x3 x5 x6 x16 x17 x28 x29 (fun x0 x3 x5 x6 x16 x17 x28 x29 x30 => onB x30 (ir_Number_r9 F x0 x3 x5 x6 x16 x17 x28 x29 (fun x0 x3 x5 x6 x7 x16 x17 x28 x29 => ir_Number_r10 F x0 x3 x5 x6 x7 x16 x17 x28 x29 (fun x0 x3 x5 x6 x7 x16 x17 x28 x29 x41 => onB x41 (ir_Number_r11 F x0 x3 x5 x6 x7 x16 x17 x28 x29 (fun x0 x3 x5 x6 x16 x17 x28 x29 => ir_Number_k4 F A3 x0 x3 x5 x6 x16 x17 x28 x29)) (ir_Number_k4 F A3 x0 x3 x5 x6 x16 x17 x28 x29)))) (E3_2 x0 x3 x5 x16 x17))

def ir_Number_l3 (F : Nat) (E3_2 : Value → Value → Value → Value → Value → M Value) : Nat → Value → Value → Value → Value → Value → Value → Value → Value → M Value
  | 0, _, _, _, _, _, _, _, _ => fail
  | k3 + 1, x0, x3, x5, x6, x16, x17, x28, x29 => ir_Number_b3 F E3_2 (ir_Number_l3 F E3_2 k3) x0 x3 x5 x6 x16 x17 x28 x29

theorem ir_Number_l3_s (F : Nat) (E3_2 : Value → Value → Value → Value → Value → M Value) (k3 : Nat) (x0 x3 x5 x6 x16 x17 x28 x29 : Value) : ir_Number_l3 F E3_2 (k3 + 1) x0 x3 x5 x6 x16 x17 x28 x29 = ir_Number_b3 F E3_2 (ir_Number_l3 F E3_2 k3) x0 x3 x5 x6 x16 x17 x28 x29 := rfl

def ir_Number_r7 (F : Nat) (x0 x3 x5 x6 x16 x17 : Value) (K : Value → Value → Value → Value → Value → Value → Value → Value → M Value) : M Value :=
  bnd (opNil x0) fun v21 => bnd (opFieldAddr 4 v21) fun v22 => bnd (opLoad v22) fun v23 => bnd (opIndexAddr 3 v23 x6) fun v25 => bnd (opFieldAddr 2 v25) fun v26 => bnd (opLoad v26) fun v27 => bnd (opLen v27) fun v28 => K x0 x3 x5 x6 x16 x17 v28 (.int .i64 (0))

theorem ir_Number_r7_ok (F : Nat) (x0 x3 x5 x6 x16 x17 : Value) (K : Value → Value → Value → Value → Value → Value → Value → Value → M Value) : ir_Number_r7 F x0 x3 x5 x6 x16 x17 K = ir_Number_R F 7 [(17, x17), (16, x16), (6, x6), (5, x5), (3, x3), (0, x0)] [0, 3, 5, 6, 16, 17, 28, 29] K := by kernel_rfl

def ir_Number_r6 (F : Nat) (x0 x3 x5 x16 x17 : Value) (K : Value → Value → Value → Value → Value → Value → M Value) : M Value :=
  K x0 x3 x5 x17 x16 x17

theorem ir_Number_r6_ok (F : Nat) (x0 x3 x5 x16 x17 : Value) (K : Value → Value → Value → Value → Value → Value → M Value) : ir_Number_r6 F x0 x3 x5 x16 x17 K = ir_Number_R F 6 [(17, x17), (16, x16), (5, x5), (3, x3), (0, x0)] [0, 3, 5, 6, 16, 17] K := by kernel_rfl

def ir_Number_r5 (F : Nat) (x0 x3 x5 x16 x17 : Value) (K : Value → Value → Value → Value → Value → Value → M Value) : M Value :=
  bnd (opBin .lss x17 x16) fun v18 => K x0 x3 x5 x16 x17 v18

theorem ir_Number_r5_ok (F : Nat) (x0 x3 x5 x16 x17 : Value) (K : Value → Value → Value → Value → Value → Value → M Value) : ir_Number_r5 F x0 x3 x5 x16 x17 K = ir_Number_R F 5 [(17, x17), (16, x16), (5, x5), (3, x3), (0, x0)] [0, 3, 5, 16, 17, 18] K := by kernel_rfl

def ir_Number_b1 (F : Nat) (E1_0 : Value → M Value) (A1 : Value → Value → Value → Value → Value → M Value) (x0 x3 x5 x16 x17 : Value) : M Value :=
  ir_Number_r5 F x0 x3 x5 x16 x17 (fun x0 x3 x5 x16 x17 x18 => onB x18 (ir_Number_r6 F x0 x3 x5 x16 x17 (fun x0 x3 x5 x6 x16 x17 => ir_Number_r7 F x0 x3 x5 x6 x16 x17 (fun x0 x3 x5 x6 x16 x17 x28 x29 => ir_Number_l3 F (fun x0 x3 x5 x16 x17 => ir_Number_k2 F A1 x0 x3 x5 x16 x17) F x0 x3 x5 x6 x16 x17 x28 x29))) (E1_0 x5))

def ir_Number_l1 (F : Nat) (E1_0 : Value → M Value) : Nat → Value → Value → Value → Value → Value → M Value
  | 0, _, _, _, _, _ => fail
  | k1 + 1, x0, x3, x5, x16, x17 => ir_Number_b1 F E1_0 (ir_Number_l1 F E1_0 k1) x0 x3 x5 x16 x17

theorem ir_Number_l1_s (F : Nat) (E1_0 : Value → M Value) (k1 : Nat) (x0 x3 x5 x16 x17 : Value) : ir_Number_l1 F E1_0 (k1 + 1) x0 x3 x5 x16 x17 = ir_Number_b1 F E1_0 (ir_Number_l1 F E1_0 k1) x0 x3 x5 x16 x17 := rfl

def ir_Number_r4 (F : Nat) (x0 x3 x5 : Value) (K : Value → Value → Value → Value → Value → M Value) : M Value :=
  bnd (opFieldAddr 0 x3) fun v14 => bnd (opLoad v14) fun v15 => bnd (opBin .add v15 (.int .i64 (1))) fun v16 => K x0 x3 x5 v16 (.int .i64 (0))

theorem ir_Number_r4_ok (F : Nat) (x0 x3 x5 : Value) (K : Value → Value → Value → Value → Value → M Value) : ir_Number_r4 F x0 x3 x5 K = ir_Number_R F 4 [(5, x5), (3, x3), (0, x0)] [0, 3, 5, 16, 17] K := by kernel_rfl

def ir_Number_r3 (F : Nat) (x0 x3 : Value) (K : Value → Value → Value → M Value) : M Value :=
  bnd (opFieldAddr 2 x3) fun v12 => bnd (opLoad v12) fun v13 => K x0 x3 v13

theorem ir_Number_r3_ok (F : Nat) (x0 x3 : Value) (K : Value → Value → Value → M Value) : ir_Number_r3 F x0 x3 K = ir_Number_R F 3 [(3, x3), (0, x0)] [0, 3, 5] K := by kernel_rfl

def ir_Number_r2 (F : Nat) (K : Value → M Value) : M Value :=
  K (.int .i64 (-1))

theorem ir_Number_r2_ok (F : Nat) (K : Value → M Value) : ir_Number_r2 F K = ir_Number_R F 2 [] [4] K := by kernel_rfl

def ir_Number_r1 (F : Nat) (x0 x3 : Value) (K : Value → Value → Value → M Value) : M Value :=
  bnd (opLoadN 3 x3) fun v9 => bnd (ir_block F x0 v9) fun v10 => bnd (opEq eqP false v10 (.pointer none)) fun v11 => K x0 x3 v11

theorem ir_Number_r1_ok (F : Nat) (x0 x3 : Value) (K : Value → Value → Value → M Value) : ir_Number_r1 F x0 x3 K = ir_Number_R F 1 [(3, x3), (0, x0)] [0, 3, 11] K := by kernel_rfl

def ir_Number_r0 (F : Nat) (x0 x1 : Value) (K : Value → Value → M Value) : M Value :=
  bnd (opBoxN x1) fun v3 => K x0 v3

theorem ir_Number_r0_ok (F : Nat) (x0 x1 : Value) (K : Value → Value → M Value) : ir_Number_r0 F x0 x1 K = ir_Number_R F 0 [(1, x1), (0, x0)] [0, 3] K := by kernel_rfl

def ir_Number (F : Nat) (x0 x1 : Value) : M Value :=
  ir_Number_r0 F x0 x1 (fun x0 x3 => ir_Number_r1 F x0 x3 (fun x0 x3 x11 => onB x11 (ir_Number_r2 F (fun x4 => ret x4)) (ir_Number_r3 F x0 x3 (fun x0 x3 x5 => ir_Number_r4 F x0 x3 x5 (fun x0 x3 x5 x16 x17 => ir_Number_l1 F (fun x5 => ir_Number_k0 F x5) F x0 x3 x5 x16 x17)))))

def ir_Number_m (F : Nat) : List Value → M Value
  | [x0, x1] => ir_Number F x0 x1
  | _ => fail

theorem ir_Number_body : Try.f47.body = some (.seq (.region 0 (opsOf Try.f47 0) false) (.seq (.seq (.region 1 (opsOf Try.f47 1) false) (.cond (.tmp 11) (.seq (.region 2 (opsOf Try.f47 2) false) .ret) .skip)) (.seq (.region 3 (opsOf Try.f47 3) false) (.seq (.seq (.region 4 (opsOf Try.f47 4) false) (.block 0 (.loop (.seq (.region 5 (opsOf Try.f47 5) false) (.seq (.cond (.tmp 18) .skip (.exit 0)) (.seq (.block 1 (.seq (.region 6 (opsOf Try.f47 6) false) (.seq (.region 7 (opsOf Try.f47 7) false) (.block 2 (.loop (.seq (.region 8 (opsOf Try.f47 8) false) (.seq (.cond (.tmp 30) .skip (.exit 2)) (.seq (.block 3 (.seq (.region 9 (opsOf Try.f47 9) false) (.seq (.region 10 (opsOf Try.f47 10) false) (.cond (.tmp 41) (.region 11 (opsOf Try.f47 11) false) .skip)))) (.region 12 (opsOf Try.f47 12) false))))))))) (.region 13 (opsOf Try.f47 13) false))))))) (.seq (.region 14 (opsOf Try.f47 14) false) .ret))))) := by kernel_rfl

theorem ir_Number_ok (F : Nat) : Sim Try.prog TryG 47 (ir_Number_m F) := by
 have hE : EnvOK Try.prog TryG (ir_Number_env F) := (EnvOK.cons (ir_block_ok F) EnvOK.nil)
 refine Sim.of_body (E := ir_Number_env F) Try.func47 ir_Number_body Try.call47 ?_ ?_
 · intro args hl; unfold ir_Number_m; split
   · exact absurd hl (Nat.not_lt.2 (Nat.le_of_ble_eq_true rfl))
   · rfl
 · intro args ρ h w z; unfold ir_Number_m; split
   · rename_i x0 x1; show OKc _ _ [(0, x0), (1, x1)] _ _
     refine rSeq ?_
     refine cLess [1, 0] ?_
     refine xR hE [0, 3] rfl (ir_Number_r0_ok F _ _ _) ?_
     intro x0 x3
     show OKq _ _ _ [(3, x3), (0, x0)] _
     refine rThen ?_
     refine rSeq ?_
     refine rSeq ?_
     refine cLess [3, 0] ?_
     refine xR hE [0, 3, 11] rfl (ir_Number_r1_ok F _ _ _) ?_
     intro x0 x3 x11
     show OKq _ _ _ [(11, x11), (3, x3), (0, x0)] _
     refine rThen ?_
     refine xCond rfl rfl ?_ ?_
     · refine rSeq ?_
       refine cLess [] ?_
       refine xR hE [4] rfl (ir_Number_r2_ok F _) ?_
       intro x4
       show OKq _ _ _ [(4, x4)] _
       refine rThen ?_
       refine rRet ?_
       refine xThenR ?_
       exact rDone (.inr rfl) rfl
     · refine rSkip ?_
       refine rThen ?_
       refine rSeq ?_
       refine cLess [3, 0] ?_
       refine xR hE [0, 3, 5] rfl (ir_Number_r3_ok F _ _ _) ?_
       intro x0 x3 x5
       show OKq _ _ _ [(5, x5), (3, x3), (0, x0)] _
       refine rThen ?_
       refine xSeq [5] (ir_Number_k0 F ) ?_ fun hj0 => ?_
       · intro x5
         show OKc _ _ [(5, x5)] _ _
         refine rSeq ?_
         refine cLess [5] ?_
         refine xR hE [4] rfl (ir_Number_r14_ok F _ _) ?_
         intro x4
         show OKq _ _ _ [(4, x4)] _
         refine rThen ?_
         refine rRet ?_
         exact rDone (.inr rfl) rfl
       · refine rSeq ?_
         refine cLess [5, 3, 0] ?_
         refine xR hE [0, 3, 5, 16, 17] rfl (ir_Number_r4_ok F _ _ _ _) ?_
         intro x0 x3 x5 x16 x17
         show OKq _ _ _ [(17, x17), (16, x16), (5, x5), (3, x3), (0, x0)] _
         refine rThen ?_
         refine rBlock ?_
         refine cLess [17, 16, 5, 3, 0] ?_
         refine xLoopAt [0, 3, 5, 16, 17] [] (fun k1 => ir_Number_l1 F (fun x5 => ir_Number_k0 F x5) k1) F [x0, x3, x5, x16, x17] rfl rfl (fun _ _ _ _ _ => rfl) fun I hI1 k1 => ?_
         intro x0 x3 x5 x16 x17
         show OKc _ _ [(17, x17), (16, x16), (5, x5), (3, x3), (0, x0)] _ _
         refine cAs (ir_Number_l1_s F _ _ _ _ _ _ _) ?_
         refine rSeq ?_
         refine cLess [17, 16, 5, 3, 0] ?_
         refine xR hE [0, 3, 5, 16, 17, 18] rfl (ir_Number_r5_ok F _ _ _ _ _ _) ?_
         intro x0 x3 x5 x16 x17 x18
         show OKq _ _ _ [(18, x18), (17, x17), (16, x16), (5, x5), (3, x3), (0, x0)] _
         refine rThen ?_
         refine rSeq ?_
         refine xCond rfl rfl ?_ ?_
         · refine rSkip ?_
           refine rThen ?_
           refine xSeq [0, 3, 5, 16, 17] (ir_Number_k2 F (ir_Number_l1 F (fun x5 => ir_Number_k0 F x5) k1) ) ?_ fun hj2 => ?_
           · intro x0 x3 x5 x16 x17
             show OKc _ _ [(17, x17), (16, x16), (5, x5), (3, x3), (0, x0)] _ _
             refine cLess [17, 16, 5, 3, 0] ?_
             refine xR hE [0, 3, 5, 16, 17] rfl (ir_Number_r13_ok F _ _ _ _ _ _) ?_
             intro x0 x3 x5 x16 x17
             show OKq _ _ _ [(17, x17), (16, x16), (5, x5), (3, x3), (0, x0)] _
             exact qLess [17, 16, 5, 3, 0] (hI1 k1 x0 x3 x5 x16 x17)
           · refine rBlock ?_
             refine rSeq ?_
             refine cLess [17, 16, 5, 3, 0] ?_
             refine xR hE [0, 3, 5, 6, 16, 17] rfl (ir_Number_r6_ok F _ _ _ _ _ _) ?_
             intro x0 x3 x5 x6 x16 x17
             show OKq _ _ _ [(17, x17), (16, x16), (6, x6), (5, x5), (3, x3), (0, x0)] _
             refine rThen ?_
             refine rSeq ?_
             refine cLess [17, 16, 6, 5, 3, 0] ?_
             refine xR hE [0, 3, 5, 6, 16, 17, 28, 29] rfl (ir_Number_r7_ok F _ _ _ _ _ _ _) ?_
             intro x0 x3 x5 x6 x16 x17 x28 x29
             show OKq _ _ _ [(29, x29), (28, x28), (17, x17), (16, x16), (6, x6), (5, x5), (3, x3), (0, x0)] _
             refine rThen ?_
             refine rBlock ?_
             refine cLess [29, 28, 17, 16, 6, 5, 3, 0] ?_
             refine xLoopAt [0, 3, 5, 6, 16, 17, 28, 29] [] (fun k3 => ir_Number_l3 F (fun x0 x3 x5 x16 x17 => ir_Number_k2 F (ir_Number_l1 F (fun x5 => ir_Number_k0 F x5) k1) x0 x3 x5 x16 x17) k3) F [x0, x3, x5, x6, x16, x17, x28, x29] rfl rfl (fun _ _ _ _ _ _ _ _ => rfl) fun I hI3 k3 => ?_
             intro x0 x3 x5 x6 x16 x17 x28 x29
             show OKc _ _ [(29, x29), (28, x28), (17, x17), (16, x16), (6, x6), (5, x5), (3, x3), (0, x0)] _ _
             refine cAs (ir_Number_l3_s F _ _ _ _ _ _ _ _ _ _) ?_
             refine rSeq ?_
             refine cLess [29, 28, 17, 16, 6, 5, 3, 0] ?_
             refine xR hE [0, 3, 5, 6, 16, 17, 28, 29, 30] rfl (ir_Number_r8_ok F _ _ _ _ _ _ _ _ _) ?_
             intro x0 x3 x5 x6 x16 x17 x28 x29 x30
             show OKq _ _ _ [(30, x30), (29, x29), (28, x28), (17, x17), (16, x16), (6, x6), (5, x5), (3, x3), (0, x0)] _
             refine rThen ?_
             refine rSeq ?_
             refine xCond rfl rfl ?_ ?_
             · refine rSkip ?_
               refine rThen ?_
               refine xSeq [0, 3, 5, 6, 16, 17, 28, 29] (ir_Number_k4 F (ir_Number_l3 F (fun x0 x3 x5 x16 x17 => ir_Number_k2 F (ir_Number_l1 F (fun x5 => ir_Number_k0 F x5) k1) x0 x3 x5 x16 x17) k3) ) ?_ fun hj4 => ?_
               · intro x0 x3 x5 x6 x16 x17 x28 x29
                 show OKc _ _ [(29, x29), (28, x28), (17, x17), (16, x16), (6, x6), (5, x5), (3, x3), (0, x0)] _ _
                 refine cLess [29, 28, 17, 16, 6, 5, 3, 0] ?_
                 refine xR hE [0, 3, 5, 6, 16, 17, 28, 29] rfl (ir_Number_r12_ok F _ _ _ _ _ _ _ _ _) ?_
                 intro x0 x3 x5 x6 x16 x17 x28 x29
                 show OKq _ _ _ [(29, x29), (28, x28), (17, x17), (16, x16), (6, x6), (5, x5), (3, x3), (0, x0)] _
                 exact qLess [29, 28, 17, 16, 6, 5, 3, 0] (hI3 k3 x0 x3 x5 x6 x16 x17 x28 x29)
               · refine rBlock ?_
                 refine rSeq ?_
                 refine cLess [29, 28, 17, 16, 6, 5, 3, 0] ?_
                 refine xR hE [0, 3, 5, 6, 7, 16, 17, 28, 29] rfl (ir_Number_r9_ok F _ _ _ _ _ _ _ _ _) ?_
                 intro x0 x3 x5 x6 x7 x16 x17 x28 x29
                 show OKq _ _ _ [(29, x29), (28, x28), (17, x17), (16, x16), (7, x7), (6, x6), (5, x5), (3, x3), (0, x0)] _
                 refine rThen ?_
                 refine rSeq ?_
                 refine cLess [29, 28, 17, 16, 7, 6, 5, 3, 0] ?_
                 refine xR hE [0, 3, 5, 6, 7, 16, 17, 28, 29, 41] rfl (ir_Number_r10_ok F _ _ _ _ _ _ _ _ _ _) ?_
                 intro x0 x3 x5 x6 x7 x16 x17 x28 x29 x41
                 show OKq _ _ _ [(41, x41), (29, x29), (28, x28), (17, x17), (16, x16), (7, x7), (6, x6), (5, x5), (3, x3), (0, x0)] _
                 refine rThen ?_
                 refine xCond rfl rfl ?_ ?_
                 · refine cLess [29, 28, 17, 16, 7, 6, 5, 3, 0] ?_
                   refine xR hE [0, 3, 5, 6, 16, 17, 28, 29] rfl (ir_Number_r11_ok F _ _ _ _ _ _ _ _ _ _) ?_
                   intro x0 x3 x5 x6 x16 x17 x28 x29
                   show OKq _ _ _ [(29, x29), (28, x28), (17, x17), (16, x16), (6, x6), (5, x5), (3, x3), (0, x0)] _
                   refine xBlockN ?_
                   exact qLess [29, 28, 17, 16, 6, 5, 3, 0] (hj4 x0 x3 x5 x6 x16 x17 x28 x29)
                 · refine rSkip ?_
                   refine xBlockN ?_
                   exact qLess [29, 28, 17, 16, 6, 5, 3, 0] (hj4 x0 x3 x5 x6 x16 x17 x28 x29)
             · refine rExit ?_
               refine xThenX ?_
               refine xThenX ?_
               refine rOut ?_
               refine xBlockN ?_
               exact qLess [17, 16, 5, 3, 0] (hj2 x0 x3 x5 x16 x17)
         · refine rExit ?_
           refine xThenX ?_
           refine xThenX ?_
           refine rOut ?_
           exact qLess [5] (hj0 x5)
   · exact rFail


/-! ### math/bits.Len -/

def bits_Len_env (F : Nat) : Env := envOf [(80, bits_Len32_m F), (81, bits_Len64_m F)]

noncomputable def bits_Len_R (F : Nat) := rK Try.prog TryG (bits_Len_env F) Try.f54
noncomputable def bits_Len_D (F : Nat) := dK Try.prog TryG (bits_Len_env F) Try.f54

def bits_Len_r2 (F : Nat) (x0 : Value) (K : Value → M Value) : M Value :=
  bnd (bits_Len64 F x0) fun v7 => K v7

theorem bits_Len_r2_ok (F : Nat) (x0 : Value) (K : Value → M Value) : bits_Len_r2 F x0 K = bits_Len_R F 2 [(0, x0)] [2] K := by kernel_rfl

def bits_Len_r1 (F : Nat) (x0 : Value) (K : Value → M Value) : M Value :=
  bnd (opConv .u32 x0) fun v4 => bnd (bits_Len32 F v4) fun v5 => K v5

theorem bits_Len_r1_ok (F : Nat) (x0 : Value) (K : Value → M Value) : bits_Len_r1 F x0 K = bits_Len_R F 1 [(0, x0)] [2] K := by kernel_rfl

def bits_Len_r0 (F : Nat) (x0 : Value) (K : Value → M Value) : M Value :=
  K x0

theorem bits_Len_r0_ok (F : Nat) (x0 : Value) (K : Value → M Value) : bits_Len_r0 F x0 K = bits_Len_R F 0 [(0, x0)] [0] K := by kernel_rfl

def bits_Len (F : Nat) (x0 : Value) : M Value :=
  bits_Len_r0 F x0 (fun x0 => onB (.bool false) (bits_Len_r1 F x0 (fun x2 => ret x2)) (bits_Len_r2 F x0 (fun x2 => ret x2)))

def bits_Len_m (F : Nat) : List Value → M Value
  | [x0] => bits_Len F x0
  | _ => fail

theorem bits_Len_body : Try.f54.body = some (.seq (.region 0 (opsOf Try.f54 0) false) (.seq (.cond (.const (.bool false)) (.seq (.region 1 (opsOf Try.f54 1) false) .ret) .skip) (.seq (.region 2 (opsOf Try.f54 2) false) .ret))) := by kernel_rfl

theorem bits_Len_ok (F : Nat) : Sim Try.prog TryG 54 (bits_Len_m F) := by
 have hE : EnvOK Try.prog TryG (bits_Len_env F) := (EnvOK.cons (bits_Len32_ok F) (EnvOK.cons (bits_Len64_ok F) EnvOK.nil))
 refine Sim.of_body (E := bits_Len_env F) Try.func54 bits_Len_body Try.call54 ?_ ?_
 · intro args hl; unfold bits_Len_m; split
   · exact absurd hl (Nat.not_lt.2 (Nat.le_of_ble_eq_true rfl))
   · rfl
 · intro args ρ h w z; unfold bits_Len_m; split
   · rename_i x0; show OKc _ _ [(0, x0)] _ _
     refine rSeq ?_
     refine cLess [0] ?_
     refine xR hE [0] rfl (bits_Len_r0_ok F _ _) ?_
     intro x0
     show OKq _ _ _ [(0, x0)] _
     refine rThen ?_
     refine rSeq ?_
     refine xCond rfl rfl ?_ ?_
     · refine rSeq ?_
       refine cLess [0] ?_
       refine xR hE [2] rfl (bits_Len_r1_ok F _ _) ?_
       intro x2
       show OKq _ _ _ [(2, x2)] _
       refine rThen ?_
       refine rRet ?_
       refine xThenR ?_
       exact rDone (.inr rfl) rfl
     · refine rSkip ?_
       refine rThen ?_
       refine rSeq ?_
       refine cLess [0] ?_
       refine xR hE [2] rfl (bits_Len_r2_ok F _ _) ?_
       intro x2
       show OKq _ _ _ [(2, x2)] _
       refine rThen ?_
       refine rRet ?_
       exact rDone (.inr rfl) rfl
   · exact rFail


/-! ### cmp.Less[int] -/

def cmp_Less_env (F : Nat) : Env := envOf [(90, cmp_isNaN_m F)]

noncomputable def cmp_Less_R (F : Nat) := rK Try.prog TryG (cmp_Less_env F) Try.f77
noncomputable def cmp_Less_D (F : Nat) := dK Try.prog TryG (cmp_Less_env F) Try.f77

def cmp_Less_r1 (F : Nat) (x0 x1 : Value) (K : Value → M Value) : M Value :=
  bnd (cmp_isNaN F x0) fun v6 => onB v6 (bnd (cmp_isNaN F x1) fun v9 => bnd (opNot v9) fun v10 => onB v10 (K (.bool true)) (bnd (opBin .lss x0 x1) fun v15 => K v15)) (bnd (opBin .lss x0 x1) fun v15 => K v15)

theorem cmp_Less_r1_ok (F : Nat) (x0 x1 : Value) (K : Value → M Value) : cmp_Less_r1 F x0 x1 K = cmp_Less_R F 1 [(1, x1), (0, x0)] [4] K := by kernel_rfl

def cmp_Less_r0 (F : Nat) (x0 x1 : Value) (K : Value → Value → M Value) : M Value :=
  K x0 x1

theorem cmp_Less_r0_ok (F : Nat) (x0 x1 : Value) (K : Value → Value → M Value) : cmp_Less_r0 F x0 x1 K = cmp_Less_R F 0 [(1, x1), (0, x0)] [0, 1] K := by kernel_rfl

def cmp_Less (F : Nat) (x0 x1 : Value) : M Value :=
  cmp_Less_r0 F x0 x1 (fun x0 x1 => cmp_Less_r1 F x0 x1 (fun x4 => ret x4))

def cmp_Less_m (F : Nat) : List Value → M Value
  | [x0, x1] => cmp_Less F x0 x1
  | _ => fail

theorem cmp_Less_body : Try.f77.body = some (.seq (.region 0 (opsOf Try.f77 0) false) (.seq (.region 1 (opsOf Try.f77 1) false) .ret)) := by kernel_rfl

theorem cmp_Less_ok (F : Nat) : Sim Try.prog TryG 77 (cmp_Less_m F) := by
 have hE : EnvOK Try.prog TryG (cmp_Less_env F) := (EnvOK.cons (cmp_isNaN_ok F) EnvOK.nil)
 refine Sim.of_body (E := cmp_Less_env F) Try.func77 cmp_Less_body Try.call77 ?_ ?_
 · intro args hl; unfold cmp_Less_m; split
   · exact absurd hl (Nat.not_lt.2 (Nat.le_of_ble_eq_true rfl))
   · rfl
 · intro args ρ h w z; unfold cmp_Less_m; split
   · rename_i x0 x1; show OKc _ _ [(0, x0), (1, x1)] _ _
     refine rSeq ?_
     refine cLess [1, 0] ?_
     refine xR hE [0, 1] rfl (cmp_Less_r0_ok F _ _ _) ?_
     intro x0 x1
     show OKq _ _ _ [(1, x1), (0, x0)] _
     refine rThen ?_
     refine rSeq ?_
     refine cLess [1, 0] ?_
     refine xR hE [4] rfl (cmp_Less_r1_ok F _ _ _) ?_
     intro x4
     show OKq _ _ _ [(4, x4)] _
     refine rThen ?_
     refine rRet ?_
     exact rDone (.inr rfl) rfl
   · exact rFail


/-! ### haruspex/reach.Some$1 -/

def reach_Some_1_env (F : Nat) : Env := envOf [(33, ir_At_m F), (46, ir_Def_m F)]

noncomputable def reach_Some_1_R (F : Nat) := rK Try.prog TryG (reach_Some_1_env F) Try.f45
noncomputable def reach_Some_1_D (F : Nat) := dK Try.prog TryG (reach_Some_1_env F) Try.f45

def reach_Some_1_r3 (F : Nat) (x2 x6 x7 x8 : Value) (K : Value → M Value) : M Value :=
  onB x6 (onB x8 (bnd (opLoad x2) fun v26 => bnd (opBin .eql x7 v26) fun v27 => K v27) (K (.bool false))) (K (.bool false))

theorem reach_Some_1_r3_ok (F : Nat) (x2 x6 x7 x8 : Value) (K : Value → M Value) : reach_Some_1_r3 F x2 x6 x7 x8 K = reach_Some_1_R F 3 [(8, x8), (7, x7), (6, x6), (2, x2)] [4] K := by kernel_rfl

def reach_Some_1_r2 (F : Nat) (x2 x5 x6 : Value) (K : Value → Value → Value → Value → M Value) : M Value :=
  bnd (opLoadN 6 x5) fun v16 => bnd (ir_Def F v16) fun v17 => bnd (opExtract v17 0) fun v18 => bnd (opExtract v17 1) fun v19 => K x2 x6 v18 v19

theorem reach_Some_1_r2_ok (F : Nat) (x2 x5 x6 : Value) (K : Value → Value → Value → Value → M Value) : reach_Some_1_r2 F x2 x5 x6 K = reach_Some_1_R F 2 [(6, x6), (5, x5), (2, x2)] [2, 6, 7, 8] K := by kernel_rfl

def reach_Some_1_r1 (F : Nat) (x0 x1 x2 : Value) (K : Value → Value → Value → M Value) : M Value :=
  bnd (opLoad x1) fun v10 => bnd (ir_At F v10 x0) fun v12 => bnd (opExtract v12 0) fun v13 => bnd (opExtract v12 1) fun v14 => bnd (opPtr [(.int .i64 (0)), (.int .i64 (0)), (.int .i64 (0)), (.int .i64 (0)), (.int .i64 (0)), (.slice none 0 0)]) fun v5 => bnd (opStoreN 6 v5 v13) fun _ => K x2 v5 v14

theorem reach_Some_1_r1_ok (F : Nat) (x0 x1 x2 : Value) (K : Value → Value → Value → M Value) : reach_Some_1_r1 F x0 x1 x2 K = reach_Some_1_R F 1 [(2, x2), (1, x1), (0, x0)] [2, 5, 6] K := by kernel_rfl

def reach_Some_1_r0 (F : Nat) (x0 x1 x2 : Value) (K : Value → Value → Value → M Value) : M Value :=
  K x0 x1 x2

theorem reach_Some_1_r0_ok (F : Nat) (x0 x1 x2 : Value) (K : Value → Value → Value → M Value) : reach_Some_1_r0 F x0 x1 x2 K = reach_Some_1_R F 0 [(2, x2), (1, x1), (0, x0)] [0, 1, 2] K := by kernel_rfl

def reach_Some_1 (F : Nat) (x0 x1 x2 : Value) : M Value :=
  reach_Some_1_r0 F x0 x1 x2 (fun x0 x1 x2 => reach_Some_1_r1 F x0 x1 x2 (fun x2 x5 x6 => reach_Some_1_r2 F x2 x5 x6 (fun x2 x6 x7 x8 => reach_Some_1_r3 F x2 x6 x7 x8 (fun x4 => ret x4))))

def reach_Some_1_m (F : Nat) : List Value → M Value
  | [x0, x1, x2] => reach_Some_1 F x0 x1 x2
  | _ => fail

theorem reach_Some_1_body : Try.f45.body = some (.seq (.region 0 (opsOf Try.f45 0) false) (.seq (.region 1 (opsOf Try.f45 1) false) (.seq (.region 2 (opsOf Try.f45 2) false) (.seq (.region 3 (opsOf Try.f45 3) false) .ret)))) := by kernel_rfl

theorem reach_Some_1_ok (F : Nat) : Sim Try.prog TryG 45 (reach_Some_1_m F) := by
 have hE : EnvOK Try.prog TryG (reach_Some_1_env F) := (EnvOK.cons (ir_At_ok F) (EnvOK.cons (ir_Def_ok F) EnvOK.nil))
 refine Sim.of_body (E := reach_Some_1_env F) Try.func45 reach_Some_1_body Try.call45 ?_ ?_
 · intro args hl; unfold reach_Some_1_m; split
   · exact absurd hl (Nat.not_lt.2 (Nat.le_of_ble_eq_true rfl))
   · rfl
 · intro args ρ h w z; unfold reach_Some_1_m; split
   · rename_i x0 x1 x2; show OKc _ _ [(0, x0), (1, x1), (2, x2)] _ _
     refine rSeq ?_
     refine cLess [2, 1, 0] ?_
     refine xR hE [0, 1, 2] rfl (reach_Some_1_r0_ok F _ _ _ _) ?_
     intro x0 x1 x2
     show OKq _ _ _ [(2, x2), (1, x1), (0, x0)] _
     refine rThen ?_
     refine rSeq ?_
     refine cLess [2, 1, 0] ?_
     refine xR hE [2, 5, 6] rfl (reach_Some_1_r1_ok F _ _ _ _) ?_
     intro x2 x5 x6
     show OKq _ _ _ [(6, x6), (5, x5), (2, x2)] _
     refine rThen ?_
     refine rSeq ?_
     refine cLess [6, 5, 2] ?_
     refine xR hE [2, 6, 7, 8] rfl (reach_Some_1_r2_ok F _ _ _ _) ?_
     intro x2 x6 x7 x8
     show OKq _ _ _ [(8, x8), (7, x7), (6, x6), (2, x2)] _
     refine rThen ?_
     refine rSeq ?_
     refine cLess [8, 7, 6, 2] ?_
     refine xR hE [4] rfl (reach_Some_1_r3_ok F _ _ _ _ _) ?_
     intro x4
     show OKq _ _ _ [(4, x4)] _
     refine rThen ?_
     refine rRet ?_
     exact rDone (.inr rfl) rfl
   · exact rFail


/-! ### haruspex/ir.Next -/

def ir_Next_env (F : Nat) : Env := envOf [(27, ir_Point_m F), (35, ir_End_m F), (47, ir_Number_m F), (65, ir_Outs_m F)]

noncomputable def ir_Next_R (F : Nat) := rK Try.prog TryG (ir_Next_env F) Try.f48
noncomputable def ir_Next_D (F : Nat) := dK Try.prog TryG (ir_Next_env F) Try.f48

def ir_Next_r15 (F : Nat) (x8 : Value) (K : Value → M Value) : M Value :=
  K x8

theorem ir_Next_r15_ok (F : Nat) (x8 : Value) (K : Value → M Value) : ir_Next_r15 F x8 K = ir_Next_R F 15 [(8, x8)] [4] K := by kernel_rfl

def ir_Next_k0 (F : Nat) (x8 : Value) : M Value :=
  ir_Next_r15 F x8 (fun x4 => ret x4)

def ir_Next_r14 (F : Nat) (x0 x5 x8 x29 x30 x31 : Value) (K : Value → Value → Value → Value → Value → Value → M Value) : M Value :=
  bnd (opBin .add x31 (.int .i64 (1))) fun v47 => K x0 x5 x8 x29 x30 v47

theorem ir_Next_r14_ok (F : Nat) (x0 x5 x8 x29 x30 x31 : Value) (K : Value → Value → Value → Value → Value → Value → M Value) : ir_Next_r14 F x0 x5 x8 x29 x30 x31 K = ir_Next_R F 14 [(31, x31), (30, x30), (29, x29), (8, x8), (5, x5), (0, x0)] [0, 5, 8, 29, 30, 31] K := by kernel_rfl

def ir_Next_k2 (F : Nat) (A1 : Value → Value → Value → Value → Value → Value → M Value) (x0 x5 x8 x29 x30 x31 : Value) : M Value :=
  ir_Next_r14 F x0 x5 x8 x29 x30 x31 (fun x0 x5 x8 x29 x30 x31 => A1 x0 x5 x8 x29 x30 x31)

def ir_Next_r13 (F : Nat) (x0 x5 x8 x11 x29 x30 x31 : Value) (K : Value → Value → Value → Value → Value → Value → M Value) : M Value :=
  bnd (opBuildSlice 1 (rep 1 [(.int .i64 (0))]) [(0, 1, false, x11)]) fun v45 => bnd (opAppend 1 8 x8 v45) fun v46 => K x0 x5 v46 x29 x30 x31

theorem ir_Next_r13_ok (F : Nat) (x0 x5 x8 x11 x29 x30 x31 : Value) (K : Value → Value → Value → Value → Value → Value → M Value) : ir_Next_r13 F x0 x5 x8 x11 x29 x30 x31 K = ir_Next_R F 13 [(31, x31), (30, x30), (29, x29), (11, x11), (8, x8), (5, x5), (0, x0)] [0, 5, 8, 29, 30, 31] K := by kernel_rfl

def ir_Next_r12 (F : Nat) (x0 x5 x8 x11 x29 x30 x31 : Value) (K : Value → Value → Value → Value → Value → Value → Value → Value → M Value) : M Value :=
  bnd (opBin .geq x11 (.int .i64 (0))) fun v42 => K x0 x5 x8 x11 x29 x30 x31 v42

theorem ir_Next_r12_ok (F : Nat) (x0 x5 x8 x11 x29 x30 x31 : Value) (K : Value → Value → Value → Value → Value → Value → Value → Value → M Value) : ir_Next_r12 F x0 x5 x8 x11 x29 x30 x31 K = ir_Next_R F 12 [(31, x31), (30, x30), (29, x29), (11, x11), (8, x8), (5, x5), (0, x0)] [0, 5, 8, 11, 29, 30, 31, 42] K := by kernel_rfl

def ir_Next_r11 (F : Nat) (x0 x5 x8 x10 x29 x30 x31 : Value) (K : Value → Value → Value → Value → Value → Value → Value → M Value) : M Value :=
  bnd (opFieldAddr 0 x5) fun v36 => bnd (opLoad v36) fun v37 => bnd (opBuild [(.int .i64 (0)), (.int .i64 (0)), (.int .i64 (0))] [(0, 1, false, v37), (1, 1, false, x10)]) fun v39 => bnd (ir_Number F x0 v39) fun v40 => K x0 x5 x8 v40 x29 x30 x31

theorem ir_Next_r11_ok (F : Nat) (x0 x5 x8 x10 x29 x30 x31 : Value) (K : Value → Value → Value → Value → Value → Value → Value → M Value) : ir_Next_r11 F x0 x5 x8 x10 x29 x30 x31 K = ir_Next_R F 11 [(31, x31), (30, x30), (29, x29), (10, x10), (8, x8), (5, x5), (0, x0)] [0, 5, 8, 11, 29, 30, 31] K := by kernel_rfl

def ir_Next_r10 (F : Nat) (x0 x5 x8 x29 x30 x31 : Value) (K : Value → Value → Value → Value → Value → Value → Value → M Value) : M Value :=
  bnd (opIndexAddr 1 x29 x31) fun v33 => bnd (opLoad v33) fun v34 => K x0 x5 x8 v34 x29 x30 x31

theorem ir_Next_r10_ok (F : Nat) (x0 x5 x8 x29 x30 x31 : Value) (K : Value → Value → Value → Value → Value → Value → Value → M Value) : ir_Next_r10 F x0 x5 x8 x29 x30 x31 K = ir_Next_R F 10 [(31, x31), (30, x30), (29, x29), (8, x8), (5, x5), (0, x0)] [0, 5, 8, 10, 29, 30, 31] K := by kernel_rfl

def ir_Next_r9 (F : Nat) (x0 x5 x8 x29 x30 x31 : Value) (K : Value → Value → Value → Value → Value → Value → Value → M Value) : M Value :=
  bnd (opBin .lss x31 x30) fun v32 => K x0 x5 x8 x29 x30 x31 v32

theorem ir_Next_r9_ok (F : Nat) (x0 x5 x8 x29 x30 x31 : Value) (K : Value → Value → Value → Value → Value → Value → Value → M Value) : ir_Next_r9 F x0 x5 x8 x29 x30 x31 K = ir_Next_R F 9 [(31, x31), (30, x30), (29, x29), (8, x8), (5, x5), (0, x0)] [0, 5, 8, 29, 30, 31, 32] K := by kernel_rfl

def ir_Next_b1 (F : Nat) (E1_0 : Value → M Value) (A1 : Value → Value → Value → Value → Value → Value → M Value) (x0 x5 x8 x29 x30 x31 : Value) : M Value :=
  ir_Next_r9 F x0 x5 x8 x29 x30 x31 (fun x0 x5 x8 x29 x30 x31 x32 => onB x32 (ir_Next_r10 F x0 x5 x8 x29 x30 x31 (fun x0 x5 x8 x10 x29 x30 x31 => ir_Next_r11 F x0 x5 x8 x10 x29 x30 x31 (fun x0 x5 x8 x11 x29 x30 x31 => ir_Next_r12 F x0 x5 x8 x11 x29 x30 x31 (fun x0 x5 x8 x11 x29 x30 x31 x42 => onB x42 (ir_Next_r13 F x0 x5 x8 x11 x29 x30 x31 (fun x0 x5 x8 x29 x30 x31 => ir_Next_k2 F A1 x0 x5 x8 x29 x30 x31)) (ir_Next_k2 F A1 x0 x5 x8 x29 x30 x31))))) (E1_0 x8))

def ir_Next_l1 (F : Nat) (E1_0 : Value → M Value) : Nat → Value → Value → Value → Value → Value → Value → M Value
  | 0, _, _, _, _, _, _ => fail
  | k1 + 1, x0, x5, x8, x29, x30, x31 => ir_Next_b1 F E1_0 (ir_Next_l1 F E1_0 k1) x0 x5 x8 x29 x30 x31

theorem ir_Next_l1_s (F : Nat) (E1_0 : Value → M Value) (k1 : Nat) (x0 x5 x8 x29 x30 x31 : Value) : ir_Next_l1 F E1_0 (k1 + 1) x0 x5 x8 x29 x30 x31 = ir_Next_b1 F E1_0 (ir_Next_l1 F E1_0 k1) x0 x5 x8 x29 x30 x31 := rfl

def ir_Next_r8 (F : Nat) (x0 x5 x7 x8 : Value) (K : Value → Value → Value → Value → Value → Value → M Value) : M Value :=
  bnd (ir_Outs F x7) fun v29 => bnd (opLen v29) fun v30 => K x0 x5 x8 v29 v30 (.int .i64 (0))

theorem ir_Next_r8_ok (F : Nat) (x0 x5 x7 x8 : Value) (K : Value → Value → Value → Value → Value → Value → M Value) : ir_Next_r8 F x0 x5 x7 x8 K = ir_Next_R F 8 [(8, x8), (7, x7), (5, x5), (0, x0)] [0, 5, 8, 29, 30, 31] K := by kernel_rfl

def ir_Next_r7 (F : Nat) (x0 x5 x7 : Value) (K : Value → Value → Value → Value → M Value) : M Value :=
  K x0 x5 x7 (.slice none 0 0)

theorem ir_Next_r7_ok (F : Nat) (x0 x5 x7 : Value) (K : Value → Value → Value → Value → M Value) : ir_Next_r7 F x0 x5 x7 K = ir_Next_R F 7 [(7, x7), (5, x5), (0, x0)] [0, 5, 7, 8] K := by kernel_rfl

def ir_Next_r6 (F : Nat) (x1 : Value) (K : Value → M Value) : M Value :=
  bnd (opBin .add x1 (.int .i64 (1))) fun v26 => bnd (opBuildSlice 1 (rep 1 [(.int .i64 (0))]) [(0, 1, false, v26)]) fun v27 => K v27

theorem ir_Next_r6_ok (F : Nat) (x1 : Value) (K : Value → M Value) : ir_Next_r6 F x1 K = ir_Next_R F 6 [(1, x1)] [4] K := by kernel_rfl

def ir_Next_r5 (F : Nat) (x0 x1 x5 x7 : Value) (K : Value → Value → Value → Value → Value → M Value) : M Value :=
  bnd (opEq eqP false x7 (.pointer none)) fun v24 => K x0 x1 x5 x7 v24

theorem ir_Next_r5_ok (F : Nat) (x0 x1 x5 x7 : Value) (K : Value → Value → Value → Value → Value → M Value) : ir_Next_r5 F x0 x1 x5 x7 K = ir_Next_R F 5 [(7, x7), (5, x5), (1, x1), (0, x0)] [0, 1, 5, 7, 24] K := by kernel_rfl

def ir_Next_r4 (F : Nat) (x0 x1 x5 : Value) (K : Value → Value → Value → Value → M Value) : M Value :=
  bnd (ir_End F x0 x1) fun v22 => K x0 x1 x5 v22

theorem ir_Next_r4_ok (F : Nat) (x0 x1 x5 : Value) (K : Value → Value → Value → Value → M Value) : ir_Next_r4 F x0 x1 x5 K = ir_Next_R F 4 [(5, x5), (1, x1), (0, x0)] [0, 1, 5, 7] K := by kernel_rfl

def ir_Next_r3 (F : Nat) (K : Value → M Value) : M Value :=
  K (.slice none 0 0)

theorem ir_Next_r3_ok (F : Nat) (K : Value → M Value) : ir_Next_r3 F K = ir_Next_R F 3 [] [4] K := by kernel_rfl

def ir_Next_r2 (F : Nat) (x0 x1 x5 x6 : Value) (K : Value → Value → Value → Value → M Value) : M Value :=
  bnd (opNot x6) fun v19 => K x0 x1 x5 v19

theorem ir_Next_r2_ok (F : Nat) (x0 x1 x5 x6 : Value) (K : Value → Value → Value → Value → M Value) : ir_Next_r2 F x0 x1 x5 x6 K = ir_Next_R F 2 [(6, x6), (5, x5), (1, x1), (0, x0)] [0, 1, 5, 19] K := by kernel_rfl

def ir_Next_r1 (F : Nat) (x0 x1 : Value) (K : Value → Value → Value → Value → M Value) : M Value :=
  bnd (ir_Point F x0 x1) fun v15 => bnd (opExtract v15 0) fun v16 => bnd (opExtract v15 1) fun v17 => bnd (opPtr [(.int .i64 (0)), (.int .i64 (0)), (.int .i64 (0))]) fun v5 => bnd (opStoreN 3 v5 v16) fun _ => K x0 x1 v5 v17

theorem ir_Next_r1_ok (F : Nat) (x0 x1 : Value) (K : Value → Value → Value → Value → M Value) : ir_Next_r1 F x0 x1 K = ir_Next_R F 1 [(1, x1), (0, x0)] [0, 1, 5, 6] K := by kernel_rfl

def ir_Next_r0 (F : Nat) (x0 x1 : Value) (K : Value → Value → M Value) : M Value :=
  K x0 x1

theorem ir_Next_r0_ok (F : Nat) (x0 x1 : Value) (K : Value → Value → M Value) : ir_Next_r0 F x0 x1 K = ir_Next_R F 0 [(1, x1), (0, x0)] [0, 1] K := by kernel_rfl

def ir_Next (F : Nat) (x0 x1 : Value) : M Value :=
  ir_Next_r0 F x0 x1 (fun x0 x1 => ir_Next_r1 F x0 x1 (fun x0 x1 x5 x6 => ir_Next_r2 F x0 x1 x5 x6 (fun x0 x1 x5 x19 => onB x19 (ir_Next_r3 F (fun x4 => ret x4)) (ir_Next_r4 F x0 x1 x5 (fun x0 x1 x5 x7 => ir_Next_r5 F x0 x1 x5 x7 (fun x0 x1 x5 x7 x24 => onB x24 (ir_Next_r6 F x1 (fun x4 => ret x4)) (ir_Next_r7 F x0 x5 x7 (fun x0 x5 x7 x8 => ir_Next_r8 F x0 x5 x7 x8 (fun x0 x5 x8 x29 x30 x31 => ir_Next_l1 F (fun x8 => ir_Next_k0 F x8) F x0 x5 x8 x29 x30 x31)))))))))

def ir_Next_m (F : Nat) : List Value → M Value
  | [x0, x1] => ir_Next F x0 x1
  | _ => fail

theorem ir_Next_body : Try.f48.body = some (.seq (.region 0 (opsOf Try.f48 0) false) (.seq (.region 1 (opsOf Try.f48 1) false) (.seq (.seq (.region 2 (opsOf Try.f48 2) false) (.cond (.tmp 19) (.seq (.region 3 (opsOf Try.f48 3) false) .ret) .skip)) (.seq (.region 4 (opsOf Try.f48 4) false) (.seq (.seq (.region 5 (opsOf Try.f48 5) false) (.cond (.tmp 24) (.seq (.region 6 (opsOf Try.f48 6) false) .ret) .skip)) (.seq (.region 7 (opsOf Try.f48 7) false) (.seq (.seq (.region 8 (opsOf Try.f48 8) false) (.block 0 (.loop (.seq (.region 9 (opsOf Try.f48 9) false) (.seq (.cond (.tmp 32) .skip (.exit 0)) (.seq (.block 1 (.seq (.region 10 (opsOf Try.f48 10) false) (.seq (.region 11 (opsOf Try.f48 11) false) (.seq (.region 12 (opsOf Try.f48 12) false) (.cond (.tmp 42) (.region 13 (opsOf Try.f48 13) false) .skip))))) (.region 14 (opsOf Try.f48 14) false))))))) (.seq (.region 15 (opsOf Try.f48 15) false) .ret)))))))) := by kernel_rfl

theorem ir_Next_ok (F : Nat) : Sim Try.prog TryG 48 (ir_Next_m F) := by
 have hE : EnvOK Try.prog TryG (ir_Next_env F) := (EnvOK.cons (ir_Point_ok F) (EnvOK.cons (ir_End_ok F) (EnvOK.cons (ir_Number_ok F) (EnvOK.cons (ir_Outs_ok F) EnvOK.nil))))
 refine Sim.of_body (E := ir_Next_env F) Try.func48 ir_Next_body Try.call48 ?_ ?_
 · intro args hl; unfold ir_Next_m; split
   · exact absurd hl (Nat.not_lt.2 (Nat.le_of_ble_eq_true rfl))
   · rfl
 · intro args ρ h w z; unfold ir_Next_m; split
   · rename_i x0 x1; show OKc _ _ [(0, x0), (1, x1)] _ _
     refine rSeq ?_
     refine cLess [1, 0] ?_
     refine xR hE [0, 1] rfl (ir_Next_r0_ok F _ _ _) ?_
     intro x0 x1
     show OKq _ _ _ [(1, x1), (0, x0)] _
     refine rThen ?_
     refine rSeq ?_
     refine cLess [1, 0] ?_
     refine xR hE [0, 1, 5, 6] rfl (ir_Next_r1_ok F _ _ _) ?_
     intro x0 x1 x5 x6
     show OKq _ _ _ [(6, x6), (5, x5), (1, x1), (0, x0)] _
     refine rThen ?_
     refine rSeq ?_
     refine rSeq ?_
     refine cLess [6, 5, 1, 0] ?_
     refine xR hE [0, 1, 5, 19] rfl (ir_Next_r2_ok F _ _ _ _ _) ?_
     intro x0 x1 x5 x19
     show OKq _ _ _ [(19, x19), (5, x5), (1, x1), (0, x0)] _
     refine rThen ?_
     refine xCond rfl rfl ?_ ?_
     · refine rSeq ?_
       refine cLess [] ?_
       refine xR hE [4] rfl (ir_Next_r3_ok F _) ?_
       intro x4
       show OKq _ _ _ [(4, x4)] _
       refine rThen ?_
       refine rRet ?_
       refine xThenR ?_
       exact rDone (.inr rfl) rfl
     · refine rSkip ?_
       refine rThen ?_
       refine rSeq ?_
       refine cLess [5, 1, 0] ?_
       refine xR hE [0, 1, 5, 7] rfl (ir_Next_r4_ok F _ _ _ _) ?_
       intro x0 x1 x5 x7
       show OKq _ _ _ [(7, x7), (5, x5), (1, x1), (0, x0)] _
       refine rThen ?_
       refine rSeq ?_
       refine rSeq ?_
       refine cLess [7, 5, 1, 0] ?_
       refine xR hE [0, 1, 5, 7, 24] rfl (ir_Next_r5_ok F _ _ _ _ _) ?_
       intro x0 x1 x5 x7 x24
       show OKq _ _ _ [(24, x24), (7, x7), (5, x5), (1, x1), (0, x0)] _
       refine rThen ?_
       refine xCond rfl rfl ?_ ?_
       · refine rSeq ?_
         refine cLess [1] ?_
         refine xR hE [4] rfl (ir_Next_r6_ok F _ _) ?_
         intro x4
         show OKq _ _ _ [(4, x4)] _
         refine rThen ?_
         refine rRet ?_
         refine xThenR ?_
         exact rDone (.inr rfl) rfl
       · refine rSkip ?_
         refine rThen ?_
         refine rSeq ?_
         refine cLess [7, 5, 0] ?_
         refine xR hE [0, 5, 7, 8] rfl (ir_Next_r7_ok F _ _ _ _) ?_
         intro x0 x5 x7 x8
         show OKq _ _ _ [(8, x8), (7, x7), (5, x5), (0, x0)] _
         refine rThen ?_
         refine xSeq [8] (ir_Next_k0 F ) ?_ fun hj0 => ?_
         · intro x8
           show OKc _ _ [(8, x8)] _ _
           refine rSeq ?_
           refine cLess [8] ?_
           refine xR hE [4] rfl (ir_Next_r15_ok F _ _) ?_
           intro x4
           show OKq _ _ _ [(4, x4)] _
           refine rThen ?_
           refine rRet ?_
           exact rDone (.inr rfl) rfl
         · refine rSeq ?_
           refine cLess [8, 7, 5, 0] ?_
           refine xR hE [0, 5, 8, 29, 30, 31] rfl (ir_Next_r8_ok F _ _ _ _ _) ?_
           intro x0 x5 x8 x29 x30 x31
           show OKq _ _ _ [(31, x31), (30, x30), (29, x29), (8, x8), (5, x5), (0, x0)] _
           refine rThen ?_
           refine rBlock ?_
           refine cLess [31, 30, 29, 8, 5, 0] ?_
           refine xLoopAt [0, 5, 8, 29, 30, 31] [] (fun k1 => ir_Next_l1 F (fun x8 => ir_Next_k0 F x8) k1) F [x0, x5, x8, x29, x30, x31] rfl rfl (fun _ _ _ _ _ _ => rfl) fun I hI1 k1 => ?_
           intro x0 x5 x8 x29 x30 x31
           show OKc _ _ [(31, x31), (30, x30), (29, x29), (8, x8), (5, x5), (0, x0)] _ _
           refine cAs (ir_Next_l1_s F _ _ _ _ _ _ _ _) ?_
           refine rSeq ?_
           refine cLess [31, 30, 29, 8, 5, 0] ?_
           refine xR hE [0, 5, 8, 29, 30, 31, 32] rfl (ir_Next_r9_ok F _ _ _ _ _ _ _) ?_
           intro x0 x5 x8 x29 x30 x31 x32
           show OKq _ _ _ [(32, x32), (31, x31), (30, x30), (29, x29), (8, x8), (5, x5), (0, x0)] _
           refine rThen ?_
           refine rSeq ?_
           refine xCond rfl rfl ?_ ?_
           · refine rSkip ?_
             refine rThen ?_
             refine xSeq [0, 5, 8, 29, 30, 31] (ir_Next_k2 F (ir_Next_l1 F (fun x8 => ir_Next_k0 F x8) k1) ) ?_ fun hj2 => ?_
             · intro x0 x5 x8 x29 x30 x31
               show OKc _ _ [(31, x31), (30, x30), (29, x29), (8, x8), (5, x5), (0, x0)] _ _
               refine cLess [31, 30, 29, 8, 5, 0] ?_
               refine xR hE [0, 5, 8, 29, 30, 31] rfl (ir_Next_r14_ok F _ _ _ _ _ _ _) ?_
               intro x0 x5 x8 x29 x30 x31
               show OKq _ _ _ [(31, x31), (30, x30), (29, x29), (8, x8), (5, x5), (0, x0)] _
               exact qLess [31, 30, 29, 8, 5, 0] (hI1 k1 x0 x5 x8 x29 x30 x31)
             · refine rBlock ?_
               refine rSeq ?_
               refine cLess [31, 30, 29, 8, 5, 0] ?_
               refine xR hE [0, 5, 8, 10, 29, 30, 31] rfl (ir_Next_r10_ok F _ _ _ _ _ _ _) ?_
               intro x0 x5 x8 x10 x29 x30 x31
               show OKq _ _ _ [(31, x31), (30, x30), (29, x29), (10, x10), (8, x8), (5, x5), (0, x0)] _
               refine rThen ?_
               refine rSeq ?_
               refine cLess [31, 30, 29, 10, 8, 5, 0] ?_
               refine xR hE [0, 5, 8, 11, 29, 30, 31] rfl (ir_Next_r11_ok F _ _ _ _ _ _ _ _) ?_
               intro x0 x5 x8 x11 x29 x30 x31
               show OKq _ _ _ [(31, x31), (30, x30), (29, x29), (11, x11), (8, x8), (5, x5), (0, x0)] _
               refine rThen ?_
               refine rSeq ?_
               refine cLess [31, 30, 29, 11, 8, 5, 0] ?_
               refine xR hE [0, 5, 8, 11, 29, 30, 31, 42] rfl (ir_Next_r12_ok F _ _ _ _ _ _ _ _) ?_
               intro x0 x5 x8 x11 x29 x30 x31 x42
               show OKq _ _ _ [(42, x42), (31, x31), (30, x30), (29, x29), (11, x11), (8, x8), (5, x5), (0, x0)] _
               refine rThen ?_
               refine xCond rfl rfl ?_ ?_
               · refine cLess [31, 30, 29, 11, 8, 5, 0] ?_
                 refine xR hE [0, 5, 8, 29, 30, 31] rfl (ir_Next_r13_ok F _ _ _ _ _ _ _ _) ?_
                 intro x0 x5 x8 x29 x30 x31
                 show OKq _ _ _ [(31, x31), (30, x30), (29, x29), (8, x8), (5, x5), (0, x0)] _
                 refine xBlockN ?_
                 exact qLess [31, 30, 29, 8, 5, 0] (hj2 x0 x5 x8 x29 x30 x31)
               · refine rSkip ?_
                 refine xBlockN ?_
                 exact qLess [31, 30, 29, 8, 5, 0] (hj2 x0 x5 x8 x29 x30 x31)
           · refine rExit ?_
             refine xThenX ?_
             refine xThenX ?_
             refine rOut ?_
             exact qLess [8] (hj0 x8)
   · exact rFail


/-! ### slices.insertionSortOrdered[int] -/

def slices_insertionSortOrdered_env (F : Nat) : Env := envOf [(77, cmp_Less_m F)]

noncomputable def slices_insertionSortOrdered_R (F : Nat) := rK Try.prog TryG (slices_insertionSortOrdered_env F) Try.f71
noncomputable def slices_insertionSortOrdered_D (F : Nat) := dK Try.prog TryG (slices_insertionSortOrdered_env F) Try.f71

def slices_insertionSortOrdered_r2 (F : Nat) (x0 x1 x2 x6 : Value) (K : Value → Value → Value → Value → M Value) : M Value :=
  bnd (opBin .add x6 (.int .i64 (1))) fun v14 => K x0 x1 x2 v14

theorem slices_insertionSortOrdered_r2_ok (F : Nat) (x0 x1 x2 x6 : Value) (K : Value → Value → Value → Value → M Value) : slices_insertionSortOrdered_r2 F x0 x1 x2 x6 K = slices_insertionSortOrdered_R F 2 [(6, x6), (2, x2), (1, x1), (0, x0)] [0, 1, 2, 6] K := by kernel_rfl

def slices_insertionSortOrdered_k1 (F : Nat) (A0 : Value → Value → Value → Value → M Value) (x0 x1 x2 x6 : Value) : M Value :=
  slices_insertionSortOrdered_r2 F x0 x1 x2 x6 (fun x0 x1 x2 x6 => A0 x0 x1 x2 x6)

def slices_insertionSortOrdered_r5 (F : Nat) (x0 x1 x2 x6 x7 : Value) (K : Value → Value → Value → Value → Value → M Value) : M Value :=
  bnd (opBin .sub x7 (.int .i64 (1))) fun v32 => K x0 x1 x2 x6 v32

theorem slices_insertionSortOrdered_r5_ok (F : Nat) (x0 x1 x2 x6 x7 : Value) (K : Value → Value → Value → Value → Value → M Value) : slices_insertionSortOrdered_r5 F x0 x1 x2 x6 x7 K = slices_insertionSortOrdered_R F 5 [(7, x7), (6, x6), (2, x2), (1, x1), (0, x0)] [0, 1, 2, 6, 7] K := by kernel_rfl

def slices_insertionSortOrdered_r6 (F : Nat) (x0 x1 x2 x6 x7 : Value) (K : Value → Value → Value → Value → Value → M Value) : M Value :=
  bnd (opBin .sub x7 (.int .i64 (1))) fun v37 => bnd (opBin .sub x7 (.int .i64 (1))) fun v40 => bnd (opIndexAddr 1 x0 v40) fun v41 => bnd (opLoad v41) fun v42 => bnd (opIndexAddr 1 x0 x7) fun v45 => bnd (opLoad v45) fun v46 => bnd (opIndexAddr 1 x0 x7) fun v47 => bnd (opStore v47 v42) fun _ => bnd (opIndexAddr 1 x0 v37) fun v48 => bnd (opStore v48 v46) fun _ => K x0 x1 x2 x6 x7

theorem slices_insertionSortOrdered_r6_ok (F : Nat) (x0 x1 x2 x6 x7 : Value) (K : Value → Value → Value → Value → Value → M Value) : slices_insertionSortOrdered_r6 F x0 x1 x2 x6 x7 K = slices_insertionSortOrdered_D F 6 [0, 1, 2, 3, 4, 5, 6, 7, 8, 9, 10, 11, 12, 13, 14, 15, 16, 17] [(7, x7), (6, x6), (2, x2), (1, x1), (0, x0)] [0, 1, 2, 6, 7] K := by kernel_rfl

theorem slices_insertionSortOrdered_r6_good : goodOrder (opsOf Try.f71 6) [0, 1, 2, 3, 4, 5, 6, 7, 8, 9, 10, 11, 12, 13, 14, 15, 16, 17] = true := by kernel_rfl

def slices_insertionSortOrdered_r4 (F : Nat) (x0 x1 x2 x6 x7 : Value) (K : Value → Value → Value → Value → Value → Value → M Value) : M Value :=
  bnd (opBin .gtr x7 x1) fun v18 => onB v18 (bnd (opIndexAddr 1 x0 x7) fun v22 => bnd (opLoad v22) fun v23 => bnd (opBin .sub x7 (.int .i64 (1))) fun v26 => bnd (opIndexAddr 1 x0 v26) fun v27 => bnd (opLoad v27) fun v28 => bnd (cmp_Less F v23 v28) fun v29 => K x0 x1 x2 x6 x7 v29) (K x0 x1 x2 x6 x7 (.bool false))

theorem slices_insertionSortOrdered_r4_ok (F : Nat) (x0 x1 x2 x6 x7 : Value) (K : Value → Value → Value → Value → Value → Value → M Value) : slices_insertionSortOrdered_r4 F x0 x1 x2 x6 x7 K = slices_insertionSortOrdered_D F 4 [0, 1, 2, 3, 4, 5, 6, 7, 8, 9, 10, 11, 12, 13, 14] [(7, x7), (6, x6), (2, x2), (1, x1), (0, x0)] [0, 1, 2, 6, 7, 30] K := by kernel_rfl

theorem slices_insertionSortOrdered_r4_good : goodOrder (opsOf Try.f71 4) [0, 1, 2, 3, 4, 5, 6, 7, 8, 9, 10, 11, 12, 13, 14] = true := by kernel_rfl

def slices_insertionSortOrdered_b2 (F : Nat) (E2_2 : Value → Value → Value → Value → M Value) (A2 : Value → Value → Value → Value → Value → M Value) (x0 x1 x2 x6 x7 : Value) : M Value :=
  slices_insertionSortOrdered_r4 F x0 x1 x2 x6 x7 (fun x0 x1 x2 x6 x7 x30 => onB x30 (slices_insertionSortOrdered_r6 F x0 x1 x2 x6 x7 (fun x0 x1 x2 x6 x7 => slices_insertionSortOrdered_r5 F x0 x1 x2 x6 x7 (fun x0 x1 x2 x6 x7 => A2 x0 x1 x2 x6 x7))) (E2_2 x0 x1 x2 x6))

def slices_insertionSortOrdered_l2 (F : Nat) (E2_2 : Value → Value → Value → Value → M Value) : Nat → Value → Value → Value → Value → Value → M Value
  | 0, _, _, _, _, _ => fail
  | k2 + 1, x0, x1, x2, x6, x7 => slices_insertionSortOrdered_b2 F E2_2 (slices_insertionSortOrdered_l2 F E2_2 k2) x0 x1 x2 x6 x7

theorem slices_insertionSortOrdered_l2_s (F : Nat) (E2_2 : Value → Value → Value → Value → M Value) (k2 : Nat) (x0 x1 x2 x6 x7 : Value) : slices_insertionSortOrdered_l2 F E2_2 (k2 + 1) x0 x1 x2 x6 x7 = slices_insertionSortOrdered_b2 F E2_2 (slices_insertionSortOrdered_l2 F E2_2 k2) x0 x1 x2 x6 x7 := rfl

def slices_insertionSortOrdered_r3 (F : Nat) (x0 x1 x2 x6 : Value) (K : Value → Value → Value → Value → Value → M Value) : M Value :=
  K x0 x1 x2 x6 x6

theorem slices_insertionSortOrdered_r3_ok (F : Nat) (x0 x1 x2 x6 : Value) (K : Value → Value → Value → Value → Value → M Value) : slices_insertionSortOrdered_r3 F x0 x1 x2 x6 K = slices_insertionSortOrdered_R F 3 [(6, x6), (2, x2), (1, x1), (0, x0)] [0, 1, 2, 6, 7] K := by kernel_rfl

def slices_insertionSortOrdered_r1 (F : Nat) (x0 x1 x2 x6 : Value) (K : Value → Value → Value → Value → Value → M Value) : M Value :=
  bnd (opBin .lss x6 x2) fun v12 => K x0 x1 x2 x6 v12

theorem slices_insertionSortOrdered_r1_ok (F : Nat) (x0 x1 x2 x6 : Value) (K : Value → Value → Value → Value → Value → M Value) : slices_insertionSortOrdered_r1 F x0 x1 x2 x6 K = slices_insertionSortOrdered_R F 1 [(6, x6), (2, x2), (1, x1), (0, x0)] [0, 1, 2, 6, 12] K := by kernel_rfl

def slices_insertionSortOrdered_b0 (F : Nat) (E0_0 : M Value) (A0 : Value → Value → Value → Value → M Value) (x0 x1 x2 x6 : Value) : M Value :=
  slices_insertionSortOrdered_r1 F x0 x1 x2 x6 (fun x0 x1 x2 x6 x12 => onB x12 (slices_insertionSortOrdered_r3 F x0 x1 x2 x6 (fun x0 x1 x2 x6 x7 => slices_insertionSortOrdered_l2 F (fun x0 x1 x2 x6 => slices_insertionSortOrdered_k1 F A0 x0 x1 x2 x6) F x0 x1 x2 x6 x7)) (E0_0 ))

def slices_insertionSortOrdered_l0 (F : Nat) (E0_0 : M Value) : Nat → Value → Value → Value → Value → M Value
  | 0, _, _, _, _ => fail
  | k0 + 1, x0, x1, x2, x6 => slices_insertionSortOrdered_b0 F E0_0 (slices_insertionSortOrdered_l0 F E0_0 k0) x0 x1 x2 x6

theorem slices_insertionSortOrdered_l0_s (F : Nat) (E0_0 : M Value) (k0 : Nat) (x0 x1 x2 x6 : Value) : slices_insertionSortOrdered_l0 F E0_0 (k0 + 1) x0 x1 x2 x6 = slices_insertionSortOrdered_b0 F E0_0 (slices_insertionSortOrdered_l0 F E0_0 k0) x0 x1 x2 x6 := rfl

def slices_insertionSortOrdered_r0 (F : Nat) (x0 x1 x2 : Value) (K : Value → Value → Value → Value → M Value) : M Value :=
  bnd (opBin .add x1 (.int .i64 (1))) fun v9 => K x0 x1 x2 v9

theorem slices_insertionSortOrdered_r0_ok (F : Nat) (x0 x1 x2 : Value) (K : Value → Value → Value → Value → M Value) : slices_insertionSortOrdered_r0 F x0 x1 x2 K = slices_insertionSortOrdered_R F 0 [(2, x2), (1, x1), (0, x0)] [0, 1, 2, 6] K := by kernel_rfl

def slices_insertionSortOrdered (F : Nat) (x0 x1 x2 : Value) : M Value :=
  slices_insertionSortOrdered_r0 F x0 x1 x2 (fun x0 x1 x2 x6 => slices_insertionSortOrdered_l0 F (tupK []) F x0 x1 x2 x6)

def slices_insertionSortOrdered_m (F : Nat) : List Value → M Value
  | [x0, x1, x2] => slices_insertionSortOrdered F x0 x1 x2
  | _ => fail

theorem slices_insertionSortOrdered_body : Try.f71.body = some (.seq (.region 0 (opsOf Try.f71 0) false) (.block 0 (.loop (.seq (.seq (.region 1 (opsOf Try.f71 1) false) (.cond (.tmp 12) .skip (.exit 0))) (.seq (.block 1 (.seq (.region 3 (opsOf Try.f71 3) false) (.block 2 (.loop (.seq (.seq (.region 4 (opsOf Try.f71 4) true) (.cond (.tmp 30) .skip (.exit 2))) (.seq (.block 3 (.region 6 (opsOf Try.f71 6) true)) (.region 5 (opsOf Try.f71 5) false))))))) (.region 2 (opsOf Try.f71 2) false)))))) := by kernel_rfl

theorem slices_insertionSortOrdered_ok (F : Nat) : Sim Try.prog TryG 71 (slices_insertionSortOrdered_m F) := by
 have hE : EnvOK Try.prog TryG (slices_insertionSortOrdered_env F) := (EnvOK.cons (cmp_Less_ok F) EnvOK.nil)
 refine Sim.of_body (E := slices_insertionSortOrdered_env F) Try.func71 slices_insertionSortOrdered_body Try.call71 ?_ ?_
 · intro args hl; unfold slices_insertionSortOrdered_m; split
   · exact absurd hl (Nat.not_lt.2 (Nat.le_of_ble_eq_true rfl))
   · rfl
 · intro args ρ h w z; unfold slices_insertionSortOrdered_m; split
   · rename_i x0 x1 x2; show OKc _ _ [(0, x0), (1, x1), (2, x2)] _ _
     refine rSeq ?_
     refine cLess [2, 1, 0] ?_
     refine xR hE [0, 1, 2, 6] rfl (slices_insertionSortOrdered_r0_ok F _ _ _ _) ?_
     intro x0 x1 x2 x6
     show OKq _ _ _ [(6, x6), (2, x2), (1, x1), (0, x0)] _
     refine rThen ?_
     refine rBlock ?_
     refine cLess [6, 2, 1, 0] ?_
     refine xLoopAt [0, 1, 2, 6] [] (fun k0 => slices_insertionSortOrdered_l0 F (tupK []) k0) F [x0, x1, x2, x6] rfl rfl (fun _ _ _ _ => rfl) fun I hI0 k0 => ?_
     intro x0 x1 x2 x6
     show OKc _ _ [(6, x6), (2, x2), (1, x1), (0, x0)] _ _
     refine cAs (slices_insertionSortOrdered_l0_s F _ _ _ _ _ _) ?_
     refine rSeq ?_
     refine rSeq ?_
     refine cLess [6, 2, 1, 0] ?_
     refine xR hE [0, 1, 2, 6, 12] rfl (slices_insertionSortOrdered_r1_ok F _ _ _ _ _) ?_
     intro x0 x1 x2 x6 x12
     show OKq _ _ _ [(12, x12), (6, x6), (2, x2), (1, x1), (0, x0)] _
     refine rThen ?_
     refine xCond rfl rfl ?_ ?_
     · refine rSkip ?_
       refine rThen ?_
       refine xSeq [0, 1, 2, 6] (slices_insertionSortOrdered_k1 F (slices_insertionSortOrdered_l0 F (tupK []) k0) ) ?_ fun hj1 => ?_
       · intro x0 x1 x2 x6
         show OKc _ _ [(6, x6), (2, x2), (1, x1), (0, x0)] _ _
         refine cLess [6, 2, 1, 0] ?_
         refine xR hE [0, 1, 2, 6] rfl (slices_insertionSortOrdered_r2_ok F _ _ _ _ _) ?_
         intro x0 x1 x2 x6
         show OKq _ _ _ [(6, x6), (2, x2), (1, x1), (0, x0)] _
         exact qLess [6, 2, 1, 0] (hI0 k0 x0 x1 x2 x6)
       · refine rBlock ?_
         refine rSeq ?_
         refine cLess [6, 2, 1, 0] ?_
         refine xR hE [0, 1, 2, 6, 7] rfl (slices_insertionSortOrdered_r3_ok F _ _ _ _ _) ?_
         intro x0 x1 x2 x6 x7
         show OKq _ _ _ [(7, x7), (6, x6), (2, x2), (1, x1), (0, x0)] _
         refine rThen ?_
         refine rBlock ?_
         refine cLess [7, 6, 2, 1, 0] ?_
         refine xLoopAt [0, 1, 2, 6, 7] [] (fun k2 => slices_insertionSortOrdered_l2 F (fun x0 x1 x2 x6 => slices_insertionSortOrdered_k1 F (slices_insertionSortOrdered_l0 F (tupK []) k0) x0 x1 x2 x6) k2) F [x0, x1, x2, x6, x7] rfl rfl (fun _ _ _ _ _ => rfl) fun I hI2 k2 => ?_
         intro x0 x1 x2 x6 x7
         show OKc _ _ [(7, x7), (6, x6), (2, x2), (1, x1), (0, x0)] _ _
         refine cAs (slices_insertionSortOrdered_l2_s F _ _ _ _ _ _ _) ?_
         refine rSeq ?_
         refine rSeq ?_
         refine cLess [7, 6, 2, 1, 0] ?_
         refine xD Trymix hE [0, 1, 2, 6, 7, 30] rfl slices_insertionSortOrdered_r4_good (slices_insertionSortOrdered_r4_ok F _ _ _ _ _ _) ?_
         intro x0 x1 x2 x6 x7 x30
         show OKq _ _ _ [(30, x30), (7, x7), (6, x6), (2, x2), (1, x1), (0, x0)] _
         refine rThen ?_
         refine xCond rfl rfl ?_ ?_
         · refine rSkip ?_
           refine rThen ?_
           refine rSeq ?_
           refine rBlock ?_
           refine cLess [7, 6, 2, 1, 0] ?_
           refine xD Trymix hE [0, 1, 2, 6, 7] rfl slices_insertionSortOrdered_r6_good (slices_insertionSortOrdered_r6_ok F _ _ _ _ _ _) ?_
           intro x0 x1 x2 x6 x7
           show OKq _ _ _ [(7, x7), (6, x6), (2, x2), (1, x1), (0, x0)] _
           refine xBlockN ?_
           refine rThen ?_
           refine cLess [7, 6, 2, 1, 0] ?_
           refine xR hE [0, 1, 2, 6, 7] rfl (slices_insertionSortOrdered_r5_ok F _ _ _ _ _ _) ?_
           intro x0 x1 x2 x6 x7
           show OKq _ _ _ [(7, x7), (6, x6), (2, x2), (1, x1), (0, x0)] _
           exact qLess [7, 6, 2, 1, 0] (hI2 k2 x0 x1 x2 x6 x7)
         · refine rExit ?_
           refine xThenX ?_
           refine xThenX ?_
           refine rOut ?_
           refine xBlockN ?_
           exact qLess [6, 2, 1, 0] (hj1 x0 x1 x2 x6)
     · refine rExit ?_
       refine xThenX ?_
       refine xThenX ?_
       refine rOut ?_
       exact rDone (.inl rfl) rfl
   · exact rFail


/-! ### haruspex/reach.Of -/

def reach_Of_env (F : Nat) : Env := envOf [(47, ir_Number_m F), (48, ir_Next_m F)]

noncomputable def reach_Of_R (F : Nat) := rK Try.prog TryG (reach_Of_env F) Try.f29
noncomputable def reach_Of_D (F : Nat) := dK Try.prog TryG (reach_Of_env F) Try.f29

def reach_Of_r21 (F : Nat) (x6 : Value) (K : Value → M Value) : M Value :=
  K x6

theorem reach_Of_r21_ok (F : Nat) (x6 : Value) (K : Value → M Value) : reach_Of_r21 F x6 K = reach_Of_R F 21 [(6, x6)] [4] K := by kernel_rfl

def reach_Of_k0 (F : Nat) (x6 : Value) : M Value :=
  reach_Of_r21 F x6 (fun x4 => ret x4)

def reach_Of_r20 (F : Nat) (x0 x5 x6 x47 x48 : Value) (K : Value → Value → Value → Value → Value → M Value) : M Value :=
  bnd (opBin .add x48 (.int .i64 (1))) fun v84 => K x0 x5 x6 x47 v84

theorem reach_Of_r20_ok (F : Nat) (x0 x5 x6 x47 x48 : Value) (K : Value → Value → Value → Value → Value → M Value) : reach_Of_r20 F x0 x5 x6 x47 x48 K = reach_Of_R F 20 [(48, x48), (47, x47), (6, x6), (5, x5), (0, x0)] [0, 5, 6, 47, 48] K := by kernel_rfl

def reach_Of_k2 (F : Nat) (A1 : Value → Value → Value → Value → Value → M Value) (x0 x5 x6 x47 x48 : Value) : M Value :=
  reach_Of_r20 F x0 x5 x6 x47 x48 (fun x0 x5 x6 x47 x48 => A1 x0 x5 x6 x47 x48)

def reach_Of_r19 (F : Nat) (x0 x5 x6 x10 x47 x48 x55 x56 x57 : Value) (K : Value → Value → Value → Value → Value → Value → Value → Value → Value → M Value) : M Value :=
  bnd (opBin .add x57 (.int .i64 (1))) fun v83 => K x0 x5 x6 x10 x47 x48 x55 x56 v83

theorem reach_Of_r19_ok (F : Nat) (x0 x5 x6 x10 x47 x48 x55 x56 x57 : Value) (K : Value → Value → Value → Value → Value → Value → Value → Value → Value → M Value) : reach_Of_r19 F x0 x5 x6 x10 x47 x48 x55 x56 x57 K = reach_Of_R F 19 [(57, x57), (56, x56), (55, x55), (48, x48), (47, x47), (10, x10), (6, x6), (5, x5), (0, x0)] [0, 5, 6, 10, 47, 48, 55, 56, 57] K := by kernel_rfl

def reach_Of_r18 (F : Nat) (x0 x5 x6 x10 x12 x47 x48 x55 x56 x57 : Value) (K : Value → Value → Value → Value → Value → Value → Value → Value → Value → M Value) : M Value :=
  bnd (opNil x6) fun v62 => bnd (opFieldAddr 1 v62) fun v63 => bnd (opLoad v63) fun v64 => bnd (opBin .sub x12 x5) fun v67 => bnd (opNil x6) fun v69 => bnd (opFieldAddr 1 v69) fun v70 => bnd (opLoad v70) fun v71 => bnd (opBin .sub x12 x5) fun v74 => bnd (opIndexAddr 1 v71 v74) fun v75 => bnd (opLoad v75) fun v76 => bnd (opBin .add x5 x10) fun v79 => bnd (opBuildSlice 1 (rep 1 [(.int .i64 (0))]) [(0, 1, false, v79)]) fun v80 => bnd (opAppend 1 8 v76 v80) fun v81 => bnd (opChk false v63 v64) fun _ => bnd (opIndexAddr 1 v64 v67) fun v82 => bnd (opStore v82 v81) fun _ => K x0 x5 x6 x10 x47 x48 x55 x56 x57

theorem reach_Of_r18_ok (F : Nat) (x0 x5 x6 x10 x12 x47 x48 x55 x56 x57 : Value) (K : Value → Value → Value → Value → Value → Value → Value → Value → Value → M Value) : reach_Of_r18 F x0 x5 x6 x10 x12 x47 x48 x55 x56 x57 K = reach_Of_D F 18 [0, 1, 2, 3, 4, 5, 6, 7, 8, 9, 10, 11, 12, 13, 14, 15, 16, 17, 18, 19, 20, 21, 22] [(57, x57), (56, x56), (55, x55), (48, x48), (47, x47), (12, x12), (10, x10), (6, x6), (5, x5), (0, x0)] [0, 5, 6, 10, 47, 48, 55, 56, 57] K := by kernel_rfl

theorem reach_Of_r18_good : goodOrder (opsOf Try.f29 18) [0, 1, 2, 3, 4, 5, 6, 7, 8, 9, 10, 11, 12, 13, 14, 15, 16, 17, 18, 19, 20, 21, 22] = true := by kernel_rfl

def reach_Of_r17 (F : Nat) (x0 x5 x6 x10 x47 x48 x55 x56 x57 : Value) (K : Value → Value → Value → Value → Value → Value → Value → Value → Value → Value → M Value) : M Value :=
  bnd (opIndexAddr 1 x55 x57) fun v59 => bnd (opLoad v59) fun v60 => K x0 x5 x6 x10 v60 x47 x48 x55 x56 x57

theorem reach_Of_r17_ok (F : Nat) (x0 x5 x6 x10 x47 x48 x55 x56 x57 : Value) (K : Value → Value → Value → Value → Value → Value → Value → Value → Value → Value → M Value) : reach_Of_r17 F x0 x5 x6 x10 x47 x48 x55 x56 x57 K = reach_Of_R F 17 [(57, x57), (56, x56), (55, x55), (48, x48), (47, x47), (10, x10), (6, x6), (5, x5), (0, x0)] [0, 5, 6, 10, 12, 47, 48, 55, 56, 57] K := by kernel_rfl

def reach_Of_r16 (F : Nat) (x0 x5 x6 x10 x47 x48 x55 x56 x57 : Value) (K : Value → Value → Value → Value → Value → Value → Value → Value → Value → Value → M Value) : M Value :=
  bnd (opBin .lss x57 x56) fun v58 => K x0 x5 x6 x10 x47 x48 x55 x56 x57 v58

theorem reach_Of_r16_ok (F : Nat) (x0 x5 x6 x10 x47 x48 x55 x56 x57 : Value) (K : Value → Value → Value → Value → Value → Value → Value → Value → Value → Value → M Value) : reach_Of_r16 F x0 x5 x6 x10 x47 x48 x55 x56 x57 K = reach_Of_R F 16 [(57, x57), (56, x56), (55, x55), (48, x48), (47, x47), (10, x10), (6, x6), (5, x5), (0, x0)] [0, 5, 6, 10, 47, 48, 55, 56, 57, 58] K := by kernel_rfl

def reach_Of_b3 (F : Nat) (E3_4 : Value → Value → Value → Value → Value → M Value) (A3 : Value → Value → Value → Value → Value → Value → Value → Value → Value → M Value) (x0 x5 x6 x10 x47 x48 x55 x56 x57 : Value) : M Value :=
  reach_Of_r16 F x0 x5 x6 x10 x47 x48 x55 x56 x57 (fun x0 x5 x6 x10 x47 x48 x55 x56 x57 x58 => onB x58 (reach_Of_r17 F x0 x5 x6 x10 x47 x48 x55 x56 x57 (fun x0 x5 x6 x10 x12 x47 x48 x55 x56 x57 => reach_Of_r18 F x0 x5 x6 x10 x12 x47 x48 x55 x56 x57 (fun x0 x5 x6 x10 x47 x48 x55 x56 x57 => reach_Of_r19 F x0 x5 x6 x10 x47 x48 x55 x56 x57 (fun x0 x5 x6 x10 x47 x48 x55 x56 x57 => A3 x0 x5 x6 x10 x47 x48 x55 x56 x57)))) (E3_4 x0 x5 x6 x47 x48))

def reach_Of_l3 (F : Nat) (E3_4 : Value → Value → Value → Value → Value → M Value) : Nat → Value → Value → Value → Value → Value → Value → Value → Value → Value → M Value
  | 0, _, _, _, _, _, _, _, _, _ => fail
  | k3 + 1, x0, x5, x6, x10, x47, x48, x55, x56, x57 => reach_Of_b3 F E3_4 (reach_Of_l3 F E3_4 k3) x0 x5 x6 x10 x47 x48 x55 x56 x57

theorem reach_Of_l3_s (F : Nat) (E3_4 : Value → Value → Value → Value → Value → M Value) (k3 : Nat) (x0 x5 x6 x10 x47 x48 x55 x56 x57 : Value) : reach_Of_l3 F E3_4 (k3 + 1) x0 x5 x6 x10 x47 x48 x55 x56 x57 = reach_Of_b3 F E3_4 (reach_Of_l3 F E3_4 k3) x0 x5 x6 x10 x47 x48 x55 x56 x57 := rfl

def reach_Of_r15 (F : Nat) (x0 x5 x6 x10 x47 x48 : Value) (K : Value → Value → Value → Value → Value → Value → Value → Value → Value → M Value) : M Value :=
  bnd (opBin .add x5 x10) fun v54 => bnd (ir_Next F x0 v54) fun v55 => bnd (opLen v55) fun v56 => K x0 x5 x6 x10 x47 x48 v55 v56 (.int .i64 (0))

theorem reach_Of_r15_ok (F : Nat) (x0 x5 x6 x10 x47 x48 : Value) (K : Value → Value → Value → Value → Value → Value → Value → Value → Value → M Value) : reach_Of_r15 F x0 x5 x6 x10 x47 x48 K = reach_Of_R F 15 [(48, x48), (47, x47), (10, x10), (6, x6), (5, x5), (0, x0)] [0, 5, 6, 10, 47, 48, 55, 56, 57] K := by kernel_rfl

def reach_Of_r14 (F : Nat) (x0 x5 x6 x47 x48 : Value) (K : Value → Value → Value → Value → Value → Value → M Value) : M Value :=
  K x0 x5 x6 x48 x47 x48

theorem reach_Of_r14_ok (F : Nat) (x0 x5 x6 x47 x48 : Value) (K : Value → Value → Value → Value → Value → Value → M Value) : reach_Of_r14 F x0 x5 x6 x47 x48 K = reach_Of_R F 14 [(48, x48), (47, x47), (6, x6), (5, x5), (0, x0)] [0, 5, 6, 10, 47, 48] K := by kernel_rfl

def reach_Of_r13 (F : Nat) (x0 x5 x6 x47 x48 : Value) (K : Value → Value → Value → Value → Value → Value → M Value) : M Value :=
  bnd (opBin .lss x48 x47) fun v49 => K x0 x5 x6 x47 x48 v49

theorem reach_Of_r13_ok (F : Nat) (x0 x5 x6 x47 x48 : Value) (K : Value → Value → Value → Value → Value → Value → M Value) : reach_Of_r13 F x0 x5 x6 x47 x48 K = reach_Of_R F 13 [(48, x48), (47, x47), (6, x6), (5, x5), (0, x0)] [0, 5, 6, 47, 48, 49] K := by kernel_rfl

def reach_Of_b1 (F : Nat) (E1_2 : Value → M Value) (A1 : Value → Value → Value → Value → Value → M Value) (x0 x5 x6 x47 x48 : Value) : M Value :=
  reach_Of_r13 F x0 x5 x6 x47 x48 (fun x0 x5 x6 x47 x48 x49 => onB x49 (reach_Of_r14 F x0 x5 x6 x47 x48 (fun x0 x5 x6 x10 x47 x48 => reach_Of_r15 F x0 x5 x6 x10 x47 x48 (fun x0 x5 x6 x10 x47 x48 x55 x56 x57 => reach_Of_l3 F (fun x0 x5 x6 x47 x48 => reach_Of_k2 F A1 x0 x5 x6 x47 x48) F x0 x5 x6 x10 x47 x48 x55 x56 x57))) (E1_2 x6))

def reach_Of_l1 (F : Nat) (E1_2 : Value → M Value) : Nat → Value → Value → Value → Value → Value → M Value
  | 0, _, _, _, _, _ => fail
  | k1 + 1, x0, x5, x6, x47, x48 => reach_Of_b1 F E1_2 (reach_Of_l1 F E1_2 k1) x0 x5 x6 x47 x48

theorem reach_Of_l1_s (F : Nat) (E1_2 : Value → M Value) (k1 : Nat) (x0 x5 x6 x47 x48 : Value) : reach_Of_l1 F E1_2 (k1 + 1) x0 x5 x6 x47 x48 = reach_Of_b1 F E1_2 (reach_Of_l1 F E1_2 k1) x0 x5 x6 x47 x48 := rfl

def reach_Of_r12 (F : Nat) (x0 x5 x6 x7 : Value) (K : Value → Value → Value → Value → Value → M Value) : M Value :=
  K x0 x5 x6 x7 (.int .i64 (0))

theorem reach_Of_r12_ok (F : Nat) (x0 x5 x6 x7 : Value) (K : Value → Value → Value → Value → Value → M Value) : reach_Of_r12 F x0 x5 x6 x7 K = reach_Of_R F 12 [(7, x7), (6, x6), (5, x5), (0, x0)] [0, 5, 6, 47, 48] K := by kernel_rfl

def reach_Of_r11 (F : Nat) (x0 x5 x6 x7 : Value) (K : Value → Value → Value → Value → M Value) : M Value :=
  bnd (opMake 24 [(.slice none 0 0)] x7 x7) fun v44 => bnd (opNil x6) fun v45 => bnd (opFieldAddr 1 v45) fun v46 => bnd (opStore v46 v44) fun _ => K x0 x5 x6 x7

theorem reach_Of_r11_ok (F : Nat) (x0 x5 x6 x7 : Value) (K : Value → Value → Value → Value → M Value) : reach_Of_r11 F x0 x5 x6 x7 K = reach_Of_R F 11 [(7, x7), (6, x6), (5, x5), (0, x0)] [0, 5, 6, 7] K := by kernel_rfl

def reach_Of_k4 (F : Nat) (x0 x5 x6 x7 : Value) : M Value :=
  reach_Of_r11 F x0 x5 x6 x7 (fun x0 x5 x6 x7 => reach_Of_r12 F x0 x5 x6 x7 (fun x0 x5 x6 x47 x48 => reach_Of_l1 F (fun x6 => reach_Of_k0 F x6) F x0 x5 x6 x47 x48))

def reach_Of_r10 (F : Nat) (x0 x5 x6 x7 x29 x30 x31 : Value) (K : Value → Value → Value → Value → Value → Value → Value → M Value) : M Value :=
  bnd (opBin .add x31 (.int .i64 (1))) fun v41 => K x0 x5 x6 x7 x29 x30 v41

theorem reach_Of_r10_ok (F : Nat) (x0 x5 x6 x7 x29 x30 x31 : Value) (K : Value → Value → Value → Value → Value → Value → Value → M Value) : reach_Of_r10 F x0 x5 x6 x7 x29 x30 x31 K = reach_Of_R F 10 [(31, x31), (30, x30), (29, x29), (7, x7), (6, x6), (5, x5), (0, x0)] [0, 5, 6, 7, 29, 30, 31] K := by kernel_rfl

def reach_Of_r9 (F : Nat) (x0 x5 x6 x7 x9 x29 x30 x31 : Value) (K : Value → Value → Value → Value → Value → Value → Value → M Value) : M Value :=
  bnd (opFieldAddr 0 x9) fun v36 => bnd (opLoad v36) fun v37 => bnd (opLen v37) fun v38 => bnd (opBin .add v38 (.int .i64 (1))) fun v39 => bnd (opBin .add x7 v39) fun v40 => K x0 x5 x6 v40 x29 x30 x31

theorem reach_Of_r9_ok (F : Nat) (x0 x5 x6 x7 x9 x29 x30 x31 : Value) (K : Value → Value → Value → Value → Value → Value → Value → M Value) : reach_Of_r9 F x0 x5 x6 x7 x9 x29 x30 x31 K = reach_Of_R F 9 [(31, x31), (30, x30), (29, x29), (9, x9), (7, x7), (6, x6), (5, x5), (0, x0)] [0, 5, 6, 7, 29, 30, 31] K := by kernel_rfl

def reach_Of_r8 (F : Nat) (x0 x5 x6 x7 x29 x30 x31 : Value) (K : Value → Value → Value → Value → Value → Value → Value → Value → M Value) : M Value :=
  bnd (opIndexAddr 5 x29 x31) fun v33 => bnd (opLoadN 5 v33) fun v34 => bnd (opPtr [(.slice none 0 0), (.int .i64 (0)), (.int .i64 (0)), (.int .i64 (0)), (.int .i64 (0))]) fun v9 => bnd (opStoreN 5 v9 v34) fun _ => K x0 x5 x6 x7 v9 x29 x30 x31

theorem reach_Of_r8_ok (F : Nat) (x0 x5 x6 x7 x29 x30 x31 : Value) (K : Value → Value → Value → Value → Value → Value → Value → Value → M Value) : reach_Of_r8 F x0 x5 x6 x7 x29 x30 x31 K = reach_Of_R F 8 [(31, x31), (30, x30), (29, x29), (7, x7), (6, x6), (5, x5), (0, x0)] [0, 5, 6, 7, 9, 29, 30, 31] K := by kernel_rfl

def reach_Of_r7 (F : Nat) (x0 x5 x6 x7 x29 x30 x31 : Value) (K : Value → Value → Value → Value → Value → Value → Value → Value → M Value) : M Value :=
  bnd (opBin .lss x31 x30) fun v32 => K x0 x5 x6 x7 x29 x30 x31 v32

theorem reach_Of_r7_ok (F : Nat) (x0 x5 x6 x7 x29 x30 x31 : Value) (K : Value → Value → Value → Value → Value → Value → Value → Value → M Value) : reach_Of_r7 F x0 x5 x6 x7 x29 x30 x31 K = reach_Of_R F 7 [(31, x31), (30, x30), (29, x29), (7, x7), (6, x6), (5, x5), (0, x0)] [0, 5, 6, 7, 29, 30, 31, 32] K := by kernel_rfl

def reach_Of_b5 (F : Nat) (E5_0 : Value → Value → Value → Value → M Value) (A5 : Value → Value → Value → Value → Value → Value → Value → M Value) (x0 x5 x6 x7 x29 x30 x31 : Value) : M Value :=
  reach_Of_r7 F x0 x5 x6 x7 x29 x30 x31 (fun x0 x5 x6 x7 x29 x30 x31 x32 => onB x32 (reach_Of_r8 F x0 x5 x6 x7 x29 x30 x31 (fun x0 x5 x6 x7 x9 x29 x30 x31 => reach_Of_r9 F x0 x5 x6 x7 x9 x29 x30 x31 (fun x0 x5 x6 x7 x29 x30 x31 => reach_Of_r10 F x0 x5 x6 x7 x29 x30 x31 (fun x0 x5 x6 x7 x29 x30 x31 => A5 x0 x5 x6 x7 x29 x30 x31)))) (E5_0 x0 x5 x6 x7))

def reach_Of_l5 (F : Nat) (E5_0 : Value → Value → Value → Value → M Value) : Nat → Value → Value → Value → Value → Value → Value → Value → M Value
  | 0, _, _, _, _, _, _, _ => fail
  | k5 + 1, x0, x5, x6, x7, x29, x30, x31 => reach_Of_b5 F E5_0 (reach_Of_l5 F E5_0 k5) x0 x5 x6 x7 x29 x30 x31

theorem reach_Of_l5_s (F : Nat) (E5_0 : Value → Value → Value → Value → M Value) (k5 : Nat) (x0 x5 x6 x7 x29 x30 x31 : Value) : reach_Of_l5 F E5_0 (k5 + 1) x0 x5 x6 x7 x29 x30 x31 = reach_Of_b5 F E5_0 (reach_Of_l5 F E5_0 k5) x0 x5 x6 x7 x29 x30 x31 := rfl

def reach_Of_r6 (F : Nat) (x0 x1 x5 x6 x7 : Value) (K : Value → Value → Value → Value → Value → Value → Value → M Value) : M Value :=
  bnd (opNil x0) fun v23 => bnd (opFieldAddr 4 v23) fun v24 => bnd (opLoad v24) fun v25 => bnd (opIndexAddr 3 v25 x1) fun v27 => bnd (opFieldAddr 2 v27) fun v28 => bnd (opLoad v28) fun v29 => bnd (opLen v29) fun v30 => K x0 x5 x6 x7 v29 v30 (.int .i64 (0))

theorem reach_Of_r6_ok (F : Nat) (x0 x1 x5 x6 x7 : Value) (K : Value → Value → Value → Value → Value → Value → Value → M Value) : reach_Of_r6 F x0 x1 x5 x6 x7 K = reach_Of_R F 6 [(7, x7), (6, x6), (5, x5), (1, x1), (0, x0)] [0, 5, 6, 7, 29, 30, 31] K := by kernel_rfl

def reach_Of_r5 (F : Nat) (x0 x1 x5 x6 : Value) (K : Value → Value → Value → Value → Value → M Value) : M Value :=
  K x0 x1 x5 x6 (.int .i64 (0))

theorem reach_Of_r5_ok (F : Nat) (x0 x1 x5 x6 : Value) (K : Value → Value → Value → Value → Value → M Value) : reach_Of_r5 F x0 x1 x5 x6 K = reach_Of_R F 5 [(6, x6), (5, x5), (1, x1), (0, x0)] [0, 1, 5, 6, 7] K := by kernel_rfl

def reach_Of_r4 (F : Nat) (x0 x1 x5 : Value) (K : Value → Value → Value → Value → M Value) : M Value :=
  bnd (opBuild [(.int .i64 (0)), (.slice none 0 0)] [(0, 1, false, x5)]) fun v20 => bnd (opBoxN v20) fun v21 => K x0 x1 x5 v21

theorem reach_Of_r4_ok (F : Nat) (x0 x1 x5 : Value) (K : Value → Value → Value → Value → M Value) : reach_Of_r4 F x0 x1 x5 K = reach_Of_R F 4 [(5, x5), (1, x1), (0, x0)] [0, 1, 5, 6] K := by kernel_rfl

def reach_Of_r3 (F : Nat) (K : Value → M Value) : M Value :=
  K (.pointer none)

theorem reach_Of_r3_ok (F : Nat) (K : Value → M Value) : reach_Of_r3 F K = reach_Of_R F 3 [] [4] K := by kernel_rfl

def reach_Of_r2 (F : Nat) (x0 x1 x5 : Value) (K : Value → Value → Value → Value → M Value) : M Value :=
  bnd (opBin .lss x5 (.int .i64 (0))) fun v18 => K x0 x1 x5 v18

theorem reach_Of_r2_ok (F : Nat) (x0 x1 x5 : Value) (K : Value → Value → Value → Value → M Value) : reach_Of_r2 F x0 x1 x5 K = reach_Of_R F 2 [(5, x5), (1, x1), (0, x0)] [0, 1, 5, 18] K := by kernel_rfl

def reach_Of_r1 (F : Nat) (x0 x1 : Value) (K : Value → Value → Value → M Value) : M Value :=
  bnd (opBuild [(.int .i64 (0)), (.int .i64 (0)), (.int .i64 (0))] [(0, 1, false, x1)]) fun v15 => bnd (ir_Number F x0 v15) fun v16 => K x0 x1 v16

theorem reach_Of_r1_ok (F : Nat) (x0 x1 : Value) (K : Value → Value → Value → M Value) : reach_Of_r1 F x0 x1 K = reach_Of_R F 1 [(1, x1), (0, x0)] [0, 1, 5] K := by kernel_rfl

def reach_Of_r0 (F : Nat) (x0 x1 : Value) (K : Value → Value → M Value) : M Value :=
  K x0 x1

theorem reach_Of_r0_ok (F : Nat) (x0 x1 : Value) (K : Value → Value → M Value) : reach_Of_r0 F x0 x1 K = reach_Of_R F 0 [(1, x1), (0, x0)] [0, 1] K := by kernel_rfl

def reach_Of (F : Nat) (x0 x1 : Value) : M Value :=
  reach_Of_r0 F x0 x1 (fun x0 x1 => reach_Of_r1 F x0 x1 (fun x0 x1 x5 => reach_Of_r2 F x0 x1 x5 (fun x0 x1 x5 x18 => onB x18 (reach_Of_r3 F (fun x4 => ret x4)) (reach_Of_r4 F x0 x1 x5 (fun x0 x1 x5 x6 => reach_Of_r5 F x0 x1 x5 x6 (fun x0 x1 x5 x6 x7 => reach_Of_r6 F x0 x1 x5 x6 x7 (fun x0 x5 x6 x7 x29 x30 x31 => reach_Of_l5 F (fun x0 x5 x6 x7 => reach_Of_k4 F x0 x5 x6 x7) F x0 x5 x6 x7 x29 x30 x31)))))))

def reach_Of_m (F : Nat) : List Value → M Value
  | [x0, x1] => reach_Of F x0 x1
  | _ => fail

theorem reach_Of_body : Try.f29.body = some (.seq (.region 0 (opsOf Try.f29 0) false) (.seq (.region 1 (opsOf Try.f29 1) false) (.seq (.seq (.region 2 (opsOf Try.f29 2) false) (.cond (.tmp 18) (.seq (.region 3 (opsOf Try.f29 3) false) .ret) .skip)) (.seq (.region 4 (opsOf Try.f29 4) false) (.seq (.region 5 (opsOf Try.f29 5) false) (.seq (.seq (.region 6 (opsOf Try.f29 6) false) (.block 0 (.loop (.seq (.region 7 (opsOf Try.f29 7) false) (.seq (.cond (.tmp 32) .skip (.exit 0)) (.seq (.block 1 (.seq (.region 8 (opsOf Try.f29 8) false) (.region 9 (opsOf Try.f29 9) false))) (.region 10 (opsOf Try.f29 10) false))))))) (.seq (.region 11 (opsOf Try.f29 11) false) (.seq (.seq (.region 12 (opsOf Try.f29 12) false) (.block 2 (.loop (.seq (.region 13 (opsOf Try.f29 13) false) (.seq (.cond (.tmp 49) .skip (.exit 2)) (.seq (.block 3 (.seq (.region 14 (opsOf Try.f29 14) false) (.seq (.region 15 (opsOf Try.f29 15) false) (.block 4 (.loop (.seq (.region 16 (opsOf Try.f29 16) false) (.seq (.cond (.tmp 58) .skip (.exit 4)) (.seq (.block 5 (.seq (.region 17 (opsOf Try.f29 17) false) (.region 18 (opsOf Try.f29 18) true))) (.region 19 (opsOf Try.f29 19) false))))))))) (.region 20 (opsOf Try.f29 20) false))))))) (.seq (.region 21 (opsOf Try.f29 21) false) .ret))))))))) := by kernel_rfl

theorem reach_Of_ok (F : Nat) : Sim Try.prog TryG 29 (reach_Of_m F) := by
 have hE : EnvOK Try.prog TryG (reach_Of_env F) := (EnvOK.cons (ir_Number_ok F) (EnvOK.cons (ir_Next_ok F) EnvOK.nil))
 refine Sim.of_body (E := reach_Of_env F) Try.func29 reach_Of_body Try.call29 ?_ ?_
 · intro args hl; unfold reach_Of_m; split
   · exact absurd hl (Nat.not_lt.2 (Nat.le_of_ble_eq_true rfl))
   · rfl
 · intro args ρ h w z; unfold reach_Of_m; split
   · rename_i x0 x1; show OKc _ _ [(0, x0), (1, x1)] _ _
     refine rSeq ?_
     refine cLess [1, 0] ?_
     refine xR hE [0, 1] rfl (reach_Of_r0_ok F _ _ _) ?_
     intro x0 x1
     show OKq _ _ _ [(1, x1), (0, x0)] _
     refine rThen ?_
     refine rSeq ?_
     refine cLess [1, 0] ?_
     refine xR hE [0, 1, 5] rfl (reach_Of_r1_ok F _ _ _) ?_
     intro x0 x1 x5
     show OKq _ _ _ [(5, x5), (1, x1), (0, x0)] _
     refine rThen ?_
     refine rSeq ?_
     refine rSeq ?_
     refine cLess [5, 1, 0] ?_
     refine xR hE [0, 1, 5, 18] rfl (reach_Of_r2_ok F _ _ _ _) ?_
     intro x0 x1 x5 x18
     show OKq _ _ _ [(18, x18), (5, x5), (1, x1), (0, x0)] _
     refine rThen ?_
     refine xCond rfl rfl ?_ ?_
     · refine rSeq ?_
       refine cLess [] ?_
       refine xR hE [4] rfl (reach_Of_r3_ok F _) ?_
       intro x4
       show OKq _ _ _ [(4, x4)] _
       refine rThen ?_
       refine rRet ?_
       refine xThenR ?_
       exact rDone (.inr rfl) rfl
     · refine rSkip ?_
       refine rThen ?_
       refine rSeq ?_
       refine cLess [5, 1, 0] ?_
       refine xR hE [0, 1, 5, 6] rfl (reach_Of_r4_ok F _ _ _ _) ?_
       intro x0 x1 x5 x6
       show OKq _ _ _ [(6, x6), (5, x5), (1, x1), (0, x0)] _
       refine rThen ?_
       refine rSeq ?_
       refine cLess [6, 5, 1, 0] ?_
       refine xR hE [0, 1, 5, 6, 7] rfl (reach_Of_r5_ok F _ _ _ _ _) ?_
       intro x0 x1 x5 x6 x7
       show OKq _ _ _ [(7, x7), (6, x6), (5, x5), (1, x1), (0, x0)] _
       refine rThen ?_
       refine xSeq [0, 5, 6, 7] (reach_Of_k4 F ) ?_ fun hj4 => ?_
       · intro x0 x5 x6 x7
         show OKc _ _ [(7, x7), (6, x6), (5, x5), (0, x0)] _ _
         refine rSeq ?_
         refine cLess [7, 6, 5, 0] ?_
         refine xR hE [0, 5, 6, 7] rfl (reach_Of_r11_ok F _ _ _ _ _) ?_
         intro x0 x5 x6 x7
         show OKq _ _ _ [(7, x7), (6, x6), (5, x5), (0, x0)] _
         refine rThen ?_
         refine xSeq [6] (reach_Of_k0 F ) ?_ fun hj0 => ?_
         · intro x6
           show OKc _ _ [(6, x6)] _ _
           refine rSeq ?_
           refine cLess [6] ?_
           refine xR hE [4] rfl (reach_Of_r21_ok F _ _) ?_
           intro x4
           show OKq _ _ _ [(4, x4)] _
           refine rThen ?_
           refine rRet ?_
           exact rDone (.inr rfl) rfl
         · refine rSeq ?_
           refine cLess [7, 6, 5, 0] ?_
           refine xR hE [0, 5, 6, 47, 48] rfl (reach_Of_r12_ok F _ _ _ _ _) ?_
           intro x0 x5 x6 x47 x48
           show OKq _ _ _ [(48, x48), (47, x47), (6, x6), (5, x5), (0, x0)] _
           refine rThen ?_
           refine rBlock ?_
           refine cLess [48, 47, 6, 5, 0] ?_
           refine xLoopAt [0, 5, 6, 47, 48] [] (fun k1 => reach_Of_l1 F (fun x6 => reach_Of_k0 F x6) k1) F [x0, x5, x6, x47, x48] rfl rfl (fun _ _ _ _ _ => rfl) fun I hI1 k1 => ?_
           intro x0 x5 x6 x47 x48
           show OKc _ _ [(48, x48), (47, x47), (6, x6), (5, x5), (0, x0)] _ _
           refine cAs (reach_Of_l1_s F _ _ _ _ _ _ _) ?_
           refine rSeq ?_
           refine cLess [48, 47, 6, 5, 0] ?_
           refine xR hE [0, 5, 6, 47, 48, 49] rfl (reach_Of_r13_ok F _ _ _ _ _ _) ?_
           intro x0 x5 x6 x47 x48 x49
           show OKq _ _ _ [(49, x49), (48, x48), (47, x47), (6, x6), (5, x5), (0, x0)] _
           refine rThen ?_
           refine rSeq ?_
           refine xCond rfl rfl ?_ ?_
           · refine rSkip ?_
             refine rThen ?_
             refine xSeq [0, 5, 6, 47, 48] (reach_Of_k2 F (reach_Of_l1 F (fun x6 => reach_Of_k0 F x6) k1) ) ?_ fun hj2 => ?_
             · intro x0 x5 x6 x47 x48
               show OKc _ _ [(48, x48), (47, x47), (6, x6), (5, x5), (0, x0)] _ _
               refine cLess [48, 47, 6, 5, 0] ?_
               refine xR hE [0, 5, 6, 47, 48] rfl (reach_Of_r20_ok F _ _ _ _ _ _) ?_
               intro x0 x5 x6 x47 x48
               show OKq _ _ _ [(48, x48), (47, x47), (6, x6), (5, x5), (0, x0)] _
               exact qLess [48, 47, 6, 5, 0] (hI1 k1 x0 x5 x6 x47 x48)
             · refine rBlock ?_
               refine rSeq ?_
               refine cLess [48, 47, 6, 5, 0] ?_
               refine xR hE [0, 5, 6, 10, 47, 48] rfl (reach_Of_r14_ok F _ _ _ _ _ _) ?_
               intro x0 x5 x6 x10 x47 x48
               show OKq _ _ _ [(48, x48), (47, x47), (10, x10), (6, x6), (5, x5), (0, x0)] _
               refine rThen ?_
               refine rSeq ?_
               refine cLess [48, 47, 10, 6, 5, 0] ?_
               refine xR hE [0, 5, 6, 10, 47, 48, 55, 56, 57] rfl (reach_Of_r15_ok F _ _ _ _ _ _ _) ?_
               intro x0 x5 x6 x10 x47 x48 x55 x56 x57
               show OKq _ _ _ [(57, x57), (56, x56), (55, x55), (48, x48), (47, x47), (10, x10), (6, x6), (5, x5), (0, x0)] _
               refine rThen ?_
               refine rBlock ?_
               refine cLess [57, 56, 55, 48, 47, 10, 6, 5, 0] ?_
               refine xLoopAt [0, 5, 6, 10, 47, 48, 55, 56, 57] [] (fun k3 => reach_Of_l3 F (fun x0 x5 x6 x47 x48 => reach_Of_k2 F (reach_Of_l1 F (fun x6 => reach_Of_k0 F x6) k1) x0 x5 x6 x47 x48) k3) F [x0, x5, x6, x10, x47, x48, x55, x56, x57] rfl rfl (fun _ _ _ _ _ _ _ _ _ => rfl) fun I hI3 k3 => ?_
               intro x0 x5 x6 x10 x47 x48 x55 x56 x57
               show OKc _ _ [(57, x57), (56, x56), (55, x55), (48, x48), (47, x47), (10, x10), (6, x6), (5, x5), (0, x0)] _ _
               refine cAs (reach_Of_l3_s F _ _ _ _ _ _ _ _ _ _ _) ?_
               refine rSeq ?_
               refine cLess [57, 56, 55, 48, 47, 10, 6, 5, 0] ?_
               refine xR hE [0, 5, 6, 10, 47, 48, 55, 56, 57, 58] rfl (reach_Of_r16_ok F _ _ _ _ _ _ _ _ _ _) ?_
               intro x0 x5 x6 x10 x47 x48 x55 x56 x57 x58
               show OKq _ _ _ [(58, x58), (57, x57), (56, x56), (55, x55), (48, x48), (47, x47), (10, x10), (6, x6), (5, x5), (0, x0)] _
               refine rThen ?_
               refine rSeq ?_
               refine xCond rfl rfl ?_ ?_
               · refine rSkip ?_
                 refine rThen ?_
                 refine rSeq ?_
                 refine rBlock ?_
                 refine rSeq ?_
                 refine cLess [57, 56, 55, 48, 47, 10, 6, 5, 0] ?_
                 refine xR hE [0, 5, 6, 10, 12, 47, 48, 55, 56, 57] rfl (reach_Of_r17_ok F _ _ _ _ _ _ _ _ _ _) ?_
                 intro x0 x5 x6 x10 x12 x47 x48 x55 x56 x57
                 show OKq _ _ _ [(57, x57), (56, x56), (55, x55), (48, x48), (47, x47), (12, x12), (10, x10), (6, x6), (5, x5), (0, x0)] _
                 refine rThen ?_
                 refine cLess [57, 56, 55, 48, 47, 12, 10, 6, 5, 0] ?_
                 refine xD Trymix hE [0, 5, 6, 10, 47, 48, 55, 56, 57] rfl reach_Of_r18_good (reach_Of_r18_ok F _ _ _ _ _ _ _ _ _ _ _) ?_
                 intro x0 x5 x6 x10 x47 x48 x55 x56 x57
                 show OKq _ _ _ [(57, x57), (56, x56), (55, x55), (48, x48), (47, x47), (10, x10), (6, x6), (5, x5), (0, x0)] _
                 refine xBlockN ?_
                 refine rThen ?_
                 refine cLess [57, 56, 55, 48, 47, 10, 6, 5, 0] ?_
                 refine xR hE [0, 5, 6, 10, 47, 48, 55, 56, 57] rfl (reach_Of_r19_ok F _ _ _ _ _ _ _ _ _ _) ?_
                 intro x0 x5 x6 x10 x47 x48 x55 x56 x57
                 show OKq _ _ _ [(57, x57), (56, x56), (55, x55), (48, x48), (47, x47), (10, x10), (6, x6), (5, x5), (0, x0)] _
                 exact qLess [57, 56, 55, 48, 47, 10, 6, 5, 0] (hI3 k3 x0 x5 x6 x10 x47 x48 x55 x56 x57)
               · refine rExit ?_
                 refine xThenX ?_
                 refine xThenX ?_
                 refine rOut ?_
                 refine xBlockN ?_
                 exact qLess [48, 47, 6, 5, 0] (hj2 x0 x5 x6 x47 x48)
           · refine rExit ?_
             refine xThenX ?_
             refine xThenX ?_
             refine rOut ?_
             exact qLess [6] (hj0 x6)
       · refine rSeq ?_
         refine cLess [7, 6, 5, 1, 0] ?_
         refine xR hE [0, 5, 6, 7, 29, 30, 31] rfl (reach_Of_r6_ok F _ _ _ _ _ _) ?_
         intro x0 x5 x6 x7 x29 x30 x31
         show OKq _ _ _ [(31, x31), (30, x30), (29, x29), (7, x7), (6, x6), (5, x5), (0, x0)] _
         refine rThen ?_
         refine rBlock ?_
         refine cLess [31, 30, 29, 7, 6, 5, 0] ?_
         refine xLoopAt [0, 5, 6, 7, 29, 30, 31] [] (fun k5 => reach_Of_l5 F (fun x0 x5 x6 x7 => reach_Of_k4 F x0 x5 x6 x7) k5) F [x0, x5, x6, x7, x29, x30, x31] rfl rfl (fun _ _ _ _ _ _ _ => rfl) fun I hI5 k5 => ?_
         intro x0 x5 x6 x7 x29 x30 x31
         show OKc _ _ [(31, x31), (30, x30), (29, x29), (7, x7), (6, x6), (5, x5), (0, x0)] _ _
         refine cAs (reach_Of_l5_s F _ _ _ _ _ _ _ _ _) ?_
         refine rSeq ?_
         refine cLess [31, 30, 29, 7, 6, 5, 0] ?_
         refine xR hE [0, 5, 6, 7, 29, 30, 31, 32] rfl (reach_Of_r7_ok F _ _ _ _ _ _ _ _) ?_
         intro x0 x5 x6 x7 x29 x30 x31 x32
         show OKq _ _ _ [(32, x32), (31, x31), (30, x30), (29, x29), (7, x7), (6, x6), (5, x5), (0, x0)] _
         refine rThen ?_
         refine rSeq ?_
         refine xCond rfl rfl ?_ ?_
         · refine rSkip ?_
           refine rThen ?_
           refine rSeq ?_
           refine rBlock ?_
           refine rSeq ?_
           refine cLess [31, 30, 29, 7, 6, 5, 0] ?_
           refine xR hE [0, 5, 6, 7, 9, 29, 30, 31] rfl (reach_Of_r8_ok F _ _ _ _ _ _ _ _) ?_
           intro x0 x5 x6 x7 x9 x29 x30 x31
           show OKq _ _ _ [(31, x31), (30, x30), (29, x29), (9, x9), (7, x7), (6, x6), (5, x5), (0, x0)] _
           refine rThen ?_
           refine cLess [31, 30, 29, 9, 7, 6, 5, 0] ?_
           refine xR hE [0, 5, 6, 7, 29, 30, 31] rfl (reach_Of_r9_ok F _ _ _ _ _ _ _ _ _) ?_
           intro x0 x5 x6 x7 x29 x30 x31
           show OKq _ _ _ [(31, x31), (30, x30), (29, x29), (7, x7), (6, x6), (5, x5), (0, x0)] _
           refine xBlockN ?_
           refine rThen ?_
           refine cLess [31, 30, 29, 7, 6, 5, 0] ?_
           refine xR hE [0, 5, 6, 7, 29, 30, 31] rfl (reach_Of_r10_ok F _ _ _ _ _ _ _ _) ?_
           intro x0 x5 x6 x7 x29 x30 x31
           show OKq _ _ _ [(31, x31), (30, x30), (29, x29), (7, x7), (6, x6), (5, x5), (0, x0)] _
           exact qLess [31, 30, 29, 7, 6, 5, 0] (hI5 k5 x0 x5 x6 x7 x29 x30 x31)
         · refine rExit ?_
           refine xThenX ?_
           refine xThenX ?_
           refine rOut ?_
           exact qLess [7, 6, 5, 0] (hj4 x0 x5 x6 x7)
   · exact rFail



end Go.Fw
