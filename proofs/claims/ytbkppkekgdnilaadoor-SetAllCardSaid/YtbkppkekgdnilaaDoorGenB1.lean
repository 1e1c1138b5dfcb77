/-
  What functions of this seat come to, and that they do: part 1.
-/
import Derived.Test.YtbkppkekgdnilaaDoorProg
import Derived.Test.YtbkppkekgdnilaaDoorFwP
import Derived.KernelRfl
set_option linter.unusedVariables false
set_option maxRecDepth 20000
namespace Go.Fw
open Go.Proofs

-- values: []
-- left: []
def TrydG : Nat := 1
theorem Trydmix : Tryd.prog.follows .mixedOrders = true := by kernel_rfl

/-! ### haruspex/haruspexlaw1.may -/

def L1_may_env (F : Nat) : Env := envOf []

noncomputable def L1_may_R (F : Nat) := rK Tryd.prog TrydG (L1_may_env F) Tryd.f11
noncomputable def L1_may_D (F : Nat) := dK Tryd.prog TrydG (L1_may_env F) Tryd.f11

def L1_may_r1 (F : Nat) (x0 : Value) (K : Value → M Value) : M Value :=
  bnd (opBin .geq x0 (.int .i64 (0))) fun v4 => onB v4 (bnd (opBin .lss x0 (.int .i64 (5000))) fun v7 => K v7) (K (.bool false))

theorem L1_may_r1_ok (F : Nat) (x0 : Value) (K : Value → M Value) : L1_may_r1 F x0 K = L1_may_R F 1 [(0, x0)] [2] K := by kernel_rfl

def L1_may_r0 (F : Nat) (x0 : Value) (K : Value → M Value) : M Value :=
  K x0

theorem L1_may_r0_ok (F : Nat) (x0 : Value) (K : Value → M Value) : L1_may_r0 F x0 K = L1_may_R F 0 [(0, x0)] [0] K := by kernel_rfl

def L1_may (F : Nat) (x0 : Value) : M Value :=
  L1_may_r0 F x0 (fun x0 => L1_may_r1 F x0 (fun x2 => ret x2))

def L1_may_m (F : Nat) : List Value → M Value
  | [x0] => L1_may F x0
  | _ => fail

theorem L1_may_body : Tryd.f11.body = some (.seq (.region 0 (opsOf Tryd.f11 0) false) (.seq (.region 1 (opsOf Tryd.f11 1) false) .ret)) := by kernel_rfl

theorem L1_may_ok (F : Nat) : Sim Tryd.prog TrydG 11 (L1_may_m F) := by
 have hE : EnvOK Tryd.prog TrydG (L1_may_env F) := EnvOK.nil
 refine Sim.of_body (E := L1_may_env F) Tryd.func11 L1_may_body Tryd.call11 ?_ ?_
 · intro args hl; unfold L1_may_m; split
   · exact absurd hl (Nat.not_lt.2 (Nat.le_of_ble_eq_true rfl))
   · rfl
 · intro args ρ h w z; unfold L1_may_m; split
   · rename_i x0; show OKc _ _ [(0, x0)] _ _
     refine rSeq ?_
     refine cLess [0] ?_
     refine xR hE [0] rfl (L1_may_r0_ok F _ _) ?_
     intro x0
     show OKq _ _ _ [(0, x0)] _
     refine rThen ?_
     refine rSeq ?_
     refine cLess [0] ?_
     refine xR hE [2] rfl (L1_may_r1_ok F _ _) ?_
     intro x2
     show OKq _ _ _ [(2, x2)] _
     refine rThen ?_
     refine rRet ?_
     exact rDone (.inr rfl) rfl
   · exact rFail


/-! ### haruspex/haruspexlaw1.Cut -/

def L1_Cut_env (F : Nat) : Env := envOf []

noncomputable def L1_Cut_R (F : Nat) := rK Tryd.prog TrydG (L1_Cut_env F) Tryd.f16
noncomputable def L1_Cut_D (F : Nat) := dK Tryd.prog TrydG (L1_Cut_env F) Tryd.f16

def L1_Cut_r3 (F : Nat) (x0 : Value) (K : Value → M Value) : M Value :=
  K x0

theorem L1_Cut_r3_ok (F : Nat) (x0 : Value) (K : Value → M Value) : L1_Cut_r3 F x0 K = L1_Cut_R F 3 [(0, x0)] [4] K := by kernel_rfl

def L1_Cut_r2 (F : Nat) (x0 x1 : Value) (K : Value → M Value) : M Value :=
  bnd (opSlice 1 x0 none (some x1) none) fun v11 => K v11

theorem L1_Cut_r2_ok (F : Nat) (x0 x1 : Value) (K : Value → M Value) : L1_Cut_r2 F x0 x1 K = L1_Cut_R F 2 [(1, x1), (0, x0)] [4] K := by kernel_rfl

def L1_Cut_r1 (F : Nat) (x0 x1 : Value) (K : Value → Value → Value → M Value) : M Value :=
  bnd (opLen x0) fun v6 => bnd (opBin .gtr v6 x1) fun v8 => K x0 x1 v8

theorem L1_Cut_r1_ok (F : Nat) (x0 x1 : Value) (K : Value → Value → Value → M Value) : L1_Cut_r1 F x0 x1 K = L1_Cut_R F 1 [(1, x1), (0, x0)] [0, 1, 8] K := by kernel_rfl

def L1_Cut_r0 (F : Nat) (x0 x1 : Value) (K : Value → Value → M Value) : M Value :=
  K x0 x1

theorem L1_Cut_r0_ok (F : Nat) (x0 x1 : Value) (K : Value → Value → M Value) : L1_Cut_r0 F x0 x1 K = L1_Cut_R F 0 [(1, x1), (0, x0)] [0, 1] K := by kernel_rfl

def L1_Cut (F : Nat) (x0 x1 : Value) : M Value :=
  L1_Cut_r0 F x0 x1 (fun x0 x1 => L1_Cut_r1 F x0 x1 (fun x0 x1 x8 => onB x8 (L1_Cut_r2 F x0 x1 (fun x4 => ret x4)) (L1_Cut_r3 F x0 (fun x4 => ret x4))))

def L1_Cut_m (F : Nat) : List Value → M Value
  | [x0, x1] => L1_Cut F x0 x1
  | _ => fail

theorem L1_Cut_body : Tryd.f16.body = some (.seq (.region 0 (opsOf Tryd.f16 0) false) (.seq (.seq (.region 1 (opsOf Tryd.f16 1) false) (.cond (.tmp 8) (.seq (.region 2 (opsOf Tryd.f16 2) false) .ret) .skip)) (.seq (.region 3 (opsOf Tryd.f16 3) false) .ret))) := by kernel_rfl

theorem L1_Cut_ok (F : Nat) : Sim Tryd.prog TrydG 16 (L1_Cut_m F) := by
 have hE : EnvOK Tryd.prog TrydG (L1_Cut_env F) := EnvOK.nil
 refine Sim.of_body (E := L1_Cut_env F) Tryd.func16 L1_Cut_body Tryd.call16 ?_ ?_
 · intro args hl; unfold L1_Cut_m; split
   · exact absurd hl (Nat.not_lt.2 (Nat.le_of_ble_eq_true rfl))
   · rfl
 · intro args ρ h w z; unfold L1_Cut_m; split
   · rename_i x0 x1; show OKc _ _ [(0, x0), (1, x1)] _ _
     refine rSeq ?_
     refine cLess [1, 0] ?_
     refine xR hE [0, 1] rfl (L1_Cut_r0_ok F _ _ _) ?_
     intro x0 x1
     show OKq _ _ _ [(1, x1), (0, x0)] _
     refine rThen ?_
     refine rSeq ?_
     refine rSeq ?_
     refine cLess [1, 0] ?_
     refine xR hE [0, 1, 8] rfl (L1_Cut_r1_ok F _ _ _) ?_
     intro x0 x1 x8
     show OKq _ _ _ [(8, x8), (1, x1), (0, x0)] _
     refine rThen ?_
     refine xCond rfl rfl ?_ ?_
     · refine rSeq ?_
       refine cLess [1, 0] ?_
       refine xR hE [4] rfl (L1_Cut_r2_ok F _ _ _) ?_
       intro x4
       show OKq _ _ _ [(4, x4)] _
       refine rThen ?_
       refine rRet ?_
       refine xThenR ?_
       exact rDone (.inr rfl) rfl
     · refine rSkip ?_
       refine rThen ?_
       refine rSeq ?_
       refine cLess [0] ?_
       refine xR hE [4] rfl (L1_Cut_r3_ok F _ _) ?_
       intro x4
       show OKq _ _ _ [(4, x4)] _
       refine rThen ?_
       refine rRet ?_
       exact rDone (.inr rfl) rfl
   · exact rFail


/-! ### haruspex/haruspexref1.Eq -/

def R1_Eq_env (F : Nat) : Env := envOf []

noncomputable def R1_Eq_R (F : Nat) := rK Tryd.prog TrydG (R1_Eq_env F) Tryd.f19
noncomputable def R1_Eq_D (F : Nat) := dK Tryd.prog TrydG (R1_Eq_env F) Tryd.f19

def R1_Eq_r8 (F : Nat) (K : Value → M Value) : M Value :=
  K (.bool true)

theorem R1_Eq_r8_ok (F : Nat) (K : Value → M Value) : R1_Eq_r8 F K = R1_Eq_R F 8 [] [4] K := by kernel_rfl

def R1_Eq_k0 (F : Nat) : M Value :=
  R1_Eq_r8 F (fun x4 => ret x4)

def R1_Eq_r5 (F : Nat) (x0 x1 x5 : Value) (K : Value → Value → Value → M Value) : M Value :=
  bnd (opBin .add x5 (.int .i64 (1))) fun v16 => K x0 x1 v16

theorem R1_Eq_r5_ok (F : Nat) (x0 x1 x5 : Value) (K : Value → Value → Value → M Value) : R1_Eq_r5 F x0 x1 x5 K = R1_Eq_R F 5 [(5, x5), (1, x1), (0, x0)] [0, 1, 5] K := by kernel_rfl

def R1_Eq_r7 (F : Nat) (K : Value → M Value) : M Value :=
  K (.bool false)

theorem R1_Eq_r7_ok (F : Nat) (K : Value → M Value) : R1_Eq_r7 F K = R1_Eq_R F 7 [] [4] K := by kernel_rfl

def R1_Eq_r6 (F : Nat) (x0 x1 x5 : Value) (K : Value → Value → Value → Value → M Value) : M Value :=
  bnd (opIndexAddr 1 x0 x5) fun v19 => bnd (opLoad v19) fun v20 => bnd (opIndexAddr 1 x1 x5) fun v23 => bnd (opLoad v23) fun v24 => bnd (opBin .neq v20 v24) fun v25 => K x0 x1 x5 v25

theorem R1_Eq_r6_ok (F : Nat) (x0 x1 x5 : Value) (K : Value → Value → Value → Value → M Value) : R1_Eq_r6 F x0 x1 x5 K = R1_Eq_D F 6 [0, 1, 2, 3, 4, 5, 6, 7, 8] [(5, x5), (1, x1), (0, x0)] [0, 1, 5, 25] K := by kernel_rfl

theorem R1_Eq_r6_good : goodOrder (opsOf Tryd.f19 6) [0, 1, 2, 3, 4, 5, 6, 7, 8] = true := by kernel_rfl

def R1_Eq_r4 (F : Nat) (x0 x1 x5 : Value) (K : Value → Value → Value → Value → M Value) : M Value :=
  bnd (opLen x0) fun v13 => bnd (opBin .lss x5 v13) fun v14 => K x0 x1 x5 v14

theorem R1_Eq_r4_ok (F : Nat) (x0 x1 x5 : Value) (K : Value → Value → Value → Value → M Value) : R1_Eq_r4 F x0 x1 x5 K = R1_Eq_R F 4 [(5, x5), (1, x1), (0, x0)] [0, 1, 5, 14] K := by kernel_rfl

def R1_Eq_b1 (F : Nat) (E1_0 : M Value) (A1 : Value → Value → Value → M Value) (x0 x1 x5 : Value) : M Value :=
  R1_Eq_r4 F x0 x1 x5 (fun x0 x1 x5 x14 => onB x14 (R1_Eq_r6 F x0 x1 x5 (fun x0 x1 x5 x25 => onB x25 (R1_Eq_r7 F (fun x4 => ret x4)) (R1_Eq_r5 F x0 x1 x5 (fun x0 x1 x5 => A1 x0 x1 x5)))) (E1_0 ))

def R1_Eq_l1 (F : Nat) (E1_0 : M Value) : Nat → Value → Value → Value → M Value
  | 0, _, _, _ => fail
  | k1 + 1, x0, x1, x5 => R1_Eq_b1 F E1_0 (R1_Eq_l1 F E1_0 k1) x0 x1 x5

theorem R1_Eq_l1_s (F : Nat) (E1_0 : M Value) (k1 : Nat) (x0 x1 x5 : Value) : R1_Eq_l1 F E1_0 (k1 + 1) x0 x1 x5 = R1_Eq_b1 F E1_0 (R1_Eq_l1 F E1_0 k1) x0 x1 x5 := rfl

def R1_Eq_r3 (F : Nat) (x0 x1 : Value) (K : Value → Value → Value → M Value) : M Value :=
  K x0 x1 (.int .i64 (0))

theorem R1_Eq_r3_ok (F : Nat) (x0 x1 : Value) (K : Value → Value → Value → M Value) : R1_Eq_r3 F x0 x1 K = R1_Eq_R F 3 [(1, x1), (0, x0)] [0, 1, 5] K := by kernel_rfl

def R1_Eq_r2 (F : Nat) (K : Value → M Value) : M Value :=
  K (.bool false)

theorem R1_Eq_r2_ok (F : Nat) (K : Value → M Value) : R1_Eq_r2 F K = R1_Eq_R F 2 [] [4] K := by kernel_rfl

def R1_Eq_r1 (F : Nat) (x0 x1 : Value) (K : Value → Value → Value → M Value) : M Value :=
  bnd (opLen x0) fun v7 => bnd (opLen x1) fun v9 => bnd (opBin .neq v7 v9) fun v10 => K x0 x1 v10

theorem R1_Eq_r1_ok (F : Nat) (x0 x1 : Value) (K : Value → Value → Value → M Value) : R1_Eq_r1 F x0 x1 K = R1_Eq_R F 1 [(1, x1), (0, x0)] [0, 1, 10] K := by kernel_rfl

def R1_Eq_r0 (F : Nat) (x0 x1 : Value) (K : Value → Value → M Value) : M Value :=
  K x0 x1

theorem R1_Eq_r0_ok (F : Nat) (x0 x1 : Value) (K : Value → Value → M Value) : R1_Eq_r0 F x0 x1 K = R1_Eq_R F 0 [(1, x1), (0, x0)] [0, 1] K := by kernel_rfl

def R1_Eq (F : Nat) (x0 x1 : Value) : M Value :=
  R1_Eq_r0 F x0 x1 (fun x0 x1 => R1_Eq_r1 F x0 x1 (fun x0 x1 x10 => onB x10 (R1_Eq_r2 F (fun x4 => ret x4)) (R1_Eq_r3 F x0 x1 (fun x0 x1 x5 => R1_Eq_l1 F (R1_Eq_k0 F ) F x0 x1 x5))))

def R1_Eq_m (F : Nat) : List Value → M Value
  | [x0, x1] => R1_Eq F x0 x1
  | _ => fail

theorem R1_Eq_body : Tryd.f19.body = some (.seq (.region 0 (opsOf Tryd.f19 0) false) (.seq (.seq (.region 1 (opsOf Tryd.f19 1) false) (.cond (.tmp 10) (.seq (.region 2 (opsOf Tryd.f19 2) false) .ret) .skip)) (.seq (.seq (.region 3 (opsOf Tryd.f19 3) false) (.block 0 (.loop (.seq (.seq (.region 4 (opsOf Tryd.f19 4) false) (.cond (.tmp 14) .skip (.exit 0))) (.seq (.block 1 (.seq (.region 6 (opsOf Tryd.f19 6) true) (.cond (.tmp 25) (.seq (.region 7 (opsOf Tryd.f19 7) false) .ret) .skip))) (.region 5 (opsOf Tryd.f19 5) false)))))) (.seq (.region 8 (opsOf Tryd.f19 8) false) .ret)))) := by kernel_rfl

theorem R1_Eq_ok (F : Nat) : Sim Tryd.prog TrydG 19 (R1_Eq_m F) := by
 have hE : EnvOK Tryd.prog TrydG (R1_Eq_env F) := EnvOK.nil
 refine Sim.of_body (E := R1_Eq_env F) Tryd.func19 R1_Eq_body Tryd.call19 ?_ ?_
 · intro args hl; unfold R1_Eq_m; split
   · exact absurd hl (Nat.not_lt.2 (Nat.le_of_ble_eq_true rfl))
   · rfl
 · intro args ρ h w z; unfold R1_Eq_m; split
   · rename_i x0 x1; show OKc _ _ [(0, x0), (1, x1)] _ _
     refine rSeq ?_
     refine cLess [1, 0] ?_
     refine xR hE [0, 1] rfl (R1_Eq_r0_ok F _ _ _) ?_
     intro x0 x1
     show OKq _ _ _ [(1, x1), (0, x0)] _
     refine rThen ?_
     refine rSeq ?_
     refine rSeq ?_
     refine cLess [1, 0] ?_
     refine xR hE [0, 1, 10] rfl (R1_Eq_r1_ok F _ _ _) ?_
     intro x0 x1 x10
     show OKq _ _ _ [(10, x10), (1, x1), (0, x0)] _
     refine rThen ?_
     refine xCond rfl rfl ?_ ?_
     · refine rSeq ?_
       refine cLess [] ?_
       refine xR hE [4] rfl (R1_Eq_r2_ok F _) ?_
       intro x4
       show OKq _ _ _ [(4, x4)] _
       refine rThen ?_
       refine rRet ?_
       refine xThenR ?_
       exact rDone (.inr rfl) rfl
     · refine rSkip ?_
       refine rThen ?_
       refine xSeq [] (R1_Eq_k0 F ) ?_ fun hj0 => ?_
       · show OKc _ _ [] _ _
         refine rSeq ?_
         refine cLess [] ?_
         refine xR hE [4] rfl (R1_Eq_r8_ok F _) ?_
         intro x4
         show OKq _ _ _ [(4, x4)] _
         refine rThen ?_
         refine rRet ?_
         exact rDone (.inr rfl) rfl
       · refine rSeq ?_
         refine cLess [1, 0] ?_
         refine xR hE [0, 1, 5] rfl (R1_Eq_r3_ok F _ _ _) ?_
         intro x0 x1 x5
         show OKq _ _ _ [(5, x5), (1, x1), (0, x0)] _
         refine rThen ?_
         refine rBlock ?_
         refine cLess [5, 1, 0] ?_
         refine xLoopAt [0, 1, 5] [] (fun k1 => R1_Eq_l1 F (R1_Eq_k0 F ) k1) F [x0, x1, x5] rfl rfl (fun _ _ _ => rfl) fun I hI1 k1 => ?_
         intro x0 x1 x5
         show OKc _ _ [(5, x5), (1, x1), (0, x0)] _ _
         refine cAs (R1_Eq_l1_s F _ _ _ _ _) ?_
         refine rSeq ?_
         refine rSeq ?_
         refine cLess [5, 1, 0] ?_
         refine xR hE [0, 1, 5, 14] rfl (R1_Eq_r4_ok F _ _ _ _) ?_
         intro x0 x1 x5 x14
         show OKq _ _ _ [(14, x14), (5, x5), (1, x1), (0, x0)] _
         refine rThen ?_
         refine xCond rfl rfl ?_ ?_
         · refine rSkip ?_
           refine rThen ?_
           refine rSeq ?_
           refine rBlock ?_
           refine rSeq ?_
           refine cLess [5, 1, 0] ?_
           refine xD Trydmix hE [0, 1, 5, 25] rfl R1_Eq_r6_good (R1_Eq_r6_ok F _ _ _ _) ?_
           intro x0 x1 x5 x25
           show OKq _ _ _ [(25, x25), (5, x5), (1, x1), (0, x0)] _
           refine rThen ?_
           refine xCond rfl rfl ?_ ?_
           · refine rSeq ?_
             refine cLess [] ?_
             refine xR hE [4] rfl (R1_Eq_r7_ok F _) ?_
             intro x4
             show OKq _ _ _ [(4, x4)] _
             refine rThen ?_
             refine rRet ?_
             refine xBlockR ?_
             refine xThenR ?_
             refine xThenR ?_
             refine xBlockR ?_
             refine xThenR ?_
             exact rDone (.inr rfl) rfl
           · refine rSkip ?_
             refine xBlockN ?_
             refine rThen ?_
             refine cLess [5, 1, 0] ?_
             refine xR hE [0, 1, 5] rfl (R1_Eq_r5_ok F _ _ _ _) ?_
             intro x0 x1 x5
             show OKq _ _ _ [(5, x5), (1, x1), (0, x0)] _
             exact qLess [5, 1, 0] (hI1 k1 x0 x1 x5)
         · refine rExit ?_
           refine xThenX ?_
           refine xThenX ?_
           refine rOut ?_
           exact qLess [] (hj0 )
   · exact rFail


/-! ### haruspex/haruspexref1.In -/

def R1_In_env (F : Nat) : Env := envOf []

noncomputable def R1_In_R (F : Nat) := rK Tryd.prog TrydG (R1_In_env F) Tryd.f22
noncomputable def R1_In_D (F : Nat) := dK Tryd.prog TrydG (R1_In_env F) Tryd.f22

def R1_In_r6 (F : Nat) (K : Value → M Value) : M Value :=
  K (.bool false)

theorem R1_In_r6_ok (F : Nat) (K : Value → M Value) : R1_In_r6 F K = R1_In_R F 6 [] [4] K := by kernel_rfl

def R1_In_k0 (F : Nat) : M Value :=
  R1_In_r6 F (fun x4 => ret x4)

def R1_In_r3 (F : Nat) (x0 x1 x5 : Value) (K : Value → Value → Value → M Value) : M Value :=
  bnd (opBin .add x5 (.int .i64 (1))) fun v11 => K x0 x1 v11

theorem R1_In_r3_ok (F : Nat) (x0 x1 x5 : Value) (K : Value → Value → Value → M Value) : R1_In_r3 F x0 x1 x5 K = R1_In_R F 3 [(5, x5), (1, x1), (0, x0)] [0, 1, 5] K := by kernel_rfl

def R1_In_r5 (F : Nat) (K : Value → M Value) : M Value :=
  K (.bool true)

theorem R1_In_r5_ok (F : Nat) (K : Value → M Value) : R1_In_r5 F K = R1_In_R F 5 [] [4] K := by kernel_rfl

def R1_In_r4 (F : Nat) (x0 x1 x5 : Value) (K : Value → Value → Value → Value → M Value) : M Value :=
  bnd (opIndexAddr 1 x0 x5) fun v14 => bnd (opLoad v14) fun v15 => bnd (opBin .eql v15 x1) fun v17 => K x0 x1 x5 v17

theorem R1_In_r4_ok (F : Nat) (x0 x1 x5 : Value) (K : Value → Value → Value → Value → M Value) : R1_In_r4 F x0 x1 x5 K = R1_In_R F 4 [(5, x5), (1, x1), (0, x0)] [0, 1, 5, 17] K := by kernel_rfl

def R1_In_r2 (F : Nat) (x0 x1 x5 : Value) (K : Value → Value → Value → Value → M Value) : M Value :=
  bnd (opLen x0) fun v8 => bnd (opBin .lss x5 v8) fun v9 => K x0 x1 x5 v9

theorem R1_In_r2_ok (F : Nat) (x0 x1 x5 : Value) (K : Value → Value → Value → Value → M Value) : R1_In_r2 F x0 x1 x5 K = R1_In_R F 2 [(5, x5), (1, x1), (0, x0)] [0, 1, 5, 9] K := by kernel_rfl

def R1_In_b1 (F : Nat) (E1_0 : M Value) (A1 : Value → Value → Value → M Value) (x0 x1 x5 : Value) : M Value :=
  R1_In_r2 F x0 x1 x5 (fun x0 x1 x5 x9 => onB x9 (R1_In_r4 F x0 x1 x5 (fun x0 x1 x5 x17 => onB x17 (R1_In_r5 F (fun x4 => ret x4)) (R1_In_r3 F x0 x1 x5 (fun x0 x1 x5 => A1 x0 x1 x5)))) (E1_0 ))

def R1_In_l1 (F : Nat) (E1_0 : M Value) : Nat → Value → Value → Value → M Value
  | 0, _, _, _ => fail
  | k1 + 1, x0, x1, x5 => R1_In_b1 F E1_0 (R1_In_l1 F E1_0 k1) x0 x1 x5

theorem R1_In_l1_s (F : Nat) (E1_0 : M Value) (k1 : Nat) (x0 x1 x5 : Value) : R1_In_l1 F E1_0 (k1 + 1) x0 x1 x5 = R1_In_b1 F E1_0 (R1_In_l1 F E1_0 k1) x0 x1 x5 := rfl

def R1_In_r1 (F : Nat) (x0 x1 : Value) (K : Value → Value → Value → M Value) : M Value :=
  K x0 x1 (.int .i64 (0))

theorem R1_In_r1_ok (F : Nat) (x0 x1 : Value) (K : Value → Value → Value → M Value) : R1_In_r1 F x0 x1 K = R1_In_R F 1 [(1, x1), (0, x0)] [0, 1, 5] K := by kernel_rfl

def R1_In_r0 (F : Nat) (x0 x1 : Value) (K : Value → Value → M Value) : M Value :=
  K x0 x1

theorem R1_In_r0_ok (F : Nat) (x0 x1 : Value) (K : Value → Value → M Value) : R1_In_r0 F x0 x1 K = R1_In_R F 0 [(1, x1), (0, x0)] [0, 1] K := by kernel_rfl

def R1_In (F : Nat) (x0 x1 : Value) : M Value :=
  R1_In_r0 F x0 x1 (fun x0 x1 => R1_In_r1 F x0 x1 (fun x0 x1 x5 => R1_In_l1 F (R1_In_k0 F ) F x0 x1 x5))

def R1_In_m (F : Nat) : List Value → M Value
  | [x0, x1] => R1_In F x0 x1
  | _ => fail

theorem R1_In_body : Tryd.f22.body = some (.seq (.region 0 (opsOf Tryd.f22 0) false) (.seq (.seq (.region 1 (opsOf Tryd.f22 1) false) (.block 0 (.loop (.seq (.seq (.region 2 (opsOf Tryd.f22 2) false) (.cond (.tmp 9) .skip (.exit 0))) (.seq (.block 1 (.seq (.region 4 (opsOf Tryd.f22 4) false) (.cond (.tmp 17) (.seq (.region 5 (opsOf Tryd.f22 5) false) .ret) .skip))) (.region 3 (opsOf Tryd.f22 3) false)))))) (.seq (.region 6 (opsOf Tryd.f22 6) false) .ret))) := by kernel_rfl

theorem R1_In_ok (F : Nat) : Sim Tryd.prog TrydG 22 (R1_In_m F) := by
 have hE : EnvOK Tryd.prog TrydG (R1_In_env F) := EnvOK.nil
 refine Sim.of_body (E := R1_In_env F) Tryd.func22 R1_In_body Tryd.call22 ?_ ?_
 · intro args hl; unfold R1_In_m; split
   · exact absurd hl (Nat.not_lt.2 (Nat.le_of_ble_eq_true rfl))
   · rfl
 · intro args ρ h w z; unfold R1_In_m; split
   · rename_i x0 x1; show OKc _ _ [(0, x0), (1, x1)] _ _
     refine rSeq ?_
     refine cLess [1, 0] ?_
     refine xR hE [0, 1] rfl (R1_In_r0_ok F _ _ _) ?_
     intro x0 x1
     show OKq _ _ _ [(1, x1), (0, x0)] _
     refine rThen ?_
     refine xSeq [] (R1_In_k0 F ) ?_ fun hj0 => ?_
     · show OKc _ _ [] _ _
       refine rSeq ?_
       refine cLess [] ?_
       refine xR hE [4] rfl (R1_In_r6_ok F _) ?_
       intro x4
       show OKq _ _ _ [(4, x4)] _
       refine rThen ?_
       refine rRet ?_
       exact rDone (.inr rfl) rfl
     · refine rSeq ?_
       refine cLess [1, 0] ?_
       refine xR hE [0, 1, 5] rfl (R1_In_r1_ok F _ _ _) ?_
       intro x0 x1 x5
       show OKq _ _ _ [(5, x5), (1, x1), (0, x0)] _
       refine rThen ?_
       refine rBlock ?_
       refine cLess [5, 1, 0] ?_
       refine xLoopAt [0, 1, 5] [] (fun k1 => R1_In_l1 F (R1_In_k0 F ) k1) F [x0, x1, x5] rfl rfl (fun _ _ _ => rfl) fun I hI1 k1 => ?_
       intro x0 x1 x5
       show OKc _ _ [(5, x5), (1, x1), (0, x0)] _ _
       refine cAs (R1_In_l1_s F _ _ _ _ _) ?_
       refine rSeq ?_
       refine rSeq ?_
       refine cLess [5, 1, 0] ?_
       refine xR hE [0, 1, 5, 9] rfl (R1_In_r2_ok F _ _ _ _) ?_
       intro x0 x1 x5 x9
       show OKq _ _ _ [(9, x9), (5, x5), (1, x1), (0, x0)] _
       refine rThen ?_
       refine xCond rfl rfl ?_ ?_
       · refine rSkip ?_
         refine rThen ?_
         refine rSeq ?_
         refine rBlock ?_
         refine rSeq ?_
         refine cLess [5, 1, 0] ?_
         refine xR hE [0, 1, 5, 17] rfl (R1_In_r4_ok F _ _ _ _) ?_
         intro x0 x1 x5 x17
         show OKq _ _ _ [(17, x17), (5, x5), (1, x1), (0, x0)] _
         refine rThen ?_
         refine xCond rfl rfl ?_ ?_
         · refine rSeq ?_
           refine cLess [] ?_
           refine xR hE [4] rfl (R1_In_r5_ok F _) ?_
           intro x4
           show OKq _ _ _ [(4, x4)] _
           refine rThen ?_
           refine rRet ?_
           refine xBlockR ?_
           refine xThenR ?_
           refine xThenR ?_
           refine xBlockR ?_
           refine xThenR ?_
           exact rDone (.inr rfl) rfl
         · refine rSkip ?_
           refine xBlockN ?_
           refine rThen ?_
           refine cLess [5, 1, 0] ?_
           refine xR hE [0, 1, 5] rfl (R1_In_r3_ok F _ _ _ _) ?_
           intro x0 x1 x5
           show OKq _ _ _ [(5, x5), (1, x1), (0, x0)] _
           exact qLess [5, 1, 0] (hI1 k1 x0 x1 x5)
       · refine rExit ?_
         refine xThenX ?_
         refine xThenX ?_
         refine rOut ?_
         exact qLess [] (hj0 )
   · exact rFail


/-! ### (*haruspex/bitset.Set).words -/

def bitset_Set_words_env (F : Nat) : Env := envOf []

noncomputable def bitset_Set_words_R (F : Nat) := rK Tryd.prog TrydG (bitset_Set_words_env F) Tryd.f31
noncomputable def bitset_Set_words_D (F : Nat) := dK Tryd.prog TrydG (bitset_Set_words_env F) Tryd.f31

def bitset_Set_words_r3 (F : Nat) (x0 : Value) (K : Value → M Value) : M Value :=
  bnd (opNil x0) fun v6 => bnd (opFieldAddr 0 v6) fun v7 => bnd (opLoad v7) fun v8 => K v8

theorem bitset_Set_words_r3_ok (F : Nat) (x0 : Value) (K : Value → M Value) : bitset_Set_words_r3 F x0 K = bitset_Set_words_R F 3 [(0, x0)] [2] K := by kernel_rfl

def bitset_Set_words_r2 (F : Nat) (K : Value → M Value) : M Value :=
  K (.slice none 0 0)

theorem bitset_Set_words_r2_ok (F : Nat) (K : Value → M Value) : bitset_Set_words_r2 F K = bitset_Set_words_R F 2 [] [2] K := by kernel_rfl

def bitset_Set_words_r1 (F : Nat) (x0 : Value) (K : Value → Value → M Value) : M Value :=
  bnd (opEq eqP false x0 (.pointer none)) fun v4 => K x0 v4

theorem bitset_Set_words_r1_ok (F : Nat) (x0 : Value) (K : Value → Value → M Value) : bitset_Set_words_r1 F x0 K = bitset_Set_words_R F 1 [(0, x0)] [0, 4] K := by kernel_rfl

def bitset_Set_words_r0 (F : Nat) (x0 : Value) (K : Value → M Value) : M Value :=
  K x0

theorem bitset_Set_words_r0_ok (F : Nat) (x0 : Value) (K : Value → M Value) : bitset_Set_words_r0 F x0 K = bitset_Set_words_R F 0 [(0, x0)] [0] K := by kernel_rfl

def bitset_Set_words (F : Nat) (x0 : Value) : M Value :=
  bitset_Set_words_r0 F x0 (fun x0 => bitset_Set_words_r1 F x0 (fun x0 x4 => onB x4 (bitset_Set_words_r2 F (fun x2 => ret x2)) (bitset_Set_words_r3 F x0 (fun x2 => ret x2))))

def bitset_Set_words_m (F : Nat) : List Value → M Value
  | [x0] => bitset_Set_words F x0
  | _ => fail

theorem bitset_Set_words_body : Tryd.f31.body = some (.seq (.region 0 (opsOf Tryd.f31 0) false) (.seq (.seq (.region 1 (opsOf Tryd.f31 1) false) (.cond (.tmp 4) (.seq (.region 2 (opsOf Tryd.f31 2) false) .ret) .skip)) (.seq (.region 3 (opsOf Tryd.f31 3) false) .ret))) := by kernel_rfl

theorem bitset_Set_words_ok (F : Nat) : Sim Tryd.prog TrydG 31 (bitset_Set_words_m F) := by
 have hE : EnvOK Tryd.prog TrydG (bitset_Set_words_env F) := EnvOK.nil
 refine Sim.of_body (E := bitset_Set_words_env F) Tryd.func31 bitset_Set_words_body Tryd.call31 ?_ ?_
 · intro args hl; unfold bitset_Set_words_m; split
   · exact absurd hl (Nat.not_lt.2 (Nat.le_of_ble_eq_true rfl))
   · rfl
 · intro args ρ h w z; unfold bitset_Set_words_m; split
   · rename_i x0; show OKc _ _ [(0, x0)] _ _
     refine rSeq ?_
     refine cLess [0] ?_
     refine xR hE [0] rfl (bitset_Set_words_r0_ok F _ _) ?_
     intro x0
     show OKq _ _ _ [(0, x0)] _
     refine rThen ?_
     refine rSeq ?_
     refine rSeq ?_
     refine cLess [0] ?_
     refine xR hE [0, 4] rfl (bitset_Set_words_r1_ok F _ _) ?_
     intro x0 x4
     show OKq _ _ _ [(4, x4), (0, x0)] _
     refine rThen ?_
     refine xCond rfl rfl ?_ ?_
     · refine rSeq ?_
       refine cLess [] ?_
       refine xR hE [2] rfl (bitset_Set_words_r2_ok F _) ?_
       intro x2
       show OKq _ _ _ [(2, x2)] _
       refine rThen ?_
       refine rRet ?_
       refine xThenR ?_
       exact rDone (.inr rfl) rfl
     · refine rSkip ?_
       refine rThen ?_
       refine rSeq ?_
       refine cLess [0] ?_
       refine xR hE [2] rfl (bitset_Set_words_r3_ok F _ _) ?_
       intro x2
       show OKq _ _ _ [(2, x2)] _
       refine rThen ?_
       refine rRet ?_
       exact rDone (.inr rfl) rfl
   · exact rFail


/-! ### math/bits.OnesCount64 -/

def bits_OnesCount64_env (F : Nat) : Env := envOf []

noncomputable def bits_OnesCount64_R (F : Nat) := rK Tryd.prog TrydG (bits_OnesCount64_env F) Tryd.f32
noncomputable def bits_OnesCount64_D (F : Nat) := dK Tryd.prog TrydG (bits_OnesCount64_env F) Tryd.f32

def bits_OnesCount64_r7 (F : Nat) (x0 : Value) (K : Value → M Value) : M Value :=
  bnd (opConv .i64 x0) fun v33 => bnd (opBin .and v33 (.int .i64 (127))) fun v34 => K v34

theorem bits_OnesCount64_r7_ok (F : Nat) (x0 : Value) (K : Value → M Value) : bits_OnesCount64_r7 F x0 K = bits_OnesCount64_R F 7 [(0, x0)] [2] K := by kernel_rfl

def bits_OnesCount64_r6 (F : Nat) (x0 : Value) (K : Value → M Value) : M Value :=
  bnd (opBin .shr x0 (.int .u64 (32))) fun v30 => bnd (opBin .add x0 v30) fun v31 => K v31

theorem bits_OnesCount64_r6_ok (F : Nat) (x0 : Value) (K : Value → M Value) : bits_OnesCount64_r6 F x0 K = bits_OnesCount64_R F 6 [(0, x0)] [0] K := by kernel_rfl

def bits_OnesCount64_r5 (F : Nat) (x0 : Value) (K : Value → M Value) : M Value :=
  bnd (opBin .shr x0 (.int .u64 (16))) fun v26 => bnd (opBin .add x0 v26) fun v27 => K v27

theorem bits_OnesCount64_r5_ok (F : Nat) (x0 : Value) (K : Value → M Value) : bits_OnesCount64_r5 F x0 K = bits_OnesCount64_R F 5 [(0, x0)] [0] K := by kernel_rfl

def bits_OnesCount64_r4 (F : Nat) (x0 : Value) (K : Value → M Value) : M Value :=
  bnd (opBin .shr x0 (.int .u64 (8))) fun v22 => bnd (opBin .add x0 v22) fun v23 => K v23

theorem bits_OnesCount64_r4_ok (F : Nat) (x0 : Value) (K : Value → M Value) : bits_OnesCount64_r4 F x0 K = bits_OnesCount64_R F 4 [(0, x0)] [0] K := by kernel_rfl

def bits_OnesCount64_r3 (F : Nat) (x0 : Value) (K : Value → M Value) : M Value :=
  bnd (opBin .shr x0 (.int .u64 (4))) fun v16 => bnd (opBin .add v16 x0) fun v18 => bnd (opBin .and v18 (.int .u64 (1085102592571150095))) fun v19 => K v19

theorem bits_OnesCount64_r3_ok (F : Nat) (x0 : Value) (K : Value → M Value) : bits_OnesCount64_r3 F x0 K = bits_OnesCount64_R F 3 [(0, x0)] [0] K := by kernel_rfl

def bits_OnesCount64_r2 (F : Nat) (x0 : Value) (K : Value → M Value) : M Value :=
  bnd (opBin .shr x0 (.int .u64 (2))) fun v10 => bnd (opBin .and v10 (.int .u64 (3689348814741910323))) fun v11 => bnd (opBin .and x0 (.int .u64 (3689348814741910323))) fun v13 => bnd (opBin .add v11 v13) fun v14 => K v14

theorem bits_OnesCount64_r2_ok (F : Nat) (x0 : Value) (K : Value → M Value) : bits_OnesCount64_r2 F x0 K = bits_OnesCount64_R F 2 [(0, x0)] [0] K := by kernel_rfl

def bits_OnesCount64_r1 (F : Nat) (x0 : Value) (K : Value → M Value) : M Value :=
  bnd (opBin .shr x0 (.int .u64 (1))) fun v4 => bnd (opBin .and v4 (.int .u64 (6148914691236517205))) fun v5 => bnd (opBin .and x0 (.int .u64 (6148914691236517205))) fun v7 => bnd (opBin .add v5 v7) fun v8 => K v8

theorem bits_OnesCount64_r1_ok (F : Nat) (x0 : Value) (K : Value → M Value) : bits_OnesCount64_r1 F x0 K = bits_OnesCount64_R F 1 [(0, x0)] [0] K := by kernel_rfl

def bits_OnesCount64_r0 (F : Nat) (x0 : Value) (K : Value → M Value) : M Value :=
  K x0

theorem bits_OnesCount64_r0_ok (F : Nat) (x0 : Value) (K : Value → M Value) : bits_OnesCount64_r0 F x0 K = bits_OnesCount64_R F 0 [(0, x0)] [0] K := by kernel_rfl

def bits_OnesCount64 (F : Nat) (x0 : Value) : M Value :=
  bits_OnesCount64_r0 F x0 (fun x0 => bits_OnesCount64_r1 F x0 (fun x0 => bits_OnesCount64_r2 F x0 (fun x0 => bits_OnesCount64_r3 F x0 (fun x0 => bits_OnesCount64_r4 F x0 (fun x0 => bits_OnesCount64_r5 F x0 (fun x0 => bits_OnesCount64_r6 F x0 (fun x0 => bits_OnesCount64_r7 F x0 (fun x2 => ret x2))))))))

def bits_OnesCount64_m (F : Nat) : List Value → M Value
  | [x0] => bits_OnesCount64 F x0
  | _ => fail

theorem bits_OnesCount64_body : Tryd.f32.body = some (.seq (.region 0 (opsOf Tryd.f32 0) false) (.seq (.region 1 (opsOf Tryd.f32 1) false) (.seq (.region 2 (opsOf Tryd.f32 2) false) (.seq (.region 3 (opsOf Tryd.f32 3) false) (.seq (.region 4 (opsOf Tryd.f32 4) false) (.seq (.region 5 (opsOf Tryd.f32 5) false) (.seq (.region 6 (opsOf Tryd.f32 6) false) (.seq (.region 7 (opsOf Tryd.f32 7) false) .ret)))))))) := by kernel_rfl

theorem bits_OnesCount64_ok (F : Nat) : Sim Tryd.prog TrydG 32 (bits_OnesCount64_m F) := by
 have hE : EnvOK Tryd.prog TrydG (bits_OnesCount64_env F) := EnvOK.nil
 refine Sim.of_body (E := bits_OnesCount64_env F) Tryd.func32 bits_OnesCount64_body Tryd.call32 ?_ ?_
 · intro args hl; unfold bits_OnesCount64_m; split
   · exact absurd hl (Nat.not_lt.2 (Nat.le_of_ble_eq_true rfl))
   · rfl
 · intro args ρ h w z; unfold bits_OnesCount64_m; split
   · rename_i x0; show OKc _ _ [(0, x0)] _ _
     refine rSeq ?_
     refine cLess [0] ?_
     refine xR hE [0] rfl (bits_OnesCount64_r0_ok F _ _) ?_
     intro x0
     show OKq _ _ _ [(0, x0)] _
     refine rThen ?_
     refine rSeq ?_
     refine cLess [0] ?_
     refine xR hE [0] rfl (bits_OnesCount64_r1_ok F _ _) ?_
     intro x0
     show OKq _ _ _ [(0, x0)] _
     refine rThen ?_
     refine rSeq ?_
     refine cLess [0] ?_
     refine xR hE [0] rfl (bits_OnesCount64_r2_ok F _ _) ?_
     intro x0
     show OKq _ _ _ [(0, x0)] _
     refine rThen ?_
     refine rSeq ?_
     refine cLess [0] ?_
     refine xR hE [0] rfl (bits_OnesCount64_r3_ok F _ _) ?_
     intro x0
     show OKq _ _ _ [(0, x0)] _
     refine rThen ?_
     refine rSeq ?_
     refine cLess [0] ?_
     refine xR hE [0] rfl (bits_OnesCount64_r4_ok F _ _) ?_
     intro x0
     show OKq _ _ _ [(0, x0)] _
     refine rThen ?_
     refine rSeq ?_
     refine cLess [0] ?_
     refine xR hE [0] rfl (bits_OnesCount64_r5_ok F _ _) ?_
     intro x0
     show OKq _ _ _ [(0, x0)] _
     refine rThen ?_
     refine rSeq ?_
     refine cLess [0] ?_
     refine xR hE [0] rfl (bits_OnesCount64_r6_ok F _ _) ?_
     intro x0
     show OKq _ _ _ [(0, x0)] _
     refine rThen ?_
     refine rSeq ?_
     refine cLess [0] ?_
     refine xR hE [2] rfl (bits_OnesCount64_r7_ok F _ _) ?_
     intro x2
     show OKq _ _ _ [(2, x2)] _
     refine rThen ?_
     refine rRet ?_
     exact rDone (.inr rfl) rfl
   · exact rFail


/-! ### math/bits.TrailingZeros64 -/

def bits_TrailingZeros64_env (F : Nat) : Env := envOf []

noncomputable def bits_TrailingZeros64_R (F : Nat) := rK Tryd.prog TrydG (bits_TrailingZeros64_env F) Tryd.f33
noncomputable def bits_TrailingZeros64_D (F : Nat) := dK Tryd.prog TrydG (bits_TrailingZeros64_env F) Tryd.f33

def bits_TrailingZeros64_r3 (F : Nat) (x0 : Value) (K : Value → M Value) : M Value :=
  bnd (opNeg x0) fun v7 => bnd (opBin .and x0 v7) fun v8 => bnd (opBin .mul v8 (.int .u64 (285870213051353865))) fun v9 => bnd (opBin .shr v9 (.int .u64 (58))) fun v10 => bnd (opIndexAddrA 64 1 (.pointer (some ⟨0, 0, none⟩)) v10) fun v11 => bnd (opLoad v11) fun v12 => bnd (opConv .i64 v12) fun v13 => K v13

theorem bits_TrailingZeros64_r3_ok (F : Nat) (x0 : Value) (K : Value → M Value) : bits_TrailingZeros64_r3 F x0 K = bits_TrailingZeros64_R F 3 [(0, x0)] [2] K := by kernel_rfl

def bits_TrailingZeros64_r2 (F : Nat) (K : Value → M Value) : M Value :=
  K (.int .i64 (64))

theorem bits_TrailingZeros64_r2_ok (F : Nat) (K : Value → M Value) : bits_TrailingZeros64_r2 F K = bits_TrailingZeros64_R F 2 [] [2] K := by kernel_rfl

def bits_TrailingZeros64_r1 (F : Nat) (x0 : Value) (K : Value → Value → M Value) : M Value :=
  bnd (opBin .eql x0 (.int .u64 (0))) fun v4 => K x0 v4

theorem bits_TrailingZeros64_r1_ok (F : Nat) (x0 : Value) (K : Value → Value → M Value) : bits_TrailingZeros64_r1 F x0 K = bits_TrailingZeros64_R F 1 [(0, x0)] [0, 4] K := by kernel_rfl

def bits_TrailingZeros64_r0 (F : Nat) (x0 : Value) (K : Value → M Value) : M Value :=
  K x0

theorem bits_TrailingZeros64_r0_ok (F : Nat) (x0 : Value) (K : Value → M Value) : bits_TrailingZeros64_r0 F x0 K = bits_TrailingZeros64_R F 0 [(0, x0)] [0] K := by kernel_rfl

def bits_TrailingZeros64 (F : Nat) (x0 : Value) : M Value :=
  bits_TrailingZeros64_r0 F x0 (fun x0 => bits_TrailingZeros64_r1 F x0 (fun x0 x4 => onB x4 (bits_TrailingZeros64_r2 F (fun x2 => ret x2)) (bits_TrailingZeros64_r3 F x0 (fun x2 => ret x2))))

def bits_TrailingZeros64_m (F : Nat) : List Value → M Value
  | [x0] => bits_TrailingZeros64 F x0
  | _ => fail

theorem bits_TrailingZeros64_body : Tryd.f33.body = some (.seq (.region 0 (opsOf Tryd.f33 0) false) (.seq (.seq (.region 1 (opsOf Tryd.f33 1) false) (.cond (.tmp 4) (.seq (.region 2 (opsOf Tryd.f33 2) false) .ret) .skip)) (.seq (.region 3 (opsOf Tryd.f33 3) false) .ret))) := by kernel_rfl

theorem bits_TrailingZeros64_ok (F : Nat) : Sim Tryd.prog TrydG 33 (bits_TrailingZeros64_m F) := by
 have hE : EnvOK Tryd.prog TrydG (bits_TrailingZeros64_env F) := EnvOK.nil
 refine Sim.of_body (E := bits_TrailingZeros64_env F) Tryd.func33 bits_TrailingZeros64_body Tryd.call33 ?_ ?_
 · intro args hl; unfold bits_TrailingZeros64_m; split
   · exact absurd hl (Nat.not_lt.2 (Nat.le_of_ble_eq_true rfl))
   · rfl
 · intro args ρ h w z; unfold bits_TrailingZeros64_m; split
   · rename_i x0; show OKc _ _ [(0, x0)] _ _
     refine rSeq ?_
     refine cLess [0] ?_
     refine xR hE [0] rfl (bits_TrailingZeros64_r0_ok F _ _) ?_
     intro x0
     show OKq _ _ _ [(0, x0)] _
     refine rThen ?_
     refine rSeq ?_
     refine rSeq ?_
     refine cLess [0] ?_
     refine xR hE [0, 4] rfl (bits_TrailingZeros64_r1_ok F _ _) ?_
     intro x0 x4
     show OKq _ _ _ [(4, x4), (0, x0)] _
     refine rThen ?_
     refine xCond rfl rfl ?_ ?_
     · refine rSeq ?_
       refine cLess [] ?_
       refine xR hE [2] rfl (bits_TrailingZeros64_r2_ok F _) ?_
       intro x2
       show OKq _ _ _ [(2, x2)] _
       refine rThen ?_
       refine rRet ?_
       refine xThenR ?_
       exact rDone (.inr rfl) rfl
     · refine rSkip ?_
       refine rThen ?_
       refine rSeq ?_
       refine cLess [0] ?_
       refine xR hE [2] rfl (bits_TrailingZeros64_r3_ok F _ _) ?_
       intro x2
       show OKq _ _ _ [(2, x2)] _
       refine rThen ?_
       refine rRet ?_
       exact rDone (.inr rfl) rfl
   · exact rFail


/-! ### slices.Clone[[]uint64,uint64] -/

def slices_Clone_env (F : Nat) : Env := envOf []

noncomputable def slices_Clone_R (F : Nat) := rK Tryd.prog TrydG (slices_Clone_env F) Tryd.f34
noncomputable def slices_Clone_D (F : Nat) := dK Tryd.prog TrydG (slices_Clone_env F) Tryd.f34

def slices_Clone_r3 (F : Nat) (x0 : Value) (K : Value → M Value) : M Value :=
  bnd (opBuildSlice 0 (rep 0 [(.int .u64 (0))]) []) fun v5 => bnd (opAppend 1 8 v5 x0) fun v7 => K v7

theorem slices_Clone_r3_ok (F : Nat) (x0 : Value) (K : Value → M Value) : slices_Clone_r3 F x0 K = slices_Clone_R F 3 [(0, x0)] [2] K := by kernel_rfl

def slices_Clone_r2 (F : Nat) (K : Value → M Value) : M Value :=
  K (.slice none 0 0)

theorem slices_Clone_r2_ok (F : Nat) (K : Value → M Value) : slices_Clone_r2 F K = slices_Clone_R F 2 [] [2] K := by kernel_rfl

def slices_Clone_r1 (F : Nat) (x0 : Value) (K : Value → Value → M Value) : M Value :=
  bnd (opEq eqSl false x0 (.slice none 0 0)) fun v4 => K x0 v4

theorem slices_Clone_r1_ok (F : Nat) (x0 : Value) (K : Value → Value → M Value) : slices_Clone_r1 F x0 K = slices_Clone_R F 1 [(0, x0)] [0, 4] K := by kernel_rfl

def slices_Clone_r0 (F : Nat) (x0 : Value) (K : Value → M Value) : M Value :=
  K x0

theorem slices_Clone_r0_ok (F : Nat) (x0 : Value) (K : Value → M Value) : slices_Clone_r0 F x0 K = slices_Clone_R F 0 [(0, x0)] [0] K := by kernel_rfl

def slices_Clone (F : Nat) (x0 : Value) : M Value :=
  slices_Clone_r0 F x0 (fun x0 => slices_Clone_r1 F x0 (fun x0 x4 => onB x4 (slices_Clone_r2 F (fun x2 => ret x2)) (slices_Clone_r3 F x0 (fun x2 => ret x2))))

def slices_Clone_m (F : Nat) : List Value → M Value
  | [x0] => slices_Clone F x0
  | _ => fail

theorem slices_Clone_body : Tryd.f34.body = some (.seq (.region 0 (opsOf Tryd.f34 0) false) (.seq (.seq (.region 1 (opsOf Tryd.f34 1) false) (.cond (.tmp 4) (.seq (.region 2 (opsOf Tryd.f34 2) false) .ret) .skip)) (.seq (.region 3 (opsOf Tryd.f34 3) false) .ret))) := by kernel_rfl

theorem slices_Clone_ok (F : Nat) : Sim Tryd.prog TrydG 34 (slices_Clone_m F) := by
 have hE : EnvOK Tryd.prog TrydG (slices_Clone_env F) := EnvOK.nil
 refine Sim.of_body (E := slices_Clone_env F) Tryd.func34 slices_Clone_body Tryd.call34 ?_ ?_
 · intro args hl; unfold slices_Clone_m; split
   · exact absurd hl (Nat.not_lt.2 (Nat.le_of_ble_eq_true rfl))
   · rfl
 · intro args ρ h w z; unfold slices_Clone_m; split
   · rename_i x0; show OKc _ _ [(0, x0)] _ _
     refine rSeq ?_
     refine cLess [0] ?_
     refine xR hE [0] rfl (slices_Clone_r0_ok F _ _) ?_
     intro x0
     show OKq _ _ _ [(0, x0)] _
     refine rThen ?_
     refine rSeq ?_
     refine rSeq ?_
     refine cLess [0] ?_
     refine xR hE [0, 4] rfl (slices_Clone_r1_ok F _ _) ?_
     intro x0 x4
     show OKq _ _ _ [(4, x4), (0, x0)] _
     refine rThen ?_
     refine xCond rfl rfl ?_ ?_
     · refine rSeq ?_
       refine cLess [] ?_
       refine xR hE [2] rfl (slices_Clone_r2_ok F _) ?_
       intro x2
       show OKq _ _ _ [(2, x2)] _
       refine rThen ?_
       refine rRet ?_
       refine xThenR ?_
       exact rDone (.inr rfl) rfl
     · refine rSkip ?_
       refine rThen ?_
       refine rSeq ?_
       refine cLess [0] ?_
       refine xR hE [2] rfl (slices_Clone_r3_ok F _ _) ?_
       intro x2
       show OKq _ _ _ [(2, x2)] _
       refine rThen ?_
       refine rRet ?_
       exact rDone (.inr rfl) rfl
   · exact rFail


/-! ### (*haruspex/bitset.Set).Len -/

def bitset_Set_Len_env (F : Nat) : Env := envOf [(31, bitset_Set_words_m F), (32, bits_OnesCount64_m F)]

noncomputable def bitset_Set_Len_R (F : Nat) := rK Tryd.prog TrydG (bitset_Set_Len_env F) Tryd.f13
noncomputable def bitset_Set_Len_D (F : Nat) := dK Tryd.prog TrydG (bitset_Set_Len_env F) Tryd.f13

def bitset_Set_Len_r7 (F : Nat) (x3 : Value) (K : Value → M Value) : M Value :=
  K x3

theorem bitset_Set_Len_r7_ok (F : Nat) (x3 : Value) (K : Value → M Value) : bitset_Set_Len_r7 F x3 K = bitset_Set_Len_R F 7 [(3, x3)] [2] K := by kernel_rfl

def bitset_Set_Len_k0 (F : Nat) (x3 : Value) : M Value :=
  bitset_Set_Len_r7 F x3 (fun x2 => ret x2)

def bitset_Set_Len_r6 (F : Nat) (x3 x7 x8 x9 : Value) (K : Value → Value → Value → Value → M Value) : M Value :=
  bnd (opBin .add x9 (.int .i64 (1))) fun v17 => K x3 x7 x8 v17

theorem bitset_Set_Len_r6_ok (F : Nat) (x3 x7 x8 x9 : Value) (K : Value → Value → Value → Value → M Value) : bitset_Set_Len_r6 F x3 x7 x8 x9 K = bitset_Set_Len_R F 6 [(9, x9), (8, x8), (7, x7), (3, x3)] [3, 7, 8, 9] K := by kernel_rfl

def bitset_Set_Len_r5 (F : Nat) (x3 x5 x7 x8 x9 : Value) (K : Value → Value → Value → Value → M Value) : M Value :=
  bnd (bits_OnesCount64 F x5) fun v15 => bnd (opBin .add x3 v15) fun v16 => K v16 x7 x8 x9

theorem bitset_Set_Len_r5_ok (F : Nat) (x3 x5 x7 x8 x9 : Value) (K : Value → Value → Value → Value → M Value) : bitset_Set_Len_r5 F x3 x5 x7 x8 x9 K = bitset_Set_Len_R F 5 [(9, x9), (8, x8), (7, x7), (5, x5), (3, x3)] [3, 7, 8, 9] K := by kernel_rfl

def bitset_Set_Len_r4 (F : Nat) (x3 x7 x8 x9 : Value) (K : Value → Value → Value → Value → Value → M Value) : M Value :=
  bnd (opIndexAddr 1 x7 x9) fun v11 => bnd (opLoad v11) fun v12 => K x3 v12 x7 x8 x9

theorem bitset_Set_Len_r4_ok (F : Nat) (x3 x7 x8 x9 : Value) (K : Value → Value → Value → Value → Value → M Value) : bitset_Set_Len_r4 F x3 x7 x8 x9 K = bitset_Set_Len_R F 4 [(9, x9), (8, x8), (7, x7), (3, x3)] [3, 5, 7, 8, 9] K := by kernel_rfl

def bitset_Set_Len_r3 (F : Nat) (x3 x7 x8 x9 : Value) (K : Value → Value → Value → Value → Value → M Value) : M Value :=
  bnd (opBin .lss x9 x8) fun v10 => K x3 x7 x8 x9 v10

theorem bitset_Set_Len_r3_ok (F : Nat) (x3 x7 x8 x9 : Value) (K : Value → Value → Value → Value → Value → M Value) : bitset_Set_Len_r3 F x3 x7 x8 x9 K = bitset_Set_Len_R F 3 [(9, x9), (8, x8), (7, x7), (3, x3)] [3, 7, 8, 9, 10] K := by kernel_rfl

def bitset_Set_Len_b1 (F : Nat) (E1_0 : Value → M Value) (A1 : Value → Value → Value → Value → M Value) (x3 x7 x8 x9 : Value) : M Value :=
  bitset_Set_Len_r3 F x3 x7 x8 x9 (fun x3 x7 x8 x9 x10 => onB x10 (bitset_Set_Len_r4 F x3 x7 x8 x9 (fun x3 x5 x7 x8 x9 => bitset_Set_Len_r5 F x3 x5 x7 x8 x9 (fun x3 x7 x8 x9 => bitset_Set_Len_r6 F x3 x7 x8 x9 (fun x3 x7 x8 x9 => A1 x3 x7 x8 x9)))) (E1_0 x3))

def bitset_Set_Len_l1 (F : Nat) (E1_0 : Value → M Value) : Nat → Value → Value → Value → Value → M Value
  | 0, _, _, _, _ => fail
  | k1 + 1, x3, x7, x8, x9 => bitset_Set_Len_b1 F E1_0 (bitset_Set_Len_l1 F E1_0 k1) x3 x7 x8 x9

theorem bitset_Set_Len_l1_s (F : Nat) (E1_0 : Value → M Value) (k1 : Nat) (x3 x7 x8 x9 : Value) : bitset_Set_Len_l1 F E1_0 (k1 + 1) x3 x7 x8 x9 = bitset_Set_Len_b1 F E1_0 (bitset_Set_Len_l1 F E1_0 k1) x3 x7 x8 x9 := rfl

def bitset_Set_Len_r2 (F : Nat) (x0 x3 : Value) (K : Value → Value → Value → Value → M Value) : M Value :=
  bnd (bitset_Set_words F x0) fun v7 => bnd (opLen v7) fun v8 => K x3 v7 v8 (.int .i64 (0))

theorem bitset_Set_Len_r2_ok (F : Nat) (x0 x3 : Value) (K : Value → Value → Value → Value → M Value) : bitset_Set_Len_r2 F x0 x3 K = bitset_Set_Len_R F 2 [(3, x3), (0, x0)] [3, 7, 8, 9] K := by kernel_rfl

def bitset_Set_Len_r1 (F : Nat) (x0 : Value) (K : Value → Value → M Value) : M Value :=
  K x0 (.int .i64 (0))

theorem bitset_Set_Len_r1_ok (F : Nat) (x0 : Value) (K : Value → Value → M Value) : bitset_Set_Len_r1 F x0 K = bitset_Set_Len_R F 1 [(0, x0)] [0, 3] K := by kernel_rfl

def bitset_Set_Len_r0 (F : Nat) (x0 : Value) (K : Value → M Value) : M Value :=
  K x0

theorem bitset_Set_Len_r0_ok (F : Nat) (x0 : Value) (K : Value → M Value) : bitset_Set_Len_r0 F x0 K = bitset_Set_Len_R F 0 [(0, x0)] [0] K := by kernel_rfl

def bitset_Set_Len (F : Nat) (x0 : Value) : M Value :=
  bitset_Set_Len_r0 F x0 (fun x0 => bitset_Set_Len_r1 F x0 (fun x0 x3 => bitset_Set_Len_r2 F x0 x3 (fun x3 x7 x8 x9 => bitset_Set_Len_l1 F (fun x3 => bitset_Set_Len_k0 F x3) F x3 x7 x8 x9)))

def bitset_Set_Len_m (F : Nat) : List Value → M Value
  | [x0] => bitset_Set_Len F x0
  | _ => fail

theorem bitset_Set_Len_body : Tryd.f13.body = some (.seq (.region 0 (opsOf Tryd.f13 0) false) (.seq (.region 1 (opsOf Tryd.f13 1) false) (.seq (.seq (.region 2 (opsOf Tryd.f13 2) false) (.block 0 (.loop (.seq (.region 3 (opsOf Tryd.f13 3) false) (.seq (.cond (.tmp 10) .skip (.exit 0)) (.seq (.block 1 (.seq (.region 4 (opsOf Tryd.f13 4) false) (.region 5 (opsOf Tryd.f13 5) false))) (.region 6 (opsOf Tryd.f13 6) false))))))) (.seq (.region 7 (opsOf Tryd.f13 7) false) .ret)))) := by kernel_rfl

theorem bitset_Set_Len_ok (F : Nat) : Sim Tryd.prog TrydG 13 (bitset_Set_Len_m F) := by
 have hE : EnvOK Tryd.prog TrydG (bitset_Set_Len_env F) := (EnvOK.cons (bitset_Set_words_ok F) (EnvOK.cons (bits_OnesCount64_ok F) EnvOK.nil))
 refine Sim.of_body (E := bitset_Set_Len_env F) Tryd.func13 bitset_Set_Len_body Tryd.call13 ?_ ?_
 · intro args hl; unfold bitset_Set_Len_m; split
   · exact absurd hl (Nat.not_lt.2 (Nat.le_of_ble_eq_true rfl))
   · rfl
 · intro args ρ h w z; unfold bitset_Set_Len_m; split
   · rename_i x0; show OKc _ _ [(0, x0)] _ _
     refine rSeq ?_
     refine cLess [0] ?_
     refine xR hE [0] rfl (bitset_Set_Len_r0_ok F _ _) ?_
     intro x0
     show OKq _ _ _ [(0, x0)] _
     refine rThen ?_
     refine rSeq ?_
     refine cLess [0] ?_
     refine xR hE [0, 3] rfl (bitset_Set_Len_r1_ok F _ _) ?_
     intro x0 x3
     show OKq _ _ _ [(3, x3), (0, x0)] _
     refine rThen ?_
     refine xSeq [3] (bitset_Set_Len_k0 F ) ?_ fun hj0 => ?_
     · intro x3
       show OKc _ _ [(3, x3)] _ _
       refine rSeq ?_
       refine cLess [3] ?_
       refine xR hE [2] rfl (bitset_Set_Len_r7_ok F _ _) ?_
       intro x2
       show OKq _ _ _ [(2, x2)] _
       refine rThen ?_
       refine rRet ?_
       exact rDone (.inr rfl) rfl
     · refine rSeq ?_
       refine cLess [3, 0] ?_
       refine xR hE [3, 7, 8, 9] rfl (bitset_Set_Len_r2_ok F _ _ _) ?_
       intro x3 x7 x8 x9
       show OKq _ _ _ [(9, x9), (8, x8), (7, x7), (3, x3)] _
       refine rThen ?_
       refine rBlock ?_
       refine cLess [9, 8, 7, 3] ?_
       refine xLoopAt [3, 7, 8, 9] [] (fun k1 => bitset_Set_Len_l1 F (fun x3 => bitset_Set_Len_k0 F x3) k1) F [x3, x7, x8, x9] rfl rfl (fun _ _ _ _ => rfl) fun I hI1 k1 => ?_
       intro x3 x7 x8 x9
       show OKc _ _ [(9, x9), (8, x8), (7, x7), (3, x3)] _ _
       refine cAs (bitset_Set_Len_l1_s F _ _ _ _ _ _) ?_
       refine rSeq ?_
       refine cLess [9, 8, 7, 3] ?_
       refine xR hE [3, 7, 8, 9, 10] rfl (bitset_Set_Len_r3_ok F _ _ _ _ _) ?_
       intro x3 x7 x8 x9 x10
       show OKq _ _ _ [(10, x10), (9, x9), (8, x8), (7, x7), (3, x3)] _
       refine rThen ?_
       refine rSeq ?_
       refine xCond rfl rfl ?_ ?_
       · refine rSkip ?_
         refine rThen ?_
         refine rSeq ?_
         refine rBlock ?_
         refine rSeq ?_
         refine cLess [9, 8, 7, 3] ?_
         refine xR hE [3, 5, 7, 8, 9] rfl (bitset_Set_Len_r4_ok F _ _ _ _ _) ?_
         intro x3 x5 x7 x8 x9
         show OKq _ _ _ [(9, x9), (8, x8), (7, x7), (5, x5), (3, x3)] _
         refine rThen ?_
         refine cLess [9, 8, 7, 5, 3] ?_
         refine xR hE [3, 7, 8, 9] rfl (bitset_Set_Len_r5_ok F _ _ _ _ _ _) ?_
         intro x3 x7 x8 x9
         show OKq _ _ _ [(9, x9), (8, x8), (7, x7), (3, x3)] _
         refine xBlockN ?_
         refine rThen ?_
         refine cLess [9, 8, 7, 3] ?_
         refine xR hE [3, 7, 8, 9] rfl (bitset_Set_Len_r6_ok F _ _ _ _ _) ?_
         intro x3 x7 x8 x9
         show OKq _ _ _ [(9, x9), (8, x8), (7, x7), (3, x3)] _
         exact qLess [9, 8, 7, 3] (hI1 k1 x3 x7 x8 x9)
       · refine rExit ?_
         refine xThenX ?_
         refine xThenX ?_
         refine rOut ?_
         exact qLess [3] (hj0 x3)
   · exact rFail


/-! ### (*haruspex/bitset.Set).All -/

def bitset_Set_All_env (F : Nat) : Env := envOf [(31, bitset_Set_words_m F), (33, bits_TrailingZeros64_m F)]

noncomputable def bitset_Set_All_R (F : Nat) := rK Tryd.prog TrydG (bitset_Set_All_env F) Tryd.f14
noncomputable def bitset_Set_All_D (F : Nat) := dK Tryd.prog TrydG (bitset_Set_All_env F) Tryd.f14

def bitset_Set_All_r9 (F : Nat) (x3 : Value) (K : Value → M Value) : M Value :=
  K x3

theorem bitset_Set_All_r9_ok (F : Nat) (x3 : Value) (K : Value → M Value) : bitset_Set_All_r9 F x3 K = bitset_Set_All_R F 9 [(3, x3)] [2] K := by kernel_rfl

def bitset_Set_All_k0 (F : Nat) (x3 : Value) : M Value :=
  bitset_Set_All_r9 F x3 (fun x2 => ret x2)

def bitset_Set_All_r8 (F : Nat) (x3 x7 x8 x9 : Value) (K : Value → Value → Value → Value → M Value) : M Value :=
  bnd (opBin .add x9 (.int .i64 (1))) fun v28 => K x3 x7 x8 v28

theorem bitset_Set_All_r8_ok (F : Nat) (x3 x7 x8 x9 : Value) (K : Value → Value → Value → Value → M Value) : bitset_Set_All_r8 F x3 x7 x8 x9 K = bitset_Set_All_R F 8 [(9, x9), (8, x8), (7, x7), (3, x3)] [3, 7, 8, 9] K := by kernel_rfl

def bitset_Set_All_k2 (F : Nat) (A1 : Value → Value → Value → Value → M Value) (x3 x7 x8 x9 : Value) : M Value :=
  bitset_Set_All_r8 F x3 x7 x8 x9 (fun x3 x7 x8 x9 => A1 x3 x7 x8 x9)

def bitset_Set_All_r6 (F : Nat) (x3 x4 x5 x7 x8 x9 : Value) (K : Value → Value → Value → Value → Value → Value → M Value) : M Value :=
  bnd (opBin .sub x5 (.int .u64 (1))) fun v18 => bnd (opBin .and x5 v18) fun v19 => K x3 x4 v19 x7 x8 x9

theorem bitset_Set_All_r6_ok (F : Nat) (x3 x4 x5 x7 x8 x9 : Value) (K : Value → Value → Value → Value → Value → Value → M Value) : bitset_Set_All_r6 F x3 x4 x5 x7 x8 x9 K = bitset_Set_All_R F 6 [(9, x9), (8, x8), (7, x7), (5, x5), (4, x4), (3, x3)] [3, 4, 5, 7, 8, 9] K := by kernel_rfl

def bitset_Set_All_r7 (F : Nat) (x3 x4 x5 x7 x8 x9 : Value) (K : Value → Value → Value → Value → Value → Value → M Value) : M Value :=
  bnd (opBin .mul x4 (.int .i64 (64))) fun v22 => bnd (bits_TrailingZeros64 F x5) fun v24 => bnd (opBin .add v22 v24) fun v25 => bnd (opBuildSlice 1 (rep 1 [(.int .i64 (0))]) [(0, 1, false, v25)]) fun v26 => bnd (opAppend 1 8 x3 v26) fun v27 => K v27 x4 x5 x7 x8 x9

theorem bitset_Set_All_r7_ok (F : Nat) (x3 x4 x5 x7 x8 x9 : Value) (K : Value → Value → Value → Value → Value → Value → M Value) : bitset_Set_All_r7 F x3 x4 x5 x7 x8 x9 K = bitset_Set_All_R F 7 [(9, x9), (8, x8), (7, x7), (5, x5), (4, x4), (3, x3)] [3, 4, 5, 7, 8, 9] K := by kernel_rfl

def bitset_Set_All_r5 (F : Nat) (x3 x4 x5 x7 x8 x9 : Value) (K : Value → Value → Value → Value → Value → Value → Value → M Value) : M Value :=
  bnd (opBin .gtr x5 (.int .u64 (0))) fun v15 => K x3 x4 x5 x7 x8 x9 v15

theorem bitset_Set_All_r5_ok (F : Nat) (x3 x4 x5 x7 x8 x9 : Value) (K : Value → Value → Value → Value → Value → Value → Value → M Value) : bitset_Set_All_r5 F x3 x4 x5 x7 x8 x9 K = bitset_Set_All_R F 5 [(9, x9), (8, x8), (7, x7), (5, x5), (4, x4), (3, x3)] [3, 4, 5, 7, 8, 9, 15] K := by kernel_rfl

def bitset_Set_All_b3 (F : Nat) (E3_2 : Value → Value → Value → Value → M Value) (A3 : Value → Value → Value → Value → Value → Value → M Value) (x3 x4 x5 x7 x8 x9 : Value) : M Value :=
  bitset_Set_All_r5 F x3 x4 x5 x7 x8 x9 (fun x3 x4 x5 x7 x8 x9 x15 => onB x15 (bitset_Set_All_r7 F x3 x4 x5 x7 x8 x9 (fun x3 x4 x5 x7 x8 x9 => bitset_Set_All_r6 F x3 x4 x5 x7 x8 x9 (fun x3 x4 x5 x7 x8 x9 => A3 x3 x4 x5 x7 x8 x9))) (E3_2 x3 x7 x8 x9))

def bitset_Set_All_l3 (F : Nat) (E3_2 : Value → Value → Value → Value → M Value) : Nat → Value → Value → Value → Value → Value → Value → M Value
  | 0, _, _, _, _, _, _ => fail
  | k3 + 1, x3, x4, x5, x7, x8, x9 => bitset_Set_All_b3 F E3_2 (bitset_Set_All_l3 F E3_2 k3) x3 x4 x5 x7 x8 x9

theorem bitset_Set_All_l3_s (F : Nat) (E3_2 : Value → Value → Value → Value → M Value) (k3 : Nat) (x3 x4 x5 x7 x8 x9 : Value) : bitset_Set_All_l3 F E3_2 (k3 + 1) x3 x4 x5 x7 x8 x9 = bitset_Set_All_b3 F E3_2 (bitset_Set_All_l3 F E3_2 k3) x3 x4 x5 x7 x8 x9 := rfl

def bitset_Set_All_r4 (F : Nat) (x3 x7 x8 x9 : Value) (K : Value → Value → Value → Value → Value → Value → M Value) : M Value :=
  bnd (opIndexAddr 1 x7 x9) fun v12 => bnd (opLoad v12) fun v13 => K x3 x9 v13 x7 x8 x9

theorem bitset_Set_All_r4_ok (F : Nat) (x3 x7 x8 x9 : Value) (K : Value → Value → Value → Value → Value → Value → M Value) : bitset_Set_All_r4 F x3 x7 x8 x9 K = bitset_Set_All_R F 4 [(9, x9), (8, x8), (7, x7), (3, x3)] [3, 4, 5, 7, 8, 9] K := by kernel_rfl

def bitset_Set_All_r3 (F : Nat) (x3 x7 x8 x9 : Value) (K : Value → Value → Value → Value → Value → M Value) : M Value :=
  bnd (opBin .lss x9 x8) fun v10 => K x3 x7 x8 x9 v10

theorem bitset_Set_All_r3_ok (F : Nat) (x3 x7 x8 x9 : Value) (K : Value → Value → Value → Value → Value → M Value) : bitset_Set_All_r3 F x3 x7 x8 x9 K = bitset_Set_All_R F 3 [(9, x9), (8, x8), (7, x7), (3, x3)] [3, 7, 8, 9, 10] K := by kernel_rfl

def bitset_Set_All_b1 (F : Nat) (E1_0 : Value → M Value) (A1 : Value → Value → Value → Value → M Value) (x3 x7 x8 x9 : Value) : M Value :=
  bitset_Set_All_r3 F x3 x7 x8 x9 (fun x3 x7 x8 x9 x10 => onB x10 (bitset_Set_All_r4 F x3 x7 x8 x9 (fun x3 x4 x5 x7 x8 x9 => bitset_Set_All_l3 F (fun x3 x7 x8 x9 => bitset_Set_All_k2 F A1 x3 x7 x8 x9) F x3 x4 x5 x7 x8 x9)) (E1_0 x3))

def bitset_Set_All_l1 (F : Nat) (E1_0 : Value → M Value) : Nat → Value → Value → Value → Value → M Value
  | 0, _, _, _, _ => fail
  | k1 + 1, x3, x7, x8, x9 => bitset_Set_All_b1 F E1_0 (bitset_Set_All_l1 F E1_0 k1) x3 x7 x8 x9

theorem bitset_Set_All_l1_s (F : Nat) (E1_0 : Value → M Value) (k1 : Nat) (x3 x7 x8 x9 : Value) : bitset_Set_All_l1 F E1_0 (k1 + 1) x3 x7 x8 x9 = bitset_Set_All_b1 F E1_0 (bitset_Set_All_l1 F E1_0 k1) x3 x7 x8 x9 := rfl

def bitset_Set_All_r2 (F : Nat) (x0 x3 : Value) (K : Value → Value → Value → Value → M Value) : M Value :=
  bnd (bitset_Set_words F x0) fun v7 => bnd (opLen v7) fun v8 => K x3 v7 v8 (.int .i64 (0))

theorem bitset_Set_All_r2_ok (F : Nat) (x0 x3 : Value) (K : Value → Value → Value → Value → M Value) : bitset_Set_All_r2 F x0 x3 K = bitset_Set_All_R F 2 [(3, x3), (0, x0)] [3, 7, 8, 9] K := by kernel_rfl

def bitset_Set_All_r1 (F : Nat) (x0 : Value) (K : Value → Value → M Value) : M Value :=
  K x0 (.slice none 0 0)

theorem bitset_Set_All_r1_ok (F : Nat) (x0 : Value) (K : Value → Value → M Value) : bitset_Set_All_r1 F x0 K = bitset_Set_All_R F 1 [(0, x0)] [0, 3] K := by kernel_rfl

def bitset_Set_All_r0 (F : Nat) (x0 : Value) (K : Value → M Value) : M Value :=
  K x0

theorem bitset_Set_All_r0_ok (F : Nat) (x0 : Value) (K : Value → M Value) : bitset_Set_All_r0 F x0 K = bitset_Set_All_R F 0 [(0, x0)] [0] K := by kernel_rfl

def bitset_Set_All (F : Nat) (x0 : Value) : M Value :=
  bitset_Set_All_r0 F x0 (fun x0 => bitset_Set_All_r1 F x0 (fun x0 x3 => bitset_Set_All_r2 F x0 x3 (fun x3 x7 x8 x9 => bitset_Set_All_l1 F (fun x3 => bitset_Set_All_k0 F x3) F x3 x7 x8 x9)))

def bitset_Set_All_m (F : Nat) : List Value → M Value
  | [x0] => bitset_Set_All F x0
  | _ => fail

theorem bitset_Set_All_body : Tryd.f14.body = some (.seq (.region 0 (opsOf Tryd.f14 0) false) (.seq (.region 1 (opsOf Tryd.f14 1) false) (.seq (.seq (.region 2 (opsOf Tryd.f14 2) false) (.block 0 (.loop (.seq (.region 3 (opsOf Tryd.f14 3) false) (.seq (.cond (.tmp 10) .skip (.exit 0)) (.seq (.block 1 (.seq (.region 4 (opsOf Tryd.f14 4) false) (.block 2 (.loop (.seq (.seq (.region 5 (opsOf Tryd.f14 5) false) (.cond (.tmp 15) .skip (.exit 2))) (.seq (.block 3 (.region 7 (opsOf Tryd.f14 7) false)) (.region 6 (opsOf Tryd.f14 6) false))))))) (.region 8 (opsOf Tryd.f14 8) false))))))) (.seq (.region 9 (opsOf Tryd.f14 9) false) .ret)))) := by kernel_rfl

theorem bitset_Set_All_ok (F : Nat) : Sim Tryd.prog TrydG 14 (bitset_Set_All_m F) := by
 have hE : EnvOK Tryd.prog TrydG (bitset_Set_All_env F) := (EnvOK.cons (bitset_Set_words_ok F) (EnvOK.cons (bits_TrailingZeros64_ok F) EnvOK.nil))
 refine Sim.of_body (E := bitset_Set_All_env F) Tryd.func14 bitset_Set_All_body Tryd.call14 ?_ ?_
 · intro args hl; unfold bitset_Set_All_m; split
   · exact absurd hl (Nat.not_lt.2 (Nat.le_of_ble_eq_true rfl))
   · rfl
 · intro args ρ h w z; unfold bitset_Set_All_m; split
   · rename_i x0; show OKc _ _ [(0, x0)] _ _
     refine rSeq ?_
     refine cLess [0] ?_
     refine xR hE [0] rfl (bitset_Set_All_r0_ok F _ _) ?_
     intro x0
     show OKq _ _ _ [(0, x0)] _
     refine rThen ?_
     refine rSeq ?_
     refine cLess [0] ?_
     refine xR hE [0, 3] rfl (bitset_Set_All_r1_ok F _ _) ?_
     intro x0 x3
     show OKq _ _ _ [(3, x3), (0, x0)] _
     refine rThen ?_
     refine xSeq [3] (bitset_Set_All_k0 F ) ?_ fun hj0 => ?_
     · intro x3
       show OKc _ _ [(3, x3)] _ _
       refine rSeq ?_
       refine cLess [3] ?_
       refine xR hE [2] rfl (bitset_Set_All_r9_ok F _ _) ?_
       intro x2
       show OKq _ _ _ [(2, x2)] _
       refine rThen ?_
       refine rRet ?_
       exact rDone (.inr rfl) rfl
     · refine rSeq ?_
       refine cLess [3, 0] ?_
       refine xR hE [3, 7, 8, 9] rfl (bitset_Set_All_r2_ok F _ _ _) ?_
       intro x3 x7 x8 x9
       show OKq _ _ _ [(9, x9), (8, x8), (7, x7), (3, x3)] _
       refine rThen ?_
       refine rBlock ?_
       refine cLess [9, 8, 7, 3] ?_
       refine xLoopAt [3, 7, 8, 9] [] (fun k1 => bitset_Set_All_l1 F (fun x3 => bitset_Set_All_k0 F x3) k1) F [x3, x7, x8, x9] rfl rfl (fun _ _ _ _ => rfl) fun I hI1 k1 => ?_
       intro x3 x7 x8 x9
       show OKc _ _ [(9, x9), (8, x8), (7, x7), (3, x3)] _ _
       refine cAs (bitset_Set_All_l1_s F _ _ _ _ _ _) ?_
       refine rSeq ?_
       refine cLess [9, 8, 7, 3] ?_
       refine xR hE [3, 7, 8, 9, 10] rfl (bitset_Set_All_r3_ok F _ _ _ _ _) ?_
       intro x3 x7 x8 x9 x10
       show OKq _ _ _ [(10, x10), (9, x9), (8, x8), (7, x7), (3, x3)] _
       refine rThen ?_
       refine rSeq ?_
       refine xCond rfl rfl ?_ ?_
       · refine rSkip ?_
         refine rThen ?_
         refine xSeq [3, 7, 8, 9] (bitset_Set_All_k2 F (bitset_Set_All_l1 F (fun x3 => bitset_Set_All_k0 F x3) k1) ) ?_ fun hj2 => ?_
         · intro x3 x7 x8 x9
           show OKc _ _ [(9, x9), (8, x8), (7, x7), (3, x3)] _ _
           refine cLess [9, 8, 7, 3] ?_
           refine xR hE [3, 7, 8, 9] rfl (bitset_Set_All_r8_ok F _ _ _ _ _) ?_
           intro x3 x7 x8 x9
           show OKq _ _ _ [(9, x9), (8, x8), (7, x7), (3, x3)] _
           exact qLess [9, 8, 7, 3] (hI1 k1 x3 x7 x8 x9)
         · refine rBlock ?_
           refine rSeq ?_
           refine cLess [9, 8, 7, 3] ?_
           refine xR hE [3, 4, 5, 7, 8, 9] rfl (bitset_Set_All_r4_ok F _ _ _ _ _) ?_
           intro x3 x4 x5 x7 x8 x9
           show OKq _ _ _ [(9, x9), (8, x8), (7, x7), (5, x5), (4, x4), (3, x3)] _
           refine rThen ?_
           refine rBlock ?_
           refine cLess [9, 8, 7, 5, 4, 3] ?_
           refine xLoopAt [3, 4, 5, 7, 8, 9] [] (fun k3 => bitset_Set_All_l3 F (fun x3 x7 x8 x9 => bitset_Set_All_k2 F (bitset_Set_All_l1 F (fun x3 => bitset_Set_All_k0 F x3) k1) x3 x7 x8 x9) k3) F [x3, x4, x5, x7, x8, x9] rfl rfl (fun _ _ _ _ _ _ => rfl) fun I hI3 k3 => ?_
           intro x3 x4 x5 x7 x8 x9
           show OKc _ _ [(9, x9), (8, x8), (7, x7), (5, x5), (4, x4), (3, x3)] _ _
           refine cAs (bitset_Set_All_l3_s F _ _ _ _ _ _ _ _) ?_
           refine rSeq ?_
           refine rSeq ?_
           refine cLess [9, 8, 7, 5, 4, 3] ?_
           refine xR hE [3, 4, 5, 7, 8, 9, 15] rfl (bitset_Set_All_r5_ok F _ _ _ _ _ _ _) ?_
           intro x3 x4 x5 x7 x8 x9 x15
           show OKq _ _ _ [(15, x15), (9, x9), (8, x8), (7, x7), (5, x5), (4, x4), (3, x3)] _
           refine rThen ?_
           refine xCond rfl rfl ?_ ?_
           · refine rSkip ?_
             refine rThen ?_
             refine rSeq ?_
             refine rBlock ?_
             refine cLess [9, 8, 7, 5, 4, 3] ?_
             refine xR hE [3, 4, 5, 7, 8, 9] rfl (bitset_Set_All_r7_ok F _ _ _ _ _ _ _) ?_
             intro x3 x4 x5 x7 x8 x9
             show OKq _ _ _ [(9, x9), (8, x8), (7, x7), (5, x5), (4, x4), (3, x3)] _
             refine xBlockN ?_
             refine rThen ?_
             refine cLess [9, 8, 7, 5, 4, 3] ?_
             refine xR hE [3, 4, 5, 7, 8, 9] rfl (bitset_Set_All_r6_ok F _ _ _ _ _ _ _) ?_
             intro x3 x4 x5 x7 x8 x9
             show OKq _ _ _ [(9, x9), (8, x8), (7, x7), (5, x5), (4, x4), (3, x3)] _
             exact qLess [9, 8, 7, 5, 4, 3] (hI3 k3 x3 x4 x5 x7 x8 x9)
           · refine rExit ?_
             refine xThenX ?_
             refine xThenX ?_
             refine rOut ?_
             refine xBlockN ?_
             exact qLess [9, 8, 7, 3] (hj2 x3 x7 x8 x9)
       · refine rExit ?_
         refine xThenX ?_
         refine xThenX ?_
         refine rOut ?_
         exact qLess [3] (hj0 x3)
   · exact rFail


/-! ### haruspex/haruspexref1.Put -/

def R1_Put_env (F : Nat) : Env := envOf [(22, R1_In_m F)]

noncomputable def R1_Put_R (F : Nat) := rK Tryd.prog TrydG (R1_Put_env F) Tryd.f23
noncomputable def R1_Put_D (F : Nat) := dK Tryd.prog TrydG (R1_Put_env F) Tryd.f23

def R1_Put_r6 (F : Nat) (x0 x1 x5 : Value) (K : Value → M Value) : M Value :=
  bnd (opSlice 1 x0 none (some x5) (some x5)) fun v27 => bnd (opSlice 1 x0 (some x5) none none) fun v32 => bnd (opBuildSlice 1 (rep 1 [(.int .i64 (0))]) [(0, 1, false, x1)]) fun v29 => bnd (opAppend 1 8 v29 v32) fun v33 => bnd (opAppend 1 8 v27 v33) fun v34 => K v34

theorem R1_Put_r6_ok (F : Nat) (x0 x1 x5 : Value) (K : Value → M Value) : R1_Put_r6 F x0 x1 x5 K = R1_Put_D F 6 [0, 1, 2, 3, 4, 6, 7, 8, 5, 9, 10, 11] [(5, x5), (1, x1), (0, x0)] [4] K := by kernel_rfl

theorem R1_Put_r6_good : goodOrder (opsOf Tryd.f23 6) [0, 1, 2, 3, 4, 6, 7, 8, 5, 9, 10, 11] = true := by kernel_rfl

def R1_Put_k0 (F : Nat) (x0 x1 x5 : Value) : M Value :=
  R1_Put_r6 F x0 x1 x5 (fun x4 => ret x4)

def R1_Put_r5 (F : Nat) (x0 x1 x5 : Value) (K : Value → Value → Value → M Value) : M Value :=
  bnd (opBin .add x5 (.int .i64 (1))) fun v23 => K x0 x1 v23

theorem R1_Put_r5_ok (F : Nat) (x0 x1 x5 : Value) (K : Value → Value → Value → M Value) : R1_Put_r5 F x0 x1 x5 K = R1_Put_R F 5 [(5, x5), (1, x1), (0, x0)] [0, 1, 5] K := by kernel_rfl

def R1_Put_r4 (F : Nat) (x0 x1 x5 : Value) (K : Value → Value → Value → Value → M Value) : M Value :=
  bnd (opLen x0) fun v12 => bnd (opBin .lss x5 v12) fun v13 => onB v13 (bnd (opIndexAddr 1 x0 x5) fun v17 => bnd (opLoad v17) fun v18 => bnd (opBin .lss v18 x1) fun v20 => K x0 x1 x5 v20) (K x0 x1 x5 (.bool false))

theorem R1_Put_r4_ok (F : Nat) (x0 x1 x5 : Value) (K : Value → Value → Value → Value → M Value) : R1_Put_r4 F x0 x1 x5 K = R1_Put_R F 4 [(5, x5), (1, x1), (0, x0)] [0, 1, 5, 21] K := by kernel_rfl

def R1_Put_b1 (F : Nat) (E1_0 : Value → Value → Value → M Value) (A1 : Value → Value → Value → M Value) (x0 x1 x5 : Value) : M Value :=
  R1_Put_r4 F x0 x1 x5 (fun x0 x1 x5 x21 => onB x21 (R1_Put_r5 F x0 x1 x5 (fun x0 x1 x5 => A1 x0 x1 x5)) (E1_0 x0 x1 x5))

def R1_Put_l1 (F : Nat) (E1_0 : Value → Value → Value → M Value) : Nat → Value → Value → Value → M Value
  | 0, _, _, _ => fail
  | k1 + 1, x0, x1, x5 => R1_Put_b1 F E1_0 (R1_Put_l1 F E1_0 k1) x0 x1 x5

theorem R1_Put_l1_s (F : Nat) (E1_0 : Value → Value → Value → M Value) (k1 : Nat) (x0 x1 x5 : Value) : R1_Put_l1 F E1_0 (k1 + 1) x0 x1 x5 = R1_Put_b1 F E1_0 (R1_Put_l1 F E1_0 k1) x0 x1 x5 := rfl

def R1_Put_r3 (F : Nat) (x0 x1 : Value) (K : Value → Value → Value → M Value) : M Value :=
  K x0 x1 (.int .i64 (0))

theorem R1_Put_r3_ok (F : Nat) (x0 x1 : Value) (K : Value → Value → Value → M Value) : R1_Put_r3 F x0 x1 K = R1_Put_R F 3 [(1, x1), (0, x0)] [0, 1, 5] K := by kernel_rfl

def R1_Put_r2 (F : Nat) (x0 : Value) (K : Value → M Value) : M Value :=
  K x0

theorem R1_Put_r2_ok (F : Nat) (x0 : Value) (K : Value → M Value) : R1_Put_r2 F x0 K = R1_Put_R F 2 [(0, x0)] [4] K := by kernel_rfl

def R1_Put_r1 (F : Nat) (x0 x1 : Value) (K : Value → Value → Value → M Value) : M Value :=
  bnd (R1_In F x0 x1) fun v8 => K x0 x1 v8

theorem R1_Put_r1_ok (F : Nat) (x0 x1 : Value) (K : Value → Value → Value → M Value) : R1_Put_r1 F x0 x1 K = R1_Put_R F 1 [(1, x1), (0, x0)] [0, 1, 8] K := by kernel_rfl

def R1_Put_r0 (F : Nat) (x0 x1 : Value) (K : Value → Value → M Value) : M Value :=
  K x0 x1

theorem R1_Put_r0_ok (F : Nat) (x0 x1 : Value) (K : Value → Value → M Value) : R1_Put_r0 F x0 x1 K = R1_Put_R F 0 [(1, x1), (0, x0)] [0, 1] K := by kernel_rfl

def R1_Put (F : Nat) (x0 x1 : Value) : M Value :=
  R1_Put_r0 F x0 x1 (fun x0 x1 => R1_Put_r1 F x0 x1 (fun x0 x1 x8 => onB x8 (R1_Put_r2 F x0 (fun x4 => ret x4)) (R1_Put_r3 F x0 x1 (fun x0 x1 x5 => R1_Put_l1 F (fun x0 x1 x5 => R1_Put_k0 F x0 x1 x5) F x0 x1 x5))))

def R1_Put_m (F : Nat) : List Value → M Value
  | [x0, x1] => R1_Put F x0 x1
  | _ => fail

theorem R1_Put_body : Tryd.f23.body = some (.seq (.region 0 (opsOf Tryd.f23 0) false) (.seq (.seq (.region 1 (opsOf Tryd.f23 1) false) (.cond (.tmp 8) (.seq (.region 2 (opsOf Tryd.f23 2) false) .ret) .skip)) (.seq (.region 3 (opsOf Tryd.f23 3) false) (.seq (.block 0 (.loop (.seq (.seq (.region 4 (opsOf Tryd.f23 4) false) (.cond (.tmp 21) .skip (.exit 0))) (.block 1 (.region 5 (opsOf Tryd.f23 5) false))))) (.seq (.region 6 (opsOf Tryd.f23 6) true) .ret))))) := by kernel_rfl

theorem R1_Put_ok (F : Nat) : Sim Tryd.prog TrydG 23 (R1_Put_m F) := by
 have hE : EnvOK Tryd.prog TrydG (R1_Put_env F) := (EnvOK.cons (R1_In_ok F) EnvOK.nil)
 refine Sim.of_body (E := R1_Put_env F) Tryd.func23 R1_Put_body Tryd.call23 ?_ ?_
 · intro args hl; unfold R1_Put_m; split
   · exact absurd hl (Nat.not_lt.2 (Nat.le_of_ble_eq_true rfl))
   · rfl
 · intro args ρ h w z; unfold R1_Put_m; split
   · rename_i x0 x1; show OKc _ _ [(0, x0), (1, x1)] _ _
     refine rSeq ?_
     refine cLess [1, 0] ?_
     refine xR hE [0, 1] rfl (R1_Put_r0_ok F _ _ _) ?_
     intro x0 x1
     show OKq _ _ _ [(1, x1), (0, x0)] _
     refine rThen ?_
     refine rSeq ?_
     refine rSeq ?_
     refine cLess [1, 0] ?_
     refine xR hE [0, 1, 8] rfl (R1_Put_r1_ok F _ _ _) ?_
     intro x0 x1 x8
     show OKq _ _ _ [(8, x8), (1, x1), (0, x0)] _
     refine rThen ?_
     refine xCond rfl rfl ?_ ?_
     · refine rSeq ?_
       refine cLess [0] ?_
       refine xR hE [4] rfl (R1_Put_r2_ok F _ _) ?_
       intro x4
       show OKq _ _ _ [(4, x4)] _
       refine rThen ?_
       refine rRet ?_
       refine xThenR ?_
       exact rDone (.inr rfl) rfl
     · refine rSkip ?_
       refine rThen ?_
       refine rSeq ?_
       refine cLess [1, 0] ?_
       refine xR hE [0, 1, 5] rfl (R1_Put_r3_ok F _ _ _) ?_
       intro x0 x1 x5
       show OKq _ _ _ [(5, x5), (1, x1), (0, x0)] _
       refine rThen ?_
       refine xSeq [0, 1, 5] (R1_Put_k0 F ) ?_ fun hj0 => ?_
       · intro x0 x1 x5
         show OKc _ _ [(5, x5), (1, x1), (0, x0)] _ _
         refine rSeq ?_
         refine cLess [5, 1, 0] ?_
         refine xD Trydmix hE [4] rfl R1_Put_r6_good (R1_Put_r6_ok F _ _ _ _) ?_
         intro x4
         show OKq _ _ _ [(4, x4)] _
         refine rThen ?_
         refine rRet ?_
         exact rDone (.inr rfl) rfl
       · refine rBlock ?_
         refine cLess [5, 1, 0] ?_
         refine xLoopAt [0, 1, 5] [] (fun k1 => R1_Put_l1 F (fun x0 x1 x5 => R1_Put_k0 F x0 x1 x5) k1) F [x0, x1, x5] rfl rfl (fun _ _ _ => rfl) fun I hI1 k1 => ?_
         intro x0 x1 x5
         show OKc _ _ [(5, x5), (1, x1), (0, x0)] _ _
         refine cAs (R1_Put_l1_s F _ _ _ _ _) ?_
         refine rSeq ?_
         refine rSeq ?_
         refine cLess [5, 1, 0] ?_
         refine xR hE [0, 1, 5, 21] rfl (R1_Put_r4_ok F _ _ _ _) ?_
         intro x0 x1 x5 x21
         show OKq _ _ _ [(21, x21), (5, x5), (1, x1), (0, x0)] _
         refine rThen ?_
         refine xCond rfl rfl ?_ ?_
         · refine rSkip ?_
           refine rThen ?_
           refine rBlock ?_
           refine cLess [5, 1, 0] ?_
           refine xR hE [0, 1, 5] rfl (R1_Put_r5_ok F _ _ _ _) ?_
           intro x0 x1 x5
           show OKq _ _ _ [(5, x5), (1, x1), (0, x0)] _
           refine xBlockN ?_
           exact qLess [5, 1, 0] (hI1 k1 x0 x1 x5)
         · refine rExit ?_
           refine xThenX ?_
           refine xThenX ?_
           refine rOut ?_
           exact qLess [5, 1, 0] (hj0 x0 x1 x5)
   · exact rFail


/-! ### haruspex/haruspexlaw1.without -/

def L1_without_env (F : Nat) : Env := envOf [(22, R1_In_m F)]

noncomputable def L1_without_R (F : Nat) := rK Tryd.prog TrydG (L1_without_env F) Tryd.f24
noncomputable def L1_without_D (F : Nat) := dK Tryd.prog TrydG (L1_without_env F) Tryd.f24

def L1_without_r7 (F : Nat) (x5 : Value) (K : Value → M Value) : M Value :=
  K x5

theorem L1_without_r7_ok (F : Nat) (x5 : Value) (K : Value → M Value) : L1_without_r7 F x5 K = L1_without_R F 7 [(5, x5)] [4] K := by kernel_rfl

def L1_without_k0 (F : Nat) (x5 : Value) : M Value :=
  L1_without_r7 F x5 (fun x4 => ret x4)

def L1_without_r4 (F : Nat) (x0 x1 x5 x6 : Value) (K : Value → Value → Value → Value → M Value) : M Value :=
  bnd (opBin .add x6 (.int .i64 (1))) fun v12 => K x0 x1 x5 v12

theorem L1_without_r4_ok (F : Nat) (x0 x1 x5 x6 : Value) (K : Value → Value → Value → Value → M Value) : L1_without_r4 F x0 x1 x5 x6 K = L1_without_R F 4 [(6, x6), (5, x5), (1, x1), (0, x0)] [0, 1, 5, 6] K := by kernel_rfl

def L1_without_k2 (F : Nat) (A1 : Value → Value → Value → Value → M Value) (x0 x1 x5 x6 : Value) : M Value :=
  L1_without_r4 F x0 x1 x5 x6 (fun x0 x1 x5 x6 => A1 x0 x1 x5 x6)

def L1_without_r6 (F : Nat) (x0 x1 x5 x6 : Value) (K : Value → Value → Value → Value → M Value) : M Value :=
  bnd (opIndexAddr 1 x0 x6) fun v23 => bnd (opLoad v23) fun v24 => bnd (opBuildSlice 1 (rep 1 [(.int .i64 (0))]) [(0, 1, false, v24)]) fun v25 => bnd (opAppend 1 8 x5 v25) fun v26 => K x0 x1 v26 x6

theorem L1_without_r6_ok (F : Nat) (x0 x1 x5 x6 : Value) (K : Value → Value → Value → Value → M Value) : L1_without_r6 F x0 x1 x5 x6 K = L1_without_R F 6 [(6, x6), (5, x5), (1, x1), (0, x0)] [0, 1, 5, 6] K := by kernel_rfl

def L1_without_r5 (F : Nat) (x0 x1 x5 x6 : Value) (K : Value → Value → Value → Value → Value → M Value) : M Value :=
  bnd (opIndexAddr 1 x0 x6) fun v16 => bnd (opLoad v16) fun v17 => bnd (R1_In F x1 v17) fun v18 => bnd (opNot v18) fun v19 => K x0 x1 x5 x6 v19

theorem L1_without_r5_ok (F : Nat) (x0 x1 x5 x6 : Value) (K : Value → Value → Value → Value → Value → M Value) : L1_without_r5 F x0 x1 x5 x6 K = L1_without_R F 5 [(6, x6), (5, x5), (1, x1), (0, x0)] [0, 1, 5, 6, 19] K := by kernel_rfl

def L1_without_r3 (F : Nat) (x0 x1 x5 x6 : Value) (K : Value → Value → Value → Value → Value → M Value) : M Value :=
  bnd (opLen x0) fun v9 => bnd (opBin .lss x6 v9) fun v10 => K x0 x1 x5 x6 v10

theorem L1_without_r3_ok (F : Nat) (x0 x1 x5 x6 : Value) (K : Value → Value → Value → Value → Value → M Value) : L1_without_r3 F x0 x1 x5 x6 K = L1_without_R F 3 [(6, x6), (5, x5), (1, x1), (0, x0)] [0, 1, 5, 6, 10] K := by kernel_rfl

def L1_without_b1 (F : Nat) (E1_0 : Value → M Value) (A1 : Value → Value → Value → Value → M Value) (x0 x1 x5 x6 : Value) : M Value :=
  L1_without_r3 F x0 x1 x5 x6 (fun x0 x1 x5 x6 x10 => onB x10 (L1_without_r5 F x0 x1 x5 x6 (fun x0 x1 x5 x6 x19 => onB x19 (L1_without_r6 F x0 x1 x5 x6 (fun x0 x1 x5 x6 => L1_without_k2 F A1 x0 x1 x5 x6)) (L1_without_k2 F A1 x0 x1 x5 x6))) (E1_0 x5))

def L1_without_l1 (F : Nat) (E1_0 : Value → M Value) : Nat → Value → Value → Value → Value → M Value
  | 0, _, _, _, _ => fail
  | k1 + 1, x0, x1, x5, x6 => L1_without_b1 F E1_0 (L1_without_l1 F E1_0 k1) x0 x1 x5 x6

theorem L1_without_l1_s (F : Nat) (E1_0 : Value → M Value) (k1 : Nat) (x0 x1 x5 x6 : Value) : L1_without_l1 F E1_0 (k1 + 1) x0 x1 x5 x6 = L1_without_b1 F E1_0 (L1_without_l1 F E1_0 k1) x0 x1 x5 x6 := rfl

def L1_without_r2 (F : Nat) (x0 x1 x5 : Value) (K : Value → Value → Value → Value → M Value) : M Value :=
  K x0 x1 x5 (.int .i64 (0))

theorem L1_without_r2_ok (F : Nat) (x0 x1 x5 : Value) (K : Value → Value → Value → Value → M Value) : L1_without_r2 F x0 x1 x5 K = L1_without_R F 2 [(5, x5), (1, x1), (0, x0)] [0, 1, 5, 6] K := by kernel_rfl

def L1_without_r1 (F : Nat) (x0 x1 : Value) (K : Value → Value → Value → M Value) : M Value :=
  K x0 x1 (.slice none 0 0)

theorem L1_without_r1_ok (F : Nat) (x0 x1 : Value) (K : Value → Value → Value → M Value) : L1_without_r1 F x0 x1 K = L1_without_R F 1 [(1, x1), (0, x0)] [0, 1, 5] K := by kernel_rfl

def L1_without_r0 (F : Nat) (x0 x1 : Value) (K : Value → Value → M Value) : M Value :=
  K x0 x1

theorem L1_without_r0_ok (F : Nat) (x0 x1 : Value) (K : Value → Value → M Value) : L1_without_r0 F x0 x1 K = L1_without_R F 0 [(1, x1), (0, x0)] [0, 1] K := by kernel_rfl

def L1_without (F : Nat) (x0 x1 : Value) : M Value :=
  L1_without_r0 F x0 x1 (fun x0 x1 => L1_without_r1 F x0 x1 (fun x0 x1 x5 => L1_without_r2 F x0 x1 x5 (fun x0 x1 x5 x6 => L1_without_l1 F (fun x5 => L1_without_k0 F x5) F x0 x1 x5 x6)))

def L1_without_m (F : Nat) : List Value → M Value
  | [x0, x1] => L1_without F x0 x1
  | _ => fail

theorem L1_without_body : Tryd.f24.body = some (.seq (.region 0 (opsOf Tryd.f24 0) false) (.seq (.region 1 (opsOf Tryd.f24 1) false) (.seq (.seq (.region 2 (opsOf Tryd.f24 2) false) (.block 0 (.loop (.seq (.seq (.region 3 (opsOf Tryd.f24 3) false) (.cond (.tmp 10) .skip (.exit 0))) (.seq (.block 1 (.seq (.region 5 (opsOf Tryd.f24 5) false) (.cond (.tmp 19) (.region 6 (opsOf Tryd.f24 6) false) .skip))) (.region 4 (opsOf Tryd.f24 4) false)))))) (.seq (.region 7 (opsOf Tryd.f24 7) false) .ret)))) := by kernel_rfl

theorem L1_without_ok (F : Nat) : Sim Tryd.prog TrydG 24 (L1_without_m F) := by
 have hE : EnvOK Tryd.prog TrydG (L1_without_env F) := (EnvOK.cons (R1_In_ok F) EnvOK.nil)
 refine Sim.of_body (E := L1_without_env F) Tryd.func24 L1_without_body Tryd.call24 ?_ ?_
 · intro args hl; unfold L1_without_m; split
   · exact absurd hl (Nat.not_lt.2 (Nat.le_of_ble_eq_true rfl))
   · rfl
 · intro args ρ h w z; unfold L1_without_m; split
   · rename_i x0 x1; show OKc _ _ [(0, x0), (1, x1)] _ _
     refine rSeq ?_
     refine cLess [1, 0] ?_
     refine xR hE [0, 1] rfl (L1_without_r0_ok F _ _ _) ?_
     intro x0 x1
     show OKq _ _ _ [(1, x1), (0, x0)] _
     refine rThen ?_
     refine rSeq ?_
     refine cLess [1, 0] ?_
     refine xR hE [0, 1, 5] rfl (L1_without_r1_ok F _ _ _) ?_
     intro x0 x1 x5
     show OKq _ _ _ [(5, x5), (1, x1), (0, x0)] _
     refine rThen ?_
     refine xSeq [5] (L1_without_k0 F ) ?_ fun hj0 => ?_
     · intro x5
       show OKc _ _ [(5, x5)] _ _
       refine rSeq ?_
       refine cLess [5] ?_
       refine xR hE [4] rfl (L1_without_r7_ok F _ _) ?_
       intro x4
       show OKq _ _ _ [(4, x4)] _
       refine rThen ?_
       refine rRet ?_
       exact rDone (.inr rfl) rfl
     · refine rSeq ?_
       refine cLess [5, 1, 0] ?_
       refine xR hE [0, 1, 5, 6] rfl (L1_without_r2_ok F _ _ _ _) ?_
       intro x0 x1 x5 x6
       show OKq _ _ _ [(6, x6), (5, x5), (1, x1), (0, x0)] _
       refine rThen ?_
       refine rBlock ?_
       refine cLess [6, 5, 1, 0] ?_
       refine xLoopAt [0, 1, 5, 6] [] (fun k1 => L1_without_l1 F (fun x5 => L1_without_k0 F x5) k1) F [x0, x1, x5, x6] rfl rfl (fun _ _ _ _ => rfl) fun I hI1 k1 => ?_
       intro x0 x1 x5 x6
       show OKc _ _ [(6, x6), (5, x5), (1, x1), (0, x0)] _ _
       refine cAs (L1_without_l1_s F _ _ _ _ _ _) ?_
       refine rSeq ?_
       refine rSeq ?_
       refine cLess [6, 5, 1, 0] ?_
       refine xR hE [0, 1, 5, 6, 10] rfl (L1_without_r3_ok F _ _ _ _ _) ?_
       intro x0 x1 x5 x6 x10
       show OKq _ _ _ [(10, x10), (6, x6), (5, x5), (1, x1), (0, x0)] _
       refine rThen ?_
       refine xCond rfl rfl ?_ ?_
       · refine rSkip ?_
         refine rThen ?_
         refine xSeq [0, 1, 5, 6] (L1_without_k2 F (L1_without_l1 F (fun x5 => L1_without_k0 F x5) k1) ) ?_ fun hj2 => ?_
         · intro x0 x1 x5 x6
           show OKc _ _ [(6, x6), (5, x5), (1, x1), (0, x0)] _ _
           refine cLess [6, 5, 1, 0] ?_
           refine xR hE [0, 1, 5, 6] rfl (L1_without_r4_ok F _ _ _ _ _) ?_
           intro x0 x1 x5 x6
           show OKq _ _ _ [(6, x6), (5, x5), (1, x1), (0, x0)] _
           exact qLess [6, 5, 1, 0] (hI1 k1 x0 x1 x5 x6)
         · refine rBlock ?_
           refine rSeq ?_
           refine cLess [6, 5, 1, 0] ?_
           refine xR hE [0, 1, 5, 6, 19] rfl (L1_without_r5_ok F _ _ _ _ _) ?_
           intro x0 x1 x5 x6 x19
           show OKq _ _ _ [(19, x19), (6, x6), (5, x5), (1, x1), (0, x0)] _
           refine rThen ?_
           refine xCond rfl rfl ?_ ?_
           · refine cLess [6, 5, 1, 0] ?_
             refine xR hE [0, 1, 5, 6] rfl (L1_without_r6_ok F _ _ _ _ _) ?_
             intro x0 x1 x5 x6
             show OKq _ _ _ [(6, x6), (5, x5), (1, x1), (0, x0)] _
             refine xBlockN ?_
             exact qLess [6, 5, 1, 0] (hj2 x0 x1 x5 x6)
           · refine rSkip ?_
             refine xBlockN ?_
             exact qLess [6, 5, 1, 0] (hj2 x0 x1 x5 x6)
       · refine rExit ?_
         refine xThenX ?_
         refine xThenX ?_
         refine rOut ?_
         exact qLess [5] (hj0 x5)
   · exact rFail


/-! ### (*haruspex/bitset.Set).Copy -/

def bitset_Set_Copy_env (F : Nat) : Env := envOf [(31, bitset_Set_words_m F), (34, slices_Clone_m F)]

noncomputable def bitset_Set_Copy_R (F : Nat) := rK Tryd.prog TrydG (bitset_Set_Copy_env F) Tryd.f26
noncomputable def bitset_Set_Copy_D (F : Nat) := dK Tryd.prog TrydG (bitset_Set_Copy_env F) Tryd.f26

def bitset_Set_Copy_r1 (F : Nat) (x0 : Value) (K : Value → M Value) : M Value :=
  bnd (bitset_Set_words F x0) fun v4 => bnd (slices_Clone F v4) fun v5 => bnd (opBuild [(.slice none 0 0)] [(0, 1, false, v5)]) fun v6 => bnd (opBoxN v6) fun v7 => K v7

theorem bitset_Set_Copy_r1_ok (F : Nat) (x0 : Value) (K : Value → M Value) : bitset_Set_Copy_r1 F x0 K = bitset_Set_Copy_R F 1 [(0, x0)] [2] K := by kernel_rfl

def bitset_Set_Copy_r0 (F : Nat) (x0 : Value) (K : Value → M Value) : M Value :=
  K x0

theorem bitset_Set_Copy_r0_ok (F : Nat) (x0 : Value) (K : Value → M Value) : bitset_Set_Copy_r0 F x0 K = bitset_Set_Copy_R F 0 [(0, x0)] [0] K := by kernel_rfl

def bitset_Set_Copy (F : Nat) (x0 : Value) : M Value :=
  bitset_Set_Copy_r0 F x0 (fun x0 => bitset_Set_Copy_r1 F x0 (fun x2 => ret x2))

def bitset_Set_Copy_m (F : Nat) : List Value → M Value
  | [x0] => bitset_Set_Copy F x0
  | _ => fail

theorem bitset_Set_Copy_body : Tryd.f26.body = some (.seq (.region 0 (opsOf Tryd.f26 0) false) (.seq (.region 1 (opsOf Tryd.f26 1) false) .ret)) := by kernel_rfl

theorem bitset_Set_Copy_ok (F : Nat) : Sim Tryd.prog TrydG 26 (bitset_Set_Copy_m F) := by
 have hE : EnvOK Tryd.prog TrydG (bitset_Set_Copy_env F) := (EnvOK.cons (bitset_Set_words_ok F) (EnvOK.cons (slices_Clone_ok F) EnvOK.nil))
 refine Sim.of_body (E := bitset_Set_Copy_env F) Tryd.func26 bitset_Set_Copy_body Tryd.call26 ?_ ?_
 · intro args hl; unfold bitset_Set_Copy_m; split
   · exact absurd hl (Nat.not_lt.2 (Nat.le_of_ble_eq_true rfl))
   · rfl
 · intro args ρ h w z; unfold bitset_Set_Copy_m; split
   · rename_i x0; show OKc _ _ [(0, x0)] _ _
     refine rSeq ?_
     refine cLess [0] ?_
     refine xR hE [0] rfl (bitset_Set_Copy_r0_ok F _ _) ?_
     intro x0
     show OKq _ _ _ [(0, x0)] _
     refine rThen ?_
     refine rSeq ?_
     refine cLess [0] ?_
     refine xR hE [2] rfl (bitset_Set_Copy_r1_ok F _ _) ?_
     intro x2
     show OKq _ _ _ [(2, x2)] _
     refine rThen ?_
     refine rRet ?_
     exact rDone (.inr rfl) rfl
   · exact rFail


/-! ### (*haruspex/bitset.Set).at -/

def bitset_Set_at_env (F : Nat) : Env := envOf [(31, bitset_Set_words_m F)]

noncomputable def bitset_Set_at_R (F : Nat) := rK Tryd.prog TrydG (bitset_Set_at_env F) Tryd.f30
noncomputable def bitset_Set_at_D (F : Nat) := dK Tryd.prog TrydG (bitset_Set_at_env F) Tryd.f30

def bitset_Set_at_r4 (F : Nat) (K : Value → M Value) : M Value :=
  K (.int .u64 (0))

theorem bitset_Set_at_r4_ok (F : Nat) (K : Value → M Value) : bitset_Set_at_r4 F K = bitset_Set_at_R F 4 [] [4] K := by kernel_rfl

def bitset_Set_at_r3 (F : Nat) (x1 x5 : Value) (K : Value → M Value) : M Value :=
  bnd (opIndexAddr 1 x5 x1) fun v14 => bnd (opLoad v14) fun v15 => K v15

theorem bitset_Set_at_r3_ok (F : Nat) (x1 x5 : Value) (K : Value → M Value) : bitset_Set_at_r3 F x1 x5 K = bitset_Set_at_R F 3 [(5, x5), (1, x1)] [4] K := by kernel_rfl

def bitset_Set_at_r2 (F : Nat) (x1 x5 : Value) (K : Value → Value → Value → M Value) : M Value :=
  bnd (opLen x5) fun v10 => bnd (opBin .lss x1 v10) fun v11 => K x1 x5 v11

theorem bitset_Set_at_r2_ok (F : Nat) (x1 x5 : Value) (K : Value → Value → Value → M Value) : bitset_Set_at_r2 F x1 x5 K = bitset_Set_at_R F 2 [(5, x5), (1, x1)] [1, 5, 11] K := by kernel_rfl

def bitset_Set_at_r1 (F : Nat) (x0 x1 : Value) (K : Value → Value → M Value) : M Value :=
  bnd (bitset_Set_words F x0) fun v7 => K x1 v7

theorem bitset_Set_at_r1_ok (F : Nat) (x0 x1 : Value) (K : Value → Value → M Value) : bitset_Set_at_r1 F x0 x1 K = bitset_Set_at_R F 1 [(1, x1), (0, x0)] [1, 5] K := by kernel_rfl

def bitset_Set_at_r0 (F : Nat) (x0 x1 : Value) (K : Value → Value → M Value) : M Value :=
  K x0 x1

theorem bitset_Set_at_r0_ok (F : Nat) (x0 x1 : Value) (K : Value → Value → M Value) : bitset_Set_at_r0 F x0 x1 K = bitset_Set_at_R F 0 [(1, x1), (0, x0)] [0, 1] K := by kernel_rfl

def bitset_Set_at (F : Nat) (x0 x1 : Value) : M Value :=
  bitset_Set_at_r0 F x0 x1 (fun x0 x1 => bitset_Set_at_r1 F x0 x1 (fun x1 x5 => bitset_Set_at_r2 F x1 x5 (fun x1 x5 x11 => onB x11 (bitset_Set_at_r3 F x1 x5 (fun x4 => ret x4)) (bitset_Set_at_r4 F (fun x4 => ret x4)))))

def bitset_Set_at_m (F : Nat) : List Value → M Value
  | [x0, x1] => bitset_Set_at F x0 x1
  | _ => fail

theorem bitset_Set_at_body : Tryd.f30.body = some (.seq (.region 0 (opsOf Tryd.f30 0) false) (.seq (.seq (.region 1 (opsOf Tryd.f30 1) false) (.seq (.region 2 (opsOf Tryd.f30 2) false) (.cond (.tmp 11) (.seq (.region 3 (opsOf Tryd.f30 3) false) .ret) .skip))) (.seq (.region 4 (opsOf Tryd.f30 4) false) .ret))) := by kernel_rfl

theorem bitset_Set_at_ok (F : Nat) : Sim Tryd.prog TrydG 30 (bitset_Set_at_m F) := by
 have hE : EnvOK Tryd.prog TrydG (bitset_Set_at_env F) := (EnvOK.cons (bitset_Set_words_ok F) EnvOK.nil)
 refine Sim.of_body (E := bitset_Set_at_env F) Tryd.func30 bitset_Set_at_body Tryd.call30 ?_ ?_
 · intro args hl; unfold bitset_Set_at_m; split
   · exact absurd hl (Nat.not_lt.2 (Nat.le_of_ble_eq_true rfl))
   · rfl
 · intro args ρ h w z; unfold bitset_Set_at_m; split
   · rename_i x0 x1; show OKc _ _ [(0, x0), (1, x1)] _ _
     refine rSeq ?_
     refine cLess [1, 0] ?_
     refine xR hE [0, 1] rfl (bitset_Set_at_r0_ok F _ _ _) ?_
     intro x0 x1
     show OKq _ _ _ [(1, x1), (0, x0)] _
     refine rThen ?_
     refine rSeq ?_
     refine rSeq ?_
     refine cLess [1, 0] ?_
     refine xR hE [1, 5] rfl (bitset_Set_at_r1_ok F _ _ _) ?_
     intro x1 x5
     show OKq _ _ _ [(5, x5), (1, x1)] _
     refine rThen ?_
     refine rSeq ?_
     refine cLess [5, 1] ?_
     refine xR hE [1, 5, 11] rfl (bitset_Set_at_r2_ok F _ _ _) ?_
     intro x1 x5 x11
     show OKq _ _ _ [(11, x11), (5, x5), (1, x1)] _
     refine rThen ?_
     refine xCond rfl rfl ?_ ?_
     · refine rSeq ?_
       refine cLess [5, 1] ?_
       refine xR hE [4] rfl (bitset_Set_at_r3_ok F _ _ _) ?_
       intro x4
       show OKq _ _ _ [(4, x4)] _
       refine rThen ?_
       refine rRet ?_
       refine xThenR ?_
       exact rDone (.inr rfl) rfl
     · refine rSkip ?_
       refine rThen ?_
       refine rSeq ?_
       refine cLess [] ?_
       refine xR hE [4] rfl (bitset_Set_at_r4_ok F _) ?_
       intro x4
       show OKq _ _ _ [(4, x4)] _
       refine rThen ?_
       refine rRet ?_
       exact rDone (.inr rfl) rfl
   · exact rFail


/-! ### (*haruspex/bitset.Set).Has -/

def bitset_Set_Has_env (F : Nat) : Env := envOf [(30, bitset_Set_at_m F)]

noncomputable def bitset_Set_Has_R (F : Nat) := rK Tryd.prog TrydG (bitset_Set_Has_env F) Tryd.f12
noncomputable def bitset_Set_Has_D (F : Nat) := dK Tryd.prog TrydG (bitset_Set_Has_env F) Tryd.f12

def bitset_Set_Has_r1 (F : Nat) (x0 x1 : Value) (K : Value → M Value) : M Value :=
  bnd (opBin .geq x1 (.int .i64 (0))) fun v6 => onB v6 (bnd (opBin .lss x1 (.int .i64 (5000))) fun v9 => onB v9 (bnd (opBin .quo x1 (.int .i64 (64))) fun v14 => bnd (bitset_Set_at F x0 v14) fun v15 => bnd (opBin .rem x1 (.int .i64 (64))) fun v17 => bnd (opBin .shr v15 v17) fun v18 => bnd (opBin .and v18 (.int .u64 (1))) fun v19 => bnd (opBin .eql v19 (.int .u64 (1))) fun v20 => K v20) (K (.bool false))) (K (.bool false))

theorem bitset_Set_Has_r1_ok (F : Nat) (x0 x1 : Value) (K : Value → M Value) : bitset_Set_Has_r1 F x0 x1 K = bitset_Set_Has_R F 1 [(1, x1), (0, x0)] [4] K := by kernel_rfl

def bitset_Set_Has_r0 (F : Nat) (x0 x1 : Value) (K : Value → Value → M Value) : M Value :=
  K x0 x1

theorem bitset_Set_Has_r0_ok (F : Nat) (x0 x1 : Value) (K : Value → Value → M Value) : bitset_Set_Has_r0 F x0 x1 K = bitset_Set_Has_R F 0 [(1, x1), (0, x0)] [0, 1] K := by kernel_rfl

def bitset_Set_Has (F : Nat) (x0 x1 : Value) : M Value :=
  bitset_Set_Has_r0 F x0 x1 (fun x0 x1 => bitset_Set_Has_r1 F x0 x1 (fun x4 => ret x4))

def bitset_Set_Has_m (F : Nat) : List Value → M Value
  | [x0, x1] => bitset_Set_Has F x0 x1
  | _ => fail

theorem bitset_Set_Has_body : Tryd.f12.body = some (.seq (.region 0 (opsOf Tryd.f12 0) false) (.seq (.region 1 (opsOf Tryd.f12 1) false) .ret)) := by kernel_rfl

theorem bitset_Set_Has_ok (F : Nat) : Sim Tryd.prog TrydG 12 (bitset_Set_Has_m F) := by
 have hE : EnvOK Tryd.prog TrydG (bitset_Set_Has_env F) := (EnvOK.cons (bitset_Set_at_ok F) EnvOK.nil)
 refine Sim.of_body (E := bitset_Set_Has_env F) Tryd.func12 bitset_Set_Has_body Tryd.call12 ?_ ?_
 · intro args hl; unfold bitset_Set_Has_m; split
   · exact absurd hl (Nat.not_lt.2 (Nat.le_of_ble_eq_true rfl))
   · rfl
 · intro args ρ h w z; unfold bitset_Set_Has_m; split
   · rename_i x0 x1; show OKc _ _ [(0, x0), (1, x1)] _ _
     refine rSeq ?_
     refine cLess [1, 0] ?_
     refine xR hE [0, 1] rfl (bitset_Set_Has_r0_ok F _ _ _) ?_
     intro x0 x1
     show OKq _ _ _ [(1, x1), (0, x0)] _
     refine rThen ?_
     refine rSeq ?_
     refine cLess [1, 0] ?_
     refine xR hE [4] rfl (bitset_Set_Has_r1_ok F _ _ _) ?_
     intro x4
     show OKq _ _ _ [(4, x4)] _
     refine rThen ?_
     refine rRet ?_
     exact rDone (.inr rfl) rfl
   · exact rFail


/-! ### haruspex/haruspexlaw1.of -/

def L1_of_env (F : Nat) : Env := envOf [(11, L1_may_m F), (23, R1_Put_m F)]

noncomputable def L1_of_R (F : Nat) := rK Tryd.prog TrydG (L1_of_env F) Tryd.f20
noncomputable def L1_of_D (F : Nat) := dK Tryd.prog TrydG (L1_of_env F) Tryd.f20

def L1_of_r7 (F : Nat) (x3 : Value) (K : Value → M Value) : M Value :=
  K x3

theorem L1_of_r7_ok (F : Nat) (x3 : Value) (K : Value → M Value) : L1_of_r7 F x3 K = L1_of_R F 7 [(3, x3)] [2] K := by kernel_rfl

def L1_of_k0 (F : Nat) (x3 : Value) : M Value :=
  L1_of_r7 F x3 (fun x2 => ret x2)

def L1_of_r4 (F : Nat) (x0 x3 x4 : Value) (K : Value → Value → Value → M Value) : M Value :=
  bnd (opBin .add x4 (.int .i64 (1))) fun v14 => K x0 x3 v14

theorem L1_of_r4_ok (F : Nat) (x0 x3 x4 : Value) (K : Value → Value → Value → M Value) : L1_of_r4 F x0 x3 x4 K = L1_of_R F 4 [(4, x4), (3, x3), (0, x0)] [0, 3, 4] K := by kernel_rfl

def L1_of_k2 (F : Nat) (A1 : Value → Value → Value → M Value) (x0 x3 x4 : Value) : M Value :=
  L1_of_r4 F x0 x3 x4 (fun x0 x3 x4 => A1 x0 x3 x4)

def L1_of_r6 (F : Nat) (x0 x3 x4 : Value) (K : Value → Value → Value → M Value) : M Value :=
  bnd (opIndexAddr 1 x0 x4) fun v23 => bnd (opLoad v23) fun v24 => bnd (R1_Put F x3 v24) fun v25 => K x0 v25 x4

theorem L1_of_r6_ok (F : Nat) (x0 x3 x4 : Value) (K : Value → Value → Value → M Value) : L1_of_r6 F x0 x3 x4 K = L1_of_R F 6 [(4, x4), (3, x3), (0, x0)] [0, 3, 4] K := by kernel_rfl

def L1_of_r5 (F : Nat) (x0 x3 x4 : Value) (K : Value → Value → Value → Value → M Value) : M Value :=
  bnd (opIndexAddr 1 x0 x4) fun v17 => bnd (opLoad v17) fun v18 => bnd (L1_may F v18) fun v19 => K x0 x3 x4 v19

theorem L1_of_r5_ok (F : Nat) (x0 x3 x4 : Value) (K : Value → Value → Value → Value → M Value) : L1_of_r5 F x0 x3 x4 K = L1_of_R F 5 [(4, x4), (3, x3), (0, x0)] [0, 3, 4, 19] K := by kernel_rfl

def L1_of_r3 (F : Nat) (x0 x3 x4 : Value) (K : Value → Value → Value → Value → M Value) : M Value :=
  bnd (opLen x0) fun v7 => bnd (opBin .lss x4 v7) fun v8 => onB v8 (bnd (opBin .lss x4 (.int .i64 (40))) fun v11 => K x0 x3 x4 v11) (K x0 x3 x4 (.bool false))

theorem L1_of_r3_ok (F : Nat) (x0 x3 x4 : Value) (K : Value → Value → Value → Value → M Value) : L1_of_r3 F x0 x3 x4 K = L1_of_R F 3 [(4, x4), (3, x3), (0, x0)] [0, 3, 4, 12] K := by kernel_rfl

def L1_of_b1 (F : Nat) (E1_0 : Value → M Value) (A1 : Value → Value → Value → M Value) (x0 x3 x4 : Value) : M Value :=
  L1_of_r3 F x0 x3 x4 (fun x0 x3 x4 x12 => onB x12 (L1_of_r5 F x0 x3 x4 (fun x0 x3 x4 x19 => onB x19 (L1_of_r6 F x0 x3 x4 (fun x0 x3 x4 => L1_of_k2 F A1 x0 x3 x4)) (L1_of_k2 F A1 x0 x3 x4))) (E1_0 x3))

def L1_of_l1 (F : Nat) (E1_0 : Value → M Value) : Nat → Value → Value → Value → M Value
  | 0, _, _, _ => fail
  | k1 + 1, x0, x3, x4 => L1_of_b1 F E1_0 (L1_of_l1 F E1_0 k1) x0 x3 x4

theorem L1_of_l1_s (F : Nat) (E1_0 : Value → M Value) (k1 : Nat) (x0 x3 x4 : Value) : L1_of_l1 F E1_0 (k1 + 1) x0 x3 x4 = L1_of_b1 F E1_0 (L1_of_l1 F E1_0 k1) x0 x3 x4 := rfl

def L1_of_r2 (F : Nat) (x0 x3 : Value) (K : Value → Value → Value → M Value) : M Value :=
  K x0 x3 (.int .i64 (0))

theorem L1_of_r2_ok (F : Nat) (x0 x3 : Value) (K : Value → Value → Value → M Value) : L1_of_r2 F x0 x3 K = L1_of_R F 2 [(3, x3), (0, x0)] [0, 3, 4] K := by kernel_rfl

def L1_of_r1 (F : Nat) (x0 : Value) (K : Value → Value → M Value) : M Value :=
  K x0 (.slice none 0 0)

theorem L1_of_r1_ok (F : Nat) (x0 : Value) (K : Value → Value → M Value) : L1_of_r1 F x0 K = L1_of_R F 1 [(0, x0)] [0, 3] K := by kernel_rfl

def L1_of_r0 (F : Nat) (x0 : Value) (K : Value → M Value) : M Value :=
  K x0

theorem L1_of_r0_ok (F : Nat) (x0 : Value) (K : Value → M Value) : L1_of_r0 F x0 K = L1_of_R F 0 [(0, x0)] [0] K := by kernel_rfl

def L1_of (F : Nat) (x0 : Value) : M Value :=
  L1_of_r0 F x0 (fun x0 => L1_of_r1 F x0 (fun x0 x3 => L1_of_r2 F x0 x3 (fun x0 x3 x4 => L1_of_l1 F (fun x3 => L1_of_k0 F x3) F x0 x3 x4)))

def L1_of_m (F : Nat) : List Value → M Value
  | [x0] => L1_of F x0
  | _ => fail

theorem L1_of_body : Tryd.f20.body = some (.seq (.region 0 (opsOf Tryd.f20 0) false) (.seq (.region 1 (opsOf Tryd.f20 1) false) (.seq (.seq (.region 2 (opsOf Tryd.f20 2) false) (.block 0 (.loop (.seq (.seq (.region 3 (opsOf Tryd.f20 3) false) (.cond (.tmp 12) .skip (.exit 0))) (.seq (.block 1 (.seq (.region 5 (opsOf Tryd.f20 5) false) (.cond (.tmp 19) (.region 6 (opsOf Tryd.f20 6) false) .skip))) (.region 4 (opsOf Tryd.f20 4) false)))))) (.seq (.region 7 (opsOf Tryd.f20 7) false) .ret)))) := by kernel_rfl

theorem L1_of_ok (F : Nat) : Sim Tryd.prog TrydG 20 (L1_of_m F) := by
 have hE : EnvOK Tryd.prog TrydG (L1_of_env F) := (EnvOK.cons (L1_may_ok F) (EnvOK.cons (R1_Put_ok F) EnvOK.nil))
 refine Sim.of_body (E := L1_of_env F) Tryd.func20 L1_of_body Tryd.call20 ?_ ?_
 · intro args hl; unfold L1_of_m; split
   · exact absurd hl (Nat.not_lt.2 (Nat.le_of_ble_eq_true rfl))
   · rfl
 · intro args ρ h w z; unfold L1_of_m; split
   · rename_i x0; show OKc _ _ [(0, x0)] _ _
     refine rSeq ?_
     refine cLess [0] ?_
     refine xR hE [0] rfl (L1_of_r0_ok F _ _) ?_
     intro x0
     show OKq _ _ _ [(0, x0)] _
     refine rThen ?_
     refine rSeq ?_
     refine cLess [0] ?_
     refine xR hE [0, 3] rfl (L1_of_r1_ok F _ _) ?_
     intro x0 x3
     show OKq _ _ _ [(3, x3), (0, x0)] _
     refine rThen ?_
     refine xSeq [3] (L1_of_k0 F ) ?_ fun hj0 => ?_
     · intro x3
       show OKc _ _ [(3, x3)] _ _
       refine rSeq ?_
       refine cLess [3] ?_
       refine xR hE [2] rfl (L1_of_r7_ok F _ _) ?_
       intro x2
       show OKq _ _ _ [(2, x2)] _
       refine rThen ?_
       refine rRet ?_
       exact rDone (.inr rfl) rfl
     · refine rSeq ?_
       refine cLess [3, 0] ?_
       refine xR hE [0, 3, 4] rfl (L1_of_r2_ok F _ _ _) ?_
       intro x0 x3 x4
       show OKq _ _ _ [(4, x4), (3, x3), (0, x0)] _
       refine rThen ?_
       refine rBlock ?_
       refine cLess [4, 3, 0] ?_
       refine xLoopAt [0, 3, 4] [] (fun k1 => L1_of_l1 F (fun x3 => L1_of_k0 F x3) k1) F [x0, x3, x4] rfl rfl (fun _ _ _ => rfl) fun I hI1 k1 => ?_
       intro x0 x3 x4
       show OKc _ _ [(4, x4), (3, x3), (0, x0)] _ _
       refine cAs (L1_of_l1_s F _ _ _ _ _) ?_
       refine rSeq ?_
       refine rSeq ?_
       refine cLess [4, 3, 0] ?_
       refine xR hE [0, 3, 4, 12] rfl (L1_of_r3_ok F _ _ _ _) ?_
       intro x0 x3 x4 x12
       show OKq _ _ _ [(12, x12), (4, x4), (3, x3), (0, x0)] _
       refine rThen ?_
       refine xCond rfl rfl ?_ ?_
       · refine rSkip ?_
         refine rThen ?_
         refine xSeq [0, 3, 4] (L1_of_k2 F (L1_of_l1 F (fun x3 => L1_of_k0 F x3) k1) ) ?_ fun hj2 => ?_
         · intro x0 x3 x4
           show OKc _ _ [(4, x4), (3, x3), (0, x0)] _ _
           refine cLess [4, 3, 0] ?_
           refine xR hE [0, 3, 4] rfl (L1_of_r4_ok F _ _ _ _) ?_
           intro x0 x3 x4
           show OKq _ _ _ [(4, x4), (3, x3), (0, x0)] _
           exact qLess [4, 3, 0] (hI1 k1 x0 x3 x4)
         · refine rBlock ?_
           refine rSeq ?_
           refine cLess [4, 3, 0] ?_
           refine xR hE [0, 3, 4, 19] rfl (L1_of_r5_ok F _ _ _ _) ?_
           intro x0 x3 x4 x19
           show OKq _ _ _ [(19, x19), (4, x4), (3, x3), (0, x0)] _
           refine rThen ?_
           refine xCond rfl rfl ?_ ?_
           · refine cLess [4, 3, 0] ?_
             refine xR hE [0, 3, 4] rfl (L1_of_r6_ok F _ _ _ _) ?_
             intro x0 x3 x4
             show OKq _ _ _ [(4, x4), (3, x3), (0, x0)] _
             refine xBlockN ?_
             exact qLess [4, 3, 0] (hj2 x0 x3 x4)
           · refine rSkip ?_
             refine xBlockN ?_
             exact qLess [4, 3, 0] (hj2 x0 x3 x4)
       · refine rExit ?_
         refine xThenX ?_
         refine xThenX ?_
         refine rOut ?_
         exact qLess [3] (hj0 x3)
   · exact rFail


/-! ### (*haruspex/bitset.Set).Join -/

def bitset_Set_Join_env (F : Nat) : Env := envOf [(30, bitset_Set_at_m F), (31, bitset_Set_words_m F)]

noncomputable def bitset_Set_Join_R (F : Nat) := rK Tryd.prog TrydG (bitset_Set_Join_env F) Tryd.f25
noncomputable def bitset_Set_Join_D (F : Nat) := dK Tryd.prog TrydG (bitset_Set_Join_env F) Tryd.f25

def bitset_Set_Join_r13 (F : Nat) (x5 : Value) (K : Value → M Value) : M Value :=
  K x5

theorem bitset_Set_Join_r13_ok (F : Nat) (x5 : Value) (K : Value → M Value) : bitset_Set_Join_r13 F x5 K = bitset_Set_Join_R F 13 [(5, x5)] [4] K := by kernel_rfl

def bitset_Set_Join_k0 (F : Nat) (x5 : Value) : M Value :=
  bitset_Set_Join_r13 F x5 (fun x4 => ret x4)

def bitset_Set_Join_r12 (F : Nat) (x0 x5 x11 x12 x13 : Value) (K : Value → Value → Value → Value → Value → M Value) : M Value :=
  bnd (opBin .add x13 (.int .i64 (1))) fun v50 => K x0 x5 x11 x12 v50

theorem bitset_Set_Join_r12_ok (F : Nat) (x0 x5 x11 x12 x13 : Value) (K : Value → Value → Value → Value → Value → M Value) : bitset_Set_Join_r12 F x0 x5 x11 x12 x13 K = bitset_Set_Join_R F 12 [(13, x13), (12, x12), (11, x11), (5, x5), (0, x0)] [0, 5, 11, 12, 13] K := by kernel_rfl

def bitset_Set_Join_k2 (F : Nat) (A1 : Value → Value → Value → Value → Value → M Value) (x0 x5 x11 x12 x13 : Value) : M Value :=
  bitset_Set_Join_r12 F x0 x5 x11 x12 x13 (fun x0 x5 x11 x12 x13 => A1 x0 x5 x11 x12 x13)

def bitset_Set_Join_r11 (F : Nat) (x0 x11 x12 x13 : Value) (K : Value → Value → Value → Value → Value → M Value) : M Value :=
  K x0 (.bool true) x11 x12 x13

theorem bitset_Set_Join_r11_ok (F : Nat) (x0 x11 x12 x13 : Value) (K : Value → Value → Value → Value → Value → M Value) : bitset_Set_Join_r11 F x0 x11 x12 x13 K = bitset_Set_Join_R F 11 [(13, x13), (12, x12), (11, x11), (0, x0)] [0, 5, 11, 12, 13] K := by kernel_rfl

def bitset_Set_Join_r10 (F : Nat) (x0 x6 x7 x11 x12 x13 : Value) (K : Value → Value → Value → Value → M Value) : M Value :=
  bnd (opNil x0) fun v41 => bnd (opFieldAddr 0 v41) fun v42 => bnd (opLoad v42) fun v43 => bnd (opIndexAddr 1 v43 x6) fun v45 => bnd (opLoad v45) fun v46 => bnd (opBin .or v46 x7) fun v48 => bnd (opIndexAddr 1 v43 x6) fun v49 => bnd (opStore v49 v48) fun _ => K x0 x11 x12 x13

theorem bitset_Set_Join_r10_ok (F : Nat) (x0 x6 x7 x11 x12 x13 : Value) (K : Value → Value → Value → Value → M Value) : bitset_Set_Join_r10 F x0 x6 x7 x11 x12 x13 K = bitset_Set_Join_R F 10 [(13, x13), (12, x12), (11, x11), (7, x7), (6, x6), (0, x0)] [0, 11, 12, 13] K := by kernel_rfl

def bitset_Set_Join_k3 (F : Nat) (A1 : Value → Value → Value → Value → Value → M Value) (x0 x6 x7 x11 x12 x13 : Value) : M Value :=
  bitset_Set_Join_r10 F x0 x6 x7 x11 x12 x13 (fun x0 x11 x12 x13 => bitset_Set_Join_r11 F x0 x11 x12 x13 (fun x0 x5 x11 x12 x13 => bitset_Set_Join_k2 F A1 x0 x5 x11 x12 x13))

def bitset_Set_Join_r9 (F : Nat) (x0 x6 x7 x11 x12 x13 : Value) (K : Value → Value → Value → Value → Value → Value → M Value) : M Value :=
  bnd (opNil x0) fun v33 => bnd (opFieldAddr 0 v33) fun v34 => bnd (opLoad v34) fun v35 => bnd (opBuildSlice 1 (rep 1 [(.int .u64 (0))]) [(0, 1, false, (.int .u64 (0)))]) fun v36 => bnd (opAppend 1 8 v35 v36) fun v37 => bnd (opNil x0) fun v38 => bnd (opFieldAddr 0 v38) fun v39 => bnd (opStore v39 v37) fun _ => K x0 x6 x7 x11 x12 x13

theorem bitset_Set_Join_r9_ok (F : Nat) (x0 x6 x7 x11 x12 x13 : Value) (K : Value → Value → Value → Value → Value → Value → M Value) : bitset_Set_Join_r9 F x0 x6 x7 x11 x12 x13 K = bitset_Set_Join_R F 9 [(13, x13), (12, x12), (11, x11), (7, x7), (6, x6), (0, x0)] [0, 6, 7, 11, 12, 13] K := by kernel_rfl

def bitset_Set_Join_r8 (F : Nat) (x0 x6 x7 x11 x12 x13 : Value) (K : Value → Value → Value → Value → Value → Value → Value → M Value) : M Value :=
  bnd (opNil x0) fun v25 => bnd (opFieldAddr 0 v25) fun v26 => bnd (opLoad v26) fun v27 => bnd (opLen v27) fun v28 => bnd (opBin .leq v28 x6) fun v30 => K x0 x6 x7 x11 x12 x13 v30

theorem bitset_Set_Join_r8_ok (F : Nat) (x0 x6 x7 x11 x12 x13 : Value) (K : Value → Value → Value → Value → Value → Value → Value → M Value) : bitset_Set_Join_r8 F x0 x6 x7 x11 x12 x13 K = bitset_Set_Join_R F 8 [(13, x13), (12, x12), (11, x11), (7, x7), (6, x6), (0, x0)] [0, 6, 7, 11, 12, 13, 30] K := by kernel_rfl

def bitset_Set_Join_b4 (F : Nat) (E4_2 : Value → Value → Value → Value → Value → Value → M Value) (A4 : Value → Value → Value → Value → Value → Value → M Value) (x0 x6 x7 x11 x12 x13 : Value) : M Value :=
  bitset_Set_Join_r8 F x0 x6 x7 x11 x12 x13 (fun x0 x6 x7 x11 x12 x13 x30 => onB x30 (bitset_Set_Join_r9 F x0 x6 x7 x11 x12 x13 (fun x0 x6 x7 x11 x12 x13 => A4 x0 x6 x7 x11 x12 x13)) (E4_2 x0 x6 x7 x11 x12 x13))

def bitset_Set_Join_l4 (F : Nat) (E4_2 : Value → Value → Value → Value → Value → Value → M Value) : Nat → Value → Value → Value → Value → Value → Value → M Value
  | 0, _, _, _, _, _, _ => fail
  | k4 + 1, x0, x6, x7, x11, x12, x13 => bitset_Set_Join_b4 F E4_2 (bitset_Set_Join_l4 F E4_2 k4) x0 x6 x7 x11 x12 x13

theorem bitset_Set_Join_l4_s (F : Nat) (E4_2 : Value → Value → Value → Value → Value → Value → M Value) (k4 : Nat) (x0 x6 x7 x11 x12 x13 : Value) : bitset_Set_Join_l4 F E4_2 (k4 + 1) x0 x6 x7 x11 x12 x13 = bitset_Set_Join_b4 F E4_2 (bitset_Set_Join_l4 F E4_2 k4) x0 x6 x7 x11 x12 x13 := rfl

def bitset_Set_Join_r7 (F : Nat) (x0 x5 x6 x7 x11 x12 x13 : Value) (K : Value → Value → Value → Value → Value → Value → Value → Value → M Value) : M Value :=
  bnd (bitset_Set_at F x0 x6) fun v21 => bnd (opBin .andNot x7 v21) fun v22 => bnd (opBin .eql v22 (.int .u64 (0))) fun v23 => K x0 x5 x6 x7 x11 x12 x13 v23

theorem bitset_Set_Join_r7_ok (F : Nat) (x0 x5 x6 x7 x11 x12 x13 : Value) (K : Value → Value → Value → Value → Value → Value → Value → Value → M Value) : bitset_Set_Join_r7 F x0 x5 x6 x7 x11 x12 x13 K = bitset_Set_Join_R F 7 [(13, x13), (12, x12), (11, x11), (7, x7), (6, x6), (5, x5), (0, x0)] [0, 5, 6, 7, 11, 12, 13, 23] K := by kernel_rfl

def bitset_Set_Join_r6 (F : Nat) (x0 x5 x11 x12 x13 : Value) (K : Value → Value → Value → Value → Value → Value → Value → M Value) : M Value :=
  bnd (opIndexAddr 1 x11 x13) fun v16 => bnd (opLoad v16) fun v17 => K x0 x5 x13 v17 x11 x12 x13

theorem bitset_Set_Join_r6_ok (F : Nat) (x0 x5 x11 x12 x13 : Value) (K : Value → Value → Value → Value → Value → Value → Value → M Value) : bitset_Set_Join_r6 F x0 x5 x11 x12 x13 K = bitset_Set_Join_R F 6 [(13, x13), (12, x12), (11, x11), (5, x5), (0, x0)] [0, 5, 6, 7, 11, 12, 13] K := by kernel_rfl

def bitset_Set_Join_r5 (F : Nat) (x0 x5 x11 x12 x13 : Value) (K : Value → Value → Value → Value → Value → Value → M Value) : M Value :=
  bnd (opBin .lss x13 x12) fun v14 => K x0 x5 x11 x12 x13 v14

theorem bitset_Set_Join_r5_ok (F : Nat) (x0 x5 x11 x12 x13 : Value) (K : Value → Value → Value → Value → Value → Value → M Value) : bitset_Set_Join_r5 F x0 x5 x11 x12 x13 K = bitset_Set_Join_R F 5 [(13, x13), (12, x12), (11, x11), (5, x5), (0, x0)] [0, 5, 11, 12, 13, 14] K := by kernel_rfl

def bitset_Set_Join_b1 (F : Nat) (E1_0 : Value → M Value) (A1 : Value → Value → Value → Value → Value → M Value) (x0 x5 x11 x12 x13 : Value) : M Value :=
  bitset_Set_Join_r5 F x0 x5 x11 x12 x13 (fun x0 x5 x11 x12 x13 x14 => onB x14 (bitset_Set_Join_r6 F x0 x5 x11 x12 x13 (fun x0 x5 x6 x7 x11 x12 x13 => bitset_Set_Join_r7 F x0 x5 x6 x7 x11 x12 x13 (fun x0 x5 x6 x7 x11 x12 x13 x23 => onB x23 (bitset_Set_Join_k2 F A1 x0 x5 x11 x12 x13) (bitset_Set_Join_l4 F (fun x0 x6 x7 x11 x12 x13 => bitset_Set_Join_k3 F A1 x0 x6 x7 x11 x12 x13) F x0 x6 x7 x11 x12 x13)))) (E1_0 x5))

def bitset_Set_Join_l1 (F : Nat) (E1_0 : Value → M Value) : Nat → Value → Value → Value → Value → Value → M Value
  | 0, _, _, _, _, _ => fail
  | k1 + 1, x0, x5, x11, x12, x13 => bitset_Set_Join_b1 F E1_0 (bitset_Set_Join_l1 F E1_0 k1) x0 x5 x11 x12 x13

theorem bitset_Set_Join_l1_s (F : Nat) (E1_0 : Value → M Value) (k1 : Nat) (x0 x5 x11 x12 x13 : Value) : bitset_Set_Join_l1 F E1_0 (k1 + 1) x0 x5 x11 x12 x13 = bitset_Set_Join_b1 F E1_0 (bitset_Set_Join_l1 F E1_0 k1) x0 x5 x11 x12 x13 := rfl

def bitset_Set_Join_r4 (F : Nat) (x0 x1 x5 : Value) (K : Value → Value → Value → Value → Value → M Value) : M Value :=
  bnd (bitset_Set_words F x1) fun v11 => bnd (opLen v11) fun v12 => K x0 x5 v11 v12 (.int .i64 (0))

theorem bitset_Set_Join_r4_ok (F : Nat) (x0 x1 x5 : Value) (K : Value → Value → Value → Value → Value → M Value) : bitset_Set_Join_r4 F x0 x1 x5 K = bitset_Set_Join_R F 4 [(5, x5), (1, x1), (0, x0)] [0, 5, 11, 12, 13] K := by kernel_rfl

def bitset_Set_Join_r3 (F : Nat) (x0 x1 : Value) (K : Value → Value → Value → M Value) : M Value :=
  K x0 x1 (.bool false)

theorem bitset_Set_Join_r3_ok (F : Nat) (x0 x1 : Value) (K : Value → Value → Value → M Value) : bitset_Set_Join_r3 F x0 x1 K = bitset_Set_Join_R F 3 [(1, x1), (0, x0)] [0, 1, 5] K := by kernel_rfl

def bitset_Set_Join_r2 (F : Nat) (K : Value → M Value) : M Value :=
  K (.bool false)

theorem bitset_Set_Join_r2_ok (F : Nat) (K : Value → M Value) : bitset_Set_Join_r2 F K = bitset_Set_Join_R F 2 [] [4] K := by kernel_rfl

def bitset_Set_Join_r1 (F : Nat) (x0 x1 : Value) (K : Value → Value → Value → M Value) : M Value :=
  bnd (opEq eqP false x0 (.pointer none)) fun v9 => K x0 x1 v9

theorem bitset_Set_Join_r1_ok (F : Nat) (x0 x1 : Value) (K : Value → Value → Value → M Value) : bitset_Set_Join_r1 F x0 x1 K = bitset_Set_Join_R F 1 [(1, x1), (0, x0)] [0, 1, 9] K := by kernel_rfl

def bitset_Set_Join_r0 (F : Nat) (x0 x1 : Value) (K : Value → Value → M Value) : M Value :=
  K x0 x1

theorem bitset_Set_Join_r0_ok (F : Nat) (x0 x1 : Value) (K : Value → Value → M Value) : bitset_Set_Join_r0 F x0 x1 K = bitset_Set_Join_R F 0 [(1, x1), (0, x0)] [0, 1] K := by kernel_rfl

def bitset_Set_Join (F : Nat) (x0 x1 : Value) : M Value :=
  bitset_Set_Join_r0 F x0 x1 (fun x0 x1 => bitset_Set_Join_r1 F x0 x1 (fun x0 x1 x9 => onB x9 (bitset_Set_Join_r2 F (fun x4 => ret x4)) (bitset_Set_Join_r3 F x0 x1 (fun x0 x1 x5 => bitset_Set_Join_r4 F x0 x1 x5 (fun x0 x5 x11 x12 x13 => bitset_Set_Join_l1 F (fun x5 => bitset_Set_Join_k0 F x5) F x0 x5 x11 x12 x13)))))

def bitset_Set_Join_m (F : Nat) : List Value → M Value
  | [x0, x1] => bitset_Set_Join F x0 x1
  | _ => fail

theorem bitset_Set_Join_body : Tryd.f25.body = some (.seq (.region 0 (opsOf Tryd.f25 0) false) (.seq (.seq (.region 1 (opsOf Tryd.f25 1) false) (.cond (.tmp 9) (.seq (.region 2 (opsOf Tryd.f25 2) false) .ret) .skip)) (.seq (.region 3 (opsOf Tryd.f25 3) false) (.seq (.seq (.region 4 (opsOf Tryd.f25 4) false) (.block 0 (.loop (.seq (.region 5 (opsOf Tryd.f25 5) false) (.seq (.cond (.tmp 14) .skip (.exit 0)) (.seq (.block 1 (.seq (.region 6 (opsOf Tryd.f25 6) false) (.seq (.seq (.region 7 (opsOf Tryd.f25 7) false) (.cond (.tmp 23) (.exit 1) .skip)) (.seq (.block 2 (.loop (.seq (.seq (.region 8 (opsOf Tryd.f25 8) false) (.cond (.tmp 30) .skip (.exit 2))) (.block 3 (.region 9 (opsOf Tryd.f25 9) false))))) (.seq (.region 10 (opsOf Tryd.f25 10) false) (.region 11 (opsOf Tryd.f25 11) false)))))) (.region 12 (opsOf Tryd.f25 12) false))))))) (.seq (.region 13 (opsOf Tryd.f25 13) false) .ret))))) := by kernel_rfl

theorem bitset_Set_Join_ok (F : Nat) : Sim Tryd.prog TrydG 25 (bitset_Set_Join_m F) := by
 have hE : EnvOK Tryd.prog TrydG (bitset_Set_Join_env F) := (EnvOK.cons (bitset_Set_at_ok F) (EnvOK.cons (bitset_Set_words_ok F) EnvOK.nil))
 refine Sim.of_body (E := bitset_Set_Join_env F) Tryd.func25 bitset_Set_Join_body Tryd.call25 ?_ ?_
 · intro args hl; unfold bitset_Set_Join_m; split
   · exact absurd hl (Nat.not_lt.2 (Nat.le_of_ble_eq_true rfl))
   · rfl
 · intro args ρ h w z; unfold bitset_Set_Join_m; split
   · rename_i x0 x1; show OKc _ _ [(0, x0), (1, x1)] _ _
     refine rSeq ?_
     refine cLess [1, 0] ?_
     refine xR hE [0, 1] rfl (bitset_Set_Join_r0_ok F _ _ _) ?_
     intro x0 x1
     show OKq _ _ _ [(1, x1), (0, x0)] _
     refine rThen ?_
     refine rSeq ?_
     refine rSeq ?_
     refine cLess [1, 0] ?_
     refine xR hE [0, 1, 9] rfl (bitset_Set_Join_r1_ok F _ _ _) ?_
     intro x0 x1 x9
     show OKq _ _ _ [(9, x9), (1, x1), (0, x0)] _
     refine rThen ?_
     refine xCond rfl rfl ?_ ?_
     · refine rSeq ?_
       refine cLess [] ?_
       refine xR hE [4] rfl (bitset_Set_Join_r2_ok F _) ?_
       intro x4
       show OKq _ _ _ [(4, x4)] _
       refine rThen ?_
       refine rRet ?_
       refine xThenR ?_
       exact rDone (.inr rfl) rfl
     · refine rSkip ?_
       refine rThen ?_
       refine rSeq ?_
       refine cLess [1, 0] ?_
       refine xR hE [0, 1, 5] rfl (bitset_Set_Join_r3_ok F _ _ _) ?_
       intro x0 x1 x5
       show OKq _ _ _ [(5, x5), (1, x1), (0, x0)] _
       refine rThen ?_
       refine xSeq [5] (bitset_Set_Join_k0 F ) ?_ fun hj0 => ?_
       · intro x5
         show OKc _ _ [(5, x5)] _ _
         refine rSeq ?_
         refine cLess [5] ?_
         refine xR hE [4] rfl (bitset_Set_Join_r13_ok F _ _) ?_
         intro x4
         show OKq _ _ _ [(4, x4)] _
         refine rThen ?_
         refine rRet ?_
         exact rDone (.inr rfl) rfl
       · refine rSeq ?_
         refine cLess [5, 1, 0] ?_
         refine xR hE [0, 5, 11, 12, 13] rfl (bitset_Set_Join_r4_ok F _ _ _ _) ?_
         intro x0 x5 x11 x12 x13
         show OKq _ _ _ [(13, x13), (12, x12), (11, x11), (5, x5), (0, x0)] _
         refine rThen ?_
         refine rBlock ?_
         refine cLess [13, 12, 11, 5, 0] ?_
         refine xLoopAt [0, 5, 11, 12, 13] [] (fun k1 => bitset_Set_Join_l1 F (fun x5 => bitset_Set_Join_k0 F x5) k1) F [x0, x5, x11, x12, x13] rfl rfl (fun _ _ _ _ _ => rfl) fun I hI1 k1 => ?_
         intro x0 x5 x11 x12 x13
         show OKc _ _ [(13, x13), (12, x12), (11, x11), (5, x5), (0, x0)] _ _
         refine cAs (bitset_Set_Join_l1_s F _ _ _ _ _ _ _) ?_
         refine rSeq ?_
         refine cLess [13, 12, 11, 5, 0] ?_
         refine xR hE [0, 5, 11, 12, 13, 14] rfl (bitset_Set_Join_r5_ok F _ _ _ _ _ _) ?_
         intro x0 x5 x11 x12 x13 x14
         show OKq _ _ _ [(14, x14), (13, x13), (12, x12), (11, x11), (5, x5), (0, x0)] _
         refine rThen ?_
         refine rSeq ?_
         refine xCond rfl rfl ?_ ?_
         · refine rSkip ?_
           refine rThen ?_
           refine xSeq [0, 5, 11, 12, 13] (bitset_Set_Join_k2 F (bitset_Set_Join_l1 F (fun x5 => bitset_Set_Join_k0 F x5) k1) ) ?_ fun hj2 => ?_
           · intro x0 x5 x11 x12 x13
             show OKc _ _ [(13, x13), (12, x12), (11, x11), (5, x5), (0, x0)] _ _
             refine cLess [13, 12, 11, 5, 0] ?_
             refine xR hE [0, 5, 11, 12, 13] rfl (bitset_Set_Join_r12_ok F _ _ _ _ _ _) ?_
             intro x0 x5 x11 x12 x13
             show OKq _ _ _ [(13, x13), (12, x12), (11, x11), (5, x5), (0, x0)] _
             exact qLess [13, 12, 11, 5, 0] (hI1 k1 x0 x5 x11 x12 x13)
           · refine rBlock ?_
             refine rSeq ?_
             refine cLess [13, 12, 11, 5, 0] ?_
             refine xR hE [0, 5, 6, 7, 11, 12, 13] rfl (bitset_Set_Join_r6_ok F _ _ _ _ _ _) ?_
             intro x0 x5 x6 x7 x11 x12 x13
             show OKq _ _ _ [(13, x13), (12, x12), (11, x11), (7, x7), (6, x6), (5, x5), (0, x0)] _
             refine rThen ?_
             refine rSeq ?_
             refine rSeq ?_
             refine cLess [13, 12, 11, 7, 6, 5, 0] ?_
             refine xR hE [0, 5, 6, 7, 11, 12, 13, 23] rfl (bitset_Set_Join_r7_ok F _ _ _ _ _ _ _ _) ?_
             intro x0 x5 x6 x7 x11 x12 x13 x23
             show OKq _ _ _ [(23, x23), (13, x13), (12, x12), (11, x11), (7, x7), (6, x6), (5, x5), (0, x0)] _
             refine rThen ?_
             refine xCond rfl rfl ?_ ?_
             · refine rExit ?_
               refine xThenX ?_
               refine rOut ?_
               exact qLess [13, 12, 11, 5, 0] (hj2 x0 x5 x11 x12 x13)
             · refine rSkip ?_
               refine rThen ?_
               refine xSeq [0, 6, 7, 11, 12, 13] (bitset_Set_Join_k3 F (bitset_Set_Join_l1 F (fun x5 => bitset_Set_Join_k0 F x5) k1) ) ?_ fun hj3 => ?_
               · intro x0 x6 x7 x11 x12 x13
                 show OKc _ _ [(13, x13), (12, x12), (11, x11), (7, x7), (6, x6), (0, x0)] _ _
                 refine rSeq ?_
                 refine cLess [13, 12, 11, 7, 6, 0] ?_
                 refine xR hE [0, 11, 12, 13] rfl (bitset_Set_Join_r10_ok F _ _ _ _ _ _ _) ?_
                 intro x0 x11 x12 x13
                 show OKq _ _ _ [(13, x13), (12, x12), (11, x11), (0, x0)] _
                 refine rThen ?_
                 refine cLess [13, 12, 11, 0] ?_
                 refine xR hE [0, 5, 11, 12, 13] rfl (bitset_Set_Join_r11_ok F _ _ _ _ _) ?_
                 intro x0 x5 x11 x12 x13
                 show OKq _ _ _ [(13, x13), (12, x12), (11, x11), (5, x5), (0, x0)] _
                 refine xBlockN ?_
                 exact qLess [13, 12, 11, 5, 0] (hj2 x0 x5 x11 x12 x13)
               · refine rBlock ?_
                 refine cLess [13, 12, 11, 7, 6, 0] ?_
                 refine xLoopAt [0, 6, 7, 11, 12, 13] [] (fun k4 => bitset_Set_Join_l4 F (fun x0 x6 x7 x11 x12 x13 => bitset_Set_Join_k3 F (bitset_Set_Join_l1 F (fun x5 => bitset_Set_Join_k0 F x5) k1) x0 x6 x7 x11 x12 x13) k4) F [x0, x6, x7, x11, x12, x13] rfl rfl (fun _ _ _ _ _ _ => rfl) fun I hI4 k4 => ?_
                 intro x0 x6 x7 x11 x12 x13
                 show OKc _ _ [(13, x13), (12, x12), (11, x11), (7, x7), (6, x6), (0, x0)] _ _
                 refine cAs (bitset_Set_Join_l4_s F _ _ _ _ _ _ _ _) ?_
                 refine rSeq ?_
                 refine rSeq ?_
                 refine cLess [13, 12, 11, 7, 6, 0] ?_
                 refine xR hE [0, 6, 7, 11, 12, 13, 30] rfl (bitset_Set_Join_r8_ok F _ _ _ _ _ _ _) ?_
                 intro x0 x6 x7 x11 x12 x13 x30
                 show OKq _ _ _ [(30, x30), (13, x13), (12, x12), (11, x11), (7, x7), (6, x6), (0, x0)] _
                 refine rThen ?_
                 refine xCond rfl rfl ?_ ?_
                 · refine rSkip ?_
                   refine rThen ?_
                   refine rBlock ?_
                   refine cLess [13, 12, 11, 7, 6, 0] ?_
                   refine xR hE [0, 6, 7, 11, 12, 13] rfl (bitset_Set_Join_r9_ok F _ _ _ _ _ _ _) ?_
                   intro x0 x6 x7 x11 x12 x13
                   show OKq _ _ _ [(13, x13), (12, x12), (11, x11), (7, x7), (6, x6), (0, x0)] _
                   refine xBlockN ?_
                   exact qLess [13, 12, 11, 7, 6, 0] (hI4 k4 x0 x6 x7 x11 x12 x13)
                 · refine rExit ?_
                   refine xThenX ?_
                   refine xThenX ?_
                   refine rOut ?_
                   exact qLess [13, 12, 11, 7, 6, 0] (hj3 x0 x6 x7 x11 x12 x13)
         · refine rExit ?_
           refine xThenX ?_
           refine xThenX ?_
           refine rOut ?_
           exact qLess [5] (hj0 x5)
   · exact rFail


/-! ### (*haruspex/bitset.Set).Less -/

def bitset_Set_Less_env (F : Nat) : Env := envOf [(26, bitset_Set_Copy_m F), (30, bitset_Set_at_m F)]

noncomputable def bitset_Set_Less_R (F : Nat) := rK Tryd.prog TrydG (bitset_Set_Less_env F) Tryd.f27
noncomputable def bitset_Set_Less_D (F : Nat) := dK Tryd.prog TrydG (bitset_Set_Less_env F) Tryd.f27

def bitset_Set_Less_r7 (F : Nat) (x5 : Value) (K : Value → M Value) : M Value :=
  K x5

theorem bitset_Set_Less_r7_ok (F : Nat) (x5 : Value) (K : Value → M Value) : bitset_Set_Less_r7 F x5 K = bitset_Set_Less_R F 7 [(5, x5)] [4] K := by kernel_rfl

def bitset_Set_Less_k0 (F : Nat) (x5 : Value) : M Value :=
  bitset_Set_Less_r7 F x5 (fun x4 => ret x4)

def bitset_Set_Less_r6 (F : Nat) (x1 x5 x13 x14 : Value) (K : Value → Value → Value → Value → M Value) : M Value :=
  bnd (opBin .add x14 (.int .i64 (1))) fun v29 => K x1 x5 x13 v29

theorem bitset_Set_Less_r6_ok (F : Nat) (x1 x5 x13 x14 : Value) (K : Value → Value → Value → Value → M Value) : bitset_Set_Less_r6 F x1 x5 x13 x14 K = bitset_Set_Less_R F 6 [(14, x14), (13, x13), (5, x5), (1, x1)] [1, 5, 13, 14] K := by kernel_rfl

def bitset_Set_Less_r5 (F : Nat) (x1 x5 x6 x13 x14 : Value) (K : Value → Value → Value → Value → M Value) : M Value :=
  bnd (opNil x5) fun v18 => bnd (opFieldAddr 0 v18) fun v19 => bnd (opLoad v19) fun v20 => bnd (opIndexAddr 1 v20 x6) fun v22 => bnd (opLoad v22) fun v23 => bnd (bitset_Set_at F x1 x6) fun v26 => bnd (opChk false v19 v20) fun _ => bnd (opChk false v22 v23) fun _ => bnd (opBin .andNot v23 v26) fun v27 => bnd (opIndexAddr 1 v20 x6) fun v28 => bnd (opStore v28 v27) fun _ => K x1 x5 x13 x14

theorem bitset_Set_Less_r5_ok (F : Nat) (x1 x5 x6 x13 x14 : Value) (K : Value → Value → Value → Value → M Value) : bitset_Set_Less_r5 F x1 x5 x6 x13 x14 K = bitset_Set_Less_D F 5 [0, 1, 2, 3, 4, 5, 6, 7, 8, 9, 10, 11, 12] [(14, x14), (13, x13), (6, x6), (5, x5), (1, x1)] [1, 5, 13, 14] K := by kernel_rfl

theorem bitset_Set_Less_r5_good : goodOrder (opsOf Tryd.f27 5) [0, 1, 2, 3, 4, 5, 6, 7, 8, 9, 10, 11, 12] = true := by kernel_rfl

def bitset_Set_Less_r4 (F : Nat) (x1 x5 x13 x14 : Value) (K : Value → Value → Value → Value → Value → M Value) : M Value :=
  K x1 x5 x14 x13 x14

theorem bitset_Set_Less_r4_ok (F : Nat) (x1 x5 x13 x14 : Value) (K : Value → Value → Value → Value → Value → M Value) : bitset_Set_Less_r4 F x1 x5 x13 x14 K = bitset_Set_Less_R F 4 [(14, x14), (13, x13), (5, x5), (1, x1)] [1, 5, 6, 13, 14] K := by kernel_rfl

def bitset_Set_Less_r3 (F : Nat) (x1 x5 x13 x14 : Value) (K : Value → Value → Value → Value → Value → M Value) : M Value :=
  bnd (opBin .lss x14 x13) fun v15 => K x1 x5 x13 x14 v15

theorem bitset_Set_Less_r3_ok (F : Nat) (x1 x5 x13 x14 : Value) (K : Value → Value → Value → Value → Value → M Value) : bitset_Set_Less_r3 F x1 x5 x13 x14 K = bitset_Set_Less_R F 3 [(14, x14), (13, x13), (5, x5), (1, x1)] [1, 5, 13, 14, 15] K := by kernel_rfl

def bitset_Set_Less_b1 (F : Nat) (E1_0 : Value → M Value) (A1 : Value → Value → Value → Value → M Value) (x1 x5 x13 x14 : Value) : M Value :=
  bitset_Set_Less_r3 F x1 x5 x13 x14 (fun x1 x5 x13 x14 x15 => onB x15 (bitset_Set_Less_r4 F x1 x5 x13 x14 (fun x1 x5 x6 x13 x14 => bitset_Set_Less_r5 F x1 x5 x6 x13 x14 (fun x1 x5 x13 x14 => bitset_Set_Less_r6 F x1 x5 x13 x14 (fun x1 x5 x13 x14 => A1 x1 x5 x13 x14)))) (E1_0 x5))

def bitset_Set_Less_l1 (F : Nat) (E1_0 : Value → M Value) : Nat → Value → Value → Value → Value → M Value
  | 0, _, _, _, _ => fail
  | k1 + 1, x1, x5, x13, x14 => bitset_Set_Less_b1 F E1_0 (bitset_Set_Less_l1 F E1_0 k1) x1 x5 x13 x14

theorem bitset_Set_Less_l1_s (F : Nat) (E1_0 : Value → M Value) (k1 : Nat) (x1 x5 x13 x14 : Value) : bitset_Set_Less_l1 F E1_0 (k1 + 1) x1 x5 x13 x14 = bitset_Set_Less_b1 F E1_0 (bitset_Set_Less_l1 F E1_0 k1) x1 x5 x13 x14 := rfl

def bitset_Set_Less_r2 (F : Nat) (x1 x5 : Value) (K : Value → Value → Value → Value → M Value) : M Value :=
  bnd (opNil x5) fun v10 => bnd (opFieldAddr 0 v10) fun v11 => bnd (opLoad v11) fun v12 => bnd (opLen v12) fun v13 => K x1 x5 v13 (.int .i64 (0))

theorem bitset_Set_Less_r2_ok (F : Nat) (x1 x5 : Value) (K : Value → Value → Value → Value → M Value) : bitset_Set_Less_r2 F x1 x5 K = bitset_Set_Less_R F 2 [(5, x5), (1, x1)] [1, 5, 13, 14] K := by kernel_rfl

def bitset_Set_Less_r1 (F : Nat) (x0 x1 : Value) (K : Value → Value → M Value) : M Value :=
  bnd (bitset_Set_Copy F x0) fun v8 => K x1 v8

theorem bitset_Set_Less_r1_ok (F : Nat) (x0 x1 : Value) (K : Value → Value → M Value) : bitset_Set_Less_r1 F x0 x1 K = bitset_Set_Less_R F 1 [(1, x1), (0, x0)] [1, 5] K := by kernel_rfl

def bitset_Set_Less_r0 (F : Nat) (x0 x1 : Value) (K : Value → Value → M Value) : M Value :=
  K x0 x1

theorem bitset_Set_Less_r0_ok (F : Nat) (x0 x1 : Value) (K : Value → Value → M Value) : bitset_Set_Less_r0 F x0 x1 K = bitset_Set_Less_R F 0 [(1, x1), (0, x0)] [0, 1] K := by kernel_rfl

def bitset_Set_Less (F : Nat) (x0 x1 : Value) : M Value :=
  bitset_Set_Less_r0 F x0 x1 (fun x0 x1 => bitset_Set_Less_r1 F x0 x1 (fun x1 x5 => bitset_Set_Less_r2 F x1 x5 (fun x1 x5 x13 x14 => bitset_Set_Less_l1 F (fun x5 => bitset_Set_Less_k0 F x5) F x1 x5 x13 x14)))

def bitset_Set_Less_m (F : Nat) : List Value → M Value
  | [x0, x1] => bitset_Set_Less F x0 x1
  | _ => fail

theorem bitset_Set_Less_body : Tryd.f27.body = some (.seq (.region 0 (opsOf Tryd.f27 0) false) (.seq (.region 1 (opsOf Tryd.f27 1) false) (.seq (.seq (.region 2 (opsOf Tryd.f27 2) false) (.block 0 (.loop (.seq (.region 3 (opsOf Tryd.f27 3) false) (.seq (.cond (.tmp 15) .skip (.exit 0)) (.seq (.block 1 (.seq (.region 4 (opsOf Tryd.f27 4) false) (.region 5 (opsOf Tryd.f27 5) true))) (.region 6 (opsOf Tryd.f27 6) false))))))) (.seq (.region 7 (opsOf Tryd.f27 7) false) .ret)))) := by kernel_rfl

theorem bitset_Set_Less_ok (F : Nat) : Sim Tryd.prog TrydG 27 (bitset_Set_Less_m F) := by
 have hE : EnvOK Tryd.prog TrydG (bitset_Set_Less_env F) := (EnvOK.cons (bitset_Set_Copy_ok F) (EnvOK.cons (bitset_Set_at_ok F) EnvOK.nil))
 refine Sim.of_body (E := bitset_Set_Less_env F) Tryd.func27 bitset_Set_Less_body Tryd.call27 ?_ ?_
 · intro args hl; unfold bitset_Set_Less_m; split
   · exact absurd hl (Nat.not_lt.2 (Nat.le_of_ble_eq_true rfl))
   · rfl
 · intro args ρ h w z; unfold bitset_Set_Less_m; split
   · rename_i x0 x1; show OKc _ _ [(0, x0), (1, x1)] _ _
     refine rSeq ?_
     refine cLess [1, 0] ?_
     refine xR hE [0, 1] rfl (bitset_Set_Less_r0_ok F _ _ _) ?_
     intro x0 x1
     show OKq _ _ _ [(1, x1), (0, x0)] _
     refine rThen ?_
     refine rSeq ?_
     refine cLess [1, 0] ?_
     refine xR hE [1, 5] rfl (bitset_Set_Less_r1_ok F _ _ _) ?_
     intro x1 x5
     show OKq _ _ _ [(5, x5), (1, x1)] _
     refine rThen ?_
     refine xSeq [5] (bitset_Set_Less_k0 F ) ?_ fun hj0 => ?_
     · intro x5
       show OKc _ _ [(5, x5)] _ _
       refine rSeq ?_
       refine cLess [5] ?_
       refine xR hE [4] rfl (bitset_Set_Less_r7_ok F _ _) ?_
       intro x4
       show OKq _ _ _ [(4, x4)] _
       refine rThen ?_
       refine rRet ?_
       exact rDone (.inr rfl) rfl
     · refine rSeq ?_
       refine cLess [5, 1] ?_
       refine xR hE [1, 5, 13, 14] rfl (bitset_Set_Less_r2_ok F _ _ _) ?_
       intro x1 x5 x13 x14
       show OKq _ _ _ [(14, x14), (13, x13), (5, x5), (1, x1)] _
       refine rThen ?_
       refine rBlock ?_
       refine cLess [14, 13, 5, 1] ?_
       refine xLoopAt [1, 5, 13, 14] [] (fun k1 => bitset_Set_Less_l1 F (fun x5 => bitset_Set_Less_k0 F x5) k1) F [x1, x5, x13, x14] rfl rfl (fun _ _ _ _ => rfl) fun I hI1 k1 => ?_
       intro x1 x5 x13 x14
       show OKc _ _ [(14, x14), (13, x13), (5, x5), (1, x1)] _ _
       refine cAs (bitset_Set_Less_l1_s F _ _ _ _ _ _) ?_
       refine rSeq ?_
       refine cLess [14, 13, 5, 1] ?_
       refine xR hE [1, 5, 13, 14, 15] rfl (bitset_Set_Less_r3_ok F _ _ _ _ _) ?_
       intro x1 x5 x13 x14 x15
       show OKq _ _ _ [(15, x15), (14, x14), (13, x13), (5, x5), (1, x1)] _
       refine rThen ?_
       refine rSeq ?_
       refine xCond rfl rfl ?_ ?_
       · refine rSkip ?_
         refine rThen ?_
         refine rSeq ?_
         refine rBlock ?_
         refine rSeq ?_
         refine cLess [14, 13, 5, 1] ?_
         refine xR hE [1, 5, 6, 13, 14] rfl (bitset_Set_Less_r4_ok F _ _ _ _ _) ?_
         intro x1 x5 x6 x13 x14
         show OKq _ _ _ [(14, x14), (13, x13), (6, x6), (5, x5), (1, x1)] _
         refine rThen ?_
         refine cLess [14, 13, 6, 5, 1] ?_
         refine xD Trydmix hE [1, 5, 13, 14] rfl bitset_Set_Less_r5_good (bitset_Set_Less_r5_ok F _ _ _ _ _ _) ?_
         intro x1 x5 x13 x14
         show OKq _ _ _ [(14, x14), (13, x13), (5, x5), (1, x1)] _
         refine xBlockN ?_
         refine rThen ?_
         refine cLess [14, 13, 5, 1] ?_
         refine xR hE [1, 5, 13, 14] rfl (bitset_Set_Less_r6_ok F _ _ _ _ _) ?_
         intro x1 x5 x13 x14
         show OKq _ _ _ [(14, x14), (13, x13), (5, x5), (1, x1)] _
         exact qLess [14, 13, 5, 1] (hI1 k1 x1 x5 x13 x14)
       · refine rExit ?_
         refine xThenX ?_
         refine xThenX ?_
         refine rOut ?_
         exact qLess [5] (hj0 x5)
   · exact rFail


/-! ### (*haruspex/bitset.Set).Meet -/

def bitset_Set_Meet_env (F : Nat) : Env := envOf [(26, bitset_Set_Copy_m F), (30, bitset_Set_at_m F)]

noncomputable def bitset_Set_Meet_R (F : Nat) := rK Tryd.prog TrydG (bitset_Set_Meet_env F) Tryd.f28
noncomputable def bitset_Set_Meet_D (F : Nat) := dK Tryd.prog TrydG (bitset_Set_Meet_env F) Tryd.f28

def bitset_Set_Meet_r7 (F : Nat) (x5 : Value) (K : Value → M Value) : M Value :=
  K x5

theorem bitset_Set_Meet_r7_ok (F : Nat) (x5 : Value) (K : Value → M Value) : bitset_Set_Meet_r7 F x5 K = bitset_Set_Meet_R F 7 [(5, x5)] [4] K := by kernel_rfl

def bitset_Set_Meet_k0 (F : Nat) (x5 : Value) : M Value :=
  bitset_Set_Meet_r7 F x5 (fun x4 => ret x4)

def bitset_Set_Meet_r6 (F : Nat) (x1 x5 x13 x14 : Value) (K : Value → Value → Value → Value → M Value) : M Value :=
  bnd (opBin .add x14 (.int .i64 (1))) fun v29 => K x1 x5 x13 v29

theorem bitset_Set_Meet_r6_ok (F : Nat) (x1 x5 x13 x14 : Value) (K : Value → Value → Value → Value → M Value) : bitset_Set_Meet_r6 F x1 x5 x13 x14 K = bitset_Set_Meet_R F 6 [(14, x14), (13, x13), (5, x5), (1, x1)] [1, 5, 13, 14] K := by kernel_rfl

def bitset_Set_Meet_r5 (F : Nat) (x1 x5 x6 x13 x14 : Value) (K : Value → Value → Value → Value → M Value) : M Value :=
  bnd (opNil x5) fun v18 => bnd (opFieldAddr 0 v18) fun v19 => bnd (opLoad v19) fun v20 => bnd (opIndexAddr 1 v20 x6) fun v22 => bnd (opLoad v22) fun v23 => bnd (bitset_Set_at F x1 x6) fun v26 => bnd (opChk false v19 v20) fun _ => bnd (opChk false v22 v23) fun _ => bnd (opBin .and v23 v26) fun v27 => bnd (opIndexAddr 1 v20 x6) fun v28 => bnd (opStore v28 v27) fun _ => K x1 x5 x13 x14

theorem bitset_Set_Meet_r5_ok (F : Nat) (x1 x5 x6 x13 x14 : Value) (K : Value → Value → Value → Value → M Value) : bitset_Set_Meet_r5 F x1 x5 x6 x13 x14 K = bitset_Set_Meet_D F 5 [0, 1, 2, 3, 4, 5, 6, 7, 8, 9, 10, 11, 12] [(14, x14), (13, x13), (6, x6), (5, x5), (1, x1)] [1, 5, 13, 14] K := by kernel_rfl

theorem bitset_Set_Meet_r5_good : goodOrder (opsOf Tryd.f28 5) [0, 1, 2, 3, 4, 5, 6, 7, 8, 9, 10, 11, 12] = true := by kernel_rfl

def bitset_Set_Meet_r4 (F : Nat) (x1 x5 x13 x14 : Value) (K : Value → Value → Value → Value → Value → M Value) : M Value :=
  K x1 x5 x14 x13 x14

theorem bitset_Set_Meet_r4_ok (F : Nat) (x1 x5 x13 x14 : Value) (K : Value → Value → Value → Value → Value → M Value) : bitset_Set_Meet_r4 F x1 x5 x13 x14 K = bitset_Set_Meet_R F 4 [(14, x14), (13, x13), (5, x5), (1, x1)] [1, 5, 6, 13, 14] K := by kernel_rfl

def bitset_Set_Meet_r3 (F : Nat) (x1 x5 x13 x14 : Value) (K : Value → Value → Value → Value → Value → M Value) : M Value :=
  bnd (opBin .lss x14 x13) fun v15 => K x1 x5 x13 x14 v15

theorem bitset_Set_Meet_r3_ok (F : Nat) (x1 x5 x13 x14 : Value) (K : Value → Value → Value → Value → Value → M Value) : bitset_Set_Meet_r3 F x1 x5 x13 x14 K = bitset_Set_Meet_R F 3 [(14, x14), (13, x13), (5, x5), (1, x1)] [1, 5, 13, 14, 15] K := by kernel_rfl

def bitset_Set_Meet_b1 (F : Nat) (E1_0 : Value → M Value) (A1 : Value → Value → Value → Value → M Value) (x1 x5 x13 x14 : Value) : M Value :=
  bitset_Set_Meet_r3 F x1 x5 x13 x14 (fun x1 x5 x13 x14 x15 => onB x15 (bitset_Set_Meet_r4 F x1 x5 x13 x14 (fun x1 x5 x6 x13 x14 => bitset_Set_Meet_r5 F x1 x5 x6 x13 x14 (fun x1 x5 x13 x14 => bitset_Set_Meet_r6 F x1 x5 x13 x14 (fun x1 x5 x13 x14 => A1 x1 x5 x13 x14)))) (E1_0 x5))

def bitset_Set_Meet_l1 (F : Nat) (E1_0 : Value → M Value) : Nat → Value → Value → Value → Value → M Value
  | 0, _, _, _, _ => fail
  | k1 + 1, x1, x5, x13, x14 => bitset_Set_Meet_b1 F E1_0 (bitset_Set_Meet_l1 F E1_0 k1) x1 x5 x13 x14

theorem bitset_Set_Meet_l1_s (F : Nat) (E1_0 : Value → M Value) (k1 : Nat) (x1 x5 x13 x14 : Value) : bitset_Set_Meet_l1 F E1_0 (k1 + 1) x1 x5 x13 x14 = bitset_Set_Meet_b1 F E1_0 (bitset_Set_Meet_l1 F E1_0 k1) x1 x5 x13 x14 := rfl

def bitset_Set_Meet_r2 (F : Nat) (x1 x5 : Value) (K : Value → Value → Value → Value → M Value) : M Value :=
  bnd (opNil x5) fun v10 => bnd (opFieldAddr 0 v10) fun v11 => bnd (opLoad v11) fun v12 => bnd (opLen v12) fun v13 => K x1 x5 v13 (.int .i64 (0))

theorem bitset_Set_Meet_r2_ok (F : Nat) (x1 x5 : Value) (K : Value → Value → Value → Value → M Value) : bitset_Set_Meet_r2 F x1 x5 K = bitset_Set_Meet_R F 2 [(5, x5), (1, x1)] [1, 5, 13, 14] K := by kernel_rfl

def bitset_Set_Meet_r1 (F : Nat) (x0 x1 : Value) (K : Value → Value → M Value) : M Value :=
  bnd (bitset_Set_Copy F x0) fun v8 => K x1 v8

theorem bitset_Set_Meet_r1_ok (F : Nat) (x0 x1 : Value) (K : Value → Value → M Value) : bitset_Set_Meet_r1 F x0 x1 K = bitset_Set_Meet_R F 1 [(1, x1), (0, x0)] [1, 5] K := by kernel_rfl

def bitset_Set_Meet_r0 (F : Nat) (x0 x1 : Value) (K : Value → Value → M Value) : M Value :=
  K x0 x1

theorem bitset_Set_Meet_r0_ok (F : Nat) (x0 x1 : Value) (K : Value → Value → M Value) : bitset_Set_Meet_r0 F x0 x1 K = bitset_Set_Meet_R F 0 [(1, x1), (0, x0)] [0, 1] K := by kernel_rfl

def bitset_Set_Meet (F : Nat) (x0 x1 : Value) : M Value :=
  bitset_Set_Meet_r0 F x0 x1 (fun x0 x1 => bitset_Set_Meet_r1 F x0 x1 (fun x1 x5 => bitset_Set_Meet_r2 F x1 x5 (fun x1 x5 x13 x14 => bitset_Set_Meet_l1 F (fun x5 => bitset_Set_Meet_k0 F x5) F x1 x5 x13 x14)))

def bitset_Set_Meet_m (F : Nat) : List Value → M Value
  | [x0, x1] => bitset_Set_Meet F x0 x1
  | _ => fail

theorem bitset_Set_Meet_body : Tryd.f28.body = some (.seq (.region 0 (opsOf Tryd.f28 0) false) (.seq (.region 1 (opsOf Tryd.f28 1) false) (.seq (.seq (.region 2 (opsOf Tryd.f28 2) false) (.block 0 (.loop (.seq (.region 3 (opsOf Tryd.f28 3) false) (.seq (.cond (.tmp 15) .skip (.exit 0)) (.seq (.block 1 (.seq (.region 4 (opsOf Tryd.f28 4) false) (.region 5 (opsOf Tryd.f28 5) true))) (.region 6 (opsOf Tryd.f28 6) false))))))) (.seq (.region 7 (opsOf Tryd.f28 7) false) .ret)))) := by kernel_rfl

theorem bitset_Set_Meet_ok (F : Nat) : Sim Tryd.prog TrydG 28 (bitset_Set_Meet_m F) := by
 have hE : EnvOK Tryd.prog TrydG (bitset_Set_Meet_env F) := (EnvOK.cons (bitset_Set_Copy_ok F) (EnvOK.cons (bitset_Set_at_ok F) EnvOK.nil))
 refine Sim.of_body (E := bitset_Set_Meet_env F) Tryd.func28 bitset_Set_Meet_body Tryd.call28 ?_ ?_
 · intro args hl; unfold bitset_Set_Meet_m; split
   · exact absurd hl (Nat.not_lt.2 (Nat.le_of_ble_eq_true rfl))
   · rfl
 · intro args ρ h w z; unfold bitset_Set_Meet_m; split
   · rename_i x0 x1; show OKc _ _ [(0, x0), (1, x1)] _ _
     refine rSeq ?_
     refine cLess [1, 0] ?_
     refine xR hE [0, 1] rfl (bitset_Set_Meet_r0_ok F _ _ _) ?_
     intro x0 x1
     show OKq _ _ _ [(1, x1), (0, x0)] _
     refine rThen ?_
     refine rSeq ?_
     refine cLess [1, 0] ?_
     refine xR hE [1, 5] rfl (bitset_Set_Meet_r1_ok F _ _ _) ?_
     intro x1 x5
     show OKq _ _ _ [(5, x5), (1, x1)] _
     refine rThen ?_
     refine xSeq [5] (bitset_Set_Meet_k0 F ) ?_ fun hj0 => ?_
     · intro x5
       show OKc _ _ [(5, x5)] _ _
       refine rSeq ?_
       refine cLess [5] ?_
       refine xR hE [4] rfl (bitset_Set_Meet_r7_ok F _ _) ?_
       intro x4
       show OKq _ _ _ [(4, x4)] _
       refine rThen ?_
       refine rRet ?_
       exact rDone (.inr rfl) rfl
     · refine rSeq ?_
       refine cLess [5, 1] ?_
       refine xR hE [1, 5, 13, 14] rfl (bitset_Set_Meet_r2_ok F _ _ _) ?_
       intro x1 x5 x13 x14
       show OKq _ _ _ [(14, x14), (13, x13), (5, x5), (1, x1)] _
       refine rThen ?_
       refine rBlock ?_
       refine cLess [14, 13, 5, 1] ?_
       refine xLoopAt [1, 5, 13, 14] [] (fun k1 => bitset_Set_Meet_l1 F (fun x5 => bitset_Set_Meet_k0 F x5) k1) F [x1, x5, x13, x14] rfl rfl (fun _ _ _ _ => rfl) fun I hI1 k1 => ?_
       intro x1 x5 x13 x14
       show OKc _ _ [(14, x14), (13, x13), (5, x5), (1, x1)] _ _
       refine cAs (bitset_Set_Meet_l1_s F _ _ _ _ _ _) ?_
       refine rSeq ?_
       refine cLess [14, 13, 5, 1] ?_
       refine xR hE [1, 5, 13, 14, 15] rfl (bitset_Set_Meet_r3_ok F _ _ _ _ _) ?_
       intro x1 x5 x13 x14 x15
       show OKq _ _ _ [(15, x15), (14, x14), (13, x13), (5, x5), (1, x1)] _
       refine rThen ?_
       refine rSeq ?_
       refine xCond rfl rfl ?_ ?_
       · refine rSkip ?_
         refine rThen ?_
         refine rSeq ?_
         refine rBlock ?_
         refine rSeq ?_
         refine cLess [14, 13, 5, 1] ?_
         refine xR hE [1, 5, 6, 13, 14] rfl (bitset_Set_Meet_r4_ok F _ _ _ _ _) ?_
         intro x1 x5 x6 x13 x14
         show OKq _ _ _ [(14, x14), (13, x13), (6, x6), (5, x5), (1, x1)] _
         refine rThen ?_
         refine cLess [14, 13, 6, 5, 1] ?_
         refine xD Trydmix hE [1, 5, 13, 14] rfl bitset_Set_Meet_r5_good (bitset_Set_Meet_r5_ok F _ _ _ _ _ _) ?_
         intro x1 x5 x13 x14
         show OKq _ _ _ [(14, x14), (13, x13), (5, x5), (1, x1)] _
         refine xBlockN ?_
         refine rThen ?_
         refine cLess [14, 13, 5, 1] ?_
         refine xR hE [1, 5, 13, 14] rfl (bitset_Set_Meet_r6_ok F _ _ _ _ _) ?_
         intro x1 x5 x13 x14
         show OKq _ _ _ [(14, x14), (13, x13), (5, x5), (1, x1)] _
         exact qLess [14, 13, 5, 1] (hI1 k1 x1 x5 x13 x14)
       · refine rExit ?_
         refine xThenX ?_
         refine xThenX ?_
         refine rOut ?_
         exact qLess [5] (hj0 x5)
   · exact rFail


/-! ### (*haruspex/bitset.Set).In -/

def bitset_Set_In_env (F : Nat) : Env := envOf [(30, bitset_Set_at_m F), (31, bitset_Set_words_m F)]

noncomputable def bitset_Set_In_R (F : Nat) := rK Tryd.prog TrydG (bitset_Set_In_env F) Tryd.f29
noncomputable def bitset_Set_In_D (F : Nat) := dK Tryd.prog TrydG (bitset_Set_In_env F) Tryd.f29

def bitset_Set_In_r7 (F : Nat) (K : Value → M Value) : M Value :=
  K (.bool true)

theorem bitset_Set_In_r7_ok (F : Nat) (K : Value → M Value) : bitset_Set_In_r7 F K = bitset_Set_In_R F 7 [] [4] K := by kernel_rfl

def bitset_Set_In_k0 (F : Nat) : M Value :=
  bitset_Set_In_r7 F (fun x4 => ret x4)

def bitset_Set_In_r6 (F : Nat) (x1 x8 x9 x10 : Value) (K : Value → Value → Value → Value → M Value) : M Value :=
  bnd (opBin .add x10 (.int .i64 (1))) fun v21 => K x1 x8 x9 v21

theorem bitset_Set_In_r6_ok (F : Nat) (x1 x8 x9 x10 : Value) (K : Value → Value → Value → Value → M Value) : bitset_Set_In_r6 F x1 x8 x9 x10 K = bitset_Set_In_R F 6 [(10, x10), (9, x9), (8, x8), (1, x1)] [1, 8, 9, 10] K := by kernel_rfl

def bitset_Set_In_r5 (F : Nat) (K : Value → M Value) : M Value :=
  K (.bool false)

theorem bitset_Set_In_r5_ok (F : Nat) (K : Value → M Value) : bitset_Set_In_r5 F K = bitset_Set_In_R F 5 [] [4] K := by kernel_rfl

def bitset_Set_In_r4 (F : Nat) (x1 x5 x6 x8 x9 x10 : Value) (K : Value → Value → Value → Value → Value → M Value) : M Value :=
  bnd (bitset_Set_at F x1 x5) fun v18 => bnd (opBin .andNot x6 v18) fun v19 => bnd (opBin .neq v19 (.int .u64 (0))) fun v20 => K x1 x8 x9 x10 v20

theorem bitset_Set_In_r4_ok (F : Nat) (x1 x5 x6 x8 x9 x10 : Value) (K : Value → Value → Value → Value → Value → M Value) : bitset_Set_In_r4 F x1 x5 x6 x8 x9 x10 K = bitset_Set_In_R F 4 [(10, x10), (9, x9), (8, x8), (6, x6), (5, x5), (1, x1)] [1, 8, 9, 10, 20] K := by kernel_rfl

def bitset_Set_In_r3 (F : Nat) (x1 x8 x9 x10 : Value) (K : Value → Value → Value → Value → Value → Value → M Value) : M Value :=
  bnd (opIndexAddr 1 x8 x10) fun v13 => bnd (opLoad v13) fun v14 => K x1 x10 v14 x8 x9 x10

theorem bitset_Set_In_r3_ok (F : Nat) (x1 x8 x9 x10 : Value) (K : Value → Value → Value → Value → Value → Value → M Value) : bitset_Set_In_r3 F x1 x8 x9 x10 K = bitset_Set_In_R F 3 [(10, x10), (9, x9), (8, x8), (1, x1)] [1, 5, 6, 8, 9, 10] K := by kernel_rfl

def bitset_Set_In_r2 (F : Nat) (x1 x8 x9 x10 : Value) (K : Value → Value → Value → Value → Value → M Value) : M Value :=
  bnd (opBin .lss x10 x9) fun v11 => K x1 x8 x9 x10 v11

theorem bitset_Set_In_r2_ok (F : Nat) (x1 x8 x9 x10 : Value) (K : Value → Value → Value → Value → Value → M Value) : bitset_Set_In_r2 F x1 x8 x9 x10 K = bitset_Set_In_R F 2 [(10, x10), (9, x9), (8, x8), (1, x1)] [1, 8, 9, 10, 11] K := by kernel_rfl

def bitset_Set_In_b1 (F : Nat) (E1_0 : M Value) (A1 : Value → Value → Value → Value → M Value) (x1 x8 x9 x10 : Value) : M Value :=
  bitset_Set_In_r2 F x1 x8 x9 x10 (fun x1 x8 x9 x10 x11 => onB x11 (bitset_Set_In_r3 F x1 x8 x9 x10 (fun x1 x5 x6 x8 x9 x10 => bitset_Set_In_r4 F x1 x5 x6 x8 x9 x10 (fun x1 x8 x9 x10 x20 => onB x20 (bitset_Set_In_r5 F (fun x4 => ret x4)) (bitset_Set_In_r6 F x1 x8 x9 x10 (fun x1 x8 x9 x10 => A1 x1 x8 x9 x10))))) (E1_0 ))

def bitset_Set_In_l1 (F : Nat) (E1_0 : M Value) : Nat → Value → Value → Value → Value → M Value
  | 0, _, _, _, _ => fail
  | k1 + 1, x1, x8, x9, x10 => bitset_Set_In_b1 F E1_0 (bitset_Set_In_l1 F E1_0 k1) x1 x8 x9 x10

theorem bitset_Set_In_l1_s (F : Nat) (E1_0 : M Value) (k1 : Nat) (x1 x8 x9 x10 : Value) : bitset_Set_In_l1 F E1_0 (k1 + 1) x1 x8 x9 x10 = bitset_Set_In_b1 F E1_0 (bitset_Set_In_l1 F E1_0 k1) x1 x8 x9 x10 := rfl

def bitset_Set_In_r1 (F : Nat) (x0 x1 : Value) (K : Value → Value → Value → Value → M Value) : M Value :=
  bnd (bitset_Set_words F x0) fun v8 => bnd (opLen v8) fun v9 => K x1 v8 v9 (.int .i64 (0))

theorem bitset_Set_In_r1_ok (F : Nat) (x0 x1 : Value) (K : Value → Value → Value → Value → M Value) : bitset_Set_In_r1 F x0 x1 K = bitset_Set_In_R F 1 [(1, x1), (0, x0)] [1, 8, 9, 10] K := by kernel_rfl

def bitset_Set_In_r0 (F : Nat) (x0 x1 : Value) (K : Value → Value → M Value) : M Value :=
  K x0 x1

theorem bitset_Set_In_r0_ok (F : Nat) (x0 x1 : Value) (K : Value → Value → M Value) : bitset_Set_In_r0 F x0 x1 K = bitset_Set_In_R F 0 [(1, x1), (0, x0)] [0, 1] K := by kernel_rfl

def bitset_Set_In (F : Nat) (x0 x1 : Value) : M Value :=
  bitset_Set_In_r0 F x0 x1 (fun x0 x1 => bitset_Set_In_r1 F x0 x1 (fun x1 x8 x9 x10 => bitset_Set_In_l1 F (bitset_Set_In_k0 F ) F x1 x8 x9 x10))

def bitset_Set_In_m (F : Nat) : List Value → M Value
  | [x0, x1] => bitset_Set_In F x0 x1
  | _ => fail

theorem bitset_Set_In_body : Tryd.f29.body = some (.seq (.region 0 (opsOf Tryd.f29 0) false) (.seq (.seq (.region 1 (opsOf Tryd.f29 1) false) (.block 0 (.loop (.seq (.region 2 (opsOf Tryd.f29 2) false) (.seq (.cond (.tmp 11) .skip (.exit 0)) (.seq (.block 1 (.seq (.region 3 (opsOf Tryd.f29 3) false) (.seq (.region 4 (opsOf Tryd.f29 4) false) (.cond (.tmp 20) (.seq (.region 5 (opsOf Tryd.f29 5) false) .ret) .skip)))) (.region 6 (opsOf Tryd.f29 6) false))))))) (.seq (.region 7 (opsOf Tryd.f29 7) false) .ret))) := by kernel_rfl

theorem bitset_Set_In_ok (F : Nat) : Sim Tryd.prog TrydG 29 (bitset_Set_In_m F) := by
 have hE : EnvOK Tryd.prog TrydG (bitset_Set_In_env F) := (EnvOK.cons (bitset_Set_at_ok F) (EnvOK.cons (bitset_Set_words_ok F) EnvOK.nil))
 refine Sim.of_body (E := bitset_Set_In_env F) Tryd.func29 bitset_Set_In_body Tryd.call29 ?_ ?_
 · intro args hl; unfold bitset_Set_In_m; split
   · exact absurd hl (Nat.not_lt.2 (Nat.le_of_ble_eq_true rfl))
   · rfl
 · intro args ρ h w z; unfold bitset_Set_In_m; split
   · rename_i x0 x1; show OKc _ _ [(0, x0), (1, x1)] _ _
     refine rSeq ?_
     refine cLess [1, 0] ?_
     refine xR hE [0, 1] rfl (bitset_Set_In_r0_ok F _ _ _) ?_
     intro x0 x1
     show OKq _ _ _ [(1, x1), (0, x0)] _
     refine rThen ?_
     refine xSeq [] (bitset_Set_In_k0 F ) ?_ fun hj0 => ?_
     · show OKc _ _ [] _ _
       refine rSeq ?_
       refine cLess [] ?_
       refine xR hE [4] rfl (bitset_Set_In_r7_ok F _) ?_
       intro x4
       show OKq _ _ _ [(4, x4)] _
       refine rThen ?_
       refine rRet ?_
       exact rDone (.inr rfl) rfl
     · refine rSeq ?_
       refine cLess [1, 0] ?_
       refine xR hE [1, 8, 9, 10] rfl (bitset_Set_In_r1_ok F _ _ _) ?_
       intro x1 x8 x9 x10
       show OKq _ _ _ [(10, x10), (9, x9), (8, x8), (1, x1)] _
       refine rThen ?_
       refine rBlock ?_
       refine cLess [10, 9, 8, 1] ?_
       refine xLoopAt [1, 8, 9, 10] [] (fun k1 => bitset_Set_In_l1 F (bitset_Set_In_k0 F ) k1) F [x1, x8, x9, x10] rfl rfl (fun _ _ _ _ => rfl) fun I hI1 k1 => ?_
       intro x1 x8 x9 x10
       show OKc _ _ [(10, x10), (9, x9), (8, x8), (1, x1)] _ _
       refine cAs (bitset_Set_In_l1_s F _ _ _ _ _ _) ?_
       refine rSeq ?_
       refine cLess [10, 9, 8, 1] ?_
       refine xR hE [1, 8, 9, 10, 11] rfl (bitset_Set_In_r2_ok F _ _ _ _ _) ?_
       intro x1 x8 x9 x10 x11
       show OKq _ _ _ [(11, x11), (10, x10), (9, x9), (8, x8), (1, x1)] _
       refine rThen ?_
       refine rSeq ?_
       refine xCond rfl rfl ?_ ?_
       · refine rSkip ?_
         refine rThen ?_
         refine rSeq ?_
         refine rBlock ?_
         refine rSeq ?_
         refine cLess [10, 9, 8, 1] ?_
         refine xR hE [1, 5, 6, 8, 9, 10] rfl (bitset_Set_In_r3_ok F _ _ _ _ _) ?_
         intro x1 x5 x6 x8 x9 x10
         show OKq _ _ _ [(10, x10), (9, x9), (8, x8), (6, x6), (5, x5), (1, x1)] _
         refine rThen ?_
         refine rSeq ?_
         refine cLess [10, 9, 8, 6, 5, 1] ?_
         refine xR hE [1, 8, 9, 10, 20] rfl (bitset_Set_In_r4_ok F _ _ _ _ _ _ _) ?_
         intro x1 x8 x9 x10 x20
         show OKq _ _ _ [(20, x20), (10, x10), (9, x9), (8, x8), (1, x1)] _
         refine rThen ?_
         refine xCond rfl rfl ?_ ?_
         · refine rSeq ?_
           refine cLess [] ?_
           refine xR hE [4] rfl (bitset_Set_In_r5_ok F _) ?_
           intro x4
           show OKq _ _ _ [(4, x4)] _
           refine rThen ?_
           refine rRet ?_
           refine xBlockR ?_
           refine xThenR ?_
           refine xThenR ?_
           refine xBlockR ?_
           refine xThenR ?_
           exact rDone (.inr rfl) rfl
         · refine rSkip ?_
           refine xBlockN ?_
           refine rThen ?_
           refine cLess [10, 9, 8, 1] ?_
           refine xR hE [1, 8, 9, 10] rfl (bitset_Set_In_r6_ok F _ _ _ _ _) ?_
           intro x1 x8 x9 x10
           show OKq _ _ _ [(10, x10), (9, x9), (8, x8), (1, x1)] _
           exact qLess [10, 9, 8, 1] (hI1 k1 x1 x8 x9 x10)
       · refine rExit ?_
         refine xThenX ?_
         refine xThenX ?_
         refine rOut ?_
         exact qLess [] (hj0 )
   · exact rFail


/-! ### (*haruspex/bitset.Set).Add -/

def bitset_Set_Add_env (F : Nat) : Env := envOf [(12, bitset_Set_Has_m F)]

noncomputable def bitset_Set_Add_R (F : Nat) := rK Tryd.prog TrydG (bitset_Set_Add_env F) Tryd.f10
noncomputable def bitset_Set_Add_D (F : Nat) := dK Tryd.prog TrydG (bitset_Set_Add_env F) Tryd.f10

def bitset_Set_Add_r6 (F : Nat) (K : Value → M Value) : M Value :=
  K (.bool true)

theorem bitset_Set_Add_r6_ok (F : Nat) (K : Value → M Value) : bitset_Set_Add_r6 F K = bitset_Set_Add_R F 6 [] [4] K := by kernel_rfl

def bitset_Set_Add_r5 (F : Nat) (x0 x1 : Value) (K : M Value) : M Value :=
  bnd (opNil x0) fun v38 => bnd (opFieldAddr 0 v38) fun v39 => bnd (opLoad v39) fun v40 => bnd (opBin .quo x1 (.int .i64 (64))) fun v42 => bnd (opIndexAddr 1 v40 v42) fun v43 => bnd (opLoad v43) fun v44 => bnd (opBin .rem x1 (.int .i64 (64))) fun v46 => bnd (opBin .shl (.int .u64 (1)) v46) fun v47 => bnd (opBin .or v44 v47) fun v48 => bnd (opIndexAddr 1 v40 v42) fun v49 => bnd (opStore v49 v48) fun _ => K

theorem bitset_Set_Add_r5_ok (F : Nat) (x0 x1 : Value) (K : M Value) : bitset_Set_Add_r5 F x0 x1 K = bitset_Set_Add_D F 5 [0, 1, 2, 3, 4, 5, 6, 7, 8, 9, 10, 11, 12, 13] [(1, x1), (0, x0)] [] K := by kernel_rfl

theorem bitset_Set_Add_r5_good : goodOrder (opsOf Tryd.f10 5) [0, 1, 2, 3, 4, 5, 6, 7, 8, 9, 10, 11, 12, 13] = true := by kernel_rfl

def bitset_Set_Add_k0 (F : Nat) (x0 x1 : Value) : M Value :=
  bitset_Set_Add_r5 F x0 x1 (bitset_Set_Add_r6 F (fun x4 => ret x4))

def bitset_Set_Add_r4 (F : Nat) (x0 x1 : Value) (K : Value → Value → M Value) : M Value :=
  bnd (opNil x0) fun v30 => bnd (opFieldAddr 0 v30) fun v31 => bnd (opLoad v31) fun v32 => bnd (opBuildSlice 1 (rep 1 [(.int .u64 (0))]) [(0, 1, false, (.int .u64 (0)))]) fun v33 => bnd (opAppend 1 8 v32 v33) fun v34 => bnd (opNil x0) fun v35 => bnd (opFieldAddr 0 v35) fun v36 => bnd (opStore v36 v34) fun _ => K x0 x1

theorem bitset_Set_Add_r4_ok (F : Nat) (x0 x1 : Value) (K : Value → Value → M Value) : bitset_Set_Add_r4 F x0 x1 K = bitset_Set_Add_R F 4 [(1, x1), (0, x0)] [0, 1] K := by kernel_rfl

def bitset_Set_Add_r3 (F : Nat) (x0 x1 : Value) (K : Value → Value → Value → M Value) : M Value :=
  bnd (opNil x0) fun v21 => bnd (opFieldAddr 0 v21) fun v22 => bnd (opLoad v22) fun v23 => bnd (opLen v23) fun v24 => bnd (opBin .quo x1 (.int .i64 (64))) fun v26 => bnd (opBin .leq v24 v26) fun v27 => K x0 x1 v27

theorem bitset_Set_Add_r3_ok (F : Nat) (x0 x1 : Value) (K : Value → Value → Value → M Value) : bitset_Set_Add_r3 F x0 x1 K = bitset_Set_Add_R F 3 [(1, x1), (0, x0)] [0, 1, 27] K := by kernel_rfl

def bitset_Set_Add_b1 (F : Nat) (E1_0 : Value → Value → M Value) (A1 : Value → Value → M Value) (x0 x1 : Value) : M Value :=
  bitset_Set_Add_r3 F x0 x1 (fun x0 x1 x27 => onB x27 (bitset_Set_Add_r4 F x0 x1 (fun x0 x1 => A1 x0 x1)) (E1_0 x0 x1))

def bitset_Set_Add_l1 (F : Nat) (E1_0 : Value → Value → M Value) : Nat → Value → Value → M Value
  | 0, _, _ => fail
  | k1 + 1, x0, x1 => bitset_Set_Add_b1 F E1_0 (bitset_Set_Add_l1 F E1_0 k1) x0 x1

theorem bitset_Set_Add_l1_s (F : Nat) (E1_0 : Value → Value → M Value) (k1 : Nat) (x0 x1 : Value) : bitset_Set_Add_l1 F E1_0 (k1 + 1) x0 x1 = bitset_Set_Add_b1 F E1_0 (bitset_Set_Add_l1 F E1_0 k1) x0 x1 := rfl

def bitset_Set_Add_r2 (F : Nat) (K : Value → M Value) : M Value :=
  K (.bool false)

theorem bitset_Set_Add_r2_ok (F : Nat) (K : Value → M Value) : bitset_Set_Add_r2 F K = bitset_Set_Add_R F 2 [] [4] K := by kernel_rfl

def bitset_Set_Add_r1 (F : Nat) (x0 x1 : Value) (K : Value → Value → Value → M Value) : M Value :=
  bnd (opEq eqP false x0 (.pointer none)) fun v6 => onB v6 (K x0 x1 (.bool true)) (bnd (opBin .lss x1 (.int .i64 (0))) fun v9 => onB v9 (K x0 x1 (.bool true)) (bnd (opBin .geq x1 (.int .i64 (5000))) fun v13 => onB v13 (K x0 x1 (.bool true)) (bnd (bitset_Set_Has F x0 x1) fun v18 => K x0 x1 v18)))

theorem bitset_Set_Add_r1_ok (F : Nat) (x0 x1 : Value) (K : Value → Value → Value → M Value) : bitset_Set_Add_r1 F x0 x1 K = bitset_Set_Add_R F 1 [(1, x1), (0, x0)] [0, 1, 19] K := by kernel_rfl

def bitset_Set_Add_r0 (F : Nat) (x0 x1 : Value) (K : Value → Value → M Value) : M Value :=
  K x0 x1

theorem bitset_Set_Add_r0_ok (F : Nat) (x0 x1 : Value) (K : Value → Value → M Value) : bitset_Set_Add_r0 F x0 x1 K = bitset_Set_Add_R F 0 [(1, x1), (0, x0)] [0, 1] K := by kernel_rfl

def bitset_Set_Add (F : Nat) (x0 x1 : Value) : M Value :=
  bitset_Set_Add_r0 F x0 x1 (fun x0 x1 => bitset_Set_Add_r1 F x0 x1 (fun x0 x1 x19 => onB x19 (bitset_Set_Add_r2 F (fun x4 => ret x4)) (bitset_Set_Add_l1 F (fun x0 x1 => bitset_Set_Add_k0 F x0 x1) F x0 x1)))

def bitset_Set_Add_m (F : Nat) : List Value → M Value
  | [x0, x1] => bitset_Set_Add F x0 x1
  | _ => fail

theorem bitset_Set_Add_body : Tryd.f10.body = some (.seq (.region 0 (opsOf Tryd.f10 0) false) (.seq (.seq (.region 1 (opsOf Tryd.f10 1) false) (.cond (.tmp 19) (.seq (.region 2 (opsOf Tryd.f10 2) false) .ret) .skip)) (.seq (.block 0 (.loop (.seq (.seq (.region 3 (opsOf Tryd.f10 3) false) (.cond (.tmp 27) .skip (.exit 0))) (.block 1 (.region 4 (opsOf Tryd.f10 4) false))))) (.seq (.region 5 (opsOf Tryd.f10 5) true) (.seq (.region 6 (opsOf Tryd.f10 6) false) .ret))))) := by kernel_rfl

theorem bitset_Set_Add_ok (F : Nat) : Sim Tryd.prog TrydG 10 (bitset_Set_Add_m F) := by
 have hE : EnvOK Tryd.prog TrydG (bitset_Set_Add_env F) := (EnvOK.cons (bitset_Set_Has_ok F) EnvOK.nil)
 refine Sim.of_body (E := bitset_Set_Add_env F) Tryd.func10 bitset_Set_Add_body Tryd.call10 ?_ ?_
 · intro args hl; unfold bitset_Set_Add_m; split
   · exact absurd hl (Nat.not_lt.2 (Nat.le_of_ble_eq_true rfl))
   · rfl
 · intro args ρ h w z; unfold bitset_Set_Add_m; split
   · rename_i x0 x1; show OKc _ _ [(0, x0), (1, x1)] _ _
     refine rSeq ?_
     refine cLess [1, 0] ?_
     refine xR hE [0, 1] rfl (bitset_Set_Add_r0_ok F _ _ _) ?_
     intro x0 x1
     show OKq _ _ _ [(1, x1), (0, x0)] _
     refine rThen ?_
     refine rSeq ?_
     refine rSeq ?_
     refine cLess [1, 0] ?_
     refine xR hE [0, 1, 19] rfl (bitset_Set_Add_r1_ok F _ _ _) ?_
     intro x0 x1 x19
     show OKq _ _ _ [(19, x19), (1, x1), (0, x0)] _
     refine rThen ?_
     refine xCond rfl rfl ?_ ?_
     · refine rSeq ?_
       refine cLess [] ?_
       refine xR hE [4] rfl (bitset_Set_Add_r2_ok F _) ?_
       intro x4
       show OKq _ _ _ [(4, x4)] _
       refine rThen ?_
       refine rRet ?_
       refine xThenR ?_
       exact rDone (.inr rfl) rfl
     · refine rSkip ?_
       refine rThen ?_
       refine xSeq [0, 1] (bitset_Set_Add_k0 F ) ?_ fun hj0 => ?_
       · intro x0 x1
         show OKc _ _ [(1, x1), (0, x0)] _ _
         refine rSeq ?_
         refine cLess [1, 0] ?_
         refine xD Trydmix hE [] rfl bitset_Set_Add_r5_good (bitset_Set_Add_r5_ok F _ _ _) ?_
         show OKq _ _ _ [] _
         refine rThen ?_
         refine rSeq ?_
         refine cLess [] ?_
         refine xR hE [4] rfl (bitset_Set_Add_r6_ok F _) ?_
         intro x4
         show OKq _ _ _ [(4, x4)] _
         refine rThen ?_
         refine rRet ?_
         exact rDone (.inr rfl) rfl
       · refine rBlock ?_
         refine cLess [1, 0] ?_
         refine xLoopAt [0, 1] [] (fun k1 => bitset_Set_Add_l1 F (fun x0 x1 => bitset_Set_Add_k0 F x0 x1) k1) F [x0, x1] rfl rfl (fun _ _ => rfl) fun I hI1 k1 => ?_
         intro x0 x1
         show OKc _ _ [(1, x1), (0, x0)] _ _
         refine cAs (bitset_Set_Add_l1_s F _ _ _ _) ?_
         refine rSeq ?_
         refine rSeq ?_
         refine cLess [1, 0] ?_
         refine xR hE [0, 1, 27] rfl (bitset_Set_Add_r3_ok F _ _ _) ?_
         intro x0 x1 x27
         show OKq _ _ _ [(27, x27), (1, x1), (0, x0)] _
         refine rThen ?_
         refine xCond rfl rfl ?_ ?_
         · refine rSkip ?_
           refine rThen ?_
           refine rBlock ?_
           refine cLess [1, 0] ?_
           refine xR hE [0, 1] rfl (bitset_Set_Add_r4_ok F _ _ _) ?_
           intro x0 x1
           show OKq _ _ _ [(1, x1), (0, x0)] _
           refine xBlockN ?_
           exact qLess [1, 0] (hI1 k1 x0 x1)
         · refine rExit ?_
           refine xThenX ?_
           refine xThenX ?_
           refine rOut ?_
           exact qLess [1, 0] (hj0 x0 x1)
   · exact rFail


/-! ### (*haruspex/bitset.Set).Remove -/

def bitset_Set_Remove_env (F : Nat) : Env := envOf [(12, bitset_Set_Has_m F)]

noncomputable def bitset_Set_Remove_R (F : Nat) := rK Tryd.prog TrydG (bitset_Set_Remove_env F) Tryd.f15
noncomputable def bitset_Set_Remove_D (F : Nat) := dK Tryd.prog TrydG (bitset_Set_Remove_env F) Tryd.f15

def bitset_Set_Remove_r4 (F : Nat) (K : Value → M Value) : M Value :=
  K (.bool true)

theorem bitset_Set_Remove_r4_ok (F : Nat) (K : Value → M Value) : bitset_Set_Remove_r4 F K = bitset_Set_Remove_R F 4 [] [4] K := by kernel_rfl

def bitset_Set_Remove_r3 (F : Nat) (x0 x1 : Value) (K : M Value) : M Value :=
  bnd (opNil x0) fun v10 => bnd (opFieldAddr 0 v10) fun v11 => bnd (opLoad v11) fun v12 => bnd (opBin .quo x1 (.int .i64 (64))) fun v14 => bnd (opIndexAddr 1 v12 v14) fun v15 => bnd (opLoad v15) fun v16 => bnd (opBin .rem x1 (.int .i64 (64))) fun v18 => bnd (opBin .shl (.int .u64 (1)) v18) fun v19 => bnd (opBin .andNot v16 v19) fun v20 => bnd (opIndexAddr 1 v12 v14) fun v21 => bnd (opStore v21 v20) fun _ => K

theorem bitset_Set_Remove_r3_ok (F : Nat) (x0 x1 : Value) (K : M Value) : bitset_Set_Remove_r3 F x0 x1 K = bitset_Set_Remove_D F 3 [0, 1, 2, 3, 4, 5, 6, 7, 8, 9, 10, 11, 12, 13] [(1, x1), (0, x0)] [] K := by kernel_rfl

theorem bitset_Set_Remove_r3_good : goodOrder (opsOf Tryd.f15 3) [0, 1, 2, 3, 4, 5, 6, 7, 8, 9, 10, 11, 12, 13] = true := by kernel_rfl

def bitset_Set_Remove_r2 (F : Nat) (K : Value → M Value) : M Value :=
  K (.bool false)

theorem bitset_Set_Remove_r2_ok (F : Nat) (K : Value → M Value) : bitset_Set_Remove_r2 F K = bitset_Set_Remove_R F 2 [] [4] K := by kernel_rfl

def bitset_Set_Remove_r1 (F : Nat) (x0 x1 : Value) (K : Value → Value → Value → M Value) : M Value :=
  bnd (bitset_Set_Has F x0 x1) fun v7 => bnd (opNot v7) fun v8 => K x0 x1 v8

theorem bitset_Set_Remove_r1_ok (F : Nat) (x0 x1 : Value) (K : Value → Value → Value → M Value) : bitset_Set_Remove_r1 F x0 x1 K = bitset_Set_Remove_R F 1 [(1, x1), (0, x0)] [0, 1, 8] K := by kernel_rfl

def bitset_Set_Remove_r0 (F : Nat) (x0 x1 : Value) (K : Value → Value → M Value) : M Value :=
  K x0 x1

theorem bitset_Set_Remove_r0_ok (F : Nat) (x0 x1 : Value) (K : Value → Value → M Value) : bitset_Set_Remove_r0 F x0 x1 K = bitset_Set_Remove_R F 0 [(1, x1), (0, x0)] [0, 1] K := by kernel_rfl

def bitset_Set_Remove (F : Nat) (x0 x1 : Value) : M Value :=
  bitset_Set_Remove_r0 F x0 x1 (fun x0 x1 => bitset_Set_Remove_r1 F x0 x1 (fun x0 x1 x8 => onB x8 (bitset_Set_Remove_r2 F (fun x4 => ret x4)) (bitset_Set_Remove_r3 F x0 x1 (bitset_Set_Remove_r4 F (fun x4 => ret x4)))))

def bitset_Set_Remove_m (F : Nat) : List Value → M Value
  | [x0, x1] => bitset_Set_Remove F x0 x1
  | _ => fail

theorem bitset_Set_Remove_body : Tryd.f15.body = some (.seq (.region 0 (opsOf Tryd.f15 0) false) (.seq (.seq (.region 1 (opsOf Tryd.f15 1) false) (.cond (.tmp 8) (.seq (.region 2 (opsOf Tryd.f15 2) false) .ret) .skip)) (.seq (.region 3 (opsOf Tryd.f15 3) true) (.seq (.region 4 (opsOf Tryd.f15 4) false) .ret)))) := by kernel_rfl

theorem bitset_Set_Remove_ok (F : Nat) : Sim Tryd.prog TrydG 15 (bitset_Set_Remove_m F) := by
 have hE : EnvOK Tryd.prog TrydG (bitset_Set_Remove_env F) := (EnvOK.cons (bitset_Set_Has_ok F) EnvOK.nil)
 refine Sim.of_body (E := bitset_Set_Remove_env F) Tryd.func15 bitset_Set_Remove_body Tryd.call15 ?_ ?_
 · intro args hl; unfold bitset_Set_Remove_m; split
   · exact absurd hl (Nat.not_lt.2 (Nat.le_of_ble_eq_true rfl))
   · rfl
 · intro args ρ h w z; unfold bitset_Set_Remove_m; split
   · rename_i x0 x1; show OKc _ _ [(0, x0), (1, x1)] _ _
     refine rSeq ?_
     refine cLess [1, 0] ?_
     refine xR hE [0, 1] rfl (bitset_Set_Remove_r0_ok F _ _ _) ?_
     intro x0 x1
     show OKq _ _ _ [(1, x1), (0, x0)] _
     refine rThen ?_
     refine rSeq ?_
     refine rSeq ?_
     refine cLess [1, 0] ?_
     refine xR hE [0, 1, 8] rfl (bitset_Set_Remove_r1_ok F _ _ _) ?_
     intro x0 x1 x8
     show OKq _ _ _ [(8, x8), (1, x1), (0, x0)] _
     refine rThen ?_
     refine xCond rfl rfl ?_ ?_
     · refine rSeq ?_
       refine cLess [] ?_
       refine xR hE [4] rfl (bitset_Set_Remove_r2_ok F _) ?_
       intro x4
       show OKq _ _ _ [(4, x4)] _
       refine rThen ?_
       refine rRet ?_
       refine xThenR ?_
       exact rDone (.inr rfl) rfl
     · refine rSkip ?_
       refine rThen ?_
       refine rSeq ?_
       refine cLess [1, 0] ?_
       refine xD Trydmix hE [] rfl bitset_Set_Remove_r3_good (bitset_Set_Remove_r3_ok F _ _ _) ?_
       show OKq _ _ _ [] _
       refine rThen ?_
       refine rSeq ?_
       refine cLess [] ?_
       refine xR hE [4] rfl (bitset_Set_Remove_r4_ok F _) ?_
       intro x4
       show OKq _ _ _ [(4, x4)] _
       refine rThen ?_
       refine rRet ?_
       exact rDone (.inr rfl) rfl
   · exact rFail


/-! ### (*haruspex/bitset.Set).First -/

def bitset_Set_First_env (F : Nat) : Env := envOf [(12, bitset_Set_Has_m F), (31, bitset_Set_words_m F)]

noncomputable def bitset_Set_First_R (F : Nat) := rK Tryd.prog TrydG (bitset_Set_First_env F) Tryd.f18
noncomputable def bitset_Set_First_D (F : Nat) := dK Tryd.prog TrydG (bitset_Set_First_env F) Tryd.f18

def bitset_Set_First_r6 (F : Nat) (K : Value → M Value) : M Value :=
  K (.int .i64 (-1))

theorem bitset_Set_First_r6_ok (F : Nat) (K : Value → M Value) : bitset_Set_First_r6 F K = bitset_Set_First_R F 6 [] [4] K := by kernel_rfl

def bitset_Set_First_k0 (F : Nat) : M Value :=
  bitset_Set_First_r6 F (fun x4 => ret x4)

def bitset_Set_First_r3 (F : Nat) (x0 x5 : Value) (K : Value → Value → M Value) : M Value :=
  bnd (opBin .add x5 (.int .i64 (1))) fun v15 => K x0 v15

theorem bitset_Set_First_r3_ok (F : Nat) (x0 x5 : Value) (K : Value → Value → M Value) : bitset_Set_First_r3 F x0 x5 K = bitset_Set_First_R F 3 [(5, x5), (0, x0)] [0, 5] K := by kernel_rfl

def bitset_Set_First_r5 (F : Nat) (x5 : Value) (K : Value → M Value) : M Value :=
  K x5

theorem bitset_Set_First_r5_ok (F : Nat) (x5 : Value) (K : Value → M Value) : bitset_Set_First_r5 F x5 K = bitset_Set_First_R F 5 [(5, x5)] [4] K := by kernel_rfl

def bitset_Set_First_r4 (F : Nat) (x0 x5 : Value) (K : Value → Value → Value → M Value) : M Value :=
  bnd (bitset_Set_Has F x0 x5) fun v18 => K x0 x5 v18

theorem bitset_Set_First_r4_ok (F : Nat) (x0 x5 : Value) (K : Value → Value → Value → M Value) : bitset_Set_First_r4 F x0 x5 K = bitset_Set_First_R F 4 [(5, x5), (0, x0)] [0, 5, 18] K := by kernel_rfl

def bitset_Set_First_r2 (F : Nat) (x0 x5 : Value) (K : Value → Value → Value → M Value) : M Value :=
  bnd (bitset_Set_words F x0) fun v10 => bnd (opLen v10) fun v11 => bnd (opBin .mul (.int .i64 (64)) v11) fun v12 => bnd (opBin .lss x5 v12) fun v13 => K x0 x5 v13

theorem bitset_Set_First_r2_ok (F : Nat) (x0 x5 : Value) (K : Value → Value → Value → M Value) : bitset_Set_First_r2 F x0 x5 K = bitset_Set_First_R F 2 [(5, x5), (0, x0)] [0, 5, 13] K := by kernel_rfl

def bitset_Set_First_b1 (F : Nat) (E1_0 : M Value) (A1 : Value → Value → M Value) (x0 x5 : Value) : M Value :=
  bitset_Set_First_r2 F x0 x5 (fun x0 x5 x13 => onB x13 (bitset_Set_First_r4 F x0 x5 (fun x0 x5 x18 => onB x18 (bitset_Set_First_r5 F x5 (fun x4 => ret x4)) (bitset_Set_First_r3 F x0 x5 (fun x0 x5 => A1 x0 x5)))) (E1_0 ))

def bitset_Set_First_l1 (F : Nat) (E1_0 : M Value) : Nat → Value → Value → M Value
  | 0, _, _ => fail
  | k1 + 1, x0, x5 => bitset_Set_First_b1 F E1_0 (bitset_Set_First_l1 F E1_0 k1) x0 x5

theorem bitset_Set_First_l1_s (F : Nat) (E1_0 : M Value) (k1 : Nat) (x0 x5 : Value) : bitset_Set_First_l1 F E1_0 (k1 + 1) x0 x5 = bitset_Set_First_b1 F E1_0 (bitset_Set_First_l1 F E1_0 k1) x0 x5 := rfl

def bitset_Set_First_r1 (F : Nat) (x0 x1 : Value) (K : Value → Value → M Value) : M Value :=
  bnd (opMax [x1, (.int .i64 (0))]) fun v7 => K x0 v7

theorem bitset_Set_First_r1_ok (F : Nat) (x0 x1 : Value) (K : Value → Value → M Value) : bitset_Set_First_r1 F x0 x1 K = bitset_Set_First_R F 1 [(1, x1), (0, x0)] [0, 5] K := by kernel_rfl

def bitset_Set_First_r0 (F : Nat) (x0 x1 : Value) (K : Value → Value → M Value) : M Value :=
  K x0 x1

theorem bitset_Set_First_r0_ok (F : Nat) (x0 x1 : Value) (K : Value → Value → M Value) : bitset_Set_First_r0 F x0 x1 K = bitset_Set_First_R F 0 [(1, x1), (0, x0)] [0, 1] K := by kernel_rfl

def bitset_Set_First (F : Nat) (x0 x1 : Value) : M Value :=
  bitset_Set_First_r0 F x0 x1 (fun x0 x1 => bitset_Set_First_r1 F x0 x1 (fun x0 x5 => bitset_Set_First_l1 F (bitset_Set_First_k0 F ) F x0 x5))

def bitset_Set_First_m (F : Nat) : List Value → M Value
  | [x0, x1] => bitset_Set_First F x0 x1
  | _ => fail

theorem bitset_Set_First_body : Tryd.f18.body = some (.seq (.region 0 (opsOf Tryd.f18 0) false) (.seq (.seq (.region 1 (opsOf Tryd.f18 1) false) (.block 0 (.loop (.seq (.seq (.region 2 (opsOf Tryd.f18 2) false) (.cond (.tmp 13) .skip (.exit 0))) (.seq (.block 1 (.seq (.region 4 (opsOf Tryd.f18 4) false) (.cond (.tmp 18) (.seq (.region 5 (opsOf Tryd.f18 5) false) .ret) .skip))) (.region 3 (opsOf Tryd.f18 3) false)))))) (.seq (.region 6 (opsOf Tryd.f18 6) false) .ret))) := by kernel_rfl

theorem bitset_Set_First_ok (F : Nat) : Sim Tryd.prog TrydG 18 (bitset_Set_First_m F) := by
 have hE : EnvOK Tryd.prog TrydG (bitset_Set_First_env F) := (EnvOK.cons (bitset_Set_Has_ok F) (EnvOK.cons (bitset_Set_words_ok F) EnvOK.nil))
 refine Sim.of_body (E := bitset_Set_First_env F) Tryd.func18 bitset_Set_First_body Tryd.call18 ?_ ?_
 · intro args hl; unfold bitset_Set_First_m; split
   · exact absurd hl (Nat.not_lt.2 (Nat.le_of_ble_eq_true rfl))
   · rfl
 · intro args ρ h w z; unfold bitset_Set_First_m; split
   · rename_i x0 x1; show OKc _ _ [(0, x0), (1, x1)] _ _
     refine rSeq ?_
     refine cLess [1, 0] ?_
     refine xR hE [0, 1] rfl (bitset_Set_First_r0_ok F _ _ _) ?_
     intro x0 x1
     show OKq _ _ _ [(1, x1), (0, x0)] _
     refine rThen ?_
     refine xSeq [] (bitset_Set_First_k0 F ) ?_ fun hj0 => ?_
     · show OKc _ _ [] _ _
       refine rSeq ?_
       refine cLess [] ?_
       refine xR hE [4] rfl (bitset_Set_First_r6_ok F _) ?_
       intro x4
       show OKq _ _ _ [(4, x4)] _
       refine rThen ?_
       refine rRet ?_
       exact rDone (.inr rfl) rfl
     · refine rSeq ?_
       refine cLess [1, 0] ?_
       refine xR hE [0, 5] rfl (bitset_Set_First_r1_ok F _ _ _) ?_
       intro x0 x5
       show OKq _ _ _ [(5, x5), (0, x0)] _
       refine rThen ?_
       refine rBlock ?_
       refine cLess [5, 0] ?_
       refine xLoopAt [0, 5] [] (fun k1 => bitset_Set_First_l1 F (bitset_Set_First_k0 F ) k1) F [x0, x5] rfl rfl (fun _ _ => rfl) fun I hI1 k1 => ?_
       intro x0 x5
       show OKc _ _ [(5, x5), (0, x0)] _ _
       refine cAs (bitset_Set_First_l1_s F _ _ _ _) ?_
       refine rSeq ?_
       refine rSeq ?_
       refine cLess [5, 0] ?_
       refine xR hE [0, 5, 13] rfl (bitset_Set_First_r2_ok F _ _ _) ?_
       intro x0 x5 x13
       show OKq _ _ _ [(13, x13), (5, x5), (0, x0)] _
       refine rThen ?_
       refine xCond rfl rfl ?_ ?_
       · refine rSkip ?_
         refine rThen ?_
         refine rSeq ?_
         refine rBlock ?_
         refine rSeq ?_
         refine cLess [5, 0] ?_
         refine xR hE [0, 5, 18] rfl (bitset_Set_First_r4_ok F _ _ _) ?_
         intro x0 x5 x18
         show OKq _ _ _ [(18, x18), (5, x5), (0, x0)] _
         refine rThen ?_
         refine xCond rfl rfl ?_ ?_
         · refine rSeq ?_
           refine cLess [5] ?_
           refine xR hE [4] rfl (bitset_Set_First_r5_ok F _ _) ?_
           intro x4
           show OKq _ _ _ [(4, x4)] _
           refine rThen ?_
           refine rRet ?_
           refine xBlockR ?_
           refine xThenR ?_
           refine xThenR ?_
           refine xBlockR ?_
           refine xThenR ?_
           exact rDone (.inr rfl) rfl
         · refine rSkip ?_
           refine xBlockN ?_
           refine rThen ?_
           refine cLess [5, 0] ?_
           refine xR hE [0, 5] rfl (bitset_Set_First_r3_ok F _ _ _) ?_
           intro x0 x5
           show OKq _ _ _ [(5, x5), (0, x0)] _
           exact qLess [5, 0] (hI1 k1 x0 x5)
       · refine rExit ?_
         refine xThenX ?_
         refine xThenX ?_
         refine rOut ?_
         exact qLess [] (hj0 )
   · exact rFail


/-! ### (*haruspex/bitset.Set).Eq -/

def bitset_Set_Eq_env (F : Nat) : Env := envOf [(29, bitset_Set_In_m F)]

noncomputable def bitset_Set_Eq_R (F : Nat) := rK Tryd.prog TrydG (bitset_Set_Eq_env F) Tryd.f21
noncomputable def bitset_Set_Eq_D (F : Nat) := dK Tryd.prog TrydG (bitset_Set_Eq_env F) Tryd.f21

def bitset_Set_Eq_r1 (F : Nat) (x0 x1 : Value) (K : Value → M Value) : M Value :=
  bnd (bitset_Set_In F x0 x1) fun v7 => onB v7 (bnd (bitset_Set_In F x1 x0) fun v11 => K v11) (K (.bool false))

theorem bitset_Set_Eq_r1_ok (F : Nat) (x0 x1 : Value) (K : Value → M Value) : bitset_Set_Eq_r1 F x0 x1 K = bitset_Set_Eq_R F 1 [(1, x1), (0, x0)] [4] K := by kernel_rfl

def bitset_Set_Eq_r0 (F : Nat) (x0 x1 : Value) (K : Value → Value → M Value) : M Value :=
  K x0 x1

theorem bitset_Set_Eq_r0_ok (F : Nat) (x0 x1 : Value) (K : Value → Value → M Value) : bitset_Set_Eq_r0 F x0 x1 K = bitset_Set_Eq_R F 0 [(1, x1), (0, x0)] [0, 1] K := by kernel_rfl

def bitset_Set_Eq (F : Nat) (x0 x1 : Value) : M Value :=
  bitset_Set_Eq_r0 F x0 x1 (fun x0 x1 => bitset_Set_Eq_r1 F x0 x1 (fun x4 => ret x4))

def bitset_Set_Eq_m (F : Nat) : List Value → M Value
  | [x0, x1] => bitset_Set_Eq F x0 x1
  | _ => fail

theorem bitset_Set_Eq_body : Tryd.f21.body = some (.seq (.region 0 (opsOf Tryd.f21 0) false) (.seq (.region 1 (opsOf Tryd.f21 1) false) .ret)) := by kernel_rfl

theorem bitset_Set_Eq_ok (F : Nat) : Sim Tryd.prog TrydG 21 (bitset_Set_Eq_m F) := by
 have hE : EnvOK Tryd.prog TrydG (bitset_Set_Eq_env F) := (EnvOK.cons (bitset_Set_In_ok F) EnvOK.nil)
 refine Sim.of_body (E := bitset_Set_Eq_env F) Tryd.func21 bitset_Set_Eq_body Tryd.call21 ?_ ?_
 · intro args hl; unfold bitset_Set_Eq_m; split
   · exact absurd hl (Nat.not_lt.2 (Nat.le_of_ble_eq_true rfl))
   · rfl
 · intro args ρ h w z; unfold bitset_Set_Eq_m; split
   · rename_i x0 x1; show OKc _ _ [(0, x0), (1, x1)] _ _
     refine rSeq ?_
     refine cLess [1, 0] ?_
     refine xR hE [0, 1] rfl (bitset_Set_Eq_r0_ok F _ _ _) ?_
     intro x0 x1
     show OKq _ _ _ [(1, x1), (0, x0)] _
     refine rThen ?_
     refine rSeq ?_
     refine cLess [1, 0] ?_
     refine xR hE [4] rfl (bitset_Set_Eq_r1_ok F _ _ _) ?_
     intro x4
     show OKq _ _ _ [(4, x4)] _
     refine rThen ?_
     refine rRet ?_
     exact rDone (.inr rfl) rfl
   · exact rFail


/-! ### haruspex/bitset.Of -/

def bitset_Of_env (F : Nat) : Env := envOf [(10, bitset_Set_Add_m F)]

noncomputable def bitset_Of_R (F : Nat) := rK Tryd.prog TrydG (bitset_Of_env F) Tryd.f17
noncomputable def bitset_Of_D (F : Nat) := dK Tryd.prog TrydG (bitset_Of_env F) Tryd.f17

def bitset_Of_r7 (F : Nat) (x3 : Value) (K : Value → M Value) : M Value :=
  K x3

theorem bitset_Of_r7_ok (F : Nat) (x3 : Value) (K : Value → M Value) : bitset_Of_r7 F x3 K = bitset_Of_R F 7 [(3, x3)] [2] K := by kernel_rfl

def bitset_Of_k0 (F : Nat) (x3 : Value) : M Value :=
  bitset_Of_r7 F x3 (fun x2 => ret x2)

def bitset_Of_r6 (F : Nat) (x3 x8 x9 x10 : Value) (K : Value → Value → Value → Value → M Value) : M Value :=
  bnd (opBin .add x10 (.int .i64 (1))) fun v17 => K x3 x8 x9 v17

theorem bitset_Of_r6_ok (F : Nat) (x3 x8 x9 x10 : Value) (K : Value → Value → Value → Value → M Value) : bitset_Of_r6 F x3 x8 x9 x10 K = bitset_Of_R F 6 [(10, x10), (9, x9), (8, x8), (3, x3)] [3, 8, 9, 10] K := by kernel_rfl

def bitset_Of_r5 (F : Nat) (x3 x5 x8 x9 x10 : Value) (K : Value → Value → Value → Value → M Value) : M Value :=
  bnd (bitset_Set_Add F x3 x5) fun v16 => K x3 x8 x9 x10

theorem bitset_Of_r5_ok (F : Nat) (x3 x5 x8 x9 x10 : Value) (K : Value → Value → Value → Value → M Value) : bitset_Of_r5 F x3 x5 x8 x9 x10 K = bitset_Of_R F 5 [(10, x10), (9, x9), (8, x8), (5, x5), (3, x3)] [3, 8, 9, 10] K := by kernel_rfl

def bitset_Of_r4 (F : Nat) (x3 x8 x9 x10 : Value) (K : Value → Value → Value → Value → Value → M Value) : M Value :=
  bnd (opIndexAddr 1 x8 x10) fun v12 => bnd (opLoad v12) fun v13 => K x3 v13 x8 x9 x10

theorem bitset_Of_r4_ok (F : Nat) (x3 x8 x9 x10 : Value) (K : Value → Value → Value → Value → Value → M Value) : bitset_Of_r4 F x3 x8 x9 x10 K = bitset_Of_R F 4 [(10, x10), (9, x9), (8, x8), (3, x3)] [3, 5, 8, 9, 10] K := by kernel_rfl

def bitset_Of_r3 (F : Nat) (x3 x8 x9 x10 : Value) (K : Value → Value → Value → Value → Value → M Value) : M Value :=
  bnd (opBin .lss x10 x9) fun v11 => K x3 x8 x9 x10 v11

theorem bitset_Of_r3_ok (F : Nat) (x3 x8 x9 x10 : Value) (K : Value → Value → Value → Value → Value → M Value) : bitset_Of_r3 F x3 x8 x9 x10 K = bitset_Of_R F 3 [(10, x10), (9, x9), (8, x8), (3, x3)] [3, 8, 9, 10, 11] K := by kernel_rfl

def bitset_Of_b1 (F : Nat) (E1_0 : Value → M Value) (A1 : Value → Value → Value → Value → M Value) (x3 x8 x9 x10 : Value) : M Value :=
  bitset_Of_r3 F x3 x8 x9 x10 (fun x3 x8 x9 x10 x11 => onB x11 (bitset_Of_r4 F x3 x8 x9 x10 (fun x3 x5 x8 x9 x10 => bitset_Of_r5 F x3 x5 x8 x9 x10 (fun x3 x8 x9 x10 => bitset_Of_r6 F x3 x8 x9 x10 (fun x3 x8 x9 x10 => A1 x3 x8 x9 x10)))) (E1_0 x3))

def bitset_Of_l1 (F : Nat) (E1_0 : Value → M Value) : Nat → Value → Value → Value → Value → M Value
  | 0, _, _, _, _ => fail
  | k1 + 1, x3, x8, x9, x10 => bitset_Of_b1 F E1_0 (bitset_Of_l1 F E1_0 k1) x3 x8 x9 x10

theorem bitset_Of_l1_s (F : Nat) (E1_0 : Value → M Value) (k1 : Nat) (x3 x8 x9 x10 : Value) : bitset_Of_l1 F E1_0 (k1 + 1) x3 x8 x9 x10 = bitset_Of_b1 F E1_0 (bitset_Of_l1 F E1_0 k1) x3 x8 x9 x10 := rfl

def bitset_Of_r2 (F : Nat) (x0 x3 : Value) (K : Value → Value → Value → Value → M Value) : M Value :=
  bnd (opLen x0) fun v9 => K x3 x0 v9 (.int .i64 (0))

theorem bitset_Of_r2_ok (F : Nat) (x0 x3 : Value) (K : Value → Value → Value → Value → M Value) : bitset_Of_r2 F x0 x3 K = bitset_Of_R F 2 [(3, x3), (0, x0)] [3, 8, 9, 10] K := by kernel_rfl

def bitset_Of_r1 (F : Nat) (x0 : Value) (K : Value → Value → M Value) : M Value :=
  bnd (opBuild [(.slice none 0 0)] []) fun v6 => bnd (opBoxN v6) fun v7 => K x0 v7

theorem bitset_Of_r1_ok (F : Nat) (x0 : Value) (K : Value → Value → M Value) : bitset_Of_r1 F x0 K = bitset_Of_R F 1 [(0, x0)] [0, 3] K := by kernel_rfl

def bitset_Of_r0 (F : Nat) (x0 : Value) (K : Value → M Value) : M Value :=
  K x0

theorem bitset_Of_r0_ok (F : Nat) (x0 : Value) (K : Value → M Value) : bitset_Of_r0 F x0 K = bitset_Of_R F 0 [(0, x0)] [0] K := by kernel_rfl

def bitset_Of (F : Nat) (x0 : Value) : M Value :=
  bitset_Of_r0 F x0 (fun x0 => bitset_Of_r1 F x0 (fun x0 x3 => bitset_Of_r2 F x0 x3 (fun x3 x8 x9 x10 => bitset_Of_l1 F (fun x3 => bitset_Of_k0 F x3) F x3 x8 x9 x10)))

def bitset_Of_m (F : Nat) : List Value → M Value
  | [x0] => bitset_Of F x0
  | _ => fail

theorem bitset_Of_body : Tryd.f17.body = some (.seq (.region 0 (opsOf Tryd.f17 0) false) (.seq (.region 1 (opsOf Tryd.f17 1) false) (.seq (.seq (.region 2 (opsOf Tryd.f17 2) false) (.block 0 (.loop (.seq (.region 3 (opsOf Tryd.f17 3) false) (.seq (.cond (.tmp 11) .skip (.exit 0)) (.seq (.block 1 (.seq (.region 4 (opsOf Tryd.f17 4) false) (.region 5 (opsOf Tryd.f17 5) false))) (.region 6 (opsOf Tryd.f17 6) false))))))) (.seq (.region 7 (opsOf Tryd.f17 7) false) .ret)))) := by kernel_rfl

theorem bitset_Of_ok (F : Nat) : Sim Tryd.prog TrydG 17 (bitset_Of_m F) := by
 have hE : EnvOK Tryd.prog TrydG (bitset_Of_env F) := (EnvOK.cons (bitset_Set_Add_ok F) EnvOK.nil)
 refine Sim.of_body (E := bitset_Of_env F) Tryd.func17 bitset_Of_body Tryd.call17 ?_ ?_
 · intro args hl; unfold bitset_Of_m; split
   · exact absurd hl (Nat.not_lt.2 (Nat.le_of_ble_eq_true rfl))
   · rfl
 · intro args ρ h w z; unfold bitset_Of_m; split
   · rename_i x0; show OKc _ _ [(0, x0)] _ _
     refine rSeq ?_
     refine cLess [0] ?_
     refine xR hE [0] rfl (bitset_Of_r0_ok F _ _) ?_
     intro x0
     show OKq _ _ _ [(0, x0)] _
     refine rThen ?_
     refine rSeq ?_
     refine cLess [0] ?_
     refine xR hE [0, 3] rfl (bitset_Of_r1_ok F _ _) ?_
     intro x0 x3
     show OKq _ _ _ [(3, x3), (0, x0)] _
     refine rThen ?_
     refine xSeq [3] (bitset_Of_k0 F ) ?_ fun hj0 => ?_
     · intro x3
       show OKc _ _ [(3, x3)] _ _
       refine rSeq ?_
       refine cLess [3] ?_
       refine xR hE [2] rfl (bitset_Of_r7_ok F _ _) ?_
       intro x2
       show OKq _ _ _ [(2, x2)] _
       refine rThen ?_
       refine rRet ?_
       exact rDone (.inr rfl) rfl
     · refine rSeq ?_
       refine cLess [3, 0] ?_
       refine xR hE [3, 8, 9, 10] rfl (bitset_Of_r2_ok F _ _ _) ?_
       intro x3 x8 x9 x10
       show OKq _ _ _ [(10, x10), (9, x9), (8, x8), (3, x3)] _
       refine rThen ?_
       refine rBlock ?_
       refine cLess [10, 9, 8, 3] ?_
       refine xLoopAt [3, 8, 9, 10] [] (fun k1 => bitset_Of_l1 F (fun x3 => bitset_Of_k0 F x3) k1) F [x3, x8, x9, x10] rfl rfl (fun _ _ _ _ => rfl) fun I hI1 k1 => ?_
       intro x3 x8 x9 x10
       show OKc _ _ [(10, x10), (9, x9), (8, x8), (3, x3)] _ _
       refine cAs (bitset_Of_l1_s F _ _ _ _ _ _) ?_
       refine rSeq ?_
       refine cLess [10, 9, 8, 3] ?_
       refine xR hE [3, 8, 9, 10, 11] rfl (bitset_Of_r3_ok F _ _ _ _ _) ?_
       intro x3 x8 x9 x10 x11
       show OKq _ _ _ [(11, x11), (10, x10), (9, x9), (8, x8), (3, x3)] _
       refine rThen ?_
       refine rSeq ?_
       refine xCond rfl rfl ?_ ?_
       · refine rSkip ?_
         refine rThen ?_
         refine rSeq ?_
         refine rBlock ?_
         refine rSeq ?_
         refine cLess [10, 9, 8, 3] ?_
         refine xR hE [3, 5, 8, 9, 10] rfl (bitset_Of_r4_ok F _ _ _ _ _) ?_
         intro x3 x5 x8 x9 x10
         show OKq _ _ _ [(10, x10), (9, x9), (8, x8), (5, x5), (3, x3)] _
         refine rThen ?_
         refine cLess [10, 9, 8, 5, 3] ?_
         refine xR hE [3, 8, 9, 10] rfl (bitset_Of_r5_ok F _ _ _ _ _ _) ?_
         intro x3 x8 x9 x10
         show OKq _ _ _ [(10, x10), (9, x9), (8, x8), (3, x3)] _
         refine xBlockN ?_
         refine rThen ?_
         refine cLess [10, 9, 8, 3] ?_
         refine xR hE [3, 8, 9, 10] rfl (bitset_Of_r6_ok F _ _ _ _ _) ?_
         intro x3 x8 x9 x10
         show OKq _ _ _ [(10, x10), (9, x9), (8, x8), (3, x3)] _
         exact qLess [10, 9, 8, 3] (hI1 k1 x3 x8 x9 x10)
       · refine rExit ?_
         refine xThenX ?_
         refine xThenX ?_
         refine rOut ?_
         exact qLess [3] (hj0 x3)
   · exact rFail


/-! ### haruspex/haruspexlaw1.begun -/

def L1_begun_env (F : Nat) : Env := envOf [(10, bitset_Set_Add_m F), (12, bitset_Set_Has_m F), (13, bitset_Set_Len_m F), (14, bitset_Set_All_m F), (15, bitset_Set_Remove_m F), (17, bitset_Of_m F), (18, bitset_Set_First_m F), (19, R1_Eq_m F)]

noncomputable def L1_begun_R (F : Nat) := rK Tryd.prog TrydG (L1_begun_env F) Tryd.f9
noncomputable def L1_begun_D (F : Nat) := dK Tryd.prog TrydG (L1_begun_env F) Tryd.f9

def L1_begun_r5 (F : Nat) (x1 x2 x3 : Value) (K : Value → M Value) : M Value :=
  bnd (bitset_Set_All F x1) fun v13 => bnd (opBuildSlice 3 (rep 3 [(.int .i64 (0))]) [(0, 1, false, (.int .i64 (3))), (1, 1, false, (.int .i64 (5))), (2, 1, false, (.int .i64 (9)))]) fun v14 => bnd (R1_Eq F v13 v14) fun v15 => onB v15 (onB x2 (bnd (opNot x3) fun v21 => onB v21 (bnd (bitset_Set_Has F x1 (.int .i64 (3))) fun v25 => onB v25 (bnd (bitset_Set_Len F x1) fun v29 => bnd (opBin .eql v29 (.int .i64 (3))) fun v30 => onB v30 (bnd (bitset_Set_First F x1 (.int .i64 (4))) fun v34 => bnd (opBin .eql v34 (.int .i64 (5))) fun v35 => onB v35 (bnd (bitset_Set_Remove F x1 (.int .i64 (3))) fun v39 => onB v39 (bnd (bitset_Set_Remove F x1 (.int .i64 (3))) fun v43 => bnd (opNot v43) fun v44 => K v44) (K (.bool false))) (K (.bool false))) (K (.bool false))) (K (.bool false))) (K (.bool false))) (K (.bool false))) (K (.bool false))

theorem L1_begun_r5_ok (F : Nat) (x1 x2 x3 : Value) (K : Value → M Value) : L1_begun_r5 F x1 x2 x3 K = L1_begun_R F 5 [(3, x3), (2, x2), (1, x1)] [0] K := by kernel_rfl

def L1_begun_r4 (F : Nat) (x1 : Value) (K : Value → Value → Value → M Value) : M Value :=
  bnd (bitset_Set_Add F x1 (.int .i64 (9))) fun v9 => bnd (bitset_Set_Add F x1 (.int .i64 (9))) fun v11 => K x1 v9 v11

theorem L1_begun_r4_ok (F : Nat) (x1 : Value) (K : Value → Value → Value → M Value) : L1_begun_r4 F x1 K = L1_begun_R F 4 [(1, x1)] [1, 2, 3] K := by kernel_rfl

def L1_begun_r3 (F : Nat) (K : Value → M Value) : M Value :=
  K (.bool false)

theorem L1_begun_r3_ok (F : Nat) (K : Value → M Value) : L1_begun_r3 F K = L1_begun_R F 3 [] [0] K := by kernel_rfl

def L1_begun_r2 (F : Nat) (x1 : Value) (K : Value → Value → M Value) : M Value :=
  bnd (opEq eqP false x1 (.pointer none)) fun v7 => K x1 v7

theorem L1_begun_r2_ok (F : Nat) (x1 : Value) (K : Value → Value → M Value) : L1_begun_r2 F x1 K = L1_begun_R F 2 [(1, x1)] [1, 7] K := by kernel_rfl

def L1_begun_r1 (F : Nat) (K : Value → M Value) : M Value :=
  bnd (opBuildSlice 4 (rep 4 [(.int .i64 (0))]) [(0, 1, false, (.int .i64 (5))), (1, 1, false, (.int .i64 (3))), (2, 1, false, (.int .i64 (5))), (3, 1, false, (.int .i64 (-1)))]) fun v4 => bnd (bitset_Of F v4) fun v5 => K v5

theorem L1_begun_r1_ok (F : Nat) (K : Value → M Value) : L1_begun_r1 F K = L1_begun_R F 1 [] [1] K := by kernel_rfl

def L1_begun_r0 (F : Nat) (K : M Value) : M Value :=
  K

theorem L1_begun_r0_ok (F : Nat) (K : M Value) : L1_begun_r0 F K = L1_begun_R F 0 [] [] K := by kernel_rfl

def L1_begun (F : Nat) : M Value :=
  L1_begun_r0 F (L1_begun_r1 F (fun x1 => L1_begun_r2 F x1 (fun x1 x7 => onB x7 (L1_begun_r3 F (fun x0 => ret x0)) (L1_begun_r4 F x1 (fun x1 x2 x3 => L1_begun_r5 F x1 x2 x3 (fun x0 => ret x0))))))

def L1_begun_m (F : Nat) : List Value → M Value
  | [] => L1_begun F
  | _ => fail

theorem L1_begun_body : Tryd.f9.body = some (.seq (.region 0 (opsOf Tryd.f9 0) false) (.seq (.region 1 (opsOf Tryd.f9 1) false) (.seq (.seq (.region 2 (opsOf Tryd.f9 2) false) (.cond (.tmp 7) (.seq (.region 3 (opsOf Tryd.f9 3) false) .ret) .skip)) (.seq (.region 4 (opsOf Tryd.f9 4) false) (.seq (.region 5 (opsOf Tryd.f9 5) false) .ret))))) := by kernel_rfl

theorem L1_begun_ok (F : Nat) : Sim Tryd.prog TrydG 9 (L1_begun_m F) := by
 have hE : EnvOK Tryd.prog TrydG (L1_begun_env F) := (EnvOK.cons (bitset_Set_Add_ok F) (EnvOK.cons (bitset_Set_Has_ok F) (EnvOK.cons (bitset_Set_Len_ok F) (EnvOK.cons (bitset_Set_All_ok F) (EnvOK.cons (bitset_Set_Remove_ok F) (EnvOK.cons (bitset_Of_ok F) (EnvOK.cons (bitset_Set_First_ok F) (EnvOK.cons (R1_Eq_ok F) EnvOK.nil))))))))
 refine Sim.of_body (E := L1_begun_env F) Tryd.func9 L1_begun_body Tryd.call9 ?_ ?_
 · intro args hl; unfold L1_begun_m; split
   · exact absurd hl (Nat.not_lt.2 (Nat.le_of_ble_eq_true rfl))
   · rfl
 · intro args ρ h w z; unfold L1_begun_m; split
   · show OKc _ _ [] _ _
     refine rSeq ?_
     refine cLess [] ?_
     refine xR hE [] rfl (L1_begun_r0_ok F _) ?_
     show OKq _ _ _ [] _
     refine rThen ?_
     refine rSeq ?_
     refine cLess [] ?_
     refine xR hE [1] rfl (L1_begun_r1_ok F _) ?_
     intro x1
     show OKq _ _ _ [(1, x1)] _
     refine rThen ?_
     refine rSeq ?_
     refine rSeq ?_
     refine cLess [1] ?_
     refine xR hE [1, 7] rfl (L1_begun_r2_ok F _ _) ?_
     intro x1 x7
     show OKq _ _ _ [(7, x7), (1, x1)] _
     refine rThen ?_
     refine xCond rfl rfl ?_ ?_
     · refine rSeq ?_
       refine cLess [] ?_
       refine xR hE [0] rfl (L1_begun_r3_ok F _) ?_
       intro x0
       show OKq _ _ _ [(0, x0)] _
       refine rThen ?_
       refine rRet ?_
       refine xThenR ?_
       exact rDone (.inr rfl) rfl
     · refine rSkip ?_
       refine rThen ?_
       refine rSeq ?_
       refine cLess [1] ?_
       refine xR hE [1, 2, 3] rfl (L1_begun_r4_ok F _ _) ?_
       intro x1 x2 x3
       show OKq _ _ _ [(3, x3), (2, x2), (1, x1)] _
       refine rThen ?_
       refine rSeq ?_
       refine cLess [3, 2, 1] ?_
       refine xR hE [0] rfl (L1_begun_r5_ok F _ _ _ _) ?_
       intro x0
       show OKq _ _ _ [(0, x0)] _
       refine rThen ?_
       refine rRet ?_
       exact rDone (.inr rfl) rfl
   · exact rFail


/-! ### haruspex/haruspexlaw1.SetEnds -/

def L1_SetEnds_env (F : Nat) : Env := envOf [(9, L1_begun_m F), (10, bitset_Set_Add_m F), (11, L1_may_m F), (12, bitset_Set_Has_m F), (13, bitset_Set_Len_m F), (14, bitset_Set_All_m F), (15, bitset_Set_Remove_m F)]

noncomputable def L1_SetEnds_R (F : Nat) := rK Tryd.prog TrydG (L1_SetEnds_env F) Tryd.f3
noncomputable def L1_SetEnds_D (F : Nat) := dK Tryd.prog TrydG (L1_SetEnds_env F) Tryd.f3

def L1_SetEnds_r6 (F : Nat) (x0 x4 x5 : Value) (K : Value → M Value) : M Value :=
  bnd (L1_may F x0) fun v16 => bnd (opEq eqB false x5 v16) fun v17 => onB v17 (bnd (bitset_Set_Has F x4 x0) fun v21 => bnd (L1_may F x0) fun v23 => bnd (opEq eqB false v21 v23) fun v24 => onB v24 (bnd (bitset_Set_Len F x4) fun v28 => bnd (bitset_Set_All F x4) fun v30 => bnd (opLen v30) fun v31 => bnd (opBin .eql v28 v31) fun v32 => onB v32 (bnd (bitset_Set_Len F x4) fun v36 => bnd (opBin .eql v36 (.int .i64 (1))) fun v37 => bnd (L1_may F x0) fun v39 => bnd (opEq eqB false v37 v39) fun v40 => onB v40 (bnd (bitset_Set_Remove F x4 x0) fun v45 => bnd (L1_may F x0) fun v47 => bnd (opEq eqB false v45 v47) fun v48 => onB v48 (bnd (bitset_Set_Len F x4) fun v52 => bnd (opBin .eql v52 (.int .i64 (0))) fun v53 => onB v53 (bnd (bitset_Set_Add F x4 (.int .i64 (4999))) fun v57 => onB v57 (bnd (bitset_Set_Add F x4 (.int .i64 (5000))) fun v61 => bnd (opNot v61) fun v62 => onB v62 (bnd (bitset_Set_Add F x4 (.int .i64 (0))) fun v66 => onB v66 (bnd (bitset_Set_Add F x4 (.int .i64 (-1))) fun v70 => bnd (opNot v70) fun v71 => K v71) (K (.bool false))) (K (.bool false))) (K (.bool false))) (K (.bool false))) (K (.bool false))) (K (.bool false))) (K (.bool false))) (K (.bool false))) (K (.bool false))

theorem L1_SetEnds_r6_ok (F : Nat) (x0 x4 x5 : Value) (K : Value → M Value) : L1_SetEnds_r6 F x0 x4 x5 K = L1_SetEnds_R F 6 [(5, x5), (4, x4), (0, x0)] [2] K := by kernel_rfl

def L1_SetEnds_r5 (F : Nat) (x0 x4 : Value) (K : Value → Value → Value → M Value) : M Value :=
  bnd (bitset_Set_Add F x4 x0) fun v13 => K x0 x4 v13

theorem L1_SetEnds_r5_ok (F : Nat) (x0 x4 : Value) (K : Value → Value → Value → M Value) : L1_SetEnds_r5 F x0 x4 K = L1_SetEnds_R F 5 [(4, x4), (0, x0)] [0, 4, 5] K := by kernel_rfl

def L1_SetEnds_r4 (F : Nat) (x0 : Value) (K : Value → Value → M Value) : M Value :=
  bnd (opBuild [(.slice none 0 0)] []) fun v9 => bnd (opBoxN v9) fun v10 => K x0 v10

theorem L1_SetEnds_r4_ok (F : Nat) (x0 : Value) (K : Value → Value → M Value) : L1_SetEnds_r4 F x0 K = L1_SetEnds_R F 4 [(0, x0)] [0, 4] K := by kernel_rfl

def L1_SetEnds_r3 (F : Nat) (K : Value → M Value) : M Value :=
  K (.bool false)

theorem L1_SetEnds_r3_ok (F : Nat) (K : Value → M Value) : L1_SetEnds_r3 F K = L1_SetEnds_R F 3 [] [2] K := by kernel_rfl

def L1_SetEnds_r2 (F : Nat) (x0 x3 : Value) (K : Value → Value → M Value) : M Value :=
  bnd (opNot x3) fun v8 => K x0 v8

theorem L1_SetEnds_r2_ok (F : Nat) (x0 x3 : Value) (K : Value → Value → M Value) : L1_SetEnds_r2 F x0 x3 K = L1_SetEnds_R F 2 [(3, x3), (0, x0)] [0, 8] K := by kernel_rfl

def L1_SetEnds_r1 (F : Nat) (x0 : Value) (K : Value → Value → M Value) : M Value :=
  bnd (L1_begun F) fun v6 => K x0 v6

theorem L1_SetEnds_r1_ok (F : Nat) (x0 : Value) (K : Value → Value → M Value) : L1_SetEnds_r1 F x0 K = L1_SetEnds_R F 1 [(0, x0)] [0, 3] K := by kernel_rfl

def L1_SetEnds_r0 (F : Nat) (x0 : Value) (K : Value → M Value) : M Value :=
  K x0

theorem L1_SetEnds_r0_ok (F : Nat) (x0 : Value) (K : Value → M Value) : L1_SetEnds_r0 F x0 K = L1_SetEnds_R F 0 [(0, x0)] [0] K := by kernel_rfl

def L1_SetEnds (F : Nat) (x0 : Value) : M Value :=
  L1_SetEnds_r0 F x0 (fun x0 => L1_SetEnds_r1 F x0 (fun x0 x3 => L1_SetEnds_r2 F x0 x3 (fun x0 x8 => onB x8 (L1_SetEnds_r3 F (fun x2 => ret x2)) (L1_SetEnds_r4 F x0 (fun x0 x4 => L1_SetEnds_r5 F x0 x4 (fun x0 x4 x5 => L1_SetEnds_r6 F x0 x4 x5 (fun x2 => ret x2)))))))

def L1_SetEnds_m (F : Nat) : List Value → M Value
  | [x0] => L1_SetEnds F x0
  | _ => fail

theorem L1_SetEnds_body : Tryd.f3.body = some (.seq (.region 0 (opsOf Tryd.f3 0) false) (.seq (.region 1 (opsOf Tryd.f3 1) false) (.seq (.seq (.region 2 (opsOf Tryd.f3 2) false) (.cond (.tmp 8) (.seq (.region 3 (opsOf Tryd.f3 3) false) .ret) .skip)) (.seq (.region 4 (opsOf Tryd.f3 4) false) (.seq (.region 5 (opsOf Tryd.f3 5) false) (.seq (.region 6 (opsOf Tryd.f3 6) false) .ret)))))) := by kernel_rfl

theorem L1_SetEnds_ok (F : Nat) : Sim Tryd.prog TrydG 3 (L1_SetEnds_m F) := by
 have hE : EnvOK Tryd.prog TrydG (L1_SetEnds_env F) := (EnvOK.cons (L1_begun_ok F) (EnvOK.cons (bitset_Set_Add_ok F) (EnvOK.cons (L1_may_ok F) (EnvOK.cons (bitset_Set_Has_ok F) (EnvOK.cons (bitset_Set_Len_ok F) (EnvOK.cons (bitset_Set_All_ok F) (EnvOK.cons (bitset_Set_Remove_ok F) EnvOK.nil)))))))
 refine Sim.of_body (E := L1_SetEnds_env F) Tryd.func3 L1_SetEnds_body Tryd.call3 ?_ ?_
 · intro args hl; unfold L1_SetEnds_m; split
   · exact absurd hl (Nat.not_lt.2 (Nat.le_of_ble_eq_true rfl))
   · rfl
 · intro args ρ h w z; unfold L1_SetEnds_m; split
   · rename_i x0; show OKc _ _ [(0, x0)] _ _
     refine rSeq ?_
     refine cLess [0] ?_
     refine xR hE [0] rfl (L1_SetEnds_r0_ok F _ _) ?_
     intro x0
     show OKq _ _ _ [(0, x0)] _
     refine rThen ?_
     refine rSeq ?_
     refine cLess [0] ?_
     refine xR hE [0, 3] rfl (L1_SetEnds_r1_ok F _ _) ?_
     intro x0 x3
     show OKq _ _ _ [(3, x3), (0, x0)] _
     refine rThen ?_
     refine rSeq ?_
     refine rSeq ?_
     refine cLess [3, 0] ?_
     refine xR hE [0, 8] rfl (L1_SetEnds_r2_ok F _ _ _) ?_
     intro x0 x8
     show OKq _ _ _ [(8, x8), (0, x0)] _
     refine rThen ?_
     refine xCond rfl rfl ?_ ?_
     · refine rSeq ?_
       refine cLess [] ?_
       refine xR hE [2] rfl (L1_SetEnds_r3_ok F _) ?_
       intro x2
       show OKq _ _ _ [(2, x2)] _
       refine rThen ?_
       refine rRet ?_
       refine xThenR ?_
       exact rDone (.inr rfl) rfl
     · refine rSkip ?_
       refine rThen ?_
       refine rSeq ?_
       refine cLess [0] ?_
       refine xR hE [0, 4] rfl (L1_SetEnds_r4_ok F _ _) ?_
       intro x0 x4
       show OKq _ _ _ [(4, x4), (0, x0)] _
       refine rThen ?_
       refine rSeq ?_
       refine cLess [4, 0] ?_
       refine xR hE [0, 4, 5] rfl (L1_SetEnds_r5_ok F _ _ _) ?_
       intro x0 x4 x5
       show OKq _ _ _ [(5, x5), (4, x4), (0, x0)] _
       refine rThen ?_
       refine rSeq ?_
       refine cLess [5, 4, 0] ?_
       refine xR hE [2] rfl (L1_SetEnds_r6_ok F _ _ _ _) ?_
       intro x2
       show OKq _ _ _ [(2, x2)] _
       refine rThen ?_
       refine rRet ?_
       exact rDone (.inr rfl) rfl
   · exact rFail


/-! ### haruspex/haruspexlaw1.SetWalk -/

def L1_SetWalk_env (F : Nat) : Env := envOf [(9, L1_begun_m F), (14, bitset_Set_All_m F), (16, L1_Cut_m F), (17, bitset_Of_m F), (18, bitset_Set_First_m F), (19, R1_Eq_m F), (20, L1_of_m F)]

noncomputable def L1_SetWalk_R (F : Nat) := rK Tryd.prog TrydG (L1_SetWalk_env F) Tryd.f4
noncomputable def L1_SetWalk_D (F : Nat) := dK Tryd.prog TrydG (L1_SetWalk_env F) Tryd.f4

def L1_SetWalk_r13 (F : Nat) (x0 x4 x5 : Value) (K : Value → M Value) : M Value :=
  bnd (bitset_Set_All F x4) fun v31 => bnd (R1_Eq F x5 v31) fun v32 => onB v32 (bnd (L1_Cut F x0 (.int .i64 (40))) fun v36 => bnd (L1_of F v36) fun v37 => bnd (R1_Eq F x5 v37) fun v38 => onB v38 (K (.bool true)) (bnd (opLen x0) fun v42 => bnd (opBin .gtr v42 (.int .i64 (40))) fun v43 => K v43)) (bnd (opLen x0) fun v42 => bnd (opBin .gtr v42 (.int .i64 (40))) fun v43 => K v43)

theorem L1_SetWalk_r13_ok (F : Nat) (x0 x4 x5 : Value) (K : Value → M Value) : L1_SetWalk_r13 F x0 x4 x5 K = L1_SetWalk_R F 13 [(5, x5), (4, x4), (0, x0)] [2] K := by kernel_rfl

def L1_SetWalk_k0 (F : Nat) (x0 x4 x5 : Value) : M Value :=
  L1_SetWalk_r13 F x0 x4 x5 (fun x2 => ret x2)

def L1_SetWalk_r9 (F : Nat) (x0 x4 x5 x6 : Value) (K : Value → Value → Value → Value → M Value) : M Value :=
  bnd (opBin .add x6 (.int .i64 (1))) fun v20 => bnd (bitset_Set_First F x4 v20) fun v21 => K x0 x4 x5 v21

theorem L1_SetWalk_r9_ok (F : Nat) (x0 x4 x5 x6 : Value) (K : Value → Value → Value → Value → M Value) : L1_SetWalk_r9 F x0 x4 x5 x6 K = L1_SetWalk_R F 9 [(6, x6), (5, x5), (4, x4), (0, x0)] [0, 4, 5, 6] K := by kernel_rfl

def L1_SetWalk_r12 (F : Nat) (K : Value → M Value) : M Value :=
  K (.bool false)

theorem L1_SetWalk_r12_ok (F : Nat) (K : Value → M Value) : L1_SetWalk_r12 F K = L1_SetWalk_R F 12 [] [2] K := by kernel_rfl

def L1_SetWalk_r11 (F : Nat) (x0 x4 x5 x6 : Value) (K : Value → Value → Value → Value → Value → M Value) : M Value :=
  bnd (opLen x5) fun v27 => bnd (opBin .gtr v27 (.int .i64 (100))) fun v28 => K x0 x4 x5 x6 v28

theorem L1_SetWalk_r11_ok (F : Nat) (x0 x4 x5 x6 : Value) (K : Value → Value → Value → Value → Value → M Value) : L1_SetWalk_r11 F x0 x4 x5 x6 K = L1_SetWalk_R F 11 [(6, x6), (5, x5), (4, x4), (0, x0)] [0, 4, 5, 6, 28] K := by kernel_rfl

def L1_SetWalk_r10 (F : Nat) (x0 x4 x5 x6 : Value) (K : Value → Value → Value → Value → M Value) : M Value :=
  bnd (opBuildSlice 1 (rep 1 [(.int .i64 (0))]) [(0, 1, false, x6)]) fun v24 => bnd (opAppend 1 8 x5 v24) fun v25 => K x0 x4 v25 x6

theorem L1_SetWalk_r10_ok (F : Nat) (x0 x4 x5 x6 : Value) (K : Value → Value → Value → Value → M Value) : L1_SetWalk_r10 F x0 x4 x5 x6 K = L1_SetWalk_R F 10 [(6, x6), (5, x5), (4, x4), (0, x0)] [0, 4, 5, 6] K := by kernel_rfl

def L1_SetWalk_r8 (F : Nat) (x0 x4 x5 x6 : Value) (K : Value → Value → Value → Value → Value → M Value) : M Value :=
  bnd (opBin .geq x6 (.int .i64 (0))) fun v17 => K x0 x4 x5 x6 v17

theorem L1_SetWalk_r8_ok (F : Nat) (x0 x4 x5 x6 : Value) (K : Value → Value → Value → Value → Value → M Value) : L1_SetWalk_r8 F x0 x4 x5 x6 K = L1_SetWalk_R F 8 [(6, x6), (5, x5), (4, x4), (0, x0)] [0, 4, 5, 6, 17] K := by kernel_rfl

def L1_SetWalk_b1 (F : Nat) (E1_0 : Value → Value → Value → M Value) (A1 : Value → Value → Value → Value → M Value) (x0 x4 x5 x6 : Value) : M Value :=
  L1_SetWalk_r8 F x0 x4 x5 x6 (fun x0 x4 x5 x6 x17 => onB x17 (L1_SetWalk_r10 F x0 x4 x5 x6 (fun x0 x4 x5 x6 => L1_SetWalk_r11 F x0 x4 x5 x6 (fun x0 x4 x5 x6 x28 => onB x28 (L1_SetWalk_r12 F (fun x2 => ret x2)) (L1_SetWalk_r9 F x0 x4 x5 x6 (fun x0 x4 x5 x6 => A1 x0 x4 x5 x6))))) (E1_0 x0 x4 x5))

def L1_SetWalk_l1 (F : Nat) (E1_0 : Value → Value → Value → M Value) : Nat → Value → Value → Value → Value → M Value
  | 0, _, _, _, _ => fail
  | k1 + 1, x0, x4, x5, x6 => L1_SetWalk_b1 F E1_0 (L1_SetWalk_l1 F E1_0 k1) x0 x4 x5 x6

theorem L1_SetWalk_l1_s (F : Nat) (E1_0 : Value → Value → Value → M Value) (k1 : Nat) (x0 x4 x5 x6 : Value) : L1_SetWalk_l1 F E1_0 (k1 + 1) x0 x4 x5 x6 = L1_SetWalk_b1 F E1_0 (L1_SetWalk_l1 F E1_0 k1) x0 x4 x5 x6 := rfl

def L1_SetWalk_r7 (F : Nat) (x0 x4 x5 : Value) (K : Value → Value → Value → Value → M Value) : M Value :=
  bnd (bitset_Set_First F x4 (.int .i64 (-5))) fun v15 => K x0 x4 x5 v15

theorem L1_SetWalk_r7_ok (F : Nat) (x0 x4 x5 : Value) (K : Value → Value → Value → Value → M Value) : L1_SetWalk_r7 F x0 x4 x5 K = L1_SetWalk_R F 7 [(5, x5), (4, x4), (0, x0)] [0, 4, 5, 6] K := by kernel_rfl

def L1_SetWalk_r6 (F : Nat) (x0 x4 : Value) (K : Value → Value → Value → M Value) : M Value :=
  K x0 x4 (.slice none 0 0)

theorem L1_SetWalk_r6_ok (F : Nat) (x0 x4 : Value) (K : Value → Value → Value → M Value) : L1_SetWalk_r6 F x0 x4 K = L1_SetWalk_R F 6 [(4, x4), (0, x0)] [0, 4, 5] K := by kernel_rfl

def L1_SetWalk_r5 (F : Nat) (x0 : Value) (K : Value → Value → M Value) : M Value :=
  bnd (bitset_Of F x0) fun v13 => K x0 v13

theorem L1_SetWalk_r5_ok (F : Nat) (x0 : Value) (K : Value → Value → M Value) : L1_SetWalk_r5 F x0 K = L1_SetWalk_R F 5 [(0, x0)] [0, 4] K := by kernel_rfl

def L1_SetWalk_r4 (F : Nat) (x0 : Value) (K : Value → M Value) : M Value :=
  bnd (L1_Cut F x0 (.int .i64 (60))) fun v11 => K v11

theorem L1_SetWalk_r4_ok (F : Nat) (x0 : Value) (K : Value → M Value) : L1_SetWalk_r4 F x0 K = L1_SetWalk_R F 4 [(0, x0)] [0] K := by kernel_rfl

def L1_SetWalk_r3 (F : Nat) (K : Value → M Value) : M Value :=
  K (.bool false)

theorem L1_SetWalk_r3_ok (F : Nat) (K : Value → M Value) : L1_SetWalk_r3 F K = L1_SetWalk_R F 3 [] [2] K := by kernel_rfl

def L1_SetWalk_r2 (F : Nat) (x0 x3 : Value) (K : Value → Value → M Value) : M Value :=
  bnd (opNot x3) fun v9 => K x0 v9

theorem L1_SetWalk_r2_ok (F : Nat) (x0 x3 : Value) (K : Value → Value → M Value) : L1_SetWalk_r2 F x0 x3 K = L1_SetWalk_R F 2 [(3, x3), (0, x0)] [0, 9] K := by kernel_rfl

def L1_SetWalk_r1 (F : Nat) (x0 : Value) (K : Value → Value → M Value) : M Value :=
  bnd (L1_begun F) fun v7 => K x0 v7

theorem L1_SetWalk_r1_ok (F : Nat) (x0 : Value) (K : Value → Value → M Value) : L1_SetWalk_r1 F x0 K = L1_SetWalk_R F 1 [(0, x0)] [0, 3] K := by kernel_rfl

def L1_SetWalk_r0 (F : Nat) (x0 : Value) (K : Value → M Value) : M Value :=
  K x0

theorem L1_SetWalk_r0_ok (F : Nat) (x0 : Value) (K : Value → M Value) : L1_SetWalk_r0 F x0 K = L1_SetWalk_R F 0 [(0, x0)] [0] K := by kernel_rfl

def L1_SetWalk (F : Nat) (x0 : Value) : M Value :=
  L1_SetWalk_r0 F x0 (fun x0 => L1_SetWalk_r1 F x0 (fun x0 x3 => L1_SetWalk_r2 F x0 x3 (fun x0 x9 => onB x9 (L1_SetWalk_r3 F (fun x2 => ret x2)) (L1_SetWalk_r4 F x0 (fun x0 => L1_SetWalk_r5 F x0 (fun x0 x4 => L1_SetWalk_r6 F x0 x4 (fun x0 x4 x5 => L1_SetWalk_r7 F x0 x4 x5 (fun x0 x4 x5 x6 => L1_SetWalk_l1 F (fun x0 x4 x5 => L1_SetWalk_k0 F x0 x4 x5) F x0 x4 x5 x6))))))))

def L1_SetWalk_m (F : Nat) : List Value → M Value
  | [x0] => L1_SetWalk F x0
  | _ => fail

theorem L1_SetWalk_body : Tryd.f4.body = some (.seq (.region 0 (opsOf Tryd.f4 0) false) (.seq (.region 1 (opsOf Tryd.f4 1) false) (.seq (.seq (.region 2 (opsOf Tryd.f4 2) false) (.cond (.tmp 9) (.seq (.region 3 (opsOf Tryd.f4 3) false) .ret) .skip)) (.seq (.region 4 (opsOf Tryd.f4 4) false) (.seq (.region 5 (opsOf Tryd.f4 5) false) (.seq (.region 6 (opsOf Tryd.f4 6) false) (.seq (.seq (.region 7 (opsOf Tryd.f4 7) false) (.block 0 (.loop (.seq (.seq (.region 8 (opsOf Tryd.f4 8) false) (.cond (.tmp 17) .skip (.exit 0))) (.seq (.block 1 (.seq (.region 10 (opsOf Tryd.f4 10) false) (.seq (.region 11 (opsOf Tryd.f4 11) false) (.cond (.tmp 28) (.seq (.region 12 (opsOf Tryd.f4 12) false) .ret) .skip)))) (.region 9 (opsOf Tryd.f4 9) false)))))) (.seq (.region 13 (opsOf Tryd.f4 13) false) .ret)))))))) := by kernel_rfl

theorem L1_SetWalk_ok (F : Nat) : Sim Tryd.prog TrydG 4 (L1_SetWalk_m F) := by
 have hE : EnvOK Tryd.prog TrydG (L1_SetWalk_env F) := (EnvOK.cons (L1_begun_ok F) (EnvOK.cons (bitset_Set_All_ok F) (EnvOK.cons (L1_Cut_ok F) (EnvOK.cons (bitset_Of_ok F) (EnvOK.cons (bitset_Set_First_ok F) (EnvOK.cons (R1_Eq_ok F) (EnvOK.cons (L1_of_ok F) EnvOK.nil)))))))
 refine Sim.of_body (E := L1_SetWalk_env F) Tryd.func4 L1_SetWalk_body Tryd.call4 ?_ ?_
 · intro args hl; unfold L1_SetWalk_m; split
   · exact absurd hl (Nat.not_lt.2 (Nat.le_of_ble_eq_true rfl))
   · rfl
 · intro args ρ h w z; unfold L1_SetWalk_m; split
   · rename_i x0; show OKc _ _ [(0, x0)] _ _
     refine rSeq ?_
     refine cLess [0] ?_
     refine xR hE [0] rfl (L1_SetWalk_r0_ok F _ _) ?_
     intro x0
     show OKq _ _ _ [(0, x0)] _
     refine rThen ?_
     refine rSeq ?_
     refine cLess [0] ?_
     refine xR hE [0, 3] rfl (L1_SetWalk_r1_ok F _ _) ?_
     intro x0 x3
     show OKq _ _ _ [(3, x3), (0, x0)] _
     refine rThen ?_
     refine rSeq ?_
     refine rSeq ?_
     refine cLess [3, 0] ?_
     refine xR hE [0, 9] rfl (L1_SetWalk_r2_ok F _ _ _) ?_
     intro x0 x9
     show OKq _ _ _ [(9, x9), (0, x0)] _
     refine rThen ?_
     refine xCond rfl rfl ?_ ?_
     · refine rSeq ?_
       refine cLess [] ?_
       refine xR hE [2] rfl (L1_SetWalk_r3_ok F _) ?_
       intro x2
       show OKq _ _ _ [(2, x2)] _
       refine rThen ?_
       refine rRet ?_
       refine xThenR ?_
       exact rDone (.inr rfl) rfl
     · refine rSkip ?_
       refine rThen ?_
       refine rSeq ?_
       refine cLess [0] ?_
       refine xR hE [0] rfl (L1_SetWalk_r4_ok F _ _) ?_
       intro x0
       show OKq _ _ _ [(0, x0)] _
       refine rThen ?_
       refine rSeq ?_
       refine cLess [0] ?_
       refine xR hE [0, 4] rfl (L1_SetWalk_r5_ok F _ _) ?_
       intro x0 x4
       show OKq _ _ _ [(4, x4), (0, x0)] _
       refine rThen ?_
       refine rSeq ?_
       refine cLess [4, 0] ?_
       refine xR hE [0, 4, 5] rfl (L1_SetWalk_r6_ok F _ _ _) ?_
       intro x0 x4 x5
       show OKq _ _ _ [(5, x5), (4, x4), (0, x0)] _
       refine rThen ?_
       refine xSeq [0, 4, 5] (L1_SetWalk_k0 F ) ?_ fun hj0 => ?_
       · intro x0 x4 x5
         show OKc _ _ [(5, x5), (4, x4), (0, x0)] _ _
         refine rSeq ?_
         refine cLess [5, 4, 0] ?_
         refine xR hE [2] rfl (L1_SetWalk_r13_ok F _ _ _ _) ?_
         intro x2
         show OKq _ _ _ [(2, x2)] _
         refine rThen ?_
         refine rRet ?_
         exact rDone (.inr rfl) rfl
       · refine rSeq ?_
         refine cLess [5, 4, 0] ?_
         refine xR hE [0, 4, 5, 6] rfl (L1_SetWalk_r7_ok F _ _ _ _) ?_
         intro x0 x4 x5 x6
         show OKq _ _ _ [(6, x6), (5, x5), (4, x4), (0, x0)] _
         refine rThen ?_
         refine rBlock ?_
         refine cLess [6, 5, 4, 0] ?_
         refine xLoopAt [0, 4, 5, 6] [] (fun k1 => L1_SetWalk_l1 F (fun x0 x4 x5 => L1_SetWalk_k0 F x0 x4 x5) k1) F [x0, x4, x5, x6] rfl rfl (fun _ _ _ _ => rfl) fun I hI1 k1 => ?_
         intro x0 x4 x5 x6
         show OKc _ _ [(6, x6), (5, x5), (4, x4), (0, x0)] _ _
         refine cAs (L1_SetWalk_l1_s F _ _ _ _ _ _) ?_
         refine rSeq ?_
         refine rSeq ?_
         refine cLess [6, 5, 4, 0] ?_
         refine xR hE [0, 4, 5, 6, 17] rfl (L1_SetWalk_r8_ok F _ _ _ _ _) ?_
         intro x0 x4 x5 x6 x17
         show OKq _ _ _ [(17, x17), (6, x6), (5, x5), (4, x4), (0, x0)] _
         refine rThen ?_
         refine xCond rfl rfl ?_ ?_
         · refine rSkip ?_
           refine rThen ?_
           refine rSeq ?_
           refine rBlock ?_
           refine rSeq ?_
           refine cLess [6, 5, 4, 0] ?_
           refine xR hE [0, 4, 5, 6] rfl (L1_SetWalk_r10_ok F _ _ _ _ _) ?_
           intro x0 x4 x5 x6
           show OKq _ _ _ [(6, x6), (5, x5), (4, x4), (0, x0)] _
           refine rThen ?_
           refine rSeq ?_
           refine cLess [6, 5, 4, 0] ?_
           refine xR hE [0, 4, 5, 6, 28] rfl (L1_SetWalk_r11_ok F _ _ _ _ _) ?_
           intro x0 x4 x5 x6 x28
           show OKq _ _ _ [(28, x28), (6, x6), (5, x5), (4, x4), (0, x0)] _
           refine rThen ?_
           refine xCond rfl rfl ?_ ?_
           · refine rSeq ?_
             refine cLess [] ?_
             refine xR hE [2] rfl (L1_SetWalk_r12_ok F _) ?_
             intro x2
             show OKq _ _ _ [(2, x2)] _
             refine rThen ?_
             refine rRet ?_
             refine xBlockR ?_
             refine xThenR ?_
             refine xThenR ?_
             refine xBlockR ?_
             refine xThenR ?_
             exact rDone (.inr rfl) rfl
           · refine rSkip ?_
             refine xBlockN ?_
             refine rThen ?_
             refine cLess [6, 5, 4, 0] ?_
             refine xR hE [0, 4, 5, 6] rfl (L1_SetWalk_r9_ok F _ _ _ _ _) ?_
             intro x0 x4 x5 x6
             show OKq _ _ _ [(6, x6), (5, x5), (4, x4), (0, x0)] _
             exact qLess [6, 5, 4, 0] (hI1 k1 x0 x4 x5 x6)
         · refine rExit ?_
           refine xThenX ?_
           refine xThenX ?_
           refine rOut ?_
           exact qLess [5, 4, 0] (hj0 x0 x4 x5)
   · exact rFail


/-! ### haruspex/haruspexlaw1.SetMany -/

def L1_SetMany_env (F : Nat) : Env := envOf [(9, L1_begun_m F), (10, bitset_Set_Add_m F), (12, bitset_Set_Has_m F), (13, bitset_Set_Len_m F)]

noncomputable def L1_SetMany_R (F : Nat) := rK Tryd.prog TrydG (L1_SetMany_env F) Tryd.f5
noncomputable def L1_SetMany_D (F : Nat) := dK Tryd.prog TrydG (L1_SetMany_env F) Tryd.f5

def L1_SetMany_r19 (F : Nat) (x8 x9 : Value) (K : Value → M Value) : M Value :=
  bnd (bitset_Set_Len F x8) fun v81 => bnd (opBin .eql v81 x9) fun v83 => K v83

theorem L1_SetMany_r19_ok (F : Nat) (x8 x9 : Value) (K : Value → M Value) : L1_SetMany_r19 F x8 x9 K = L1_SetMany_R F 19 [(9, x9), (8, x8)] [6] K := by kernel_rfl

def L1_SetMany_k0 (F : Nat) (x8 x9 : Value) : M Value :=
  L1_SetMany_r19 F x8 x9 (fun x6 => ret x6)

def L1_SetMany_r15 (F : Nat) (x0 x1 x2 x8 x9 x11 : Value) (K : Value → Value → Value → Value → Value → Value → M Value) : M Value :=
  bnd (opBin .add x11 (.int .i64 (1))) fun v58 => K x0 x1 x2 x8 x9 v58

theorem L1_SetMany_r15_ok (F : Nat) (x0 x1 x2 x8 x9 x11 : Value) (K : Value → Value → Value → Value → Value → Value → M Value) : L1_SetMany_r15 F x0 x1 x2 x8 x9 x11 K = L1_SetMany_R F 15 [(11, x11), (9, x9), (8, x8), (2, x2), (1, x1), (0, x0)] [0, 1, 2, 8, 9, 11] K := by kernel_rfl

def L1_SetMany_r18 (F : Nat) (K : Value → M Value) : M Value :=
  K (.bool false)

theorem L1_SetMany_r18_ok (F : Nat) (K : Value → M Value) : L1_SetMany_r18 F K = L1_SetMany_R F 18 [] [6] K := by kernel_rfl

def L1_SetMany_r17 (F : Nat) (x0 x1 x2 x8 x9 x11 x12 : Value) (K : Value → Value → Value → Value → Value → Value → Value → M Value) : M Value :=
  bnd (bitset_Set_Has F x8 x12) fun v66 => bnd (opBin .lss x12 (.int .i64 (5000))) fun v68 => bnd (opEq eqB true v66 v68) fun v69 => onB v69 (K x0 x1 x2 x8 x9 x11 (.bool true)) (bnd (opBin .gtr x2 (.int .i64 (1))) fun v72 => onB v72 (bnd (opBin .add x12 (.int .i64 (1))) fun v76 => bnd (bitset_Set_Has F x8 v76) fun v77 => K x0 x1 x2 x8 x9 x11 v77) (K x0 x1 x2 x8 x9 x11 (.bool false)))

theorem L1_SetMany_r17_ok (F : Nat) (x0 x1 x2 x8 x9 x11 x12 : Value) (K : Value → Value → Value → Value → Value → Value → Value → M Value) : L1_SetMany_r17 F x0 x1 x2 x8 x9 x11 x12 K = L1_SetMany_R F 17 [(12, x12), (11, x11), (9, x9), (8, x8), (2, x2), (1, x1), (0, x0)] [0, 1, 2, 8, 9, 11, 79] K := by kernel_rfl

def L1_SetMany_r16 (F : Nat) (x0 x1 x2 x8 x9 x11 : Value) (K : Value → Value → Value → Value → Value → Value → Value → M Value) : M Value :=
  bnd (opBin .mul x11 x2) fun v62 => bnd (opBin .add x0 v62) fun v63 => K x0 x1 x2 x8 x9 x11 v63

theorem L1_SetMany_r16_ok (F : Nat) (x0 x1 x2 x8 x9 x11 : Value) (K : Value → Value → Value → Value → Value → Value → Value → M Value) : L1_SetMany_r16 F x0 x1 x2 x8 x9 x11 K = L1_SetMany_R F 16 [(11, x11), (9, x9), (8, x8), (2, x2), (1, x1), (0, x0)] [0, 1, 2, 8, 9, 11, 12] K := by kernel_rfl

def L1_SetMany_r14 (F : Nat) (x0 x1 x2 x8 x9 x11 : Value) (K : Value → Value → Value → Value → Value → Value → Value → M Value) : M Value :=
  bnd (opBin .lss x11 x1) fun v56 => K x0 x1 x2 x8 x9 x11 v56

theorem L1_SetMany_r14_ok (F : Nat) (x0 x1 x2 x8 x9 x11 : Value) (K : Value → Value → Value → Value → Value → Value → Value → M Value) : L1_SetMany_r14 F x0 x1 x2 x8 x9 x11 K = L1_SetMany_R F 14 [(11, x11), (9, x9), (8, x8), (2, x2), (1, x1), (0, x0)] [0, 1, 2, 8, 9, 11, 56] K := by kernel_rfl

def L1_SetMany_b1 (F : Nat) (E1_2 : Value → Value → M Value) (A1 : Value → Value → Value → Value → Value → Value → M Value) (x0 x1 x2 x8 x9 x11 : Value) : M Value :=
  L1_SetMany_r14 F x0 x1 x2 x8 x9 x11 (fun x0 x1 x2 x8 x9 x11 x56 => onB x56 (L1_SetMany_r16 F x0 x1 x2 x8 x9 x11 (fun x0 x1 x2 x8 x9 x11 x12 => L1_SetMany_r17 F x0 x1 x2 x8 x9 x11 x12 (fun x0 x1 x2 x8 x9 x11 x79 => onB x79 (L1_SetMany_r18 F (fun x6 => ret x6)) (L1_SetMany_r15 F x0 x1 x2 x8 x9 x11 (fun x0 x1 x2 x8 x9 x11 => A1 x0 x1 x2 x8 x9 x11))))) (E1_2 x8 x9))

def L1_SetMany_l1 (F : Nat) (E1_2 : Value → Value → M Value) : Nat → Value → Value → Value → Value → Value → Value → M Value
  | 0, _, _, _, _, _, _ => fail
  | k1 + 1, x0, x1, x2, x8, x9, x11 => L1_SetMany_b1 F E1_2 (L1_SetMany_l1 F E1_2 k1) x0 x1 x2 x8 x9 x11

theorem L1_SetMany_l1_s (F : Nat) (E1_2 : Value → Value → M Value) (k1 : Nat) (x0 x1 x2 x8 x9 x11 : Value) : L1_SetMany_l1 F E1_2 (k1 + 1) x0 x1 x2 x8 x9 x11 = L1_SetMany_b1 F E1_2 (L1_SetMany_l1 F E1_2 k1) x0 x1 x2 x8 x9 x11 := rfl

def L1_SetMany_r13 (F : Nat) (x0 x1 x2 x8 x9 : Value) (K : Value → Value → Value → Value → Value → Value → M Value) : M Value :=
  K x0 x1 x2 x8 x9 (.int .i64 (0))

theorem L1_SetMany_r13_ok (F : Nat) (x0 x1 x2 x8 x9 : Value) (K : Value → Value → Value → Value → Value → Value → M Value) : L1_SetMany_r13 F x0 x1 x2 x8 x9 K = L1_SetMany_R F 13 [(9, x9), (8, x8), (2, x2), (1, x1), (0, x0)] [0, 1, 2, 8, 9, 11] K := by kernel_rfl

def L1_SetMany_k2 (F : Nat) (x0 x1 x2 x8 x9 : Value) : M Value :=
  L1_SetMany_r13 F x0 x1 x2 x8 x9 (fun x0 x1 x2 x8 x9 x11 => L1_SetMany_l1 F (fun x8 x9 => L1_SetMany_k0 F x8 x9) F x0 x1 x2 x8 x9 x11)

def L1_SetMany_r10 (F : Nat) (x0 x1 x2 x8 x9 x10 : Value) (K : Value → Value → Value → Value → Value → Value → M Value) : M Value :=
  bnd (opBin .add x10 (.int .i64 (1))) fun v44 => K x0 x1 x2 x8 x9 v44

theorem L1_SetMany_r10_ok (F : Nat) (x0 x1 x2 x8 x9 x10 : Value) (K : Value → Value → Value → Value → Value → Value → M Value) : L1_SetMany_r10 F x0 x1 x2 x8 x9 x10 K = L1_SetMany_R F 10 [(10, x10), (9, x9), (8, x8), (2, x2), (1, x1), (0, x0)] [0, 1, 2, 8, 9, 10] K := by kernel_rfl

def L1_SetMany_k4 (F : Nat) (A3 : Value → Value → Value → Value → Value → Value → M Value) (x0 x1 x2 x8 x9 x10 : Value) : M Value :=
  L1_SetMany_r10 F x0 x1 x2 x8 x9 x10 (fun x0 x1 x2 x8 x9 x10 => A3 x0 x1 x2 x8 x9 x10)

def L1_SetMany_r12 (F : Nat) (x0 x1 x2 x8 x9 x10 : Value) (K : Value → Value → Value → Value → Value → Value → M Value) : M Value :=
  bnd (opBin .add x9 (.int .i64 (1))) fun v53 => K x0 x1 x2 x8 v53 x10

theorem L1_SetMany_r12_ok (F : Nat) (x0 x1 x2 x8 x9 x10 : Value) (K : Value → Value → Value → Value → Value → Value → M Value) : L1_SetMany_r12 F x0 x1 x2 x8 x9 x10 K = L1_SetMany_R F 12 [(10, x10), (9, x9), (8, x8), (2, x2), (1, x1), (0, x0)] [0, 1, 2, 8, 9, 10] K := by kernel_rfl

def L1_SetMany_r11 (F : Nat) (x0 x1 x2 x8 x9 x10 : Value) (K : Value → Value → Value → Value → Value → Value → Value → M Value) : M Value :=
  bnd (opBin .mul x10 x2) fun v49 => bnd (opBin .add x0 v49) fun v50 => bnd (bitset_Set_Add F x8 v50) fun v51 => K x0 x1 x2 x8 x9 x10 v51

theorem L1_SetMany_r11_ok (F : Nat) (x0 x1 x2 x8 x9 x10 : Value) (K : Value → Value → Value → Value → Value → Value → Value → M Value) : L1_SetMany_r11 F x0 x1 x2 x8 x9 x10 K = L1_SetMany_R F 11 [(10, x10), (9, x9), (8, x8), (2, x2), (1, x1), (0, x0)] [0, 1, 2, 8, 9, 10, 51] K := by kernel_rfl

def L1_SetMany_r9 (F : Nat) (x0 x1 x2 x8 x9 x10 : Value) (K : Value → Value → Value → Value → Value → Value → Value → M Value) : M Value :=
  bnd (opBin .lss x10 x1) fun v42 => K x0 x1 x2 x8 x9 x10 v42

theorem L1_SetMany_r9_ok (F : Nat) (x0 x1 x2 x8 x9 x10 : Value) (K : Value → Value → Value → Value → Value → Value → Value → M Value) : L1_SetMany_r9 F x0 x1 x2 x8 x9 x10 K = L1_SetMany_R F 9 [(10, x10), (9, x9), (8, x8), (2, x2), (1, x1), (0, x0)] [0, 1, 2, 8, 9, 10, 42] K := by kernel_rfl

def L1_SetMany_b3 (F : Nat) (E3_0 : Value → Value → Value → Value → Value → M Value) (A3 : Value → Value → Value → Value → Value → Value → M Value) (x0 x1 x2 x8 x9 x10 : Value) : M Value :=
  L1_SetMany_r9 F x0 x1 x2 x8 x9 x10 (fun x0 x1 x2 x8 x9 x10 x42 => onB x42 (L1_SetMany_r11 F x0 x1 x2 x8 x9 x10 (fun x0 x1 x2 x8 x9 x10 x51 => onB x51 (L1_SetMany_r12 F x0 x1 x2 x8 x9 x10 (fun x0 x1 x2 x8 x9 x10 => L1_SetMany_k4 F A3 x0 x1 x2 x8 x9 x10)) (L1_SetMany_k4 F A3 x0 x1 x2 x8 x9 x10))) (E3_0 x0 x1 x2 x8 x9))

def L1_SetMany_l3 (F : Nat) (E3_0 : Value → Value → Value → Value → Value → M Value) : Nat → Value → Value → Value → Value → Value → Value → M Value
  | 0, _, _, _, _, _, _ => fail
  | k3 + 1, x0, x1, x2, x8, x9, x10 => L1_SetMany_b3 F E3_0 (L1_SetMany_l3 F E3_0 k3) x0 x1 x2 x8 x9 x10

theorem L1_SetMany_l3_s (F : Nat) (E3_0 : Value → Value → Value → Value → Value → M Value) (k3 : Nat) (x0 x1 x2 x8 x9 x10 : Value) : L1_SetMany_l3 F E3_0 (k3 + 1) x0 x1 x2 x8 x9 x10 = L1_SetMany_b3 F E3_0 (L1_SetMany_l3 F E3_0 k3) x0 x1 x2 x8 x9 x10 := rfl

def L1_SetMany_r8 (F : Nat) (x0 x1 x2 x8 x9 : Value) (K : Value → Value → Value → Value → Value → Value → M Value) : M Value :=
  K x0 x1 x2 x8 x9 (.int .i64 (0))

theorem L1_SetMany_r8_ok (F : Nat) (x0 x1 x2 x8 x9 : Value) (K : Value → Value → Value → Value → Value → Value → M Value) : L1_SetMany_r8 F x0 x1 x2 x8 x9 K = L1_SetMany_R F 8 [(9, x9), (8, x8), (2, x2), (1, x1), (0, x0)] [0, 1, 2, 8, 9, 10] K := by kernel_rfl

def L1_SetMany_r7 (F : Nat) (x0 x1 x2 x8 : Value) (K : Value → Value → Value → Value → Value → M Value) : M Value :=
  K x0 x1 x2 x8 (.int .i64 (0))

theorem L1_SetMany_r7_ok (F : Nat) (x0 x1 x2 x8 : Value) (K : Value → Value → Value → Value → Value → M Value) : L1_SetMany_r7 F x0 x1 x2 x8 K = L1_SetMany_R F 7 [(8, x8), (2, x2), (1, x1), (0, x0)] [0, 1, 2, 8, 9] K := by kernel_rfl

def L1_SetMany_r6 (F : Nat) (x0 x1 x2 : Value) (K : Value → Value → Value → Value → M Value) : M Value :=
  bnd (opBuild [(.slice none 0 0)] []) fun v38 => bnd (opBoxN v38) fun v39 => K x0 x1 x2 v39

theorem L1_SetMany_r6_ok (F : Nat) (x0 x1 x2 : Value) (K : Value → Value → Value → Value → M Value) : L1_SetMany_r6 F x0 x1 x2 K = L1_SetMany_R F 6 [(2, x2), (1, x1), (0, x0)] [0, 1, 2, 8] K := by kernel_rfl

def L1_SetMany_r5 (F : Nat) (K : Value → M Value) : M Value :=
  K (.bool true)

theorem L1_SetMany_r5_ok (F : Nat) (K : Value → M Value) : L1_SetMany_r5 F K = L1_SetMany_R F 5 [] [6] K := by kernel_rfl

def L1_SetMany_r4 (F : Nat) (x0 x1 x2 : Value) (K : Value → Value → Value → Value → M Value) : M Value :=
  bnd (opBin .lss x0 (.int .i64 (0))) fun v17 => onB v17 (K x0 x1 x2 (.bool true)) (bnd (opBin .gtr x0 (.int .i64 (4000))) fun v20 => onB v20 (K x0 x1 x2 (.bool true)) (bnd (opBin .lss x1 (.int .i64 (0))) fun v24 => onB v24 (K x0 x1 x2 (.bool true)) (bnd (opBin .gtr x1 (.int .i64 (300))) fun v28 => onB v28 (K x0 x1 x2 (.bool true)) (bnd (opBin .lss x2 (.int .i64 (1))) fun v32 => onB v32 (K x0 x1 x2 (.bool true)) (bnd (opBin .gtr x2 (.int .i64 (20))) fun v36 => K x0 x1 x2 v36)))))

theorem L1_SetMany_r4_ok (F : Nat) (x0 x1 x2 : Value) (K : Value → Value → Value → Value → M Value) : L1_SetMany_r4 F x0 x1 x2 K = L1_SetMany_R F 4 [(2, x2), (1, x1), (0, x0)] [0, 1, 2, 37] K := by kernel_rfl

def L1_SetMany_r3 (F : Nat) (K : Value → M Value) : M Value :=
  K (.bool false)

theorem L1_SetMany_r3_ok (F : Nat) (K : Value → M Value) : L1_SetMany_r3 F K = L1_SetMany_R F 3 [] [6] K := by kernel_rfl

def L1_SetMany_r2 (F : Nat) (x0 x1 x2 x7 : Value) (K : Value → Value → Value → Value → M Value) : M Value :=
  bnd (opNot x7) fun v15 => K x0 x1 x2 v15

theorem L1_SetMany_r2_ok (F : Nat) (x0 x1 x2 x7 : Value) (K : Value → Value → Value → Value → M Value) : L1_SetMany_r2 F x0 x1 x2 x7 K = L1_SetMany_R F 2 [(7, x7), (2, x2), (1, x1), (0, x0)] [0, 1, 2, 15] K := by kernel_rfl

def L1_SetMany_r1 (F : Nat) (x0 x1 x2 : Value) (K : Value → Value → Value → Value → M Value) : M Value :=
  bnd (L1_begun F) fun v13 => K x0 x1 x2 v13

theorem L1_SetMany_r1_ok (F : Nat) (x0 x1 x2 : Value) (K : Value → Value → Value → Value → M Value) : L1_SetMany_r1 F x0 x1 x2 K = L1_SetMany_R F 1 [(2, x2), (1, x1), (0, x0)] [0, 1, 2, 7] K := by kernel_rfl

def L1_SetMany_r0 (F : Nat) (x0 x1 x2 : Value) (K : Value → Value → Value → M Value) : M Value :=
  K x0 x1 x2

theorem L1_SetMany_r0_ok (F : Nat) (x0 x1 x2 : Value) (K : Value → Value → Value → M Value) : L1_SetMany_r0 F x0 x1 x2 K = L1_SetMany_R F 0 [(2, x2), (1, x1), (0, x0)] [0, 1, 2] K := by kernel_rfl

def L1_SetMany (F : Nat) (x0 x1 x2 : Value) : M Value :=
  L1_SetMany_r0 F x0 x1 x2 (fun x0 x1 x2 => L1_SetMany_r1 F x0 x1 x2 (fun x0 x1 x2 x7 => L1_SetMany_r2 F x0 x1 x2 x7 (fun x0 x1 x2 x15 => onB x15 (L1_SetMany_r3 F (fun x6 => ret x6)) (L1_SetMany_r4 F x0 x1 x2 (fun x0 x1 x2 x37 => onB x37 (L1_SetMany_r5 F (fun x6 => ret x6)) (L1_SetMany_r6 F x0 x1 x2 (fun x0 x1 x2 x8 => L1_SetMany_r7 F x0 x1 x2 x8 (fun x0 x1 x2 x8 x9 => L1_SetMany_r8 F x0 x1 x2 x8 x9 (fun x0 x1 x2 x8 x9 x10 => L1_SetMany_l3 F (fun x0 x1 x2 x8 x9 => L1_SetMany_k2 F x0 x1 x2 x8 x9) F x0 x1 x2 x8 x9 x10)))))))))

def L1_SetMany_m (F : Nat) : List Value → M Value
  | [x0, x1, x2] => L1_SetMany F x0 x1 x2
  | _ => fail

theorem L1_SetMany_body : Tryd.f5.body = some (.seq (.region 0 (opsOf Tryd.f5 0) false) (.seq (.region 1 (opsOf Tryd.f5 1) false) (.seq (.seq (.region 2 (opsOf Tryd.f5 2) false) (.cond (.tmp 15) (.seq (.region 3 (opsOf Tryd.f5 3) false) .ret) .skip)) (.seq (.seq (.region 4 (opsOf Tryd.f5 4) false) (.cond (.tmp 37) (.seq (.region 5 (opsOf Tryd.f5 5) false) .ret) .skip)) (.seq (.region 6 (opsOf Tryd.f5 6) false) (.seq (.region 7 (opsOf Tryd.f5 7) false) (.seq (.seq (.region 8 (opsOf Tryd.f5 8) false) (.block 0 (.loop (.seq (.seq (.region 9 (opsOf Tryd.f5 9) false) (.cond (.tmp 42) .skip (.exit 0))) (.seq (.block 1 (.seq (.region 11 (opsOf Tryd.f5 11) false) (.cond (.tmp 51) (.region 12 (opsOf Tryd.f5 12) false) .skip))) (.region 10 (opsOf Tryd.f5 10) false)))))) (.seq (.seq (.region 13 (opsOf Tryd.f5 13) false) (.block 2 (.loop (.seq (.seq (.region 14 (opsOf Tryd.f5 14) false) (.cond (.tmp 56) .skip (.exit 2))) (.seq (.block 3 (.seq (.region 16 (opsOf Tryd.f5 16) false) (.seq (.region 17 (opsOf Tryd.f5 17) false) (.cond (.tmp 79) (.seq (.region 18 (opsOf Tryd.f5 18) false) .ret) .skip)))) (.region 15 (opsOf Tryd.f5 15) false)))))) (.seq (.region 19 (opsOf Tryd.f5 19) false) .ret))))))))) := by kernel_rfl

theorem L1_SetMany_ok (F : Nat) : Sim Tryd.prog TrydG 5 (L1_SetMany_m F) := by
 have hE : EnvOK Tryd.prog TrydG (L1_SetMany_env F) := (EnvOK.cons (L1_begun_ok F) (EnvOK.cons (bitset_Set_Add_ok F) (EnvOK.cons (bitset_Set_Has_ok F) (EnvOK.cons (bitset_Set_Len_ok F) EnvOK.nil))))
 refine Sim.of_body (E := L1_SetMany_env F) Tryd.func5 L1_SetMany_body Tryd.call5 ?_ ?_
 · intro args hl; unfold L1_SetMany_m; split
   · exact absurd hl (Nat.not_lt.2 (Nat.le_of_ble_eq_true rfl))
   · rfl
 · intro args ρ h w z; unfold L1_SetMany_m; split
   · rename_i x0 x1 x2; show OKc _ _ [(0, x0), (1, x1), (2, x2)] _ _
     refine rSeq ?_
     refine cLess [2, 1, 0] ?_
     refine xR hE [0, 1, 2] rfl (L1_SetMany_r0_ok F _ _ _ _) ?_
     intro x0 x1 x2
     show OKq _ _ _ [(2, x2), (1, x1), (0, x0)] _
     refine rThen ?_
     refine rSeq ?_
     refine cLess [2, 1, 0] ?_
     refine xR hE [0, 1, 2, 7] rfl (L1_SetMany_r1_ok F _ _ _ _) ?_
     intro x0 x1 x2 x7
     show OKq _ _ _ [(7, x7), (2, x2), (1, x1), (0, x0)] _
     refine rThen ?_
     refine rSeq ?_
     refine rSeq ?_
     refine cLess [7, 2, 1, 0] ?_
     refine xR hE [0, 1, 2, 15] rfl (L1_SetMany_r2_ok F _ _ _ _ _) ?_
     intro x0 x1 x2 x15
     show OKq _ _ _ [(15, x15), (2, x2), (1, x1), (0, x0)] _
     refine rThen ?_
     refine xCond rfl rfl ?_ ?_
     · refine rSeq ?_
       refine cLess [] ?_
       refine xR hE [6] rfl (L1_SetMany_r3_ok F _) ?_
       intro x6
       show OKq _ _ _ [(6, x6)] _
       refine rThen ?_
       refine rRet ?_
       refine xThenR ?_
       exact rDone (.inr rfl) rfl
     · refine rSkip ?_
       refine rThen ?_
       refine rSeq ?_
       refine rSeq ?_
       refine cLess [2, 1, 0] ?_
       refine xR hE [0, 1, 2, 37] rfl (L1_SetMany_r4_ok F _ _ _ _) ?_
       intro x0 x1 x2 x37
       show OKq _ _ _ [(37, x37), (2, x2), (1, x1), (0, x0)] _
       refine rThen ?_
       refine xCond rfl rfl ?_ ?_
       · refine rSeq ?_
         refine cLess [] ?_
         refine xR hE [6] rfl (L1_SetMany_r5_ok F _) ?_
         intro x6
         show OKq _ _ _ [(6, x6)] _
         refine rThen ?_
         refine rRet ?_
         refine xThenR ?_
         exact rDone (.inr rfl) rfl
       · refine rSkip ?_
         refine rThen ?_
         refine rSeq ?_
         refine cLess [2, 1, 0] ?_
         refine xR hE [0, 1, 2, 8] rfl (L1_SetMany_r6_ok F _ _ _ _) ?_
         intro x0 x1 x2 x8
         show OKq _ _ _ [(8, x8), (2, x2), (1, x1), (0, x0)] _
         refine rThen ?_
         refine rSeq ?_
         refine cLess [8, 2, 1, 0] ?_
         refine xR hE [0, 1, 2, 8, 9] rfl (L1_SetMany_r7_ok F _ _ _ _ _) ?_
         intro x0 x1 x2 x8 x9
         show OKq _ _ _ [(9, x9), (8, x8), (2, x2), (1, x1), (0, x0)] _
         refine rThen ?_
         refine xSeq [0, 1, 2, 8, 9] (L1_SetMany_k2 F ) ?_ fun hj2 => ?_
         · intro x0 x1 x2 x8 x9
           show OKc _ _ [(9, x9), (8, x8), (2, x2), (1, x1), (0, x0)] _ _
           refine xSeq [8, 9] (L1_SetMany_k0 F ) ?_ fun hj0 => ?_
           · intro x8 x9
             show OKc _ _ [(9, x9), (8, x8)] _ _
             refine rSeq ?_
             refine cLess [9, 8] ?_
             refine xR hE [6] rfl (L1_SetMany_r19_ok F _ _ _) ?_
             intro x6
             show OKq _ _ _ [(6, x6)] _
             refine rThen ?_
             refine rRet ?_
             exact rDone (.inr rfl) rfl
           · refine rSeq ?_
             refine cLess [9, 8, 2, 1, 0] ?_
             refine xR hE [0, 1, 2, 8, 9, 11] rfl (L1_SetMany_r13_ok F _ _ _ _ _ _) ?_
             intro x0 x1 x2 x8 x9 x11
             show OKq _ _ _ [(11, x11), (9, x9), (8, x8), (2, x2), (1, x1), (0, x0)] _
             refine rThen ?_
             refine rBlock ?_
             refine cLess [11, 9, 8, 2, 1, 0] ?_
             refine xLoopAt [0, 1, 2, 8, 9, 11] [] (fun k1 => L1_SetMany_l1 F (fun x8 x9 => L1_SetMany_k0 F x8 x9) k1) F [x0, x1, x2, x8, x9, x11] rfl rfl (fun _ _ _ _ _ _ => rfl) fun I hI1 k1 => ?_
             intro x0 x1 x2 x8 x9 x11
             show OKc _ _ [(11, x11), (9, x9), (8, x8), (2, x2), (1, x1), (0, x0)] _ _
             refine cAs (L1_SetMany_l1_s F _ _ _ _ _ _ _ _) ?_
             refine rSeq ?_
             refine rSeq ?_
             refine cLess [11, 9, 8, 2, 1, 0] ?_
             refine xR hE [0, 1, 2, 8, 9, 11, 56] rfl (L1_SetMany_r14_ok F _ _ _ _ _ _ _) ?_
             intro x0 x1 x2 x8 x9 x11 x56
             show OKq _ _ _ [(56, x56), (11, x11), (9, x9), (8, x8), (2, x2), (1, x1), (0, x0)] _
             refine rThen ?_
             refine xCond rfl rfl ?_ ?_
             · refine rSkip ?_
               refine rThen ?_
               refine rSeq ?_
               refine rBlock ?_
               refine rSeq ?_
               refine cLess [11, 9, 8, 2, 1, 0] ?_
               refine xR hE [0, 1, 2, 8, 9, 11, 12] rfl (L1_SetMany_r16_ok F _ _ _ _ _ _ _) ?_
               intro x0 x1 x2 x8 x9 x11 x12
               show OKq _ _ _ [(12, x12), (11, x11), (9, x9), (8, x8), (2, x2), (1, x1), (0, x0)] _
               refine rThen ?_
               refine rSeq ?_
               refine cLess [12, 11, 9, 8, 2, 1, 0] ?_
               refine xR hE [0, 1, 2, 8, 9, 11, 79] rfl (L1_SetMany_r17_ok F _ _ _ _ _ _ _ _) ?_
               intro x0 x1 x2 x8 x9 x11 x79
               show OKq _ _ _ [(79, x79), (11, x11), (9, x9), (8, x8), (2, x2), (1, x1), (0, x0)] _
               refine rThen ?_
               refine xCond rfl rfl ?_ ?_
               · refine rSeq ?_
                 refine cLess [] ?_
                 refine xR hE [6] rfl (L1_SetMany_r18_ok F _) ?_
                 intro x6
                 show OKq _ _ _ [(6, x6)] _
                 refine rThen ?_
                 refine rRet ?_
                 refine xBlockR ?_
                 refine xThenR ?_
                 refine xThenR ?_
                 refine xBlockR ?_
                 refine xThenR ?_
                 exact rDone (.inr rfl) rfl
               · refine rSkip ?_
                 refine xBlockN ?_
                 refine rThen ?_
                 refine cLess [11, 9, 8, 2, 1, 0] ?_
                 refine xR hE [0, 1, 2, 8, 9, 11] rfl (L1_SetMany_r15_ok F _ _ _ _ _ _ _) ?_
                 intro x0 x1 x2 x8 x9 x11
                 show OKq _ _ _ [(11, x11), (9, x9), (8, x8), (2, x2), (1, x1), (0, x0)] _
                 exact qLess [11, 9, 8, 2, 1, 0] (hI1 k1 x0 x1 x2 x8 x9 x11)
             · refine rExit ?_
               refine xThenX ?_
               refine xThenX ?_
               refine rOut ?_
               exact qLess [9, 8] (hj0 x8 x9)
         · refine rSeq ?_
           refine cLess [9, 8, 2, 1, 0] ?_
           refine xR hE [0, 1, 2, 8, 9, 10] rfl (L1_SetMany_r8_ok F _ _ _ _ _ _) ?_
           intro x0 x1 x2 x8 x9 x10
           show OKq _ _ _ [(10, x10), (9, x9), (8, x8), (2, x2), (1, x1), (0, x0)] _
           refine rThen ?_
           refine rBlock ?_
           refine cLess [10, 9, 8, 2, 1, 0] ?_
           refine xLoopAt [0, 1, 2, 8, 9, 10] [] (fun k3 => L1_SetMany_l3 F (fun x0 x1 x2 x8 x9 => L1_SetMany_k2 F x0 x1 x2 x8 x9) k3) F [x0, x1, x2, x8, x9, x10] rfl rfl (fun _ _ _ _ _ _ => rfl) fun I hI3 k3 => ?_
           intro x0 x1 x2 x8 x9 x10
           show OKc _ _ [(10, x10), (9, x9), (8, x8), (2, x2), (1, x1), (0, x0)] _ _
           refine cAs (L1_SetMany_l3_s F _ _ _ _ _ _ _ _) ?_
           refine rSeq ?_
           refine rSeq ?_
           refine cLess [10, 9, 8, 2, 1, 0] ?_
           refine xR hE [0, 1, 2, 8, 9, 10, 42] rfl (L1_SetMany_r9_ok F _ _ _ _ _ _ _) ?_
           intro x0 x1 x2 x8 x9 x10 x42
           show OKq _ _ _ [(42, x42), (10, x10), (9, x9), (8, x8), (2, x2), (1, x1), (0, x0)] _
           refine rThen ?_
           refine xCond rfl rfl ?_ ?_
           · refine rSkip ?_
             refine rThen ?_
             refine xSeq [0, 1, 2, 8, 9, 10] (L1_SetMany_k4 F (L1_SetMany_l3 F (fun x0 x1 x2 x8 x9 => L1_SetMany_k2 F x0 x1 x2 x8 x9) k3) ) ?_ fun hj4 => ?_
             · intro x0 x1 x2 x8 x9 x10
               show OKc _ _ [(10, x10), (9, x9), (8, x8), (2, x2), (1, x1), (0, x0)] _ _
               refine cLess [10, 9, 8, 2, 1, 0] ?_
               refine xR hE [0, 1, 2, 8, 9, 10] rfl (L1_SetMany_r10_ok F _ _ _ _ _ _ _) ?_
               intro x0 x1 x2 x8 x9 x10
               show OKq _ _ _ [(10, x10), (9, x9), (8, x8), (2, x2), (1, x1), (0, x0)] _
               exact qLess [10, 9, 8, 2, 1, 0] (hI3 k3 x0 x1 x2 x8 x9 x10)
             · refine rBlock ?_
               refine rSeq ?_
               refine cLess [10, 9, 8, 2, 1, 0] ?_
               refine xR hE [0, 1, 2, 8, 9, 10, 51] rfl (L1_SetMany_r11_ok F _ _ _ _ _ _ _) ?_
               intro x0 x1 x2 x8 x9 x10 x51
               show OKq _ _ _ [(51, x51), (10, x10), (9, x9), (8, x8), (2, x2), (1, x1), (0, x0)] _
               refine rThen ?_
               refine xCond rfl rfl ?_ ?_
               · refine cLess [10, 9, 8, 2, 1, 0] ?_
                 refine xR hE [0, 1, 2, 8, 9, 10] rfl (L1_SetMany_r12_ok F _ _ _ _ _ _ _) ?_
                 intro x0 x1 x2 x8 x9 x10
                 show OKq _ _ _ [(10, x10), (9, x9), (8, x8), (2, x2), (1, x1), (0, x0)] _
                 refine xBlockN ?_
                 exact qLess [10, 9, 8, 2, 1, 0] (hj4 x0 x1 x2 x8 x9 x10)
               · refine rSkip ?_
                 refine xBlockN ?_
                 exact qLess [10, 9, 8, 2, 1, 0] (hj4 x0 x1 x2 x8 x9 x10)
           · refine rExit ?_
             refine xThenX ?_
             refine xThenX ?_
             refine rOut ?_
             exact qLess [9, 8, 2, 1, 0] (hj2 x0 x1 x2 x8 x9)
   · exact rFail


/-! ### haruspex/haruspexlaw1.SetOrder -/

def L1_SetOrder_env (F : Nat) : Env := envOf [(9, L1_begun_m F), (10, bitset_Set_Add_m F), (16, L1_Cut_m F), (17, bitset_Of_m F), (21, bitset_Set_Eq_m F)]

noncomputable def L1_SetOrder_R (F : Nat) := rK Tryd.prog TrydG (L1_SetOrder_env F) Tryd.f6
noncomputable def L1_SetOrder_D (F : Nat) := dK Tryd.prog TrydG (L1_SetOrder_env F) Tryd.f6

def L1_SetOrder_r14 (F : Nat) (x7 x8 : Value) (K : Value → M Value) : M Value :=
  bnd (bitset_Set_Eq F x7 x8) fun v60 => onB v60 (bnd (bitset_Set_Eq F x8 x7) fun v64 => K v64) (K (.bool false))

theorem L1_SetOrder_r14_ok (F : Nat) (x7 x8 : Value) (K : Value → M Value) : L1_SetOrder_r14 F x7 x8 K = L1_SetOrder_R F 14 [(8, x8), (7, x7)] [4] K := by kernel_rfl

def L1_SetOrder_k0 (F : Nat) (x7 x8 : Value) : M Value :=
  L1_SetOrder_r14 F x7 x8 (fun x4 => ret x4)

def L1_SetOrder_r11 (F : Nat) (x0 x6 x7 x8 x9 : Value) (K : Value → Value → Value → Value → Value → M Value) : M Value :=
  bnd (opBin .add x9 (.int .i64 (1))) fun v35 => K x0 x6 x7 x8 v35

theorem L1_SetOrder_r11_ok (F : Nat) (x0 x6 x7 x8 x9 : Value) (K : Value → Value → Value → Value → Value → M Value) : L1_SetOrder_r11 F x0 x6 x7 x8 x9 K = L1_SetOrder_R F 11 [(9, x9), (8, x8), (7, x7), (6, x6), (0, x0)] [0, 6, 7, 8, 9] K := by kernel_rfl

def L1_SetOrder_r13 (F : Nat) (x0 x6 x7 x8 x9 : Value) (K : Value → Value → Value → Value → Value → M Value) : M Value :=
  bnd (opLen x0) fun v51 => bnd (opBin .sub v51 (.int .i64 (1))) fun v52 => bnd (opBin .sub v52 x9) fun v54 => bnd (opIndexAddr 1 x0 v54) fun v55 => bnd (opLoad v55) fun v56 => bnd (bitset_Set_Add F x8 v56) fun v57 => K x0 x6 x7 x8 x9

theorem L1_SetOrder_r13_ok (F : Nat) (x0 x6 x7 x8 x9 : Value) (K : Value → Value → Value → Value → Value → M Value) : L1_SetOrder_r13 F x0 x6 x7 x8 x9 K = L1_SetOrder_R F 13 [(9, x9), (8, x8), (7, x7), (6, x6), (0, x0)] [0, 6, 7, 8, 9] K := by kernel_rfl

def L1_SetOrder_r12 (F : Nat) (x0 x6 x7 x8 x9 : Value) (K : Value → Value → Value → Value → Value → M Value) : M Value :=
  bnd (opBin .mul x9 (.int .i64 (7))) fun v39 => bnd (opBin .add v39 x6) fun v41 => bnd (opLen x0) fun v43 => bnd (opBin .rem v41 v43) fun v44 => bnd (opIndexAddr 1 x0 v44) fun v45 => bnd (opLoad v45) fun v46 => bnd (bitset_Set_Add F x8 v46) fun v47 => K x0 x6 x7 x8 x9

theorem L1_SetOrder_r12_ok (F : Nat) (x0 x6 x7 x8 x9 : Value) (K : Value → Value → Value → Value → Value → M Value) : L1_SetOrder_r12 F x0 x6 x7 x8 x9 K = L1_SetOrder_R F 12 [(9, x9), (8, x8), (7, x7), (6, x6), (0, x0)] [0, 6, 7, 8, 9] K := by kernel_rfl

def L1_SetOrder_r10 (F : Nat) (x0 x6 x7 x8 x9 : Value) (K : Value → Value → Value → Value → Value → Value → M Value) : M Value :=
  bnd (opLen x0) fun v32 => bnd (opBin .lss x9 v32) fun v33 => K x0 x6 x7 x8 x9 v33

theorem L1_SetOrder_r10_ok (F : Nat) (x0 x6 x7 x8 x9 : Value) (K : Value → Value → Value → Value → Value → Value → M Value) : L1_SetOrder_r10 F x0 x6 x7 x8 x9 K = L1_SetOrder_R F 10 [(9, x9), (8, x8), (7, x7), (6, x6), (0, x0)] [0, 6, 7, 8, 9, 33] K := by kernel_rfl

def L1_SetOrder_b1 (F : Nat) (E1_0 : Value → Value → M Value) (A1 : Value → Value → Value → Value → Value → M Value) (x0 x6 x7 x8 x9 : Value) : M Value :=
  L1_SetOrder_r10 F x0 x6 x7 x8 x9 (fun x0 x6 x7 x8 x9 x33 => onB x33 (L1_SetOrder_r12 F x0 x6 x7 x8 x9 (fun x0 x6 x7 x8 x9 => L1_SetOrder_r13 F x0 x6 x7 x8 x9 (fun x0 x6 x7 x8 x9 => L1_SetOrder_r11 F x0 x6 x7 x8 x9 (fun x0 x6 x7 x8 x9 => A1 x0 x6 x7 x8 x9)))) (E1_0 x7 x8))

def L1_SetOrder_l1 (F : Nat) (E1_0 : Value → Value → M Value) : Nat → Value → Value → Value → Value → Value → M Value
  | 0, _, _, _, _, _ => fail
  | k1 + 1, x0, x6, x7, x8, x9 => L1_SetOrder_b1 F E1_0 (L1_SetOrder_l1 F E1_0 k1) x0 x6 x7 x8 x9

theorem L1_SetOrder_l1_s (F : Nat) (E1_0 : Value → Value → M Value) (k1 : Nat) (x0 x6 x7 x8 x9 : Value) : L1_SetOrder_l1 F E1_0 (k1 + 1) x0 x6 x7 x8 x9 = L1_SetOrder_b1 F E1_0 (L1_SetOrder_l1 F E1_0 k1) x0 x6 x7 x8 x9 := rfl

def L1_SetOrder_r9 (F : Nat) (x0 x6 x7 x8 : Value) (K : Value → Value → Value → Value → Value → M Value) : M Value :=
  K x0 x6 x7 x8 (.int .i64 (0))

theorem L1_SetOrder_r9_ok (F : Nat) (x0 x6 x7 x8 : Value) (K : Value → Value → Value → Value → Value → M Value) : L1_SetOrder_r9 F x0 x6 x7 x8 K = L1_SetOrder_R F 9 [(8, x8), (7, x7), (6, x6), (0, x0)] [0, 6, 7, 8, 9] K := by kernel_rfl

def L1_SetOrder_r8 (F : Nat) (x0 x6 : Value) (K : Value → Value → Value → Value → M Value) : M Value :=
  bnd (bitset_Of F x0) fun v27 => bnd (opBuild [(.slice none 0 0)] []) fun v28 => bnd (opBoxN v28) fun v29 => K x0 x6 v27 v29

theorem L1_SetOrder_r8_ok (F : Nat) (x0 x6 : Value) (K : Value → Value → Value → Value → M Value) : L1_SetOrder_r8 F x0 x6 K = L1_SetOrder_R F 8 [(6, x6), (0, x0)] [0, 6, 7, 8] K := by kernel_rfl

def L1_SetOrder_r7 (F : Nat) (x0 x1 : Value) (K : Value → Value → M Value) : M Value :=
  bnd (opLen x0) fun v24 => bnd (opBin .rem x1 v24) fun v25 => K x0 v25

theorem L1_SetOrder_r7_ok (F : Nat) (x0 x1 : Value) (K : Value → Value → M Value) : L1_SetOrder_r7 F x0 x1 K = L1_SetOrder_R F 7 [(1, x1), (0, x0)] [0, 6] K := by kernel_rfl

def L1_SetOrder_r6 (F : Nat) (K : Value → M Value) : M Value :=
  K (.bool true)

theorem L1_SetOrder_r6_ok (F : Nat) (K : Value → M Value) : L1_SetOrder_r6 F K = L1_SetOrder_R F 6 [] [4] K := by kernel_rfl

def L1_SetOrder_r5 (F : Nat) (x0 x1 : Value) (K : Value → Value → Value → M Value) : M Value :=
  bnd (opLen x0) fun v16 => bnd (opBin .eql v16 (.int .i64 (0))) fun v17 => onB v17 (K x0 x1 (.bool true)) (bnd (opBin .lss x1 (.int .i64 (0))) fun v20 => K x0 x1 v20)

theorem L1_SetOrder_r5_ok (F : Nat) (x0 x1 : Value) (K : Value → Value → Value → M Value) : L1_SetOrder_r5 F x0 x1 K = L1_SetOrder_R F 5 [(1, x1), (0, x0)] [0, 1, 21] K := by kernel_rfl

def L1_SetOrder_r4 (F : Nat) (x0 x1 : Value) (K : Value → Value → M Value) : M Value :=
  bnd (L1_Cut F x0 (.int .i64 (40))) fun v14 => K v14 x1

theorem L1_SetOrder_r4_ok (F : Nat) (x0 x1 : Value) (K : Value → Value → M Value) : L1_SetOrder_r4 F x0 x1 K = L1_SetOrder_R F 4 [(1, x1), (0, x0)] [0, 1] K := by kernel_rfl

def L1_SetOrder_r3 (F : Nat) (K : Value → M Value) : M Value :=
  K (.bool false)

theorem L1_SetOrder_r3_ok (F : Nat) (K : Value → M Value) : L1_SetOrder_r3 F K = L1_SetOrder_R F 3 [] [4] K := by kernel_rfl

def L1_SetOrder_r2 (F : Nat) (x0 x1 x5 : Value) (K : Value → Value → Value → M Value) : M Value :=
  bnd (opNot x5) fun v12 => K x0 x1 v12

theorem L1_SetOrder_r2_ok (F : Nat) (x0 x1 x5 : Value) (K : Value → Value → Value → M Value) : L1_SetOrder_r2 F x0 x1 x5 K = L1_SetOrder_R F 2 [(5, x5), (1, x1), (0, x0)] [0, 1, 12] K := by kernel_rfl

def L1_SetOrder_r1 (F : Nat) (x0 x1 : Value) (K : Value → Value → Value → M Value) : M Value :=
  bnd (L1_begun F) fun v10 => K x0 x1 v10

theorem L1_SetOrder_r1_ok (F : Nat) (x0 x1 : Value) (K : Value → Value → Value → M Value) : L1_SetOrder_r1 F x0 x1 K = L1_SetOrder_R F 1 [(1, x1), (0, x0)] [0, 1, 5] K := by kernel_rfl

def L1_SetOrder_r0 (F : Nat) (x0 x1 : Value) (K : Value → Value → M Value) : M Value :=
  K x0 x1

theorem L1_SetOrder_r0_ok (F : Nat) (x0 x1 : Value) (K : Value → Value → M Value) : L1_SetOrder_r0 F x0 x1 K = L1_SetOrder_R F 0 [(1, x1), (0, x0)] [0, 1] K := by kernel_rfl

def L1_SetOrder (F : Nat) (x0 x1 : Value) : M Value :=
  L1_SetOrder_r0 F x0 x1 (fun x0 x1 => L1_SetOrder_r1 F x0 x1 (fun x0 x1 x5 => L1_SetOrder_r2 F x0 x1 x5 (fun x0 x1 x12 => onB x12 (L1_SetOrder_r3 F (fun x4 => ret x4)) (L1_SetOrder_r4 F x0 x1 (fun x0 x1 => L1_SetOrder_r5 F x0 x1 (fun x0 x1 x21 => onB x21 (L1_SetOrder_r6 F (fun x4 => ret x4)) (L1_SetOrder_r7 F x0 x1 (fun x0 x6 => L1_SetOrder_r8 F x0 x6 (fun x0 x6 x7 x8 => L1_SetOrder_r9 F x0 x6 x7 x8 (fun x0 x6 x7 x8 x9 => L1_SetOrder_l1 F (fun x7 x8 => L1_SetOrder_k0 F x7 x8) F x0 x6 x7 x8 x9))))))))))

def L1_SetOrder_m (F : Nat) : List Value → M Value
  | [x0, x1] => L1_SetOrder F x0 x1
  | _ => fail

theorem L1_SetOrder_body : Tryd.f6.body = some (.seq (.region 0 (opsOf Tryd.f6 0) false) (.seq (.region 1 (opsOf Tryd.f6 1) false) (.seq (.seq (.region 2 (opsOf Tryd.f6 2) false) (.cond (.tmp 12) (.seq (.region 3 (opsOf Tryd.f6 3) false) .ret) .skip)) (.seq (.region 4 (opsOf Tryd.f6 4) false) (.seq (.seq (.region 5 (opsOf Tryd.f6 5) false) (.cond (.tmp 21) (.seq (.region 6 (opsOf Tryd.f6 6) false) .ret) .skip)) (.seq (.region 7 (opsOf Tryd.f6 7) false) (.seq (.region 8 (opsOf Tryd.f6 8) false) (.seq (.seq (.region 9 (opsOf Tryd.f6 9) false) (.block 0 (.loop (.seq (.seq (.region 10 (opsOf Tryd.f6 10) false) (.cond (.tmp 33) .skip (.exit 0))) (.seq (.block 1 (.seq (.region 12 (opsOf Tryd.f6 12) false) (.region 13 (opsOf Tryd.f6 13) false))) (.region 11 (opsOf Tryd.f6 11) false)))))) (.seq (.region 14 (opsOf Tryd.f6 14) false) .ret))))))))) := by kernel_rfl

theorem L1_SetOrder_ok (F : Nat) : Sim Tryd.prog TrydG 6 (L1_SetOrder_m F) := by
 have hE : EnvOK Tryd.prog TrydG (L1_SetOrder_env F) := (EnvOK.cons (L1_begun_ok F) (EnvOK.cons (bitset_Set_Add_ok F) (EnvOK.cons (L1_Cut_ok F) (EnvOK.cons (bitset_Of_ok F) (EnvOK.cons (bitset_Set_Eq_ok F) EnvOK.nil)))))
 refine Sim.of_body (E := L1_SetOrder_env F) Tryd.func6 L1_SetOrder_body Tryd.call6 ?_ ?_
 · intro args hl; unfold L1_SetOrder_m; split
   · exact absurd hl (Nat.not_lt.2 (Nat.le_of_ble_eq_true rfl))
   · rfl
 · intro args ρ h w z; unfold L1_SetOrder_m; split
   · rename_i x0 x1; show OKc _ _ [(0, x0), (1, x1)] _ _
     refine rSeq ?_
     refine cLess [1, 0] ?_
     refine xR hE [0, 1] rfl (L1_SetOrder_r0_ok F _ _ _) ?_
     intro x0 x1
     show OKq _ _ _ [(1, x1), (0, x0)] _
     refine rThen ?_
     refine rSeq ?_
     refine cLess [1, 0] ?_
     refine xR hE [0, 1, 5] rfl (L1_SetOrder_r1_ok F _ _ _) ?_
     intro x0 x1 x5
     show OKq _ _ _ [(5, x5), (1, x1), (0, x0)] _
     refine rThen ?_
     refine rSeq ?_
     refine rSeq ?_
     refine cLess [5, 1, 0] ?_
     refine xR hE [0, 1, 12] rfl (L1_SetOrder_r2_ok F _ _ _ _) ?_
     intro x0 x1 x12
     show OKq _ _ _ [(12, x12), (1, x1), (0, x0)] _
     refine rThen ?_
     refine xCond rfl rfl ?_ ?_
     · refine rSeq ?_
       refine cLess [] ?_
       refine xR hE [4] rfl (L1_SetOrder_r3_ok F _) ?_
       intro x4
       show OKq _ _ _ [(4, x4)] _
       refine rThen ?_
       refine rRet ?_
       refine xThenR ?_
       exact rDone (.inr rfl) rfl
     · refine rSkip ?_
       refine rThen ?_
       refine rSeq ?_
       refine cLess [1, 0] ?_
       refine xR hE [0, 1] rfl (L1_SetOrder_r4_ok F _ _ _) ?_
       intro x0 x1
       show OKq _ _ _ [(1, x1), (0, x0)] _
       refine rThen ?_
       refine rSeq ?_
       refine rSeq ?_
       refine cLess [1, 0] ?_
       refine xR hE [0, 1, 21] rfl (L1_SetOrder_r5_ok F _ _ _) ?_
       intro x0 x1 x21
       show OKq _ _ _ [(21, x21), (1, x1), (0, x0)] _
       refine rThen ?_
       refine xCond rfl rfl ?_ ?_
       · refine rSeq ?_
         refine cLess [] ?_
         refine xR hE [4] rfl (L1_SetOrder_r6_ok F _) ?_
         intro x4
         show OKq _ _ _ [(4, x4)] _
         refine rThen ?_
         refine rRet ?_
         refine xThenR ?_
         exact rDone (.inr rfl) rfl
       · refine rSkip ?_
         refine rThen ?_
         refine rSeq ?_
         refine cLess [1, 0] ?_
         refine xR hE [0, 6] rfl (L1_SetOrder_r7_ok F _ _ _) ?_
         intro x0 x6
         show OKq _ _ _ [(6, x6), (0, x0)] _
         refine rThen ?_
         refine rSeq ?_
         refine cLess [6, 0] ?_
         refine xR hE [0, 6, 7, 8] rfl (L1_SetOrder_r8_ok F _ _ _) ?_
         intro x0 x6 x7 x8
         show OKq _ _ _ [(8, x8), (7, x7), (6, x6), (0, x0)] _
         refine rThen ?_
         refine xSeq [7, 8] (L1_SetOrder_k0 F ) ?_ fun hj0 => ?_
         · intro x7 x8
           show OKc _ _ [(8, x8), (7, x7)] _ _
           refine rSeq ?_
           refine cLess [8, 7] ?_
           refine xR hE [4] rfl (L1_SetOrder_r14_ok F _ _ _) ?_
           intro x4
           show OKq _ _ _ [(4, x4)] _
           refine rThen ?_
           refine rRet ?_
           exact rDone (.inr rfl) rfl
         · refine rSeq ?_
           refine cLess [8, 7, 6, 0] ?_
           refine xR hE [0, 6, 7, 8, 9] rfl (L1_SetOrder_r9_ok F _ _ _ _ _) ?_
           intro x0 x6 x7 x8 x9
           show OKq _ _ _ [(9, x9), (8, x8), (7, x7), (6, x6), (0, x0)] _
           refine rThen ?_
           refine rBlock ?_
           refine cLess [9, 8, 7, 6, 0] ?_
           refine xLoopAt [0, 6, 7, 8, 9] [] (fun k1 => L1_SetOrder_l1 F (fun x7 x8 => L1_SetOrder_k0 F x7 x8) k1) F [x0, x6, x7, x8, x9] rfl rfl (fun _ _ _ _ _ => rfl) fun I hI1 k1 => ?_
           intro x0 x6 x7 x8 x9
           show OKc _ _ [(9, x9), (8, x8), (7, x7), (6, x6), (0, x0)] _ _
           refine cAs (L1_SetOrder_l1_s F _ _ _ _ _ _ _) ?_
           refine rSeq ?_
           refine rSeq ?_
           refine cLess [9, 8, 7, 6, 0] ?_
           refine xR hE [0, 6, 7, 8, 9, 33] rfl (L1_SetOrder_r10_ok F _ _ _ _ _ _) ?_
           intro x0 x6 x7 x8 x9 x33
           show OKq _ _ _ [(33, x33), (9, x9), (8, x8), (7, x7), (6, x6), (0, x0)] _
           refine rThen ?_
           refine xCond rfl rfl ?_ ?_
           · refine rSkip ?_
             refine rThen ?_
             refine rSeq ?_
             refine rBlock ?_
             refine rSeq ?_
             refine cLess [9, 8, 7, 6, 0] ?_
             refine xR hE [0, 6, 7, 8, 9] rfl (L1_SetOrder_r12_ok F _ _ _ _ _ _) ?_
             intro x0 x6 x7 x8 x9
             show OKq _ _ _ [(9, x9), (8, x8), (7, x7), (6, x6), (0, x0)] _
             refine rThen ?_
             refine cLess [9, 8, 7, 6, 0] ?_
             refine xR hE [0, 6, 7, 8, 9] rfl (L1_SetOrder_r13_ok F _ _ _ _ _ _) ?_
             intro x0 x6 x7 x8 x9
             show OKq _ _ _ [(9, x9), (8, x8), (7, x7), (6, x6), (0, x0)] _
             refine xBlockN ?_
             refine rThen ?_
             refine cLess [9, 8, 7, 6, 0] ?_
             refine xR hE [0, 6, 7, 8, 9] rfl (L1_SetOrder_r11_ok F _ _ _ _ _ _) ?_
             intro x0 x6 x7 x8 x9
             show OKq _ _ _ [(9, x9), (8, x8), (7, x7), (6, x6), (0, x0)] _
             exact qLess [9, 8, 7, 6, 0] (hI1 k1 x0 x6 x7 x8 x9)
           · refine rExit ?_
             refine xThenX ?_
             refine xThenX ?_
             refine rOut ?_
             exact qLess [8, 7] (hj0 x7 x8)
   · exact rFail



end Go.Fw
