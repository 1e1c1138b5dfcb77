/-
  What functions of this seat come to, and that they do: part 1.
-/
import Derived.Test.YtddafkflndhnfaaDoorProg
import Derived.Test.YtddafkflndhnfaaDoorFwP
import Derived.KernelRfl
import Derived.Test.YtddafkflndhnfaaDoorLawLay
set_option linter.unusedVariables false
set_option maxRecDepth 20000
namespace Go.Fw
open Go.Proofs

-- values: [42, 49]
-- left: []
def TrydG : Nat := 1
theorem Trydmix : Tryd.prog.follows .mixedOrders = true := by kernel_rfl

/-! ### haruspex/haruspexlaw5.Made -/

def L5_Made_env (F : Nat) : Env := envOf []

noncomputable def L5_Made_R (F : Nat) := rK Tryd.prog TrydG (L5_Made_env F) Tryd.f17
noncomputable def L5_Made_D (F : Nat) := dK Tryd.prog TrydG (L5_Made_env F) Tryd.f17

def L5_Made_r8 (F : Nat) (x4 x5 : Value) (K : Value → M Value) : M Value :=
  bnd (opLoadN 2 x5) fun v62 => bnd (opStoreN 2 x4 v62) fun _ => K x4

theorem L5_Made_r8_ok (F : Nat) (x4 x5 : Value) (K : Value → M Value) : L5_Made_r8 F x4 x5 K = L5_Made_R F 8 [(5, x5), (4, x4)] [4] K := by kernel_rfl

def L5_Made_k0 (F : Nat) (x4 x5 : Value) : M Value :=
  L5_Made_r8 F x4 x5 (fun x4 => bnd (opLoadN 2 x4) fun r0 => ret r0)

def L5_Made_r5 (F : Nat) (x0 x1 x4 x5 x6 : Value) (K : Value → Value → Value → Value → Value → M Value) : M Value :=
  bnd (opBin .add x6 (.int .i64 (1))) fun v27 => K x0 x1 x4 x5 v27

theorem L5_Made_r5_ok (F : Nat) (x0 x1 x4 x5 x6 : Value) (K : Value → Value → Value → Value → Value → M Value) : L5_Made_r5 F x0 x1 x4 x5 x6 K = L5_Made_R F 5 [(6, x6), (5, x5), (4, x4), (1, x1), (0, x0)] [0, 1, 4, 5, 6] K := by kernel_rfl

def L5_Made_r7 (F : Nat) (x0 x1 x4 x5 x6 x7 x8 : Value) (K : Value → Value → Value → Value → Value → M Value) : M Value :=
  bnd (opFieldAddr 1 x5) fun v50 => bnd (opLoad v50) fun v51 => bnd (opFieldAddr 1 x5) fun v53 => bnd (opLoad v53) fun v54 => bnd (opIndexAddr 1 v54 x7) fun v56 => bnd (opLoad v56) fun v57 => bnd (opBuildSlice 1 (rep 1 [(.int .i64 (0))]) [(0, 1, false, x8)]) fun v59 => bnd (opAppend 1 8 v57 v59) fun v60 => bnd (opChk false v50 v51) fun _ => bnd (opIndexAddr 1 v51 x7) fun v61 => bnd (opStore v61 v60) fun _ => K x0 x1 x4 x5 x6

theorem L5_Made_r7_ok (F : Nat) (x0 x1 x4 x5 x6 x7 x8 : Value) (K : Value → Value → Value → Value → Value → M Value) : L5_Made_r7 F x0 x1 x4 x5 x6 x7 x8 K = L5_Made_D F 7 [0, 1, 2, 3, 4, 5, 6, 7, 8, 9, 10, 11, 12] [(8, x8), (7, x7), (6, x6), (5, x5), (4, x4), (1, x1), (0, x0)] [0, 1, 4, 5, 6] K := by kernel_rfl

theorem L5_Made_r7_good : goodOrder (opsOf Tryd.f17 7) [0, 1, 2, 3, 4, 5, 6, 7, 8, 9, 10, 11, 12] = true := by kernel_rfl

def L5_Made_r6 (F : Nat) (x0 x1 x4 x5 x6 : Value) (K : Value → Value → Value → Value → Value → Value → Value → M Value) : M Value :=
  bnd (opIndexAddr 2 x1 x6) fun v30 => bnd (opIndexAddrA 2 1 v30 (.int .i64 (0))) fun v31 => bnd (opLoad v31) fun v32 => bnd (opBin .rem v32 x0) fun v34 => bnd (opBin .add v34 x0) fun v36 => bnd (opBin .rem v36 x0) fun v38 => bnd (opIndexAddr 2 x1 x6) fun v41 => bnd (opIndexAddrA 2 1 v41 (.int .i64 (1))) fun v42 => bnd (opLoad v42) fun v43 => bnd (opBin .rem v43 x0) fun v45 => bnd (opBin .add v45 x0) fun v47 => bnd (opBin .rem v47 x0) fun v49 => K x0 x1 x4 x5 x6 v38 v49

theorem L5_Made_r6_ok (F : Nat) (x0 x1 x4 x5 x6 : Value) (K : Value → Value → Value → Value → Value → Value → Value → M Value) : L5_Made_r6 F x0 x1 x4 x5 x6 K = L5_Made_D F 6 [0, 1, 2, 3, 4, 5, 6, 7, 8, 9, 10, 11, 12, 13, 14, 15, 16, 17, 18, 19, 20, 21, 22, 23] [(6, x6), (5, x5), (4, x4), (1, x1), (0, x0)] [0, 1, 4, 5, 6, 7, 8] K := by kernel_rfl

theorem L5_Made_r6_good : goodOrder (opsOf Tryd.f17 6) [0, 1, 2, 3, 4, 5, 6, 7, 8, 9, 10, 11, 12, 13, 14, 15, 16, 17, 18, 19, 20, 21, 22, 23] = true := by kernel_rfl

def L5_Made_r4 (F : Nat) (x0 x1 x4 x5 x6 : Value) (K : Value → Value → Value → Value → Value → Value → M Value) : M Value :=
  bnd (opLen x1) fun v20 => bnd (opBin .lss x6 v20) fun v21 => onB v21 (bnd (opBin .lss x6 (.int .i64 (80))) fun v24 => K x0 x1 x4 x5 x6 v24) (K x0 x1 x4 x5 x6 (.bool false))

theorem L5_Made_r4_ok (F : Nat) (x0 x1 x4 x5 x6 : Value) (K : Value → Value → Value → Value → Value → Value → M Value) : L5_Made_r4 F x0 x1 x4 x5 x6 K = L5_Made_R F 4 [(6, x6), (5, x5), (4, x4), (1, x1), (0, x0)] [0, 1, 4, 5, 6, 25] K := by kernel_rfl

def L5_Made_b1 (F : Nat) (E1_0 : Value → Value → M Value) (A1 : Value → Value → Value → Value → Value → M Value) (x0 x1 x4 x5 x6 : Value) : M Value :=
  L5_Made_r4 F x0 x1 x4 x5 x6 (fun x0 x1 x4 x5 x6 x25 => onB x25 (L5_Made_r6 F x0 x1 x4 x5 x6 (fun x0 x1 x4 x5 x6 x7 x8 => L5_Made_r7 F x0 x1 x4 x5 x6 x7 x8 (fun x0 x1 x4 x5 x6 => L5_Made_r5 F x0 x1 x4 x5 x6 (fun x0 x1 x4 x5 x6 => A1 x0 x1 x4 x5 x6)))) (E1_0 x4 x5))

def L5_Made_l1 (F : Nat) (E1_0 : Value → Value → M Value) : Nat → Value → Value → Value → Value → Value → M Value
  | 0, _, _, _, _, _ => fail
  | k1 + 1, x0, x1, x4, x5, x6 => L5_Made_b1 F E1_0 (L5_Made_l1 F E1_0 k1) x0 x1 x4 x5 x6

theorem L5_Made_l1_s (F : Nat) (E1_0 : Value → Value → M Value) (k1 : Nat) (x0 x1 x4 x5 x6 : Value) : L5_Made_l1 F E1_0 (k1 + 1) x0 x1 x4 x5 x6 = L5_Made_b1 F E1_0 (L5_Made_l1 F E1_0 k1) x0 x1 x4 x5 x6 := rfl

def L5_Made_r3 (F : Nat) (x0 x1 x4 x5 : Value) (K : Value → Value → Value → Value → Value → M Value) : M Value :=
  K x0 x1 x4 x5 (.int .i64 (0))

theorem L5_Made_r3_ok (F : Nat) (x0 x1 x4 x5 : Value) (K : Value → Value → Value → Value → Value → M Value) : L5_Made_r3 F x0 x1 x4 x5 K = L5_Made_R F 3 [(5, x5), (4, x4), (1, x1), (0, x0)] [0, 1, 4, 5, 6] K := by kernel_rfl

def L5_Made_r2 (F : Nat) (x0 x1 x4 : Value) (K : Value → Value → Value → Value → M Value) : M Value :=
  bnd (opMake 24 [(.slice none 0 0)] x0 x0) fun v16 => bnd (opBuild [(.int .i64 (0)), (.slice none 0 0)] [(0, 1, false, x0), (1, 1, false, v16)]) fun v17 => bnd (opPtr [(.int .i64 (0)), (.slice none 0 0)]) fun v5 => bnd (opStoreN 2 v5 v17) fun _ => K x0 x1 x4 v5

theorem L5_Made_r2_ok (F : Nat) (x0 x1 x4 : Value) (K : Value → Value → Value → Value → M Value) : L5_Made_r2 F x0 x1 x4 K = L5_Made_R F 2 [(4, x4), (1, x1), (0, x0)] [0, 1, 4, 5] K := by kernel_rfl

def L5_Made_r1 (F : Nat) (x0 x1 x4 : Value) (K : Value → Value → Value → M Value) : M Value :=
  bnd (opBin .rem x0 (.int .i64 (25))) fun v10 => bnd (opBin .add v10 (.int .i64 (25))) fun v11 => bnd (opBin .rem v11 (.int .i64 (25))) fun v12 => bnd (opBin .add (.int .i64 (1)) v12) fun v13 => K v13 x1 x4

theorem L5_Made_r1_ok (F : Nat) (x0 x1 x4 : Value) (K : Value → Value → Value → M Value) : L5_Made_r1 F x0 x1 x4 K = L5_Made_R F 1 [(4, x4), (1, x1), (0, x0)] [0, 1, 4] K := by kernel_rfl

def L5_Made_r0 (F : Nat) (x0 x1 : Value) (K : Value → Value → Value → M Value) : M Value :=
  bnd (opPtr [(.int .i64 (0)), (.slice none 0 0)]) fun v4 => K x0 x1 v4

theorem L5_Made_r0_ok (F : Nat) (x0 x1 : Value) (K : Value → Value → Value → M Value) : L5_Made_r0 F x0 x1 K = L5_Made_R F 0 [(1, x1), (0, x0)] [0, 1, 4] K := by kernel_rfl

def L5_Made (F : Nat) (x0 x1 : Value) : M Value :=
  L5_Made_r0 F x0 x1 (fun x0 x1 x4 => L5_Made_r1 F x0 x1 x4 (fun x0 x1 x4 => L5_Made_r2 F x0 x1 x4 (fun x0 x1 x4 x5 => L5_Made_r3 F x0 x1 x4 x5 (fun x0 x1 x4 x5 x6 => L5_Made_l1 F (fun x4 x5 => L5_Made_k0 F x4 x5) F x0 x1 x4 x5 x6))))

def L5_Made_m (F : Nat) : List Value → M Value
  | [x0, x1] => L5_Made F x0 x1
  | _ => fail

theorem L5_Made_body : Tryd.f17.body = some (.seq (.region 0 (opsOf Tryd.f17 0) false) (.seq (.region 1 (opsOf Tryd.f17 1) false) (.seq (.region 2 (opsOf Tryd.f17 2) false) (.seq (.seq (.region 3 (opsOf Tryd.f17 3) false) (.block 0 (.loop (.seq (.seq (.region 4 (opsOf Tryd.f17 4) false) (.cond (.tmp 25) .skip (.exit 0))) (.seq (.block 1 (.seq (.region 6 (opsOf Tryd.f17 6) true) (.region 7 (opsOf Tryd.f17 7) true))) (.region 5 (opsOf Tryd.f17 5) false)))))) (.seq (.region 8 (opsOf Tryd.f17 8) false) .ret))))) := by kernel_rfl

theorem L5_Made_ok (F : Nat) : Sim Tryd.prog TrydG 17 (L5_Made_m F) := by
 have hE : EnvOK Tryd.prog TrydG (L5_Made_env F) := EnvOK.nil
 refine Sim.of_body (E := L5_Made_env F) Tryd.func17 L5_Made_body Tryd.call17 ?_ ?_
 · intro args hl; unfold L5_Made_m; split
   · exact absurd hl (Nat.not_lt.2 (Nat.le_of_ble_eq_true rfl))
   · rfl
 · intro args ρ h w z; unfold L5_Made_m; split
   · rename_i x0 x1; show OKc _ _ [(0, x0), (1, x1)] _ _
     refine rSeq ?_
     refine cLess [1, 0] ?_
     refine xR hE [0, 1, 4] rfl (L5_Made_r0_ok F _ _ _) ?_
     intro x0 x1 x4
     show OKq _ _ _ [(4, x4), (1, x1), (0, x0)] _
     refine rThen ?_
     refine rSeq ?_
     refine cLess [4, 1, 0] ?_
     refine xR hE [0, 1, 4] rfl (L5_Made_r1_ok F _ _ _ _) ?_
     intro x0 x1 x4
     show OKq _ _ _ [(4, x4), (1, x1), (0, x0)] _
     refine rThen ?_
     refine rSeq ?_
     refine cLess [4, 1, 0] ?_
     refine xR hE [0, 1, 4, 5] rfl (L5_Made_r2_ok F _ _ _ _) ?_
     intro x0 x1 x4 x5
     show OKq _ _ _ [(5, x5), (4, x4), (1, x1), (0, x0)] _
     refine rThen ?_
     refine xSeq [4, 5] (L5_Made_k0 F ) ?_ fun hj0 => ?_
     · intro x4 x5
       show OKc _ _ [(5, x5), (4, x4)] _ _
       refine rSeq ?_
       refine cLess [5, 4] ?_
       refine xR hE [4] rfl (L5_Made_r8_ok F _ _ _) ?_
       intro x4
       show OKq _ _ _ [(4, x4)] _
       refine rThen ?_
       refine rRet ?_
       exact rDone (.inr rfl) rfl
     · refine rSeq ?_
       refine cLess [5, 4, 1, 0] ?_
       refine xR hE [0, 1, 4, 5, 6] rfl (L5_Made_r3_ok F _ _ _ _ _) ?_
       intro x0 x1 x4 x5 x6
       show OKq _ _ _ [(6, x6), (5, x5), (4, x4), (1, x1), (0, x0)] _
       refine rThen ?_
       refine rBlock ?_
       refine cLess [6, 5, 4, 1, 0] ?_
       refine xLoopAt [0, 1, 4, 5, 6] [] (fun k1 => L5_Made_l1 F (fun x4 x5 => L5_Made_k0 F x4 x5) k1) F [x0, x1, x4, x5, x6] rfl rfl (fun _ _ _ _ _ => rfl) fun I hI1 k1 => ?_
       intro x0 x1 x4 x5 x6
       show OKc _ _ [(6, x6), (5, x5), (4, x4), (1, x1), (0, x0)] _ _
       refine cAs (L5_Made_l1_s F _ _ _ _ _ _ _) ?_
       refine rSeq ?_
       refine rSeq ?_
       refine cLess [6, 5, 4, 1, 0] ?_
       refine xR hE [0, 1, 4, 5, 6, 25] rfl (L5_Made_r4_ok F _ _ _ _ _ _) ?_
       intro x0 x1 x4 x5 x6 x25
       show OKq _ _ _ [(25, x25), (6, x6), (5, x5), (4, x4), (1, x1), (0, x0)] _
       refine rThen ?_
       refine xCond rfl rfl ?_ ?_
       · refine rSkip ?_
         refine rThen ?_
         refine rSeq ?_
         refine rBlock ?_
         refine rSeq ?_
         refine cLess [6, 5, 4, 1, 0] ?_
         refine xD Trydmix hE [0, 1, 4, 5, 6, 7, 8] rfl L5_Made_r6_good (L5_Made_r6_ok F _ _ _ _ _ _) ?_
         intro x0 x1 x4 x5 x6 x7 x8
         show OKq _ _ _ [(8, x8), (7, x7), (6, x6), (5, x5), (4, x4), (1, x1), (0, x0)] _
         refine rThen ?_
         refine cLess [8, 7, 6, 5, 4, 1, 0] ?_
         refine xD Trydmix hE [0, 1, 4, 5, 6] rfl L5_Made_r7_good (L5_Made_r7_ok F _ _ _ _ _ _ _ _) ?_
         intro x0 x1 x4 x5 x6
         show OKq _ _ _ [(6, x6), (5, x5), (4, x4), (1, x1), (0, x0)] _
         refine xBlockN ?_
         refine rThen ?_
         refine cLess [6, 5, 4, 1, 0] ?_
         refine xR hE [0, 1, 4, 5, 6] rfl (L5_Made_r5_ok F _ _ _ _ _ _) ?_
         intro x0 x1 x4 x5 x6
         show OKq _ _ _ [(6, x6), (5, x5), (4, x4), (1, x1), (0, x0)] _
         exact qLess [6, 5, 4, 1, 0] (hI1 k1 x0 x1 x4 x5 x6)
       · refine rExit ?_
         refine xThenX ?_
         refine xThenX ?_
         refine rOut ?_
         exact qLess [5, 4] (hj0 x4 x5)
   · exact rFail


/-! ### haruspex/haruspexref1.Eq -/

def R1_Eq_env (F : Nat) : Env := envOf []

noncomputable def R1_Eq_R (F : Nat) := rK Tryd.prog TrydG (R1_Eq_env F) Tryd.f18
noncomputable def R1_Eq_D (F : Nat) := dK Tryd.prog TrydG (R1_Eq_env F) Tryd.f18

def R1_Eq_r8 (F : Nat) (K : Value → M Value) : M Value :=
  K (.bool true)

theorem R1_Eq_r8_ok (F : Nat) (K : Value → M Value) : R1_Eq_r8 F K = R1_Eq_R F 8 [] [4] K := by kernel_rfl

def R1_Eq_k0 (F : Nat) : M Value :=
  R1_Eq_r8 F (fun x4 => ret x4)

def R1_Eq_r5 (F : Nat) (x0 x1 x5 : Value) (K : Value → Value → Value → M Value) : M Value :=
  bnd (opBin .add x5 (.int .i64 (1))) fun v16 => K x0 x1 v16

theorem R1_Eq_r5_ok (F : Nat) (x0 x1 x5 : Value) (K : Value → Value → Value → M Value) : R1_Eq_r5 F x0 x1 x5 K = R1_Eq_R F 5 [(5, x5), (1, x1), (0, x0)] [0, 1, 5] K := by kernel_rfl

def R1_Eq_r7 (F : Nat) (K : Value → M Value) : M Value :=
  K (.bool false)

theorem R1_Eq_r7_ok (F : Nat) (K : Value → M Value) : R1_Eq_r7 F K = R1_Eq_R F 7 [] [4] K := by kernel_rfl

def R1_Eq_r6 (F : Nat) (x0 x1 x5 : Value) (K : Value → Value → Value → Value → M Value) : M Value :=
  bnd (opIndexAddr 1 x0 x5) fun v19 => bnd (opLoad v19) fun v20 => bnd (opIndexAddr 1 x1 x5) fun v23 => bnd (opLoad v23) fun v24 => bnd (opBin .neq v20 v24) fun v25 => K x0 x1 x5 v25

theorem R1_Eq_r6_ok (F : Nat) (x0 x1 x5 : Value) (K : Value → Value → Value → Value → M Value) : R1_Eq_r6 F x0 x1 x5 K = R1_Eq_D F 6 [0, 1, 2, 3, 4, 5, 6, 7, 8] [(5, x5), (1, x1), (0, x0)] [0, 1, 5, 25] K := by kernel_rfl

theorem R1_Eq_r6_good : goodOrder (opsOf Tryd.f18 6) [0, 1, 2, 3, 4, 5, 6, 7, 8] = true := by kernel_rfl

def R1_Eq_r4 (F : Nat) (x0 x1 x5 : Value) (K : Value → Value → Value → Value → M Value) : M Value :=
  bnd (opLen x0) fun v13 => bnd (opBin .lss x5 v13) fun v14 => K x0 x1 x5 v14

theorem R1_Eq_r4_ok (F : Nat) (x0 x1 x5 : Value) (K : Value → Value → Value → Value → M Value) : R1_Eq_r4 F x0 x1 x5 K = R1_Eq_R F 4 [(5, x5), (1, x1), (0, x0)] [0, 1, 5, 14] K := by kernel_rfl

def R1_Eq_b1 (F : Nat) (E1_0 : M Value) (A1 : Value → Value → Value → M Value) (x0 x1 x5 : Value) : M Value :=
  R1_Eq_r4 F x0 x1 x5 (fun x0 x1 x5 x14 => onB x14 (R1_Eq_r6 F x0 x1 x5 (fun x0 x1 x5 x25 => onB x25 (R1_Eq_r7 F (fun x4 => ret x4)) (R1_Eq_r5 F x0 x1 x5 (fun x0 x1 x5 => A1 x0 x1 x5)))) (E1_0 ))

def R1_Eq_l1 (F : Nat) (E1_0 : M Value) : Nat → Value → Value → Value → M Value
  | 0, _, _, _ => fail
  | k1 + 1, x0, x1, x5 => R1_Eq_b1 F E1_0 (R1_Eq_l1 F E1_0 k1) x0 x1 x5

theorem R1_Eq_l1_s (F : Nat) (E1_0 : M Value) (k1 : Nat) (x0 x1 x5 : Value) : R1_Eq_l1 F E1_0 (k1 + 1) x0 x1 x5 = R1_Eq_b1 F E1_0 (R1_Eq_l1 F E1_0 k1) x0 x1 x5 := rfl

def R1_Eq_r3 (F : Nat) (x0 x1 : Value) (K : Value → Value → Value → M Value) : M Value :=
  K x0 x1 (.int .i64 (0))

theorem R1_Eq_r3_ok (F : Nat) (x0 x1 : Value) (K : Value → Value → Value → M Value) : R1_Eq_r3 F x0 x1 K = R1_Eq_R F 3 [(1, x1), (0, x0)] [0, 1, 5] K := by kernel_rfl

def R1_Eq_r2 (F : Nat) (K : Value → M Value) : M Value :=
  K (.bool false)

theorem R1_Eq_r2_ok (F : Nat) (K : Value → M Value) : R1_Eq_r2 F K = R1_Eq_R F 2 [] [4] K := by kernel_rfl

def R1_Eq_r1 (F : Nat) (x0 x1 : Value) (K : Value → Value → Value → M Value) : M Value :=
  bnd (opLen x0) fun v7 => bnd (opLen x1) fun v9 => bnd (opBin .neq v7 v9) fun v10 => K x0 x1 v10

theorem R1_Eq_r1_ok (F : Nat) (x0 x1 : Value) (K : Value → Value → Value → M Value) : R1_Eq_r1 F x0 x1 K = R1_Eq_R F 1 [(1, x1), (0, x0)] [0, 1, 10] K := by kernel_rfl

def R1_Eq_r0 (F : Nat) (x0 x1 : Value) (K : Value → Value → M Value) : M Value :=
  K x0 x1

theorem R1_Eq_r0_ok (F : Nat) (x0 x1 : Value) (K : Value → Value → M Value) : R1_Eq_r0 F x0 x1 K = R1_Eq_R F 0 [(1, x1), (0, x0)] [0, 1] K := by kernel_rfl

def R1_Eq (F : Nat) (x0 x1 : Value) : M Value :=
  R1_Eq_r0 F x0 x1 (fun x0 x1 => R1_Eq_r1 F x0 x1 (fun x0 x1 x10 => onB x10 (R1_Eq_r2 F (fun x4 => ret x4)) (R1_Eq_r3 F x0 x1 (fun x0 x1 x5 => R1_Eq_l1 F (R1_Eq_k0 F ) F x0 x1 x5))))

def R1_Eq_m (F : Nat) : List Value → M Value
  | [x0, x1] => R1_Eq F x0 x1
  | _ => fail

theorem R1_Eq_body : Tryd.f18.body = some (.seq (.region 0 (opsOf Tryd.f18 0) false) (.seq (.seq (.region 1 (opsOf Tryd.f18 1) false) (.cond (.tmp 10) (.seq (.region 2 (opsOf Tryd.f18 2) false) .ret) .skip)) (.seq (.seq (.region 3 (opsOf Tryd.f18 3) false) (.block 0 (.loop (.seq (.seq (.region 4 (opsOf Tryd.f18 4) false) (.cond (.tmp 14) .skip (.exit 0))) (.seq (.block 1 (.seq (.region 6 (opsOf Tryd.f18 6) true) (.cond (.tmp 25) (.seq (.region 7 (opsOf Tryd.f18 7) false) .ret) .skip))) (.region 5 (opsOf Tryd.f18 5) false)))))) (.seq (.region 8 (opsOf Tryd.f18 8) false) .ret)))) := by kernel_rfl

theorem R1_Eq_ok (F : Nat) : Sim Tryd.prog TrydG 18 (R1_Eq_m F) := by
 have hE : EnvOK Tryd.prog TrydG (R1_Eq_env F) := EnvOK.nil
 refine Sim.of_body (E := R1_Eq_env F) Tryd.func18 R1_Eq_body Tryd.call18 ?_ ?_
 · intro args hl; unfold R1_Eq_m; split
   · exact absurd hl (Nat.not_lt.2 (Nat.le_of_ble_eq_true rfl))
   · rfl
 · intro args ρ h w z; unfold R1_Eq_m; split
   · rename_i x0 x1; show OKc _ _ [(0, x0), (1, x1)] _ _
     refine rSeq ?_
     refine cLess [1, 0] ?_
     refine xR hE [0, 1] rfl (R1_Eq_r0_ok F _ _ _) ?_
     intro x0 x1
     show OKq _ _ _ [(1, x1), (0, x0)] _
     refine rThen ?_
     refine rSeq ?_
     refine rSeq ?_
     refine cLess [1, 0] ?_
     refine xR hE [0, 1, 10] rfl (R1_Eq_r1_ok F _ _ _) ?_
     intro x0 x1 x10
     show OKq _ _ _ [(10, x10), (1, x1), (0, x0)] _
     refine rThen ?_
     refine xCond rfl rfl ?_ ?_
     · refine rSeq ?_
       refine cLess [] ?_
       refine xR hE [4] rfl (R1_Eq_r2_ok F _) ?_
       intro x4
       show OKq _ _ _ [(4, x4)] _
       refine rThen ?_
       refine rRet ?_
       refine xThenR ?_
       exact rDone (.inr rfl) rfl
     · refine rSkip ?_
       refine rThen ?_
       refine xSeq [] (R1_Eq_k0 F ) ?_ fun hj0 => ?_
       · show OKc _ _ [] _ _
         refine rSeq ?_
         refine cLess [] ?_
         refine xR hE [4] rfl (R1_Eq_r8_ok F _) ?_
         intro x4
         show OKq _ _ _ [(4, x4)] _
         refine rThen ?_
         refine rRet ?_
         exact rDone (.inr rfl) rfl
       · refine rSeq ?_
         refine cLess [1, 0] ?_
         refine xR hE [0, 1, 5] rfl (R1_Eq_r3_ok F _ _ _) ?_
         intro x0 x1 x5
         show OKq _ _ _ [(5, x5), (1, x1), (0, x0)] _
         refine rThen ?_
         refine rBlock ?_
         refine cLess [5, 1, 0] ?_
         refine xLoopAt [0, 1, 5] [] (fun k1 => R1_Eq_l1 F (R1_Eq_k0 F ) k1) F [x0, x1, x5] rfl rfl (fun _ _ _ => rfl) fun I hI1 k1 => ?_
         intro x0 x1 x5
         show OKc _ _ [(5, x5), (1, x1), (0, x0)] _ _
         refine cAs (R1_Eq_l1_s F _ _ _ _ _) ?_
         refine rSeq ?_
         refine rSeq ?_
         refine cLess [5, 1, 0] ?_
         refine xR hE [0, 1, 5, 14] rfl (R1_Eq_r4_ok F _ _ _ _) ?_
         intro x0 x1 x5 x14
         show OKq _ _ _ [(14, x14), (5, x5), (1, x1), (0, x0)] _
         refine rThen ?_
         refine xCond rfl rfl ?_ ?_
         · refine rSkip ?_
           refine rThen ?_
           refine rSeq ?_
           refine rBlock ?_
           refine rSeq ?_
           refine cLess [5, 1, 0] ?_
           refine xD Trydmix hE [0, 1, 5, 25] rfl R1_Eq_r6_good (R1_Eq_r6_ok F _ _ _ _) ?_
           intro x0 x1 x5 x25
           show OKq _ _ _ [(25, x25), (5, x5), (1, x1), (0, x0)] _
           refine rThen ?_
           refine xCond rfl rfl ?_ ?_
           · refine rSeq ?_
             refine cLess [] ?_
             refine xR hE [4] rfl (R1_Eq_r7_ok F _) ?_
             intro x4
             show OKq _ _ _ [(4, x4)] _
             refine rThen ?_
             refine rRet ?_
             refine xBlockR ?_
             refine xThenR ?_
             refine xThenR ?_
             refine xBlockR ?_
             refine xThenR ?_
             exact rDone (.inr rfl) rfl
           · refine rSkip ?_
             refine xBlockN ?_
             refine rThen ?_
             refine cLess [5, 1, 0] ?_
             refine xR hE [0, 1, 5] rfl (R1_Eq_r5_ok F _ _ _ _) ?_
             intro x0 x1 x5
             show OKq _ _ _ [(5, x5), (1, x1), (0, x0)] _
             exact qLess [5, 1, 0] (hI1 k1 x0 x1 x5)
         · refine rExit ?_
           refine xThenX ?_
           refine xThenX ?_
           refine rOut ?_
           exact qLess [] (hj0 )
   · exact rFail


/-! ### haruspex/haruspexref1.Set -/

def R1_Set_env (F : Nat) : Env := envOf []

noncomputable def R1_Set_R (F : Nat) := rK Tryd.prog TrydG (R1_Set_env F) Tryd.f21
noncomputable def R1_Set_D (F : Nat) := dK Tryd.prog TrydG (R1_Set_env F) Tryd.f21

def R1_Set_r7 (F : Nat) (x3 : Value) (K : Value → M Value) : M Value :=
  K x3

theorem R1_Set_r7_ok (F : Nat) (x3 : Value) (K : Value → M Value) : R1_Set_r7 F x3 K = R1_Set_R F 7 [(3, x3)] [2] K := by kernel_rfl

def R1_Set_k0 (F : Nat) (x3 : Value) : M Value :=
  R1_Set_r7 F x3 (fun x2 => ret x2)

def R1_Set_r4 (F : Nat) (x0 x3 x4 : Value) (K : Value → Value → Value → M Value) : M Value :=
  bnd (opBin .add x4 (.int .i64 (1))) fun v10 => K x0 x3 v10

theorem R1_Set_r4_ok (F : Nat) (x0 x3 x4 : Value) (K : Value → Value → Value → M Value) : R1_Set_r4 F x0 x3 x4 K = R1_Set_R F 4 [(4, x4), (3, x3), (0, x0)] [0, 3, 4] K := by kernel_rfl

def R1_Set_k2 (F : Nat) (A1 : Value → Value → Value → M Value) (x0 x3 x4 : Value) : M Value :=
  R1_Set_r4 F x0 x3 x4 (fun x0 x3 x4 => A1 x0 x3 x4)

def R1_Set_r6 (F : Nat) (x0 x3 x4 : Value) (K : Value → Value → Value → M Value) : M Value :=
  bnd (opBuildSlice 1 (rep 1 [(.int .i64 (0))]) [(0, 1, false, x4)]) fun v17 => bnd (opAppend 1 8 x3 v17) fun v18 => K x0 v18 x4

theorem R1_Set_r6_ok (F : Nat) (x0 x3 x4 : Value) (K : Value → Value → Value → M Value) : R1_Set_r6 F x0 x3 x4 K = R1_Set_R F 6 [(4, x4), (3, x3), (0, x0)] [0, 3, 4] K := by kernel_rfl

def R1_Set_r5 (F : Nat) (x0 x3 x4 : Value) (K : Value → Value → Value → Value → M Value) : M Value :=
  bnd (opIndexAddr 1 x0 x4) fun v13 => bnd (opLoad v13) fun v14 => K x0 x3 x4 v14

theorem R1_Set_r5_ok (F : Nat) (x0 x3 x4 : Value) (K : Value → Value → Value → Value → M Value) : R1_Set_r5 F x0 x3 x4 K = R1_Set_R F 5 [(4, x4), (3, x3), (0, x0)] [0, 3, 4, 14] K := by kernel_rfl

def R1_Set_r3 (F : Nat) (x0 x3 x4 : Value) (K : Value → Value → Value → Value → M Value) : M Value :=
  bnd (opLen x0) fun v7 => bnd (opBin .lss x4 v7) fun v8 => K x0 x3 x4 v8

theorem R1_Set_r3_ok (F : Nat) (x0 x3 x4 : Value) (K : Value → Value → Value → Value → M Value) : R1_Set_r3 F x0 x3 x4 K = R1_Set_R F 3 [(4, x4), (3, x3), (0, x0)] [0, 3, 4, 8] K := by kernel_rfl

def R1_Set_b1 (F : Nat) (E1_0 : Value → M Value) (A1 : Value → Value → Value → M Value) (x0 x3 x4 : Value) : M Value :=
  R1_Set_r3 F x0 x3 x4 (fun x0 x3 x4 x8 => onB x8 (R1_Set_r5 F x0 x3 x4 (fun x0 x3 x4 x14 => onB x14 (R1_Set_r6 F x0 x3 x4 (fun x0 x3 x4 => R1_Set_k2 F A1 x0 x3 x4)) (R1_Set_k2 F A1 x0 x3 x4))) (E1_0 x3))

def R1_Set_l1 (F : Nat) (E1_0 : Value → M Value) : Nat → Value → Value → Value → M Value
  | 0, _, _, _ => fail
  | k1 + 1, x0, x3, x4 => R1_Set_b1 F E1_0 (R1_Set_l1 F E1_0 k1) x0 x3 x4

theorem R1_Set_l1_s (F : Nat) (E1_0 : Value → M Value) (k1 : Nat) (x0 x3 x4 : Value) : R1_Set_l1 F E1_0 (k1 + 1) x0 x3 x4 = R1_Set_b1 F E1_0 (R1_Set_l1 F E1_0 k1) x0 x3 x4 := rfl

def R1_Set_r2 (F : Nat) (x0 x3 : Value) (K : Value → Value → Value → M Value) : M Value :=
  K x0 x3 (.int .i64 (0))

theorem R1_Set_r2_ok (F : Nat) (x0 x3 : Value) (K : Value → Value → Value → M Value) : R1_Set_r2 F x0 x3 K = R1_Set_R F 2 [(3, x3), (0, x0)] [0, 3, 4] K := by kernel_rfl

def R1_Set_r1 (F : Nat) (x0 : Value) (K : Value → Value → M Value) : M Value :=
  K x0 (.slice none 0 0)

theorem R1_Set_r1_ok (F : Nat) (x0 : Value) (K : Value → Value → M Value) : R1_Set_r1 F x0 K = R1_Set_R F 1 [(0, x0)] [0, 3] K := by kernel_rfl

def R1_Set_r0 (F : Nat) (x0 : Value) (K : Value → M Value) : M Value :=
  K x0

theorem R1_Set_r0_ok (F : Nat) (x0 : Value) (K : Value → M Value) : R1_Set_r0 F x0 K = R1_Set_R F 0 [(0, x0)] [0] K := by kernel_rfl

def R1_Set (F : Nat) (x0 : Value) : M Value :=
  R1_Set_r0 F x0 (fun x0 => R1_Set_r1 F x0 (fun x0 x3 => R1_Set_r2 F x0 x3 (fun x0 x3 x4 => R1_Set_l1 F (fun x3 => R1_Set_k0 F x3) F x0 x3 x4)))

def R1_Set_m (F : Nat) : List Value → M Value
  | [x0] => R1_Set F x0
  | _ => fail

theorem R1_Set_body : Tryd.f21.body = some (.seq (.region 0 (opsOf Tryd.f21 0) false) (.seq (.region 1 (opsOf Tryd.f21 1) false) (.seq (.seq (.region 2 (opsOf Tryd.f21 2) false) (.block 0 (.loop (.seq (.seq (.region 3 (opsOf Tryd.f21 3) false) (.cond (.tmp 8) .skip (.exit 0))) (.seq (.block 1 (.seq (.region 5 (opsOf Tryd.f21 5) false) (.cond (.tmp 14) (.region 6 (opsOf Tryd.f21 6) false) .skip))) (.region 4 (opsOf Tryd.f21 4) false)))))) (.seq (.region 7 (opsOf Tryd.f21 7) false) .ret)))) := by kernel_rfl

theorem R1_Set_ok (F : Nat) : Sim Tryd.prog TrydG 21 (R1_Set_m F) := by
 have hE : EnvOK Tryd.prog TrydG (R1_Set_env F) := EnvOK.nil
 refine Sim.of_body (E := R1_Set_env F) Tryd.func21 R1_Set_body Tryd.call21 ?_ ?_
 · intro args hl; unfold R1_Set_m; split
   · exact absurd hl (Nat.not_lt.2 (Nat.le_of_ble_eq_true rfl))
   · rfl
 · intro args ρ h w z; unfold R1_Set_m; split
   · rename_i x0; show OKc _ _ [(0, x0)] _ _
     refine rSeq ?_
     refine cLess [0] ?_
     refine xR hE [0] rfl (R1_Set_r0_ok F _ _) ?_
     intro x0
     show OKq _ _ _ [(0, x0)] _
     refine rThen ?_
     refine rSeq ?_
     refine cLess [0] ?_
     refine xR hE [0, 3] rfl (R1_Set_r1_ok F _ _) ?_
     intro x0 x3
     show OKq _ _ _ [(3, x3), (0, x0)] _
     refine rThen ?_
     refine xSeq [3] (R1_Set_k0 F ) ?_ fun hj0 => ?_
     · intro x3
       show OKc _ _ [(3, x3)] _ _
       refine rSeq ?_
       refine cLess [3] ?_
       refine xR hE [2] rfl (R1_Set_r7_ok F _ _) ?_
       intro x2
       show OKq _ _ _ [(2, x2)] _
       refine rThen ?_
       refine rRet ?_
       exact rDone (.inr rfl) rfl
     · refine rSeq ?_
       refine cLess [3, 0] ?_
       refine xR hE [0, 3, 4] rfl (R1_Set_r2_ok F _ _ _) ?_
       intro x0 x3 x4
       show OKq _ _ _ [(4, x4), (3, x3), (0, x0)] _
       refine rThen ?_
       refine rBlock ?_
       refine cLess [4, 3, 0] ?_
       refine xLoopAt [0, 3, 4] [] (fun k1 => R1_Set_l1 F (fun x3 => R1_Set_k0 F x3) k1) F [x0, x3, x4] rfl rfl (fun _ _ _ => rfl) fun I hI1 k1 => ?_
       intro x0 x3 x4
       show OKc _ _ [(4, x4), (3, x3), (0, x0)] _ _
       refine cAs (R1_Set_l1_s F _ _ _ _ _) ?_
       refine rSeq ?_
       refine rSeq ?_
       refine cLess [4, 3, 0] ?_
       refine xR hE [0, 3, 4, 8] rfl (R1_Set_r3_ok F _ _ _ _) ?_
       intro x0 x3 x4 x8
       show OKq _ _ _ [(8, x8), (4, x4), (3, x3), (0, x0)] _
       refine rThen ?_
       refine xCond rfl rfl ?_ ?_
       · refine rSkip ?_
         refine rThen ?_
         refine xSeq [0, 3, 4] (R1_Set_k2 F (R1_Set_l1 F (fun x3 => R1_Set_k0 F x3) k1) ) ?_ fun hj2 => ?_
         · intro x0 x3 x4
           show OKc _ _ [(4, x4), (3, x3), (0, x0)] _ _
           refine cLess [4, 3, 0] ?_
           refine xR hE [0, 3, 4] rfl (R1_Set_r4_ok F _ _ _ _) ?_
           intro x0 x3 x4
           show OKq _ _ _ [(4, x4), (3, x3), (0, x0)] _
           exact qLess [4, 3, 0] (hI1 k1 x0 x3 x4)
         · refine rBlock ?_
           refine rSeq ?_
           refine cLess [4, 3, 0] ?_
           refine xR hE [0, 3, 4, 14] rfl (R1_Set_r5_ok F _ _ _ _) ?_
           intro x0 x3 x4 x14
           show OKq _ _ _ [(14, x14), (4, x4), (3, x3), (0, x0)] _
           refine rThen ?_
           refine xCond rfl rfl ?_ ?_
           · refine cLess [4, 3, 0] ?_
             refine xR hE [0, 3, 4] rfl (R1_Set_r6_ok F _ _ _ _) ?_
             intro x0 x3 x4
             show OKq _ _ _ [(4, x4), (3, x3), (0, x0)] _
             refine xBlockN ?_
             exact qLess [4, 3, 0] (hj2 x0 x3 x4)
           · refine rSkip ?_
             refine xBlockN ?_
             exact qLess [4, 3, 0] (hj2 x0 x3 x4)
       · refine rExit ?_
         refine xThenX ?_
         refine xThenX ?_
         refine rOut ?_
         exact qLess [3] (hj0 x3)
   · exact rFail


/-! ### haruspex/haruspexref1.Reach -/

def R1_Reach_env (F : Nat) : Env := envOf []

noncomputable def R1_Reach_R (F : Nat) := rK Tryd.prog TrydG (R1_Reach_env F) Tryd.f22
noncomputable def R1_Reach_D (F : Nat) := dK Tryd.prog TrydG (R1_Reach_env F) Tryd.f22

def R1_Reach_r20 (F : Nat) (x7 : Value) (K : Value → M Value) : M Value :=
  K x7

theorem R1_Reach_r20_ok (F : Nat) (x7 : Value) (K : Value → M Value) : R1_Reach_r20 F x7 K = R1_Reach_R F 20 [(7, x7)] [6] K := by kernel_rfl

def R1_Reach_k0 (F : Nat) (x7 : Value) : M Value :=
  R1_Reach_r20 F x7 (fun x6 => ret x6)

def R1_Reach_r15 (F : Nat) (x0 x2 x7 x8 x11 x12 : Value) (K : Value → Value → Value → Value → Value → Value → M Value) : M Value :=
  bnd (opBin .add x12 (.int .i64 (1))) fun v70 => K x0 x2 x7 x8 x11 v70

theorem R1_Reach_r15_ok (F : Nat) (x0 x2 x7 x8 x11 x12 : Value) (K : Value → Value → Value → Value → Value → Value → M Value) : R1_Reach_r15 F x0 x2 x7 x8 x11 x12 K = R1_Reach_R F 15 [(12, x12), (11, x11), (8, x8), (7, x7), (2, x2), (0, x0)] [0, 2, 7, 8, 11, 12] K := by kernel_rfl

def R1_Reach_k3 (F : Nat) (A2 : Value → Value → Value → Value → Value → Value → M Value) (x0 x2 x7 x8 x11 x12 : Value) : M Value :=
  R1_Reach_r15 F x0 x2 x7 x8 x11 x12 (fun x0 x2 x7 x8 x11 x12 => A2 x0 x2 x7 x8 x11 x12)

def R1_Reach_r19 (F : Nat) (x0 x2 x7 x8 x11 x12 x13 : Value) (K : Value → Value → Value → Value → Value → Value → M Value) : M Value :=
  bnd (opBuildSlice 1 (rep 1 [(.int .i64 (0))]) [(0, 1, false, x13)]) fun v93 => bnd (opAppend 1 8 x8 v93) fun v94 => K x0 x2 x7 v94 x11 x12

theorem R1_Reach_r19_ok (F : Nat) (x0 x2 x7 x8 x11 x12 x13 : Value) (K : Value → Value → Value → Value → Value → Value → M Value) : R1_Reach_r19 F x0 x2 x7 x8 x11 x12 x13 K = R1_Reach_R F 19 [(13, x13), (12, x12), (11, x11), (8, x8), (7, x7), (2, x2), (0, x0)] [0, 2, 7, 8, 11, 12] K := by kernel_rfl

def R1_Reach_r18 (F : Nat) (x0 x2 x7 x8 x11 x12 x13 : Value) (K : Value → Value → Value → Value → Value → Value → Value → M Value) : M Value :=
  bnd (opIndexAddr 1 x7 x13) fun v90 => bnd (opStore v90 (.bool true)) fun _ => K x0 x2 x7 x8 x11 x12 x13

theorem R1_Reach_r18_ok (F : Nat) (x0 x2 x7 x8 x11 x12 x13 : Value) (K : Value → Value → Value → Value → Value → Value → Value → M Value) : R1_Reach_r18 F x0 x2 x7 x8 x11 x12 x13 K = R1_Reach_R F 18 [(13, x13), (12, x12), (11, x11), (8, x8), (7, x7), (2, x2), (0, x0)] [0, 2, 7, 8, 11, 12, 13] K := by kernel_rfl

def R1_Reach_r17 (F : Nat) (x0 x2 x7 x8 x11 x12 x13 : Value) (K : Value → Value → Value → Value → Value → Value → Value → Value → M Value) : M Value :=
  bnd (opIndexAddr 1 x7 x13) fun v80 => bnd (opLoad v80) fun v81 => bnd (opNot v81) fun v82 => onB v82 (bnd (opBin .neq x13 x2) fun v86 => K x0 x2 x7 x8 x11 x12 x13 v86) (K x0 x2 x7 x8 x11 x12 x13 (.bool false))

theorem R1_Reach_r17_ok (F : Nat) (x0 x2 x7 x8 x11 x12 x13 : Value) (K : Value → Value → Value → Value → Value → Value → Value → Value → M Value) : R1_Reach_r17 F x0 x2 x7 x8 x11 x12 x13 K = R1_Reach_R F 17 [(13, x13), (12, x12), (11, x11), (8, x8), (7, x7), (2, x2), (0, x0)] [0, 2, 7, 8, 11, 12, 13, 87] K := by kernel_rfl

def R1_Reach_r16 (F : Nat) (x0 x2 x7 x8 x11 x12 : Value) (K : Value → Value → Value → Value → Value → Value → Value → M Value) : M Value :=
  bnd (opIndexAddr 1 x0 x11) fun v73 => bnd (opLoad v73) fun v74 => bnd (opIndexAddr 1 v74 x12) fun v76 => bnd (opLoad v76) fun v77 => K x0 x2 x7 x8 x11 x12 v77

theorem R1_Reach_r16_ok (F : Nat) (x0 x2 x7 x8 x11 x12 : Value) (K : Value → Value → Value → Value → Value → Value → Value → M Value) : R1_Reach_r16 F x0 x2 x7 x8 x11 x12 K = R1_Reach_R F 16 [(12, x12), (11, x11), (8, x8), (7, x7), (2, x2), (0, x0)] [0, 2, 7, 8, 11, 12, 13] K := by kernel_rfl

def R1_Reach_r14 (F : Nat) (x0 x2 x7 x8 x11 x12 : Value) (K : Value → Value → Value → Value → Value → Value → Value → M Value) : M Value :=
  bnd (opIndexAddr 1 x0 x11) fun v65 => bnd (opLoad v65) fun v66 => bnd (opLen v66) fun v67 => bnd (opBin .lss x12 v67) fun v68 => K x0 x2 x7 x8 x11 x12 v68

theorem R1_Reach_r14_ok (F : Nat) (x0 x2 x7 x8 x11 x12 : Value) (K : Value → Value → Value → Value → Value → Value → Value → M Value) : R1_Reach_r14 F x0 x2 x7 x8 x11 x12 K = R1_Reach_R F 14 [(12, x12), (11, x11), (8, x8), (7, x7), (2, x2), (0, x0)] [0, 2, 7, 8, 11, 12, 68] K := by kernel_rfl

def R1_Reach_b2 (F : Nat) (E2_4 : Value → Value → Value → Value → M Value) (A2 : Value → Value → Value → Value → Value → Value → M Value) (x0 x2 x7 x8 x11 x12 : Value) : M Value :=
  R1_Reach_r14 F x0 x2 x7 x8 x11 x12 (fun x0 x2 x7 x8 x11 x12 x68 => onB x68 (R1_Reach_r16 F x0 x2 x7 x8 x11 x12 (fun x0 x2 x7 x8 x11 x12 x13 => R1_Reach_r17 F x0 x2 x7 x8 x11 x12 x13 (fun x0 x2 x7 x8 x11 x12 x13 x87 => onB x87 (R1_Reach_r18 F x0 x2 x7 x8 x11 x12 x13 (fun x0 x2 x7 x8 x11 x12 x13 => R1_Reach_r19 F x0 x2 x7 x8 x11 x12 x13 (fun x0 x2 x7 x8 x11 x12 => R1_Reach_k3 F A2 x0 x2 x7 x8 x11 x12))) (R1_Reach_k3 F A2 x0 x2 x7 x8 x11 x12)))) (E2_4 x0 x2 x7 x8))

def R1_Reach_l2 (F : Nat) (E2_4 : Value → Value → Value → Value → M Value) : Nat → Value → Value → Value → Value → Value → Value → M Value
  | 0, _, _, _, _, _, _ => fail
  | k2 + 1, x0, x2, x7, x8, x11, x12 => R1_Reach_b2 F E2_4 (R1_Reach_l2 F E2_4 k2) x0 x2 x7 x8 x11 x12

theorem R1_Reach_l2_s (F : Nat) (E2_4 : Value → Value → Value → Value → M Value) (k2 : Nat) (x0 x2 x7 x8 x11 x12 : Value) : R1_Reach_l2 F E2_4 (k2 + 1) x0 x2 x7 x8 x11 x12 = R1_Reach_b2 F E2_4 (R1_Reach_l2 F E2_4 k2) x0 x2 x7 x8 x11 x12 := rfl

def R1_Reach_r13 (F : Nat) (x0 x2 x7 x8 x11 : Value) (K : Value → Value → Value → Value → Value → Value → M Value) : M Value :=
  K x0 x2 x7 x8 x11 (.int .i64 (0))

theorem R1_Reach_r13_ok (F : Nat) (x0 x2 x7 x8 x11 : Value) (K : Value → Value → Value → Value → Value → Value → M Value) : R1_Reach_r13 F x0 x2 x7 x8 x11 K = R1_Reach_R F 13 [(11, x11), (8, x8), (7, x7), (2, x2), (0, x0)] [0, 2, 7, 8, 11, 12] K := by kernel_rfl

def R1_Reach_r12 (F : Nat) (x0 x2 x7 x8 x11 : Value) (K : Value → Value → Value → Value → Value → M Value) : M Value :=
  bnd (opSlice 1 x8 (some (.int .i64 (1))) none none) fun v61 => K x0 x2 x7 v61 x11

theorem R1_Reach_r12_ok (F : Nat) (x0 x2 x7 x8 x11 : Value) (K : Value → Value → Value → Value → Value → M Value) : R1_Reach_r12 F x0 x2 x7 x8 x11 K = R1_Reach_R F 12 [(11, x11), (8, x8), (7, x7), (2, x2), (0, x0)] [0, 2, 7, 8, 11] K := by kernel_rfl

def R1_Reach_r11 (F : Nat) (x0 x2 x7 x8 : Value) (K : Value → Value → Value → Value → Value → M Value) : M Value :=
  bnd (opIndexAddr 1 x8 (.int .i64 (0))) fun v58 => bnd (opLoad v58) fun v59 => K x0 x2 x7 x8 v59

theorem R1_Reach_r11_ok (F : Nat) (x0 x2 x7 x8 : Value) (K : Value → Value → Value → Value → Value → M Value) : R1_Reach_r11 F x0 x2 x7 x8 K = R1_Reach_R F 11 [(8, x8), (7, x7), (2, x2), (0, x0)] [0, 2, 7, 8, 11] K := by kernel_rfl

def R1_Reach_r10 (F : Nat) (x0 x2 x7 x8 : Value) (K : Value → Value → Value → Value → Value → M Value) : M Value :=
  bnd (opLen x8) fun v55 => bnd (opBin .gtr v55 (.int .i64 (0))) fun v56 => K x0 x2 x7 x8 v56

theorem R1_Reach_r10_ok (F : Nat) (x0 x2 x7 x8 : Value) (K : Value → Value → Value → Value → Value → M Value) : R1_Reach_r10 F x0 x2 x7 x8 K = R1_Reach_R F 10 [(8, x8), (7, x7), (2, x2), (0, x0)] [0, 2, 7, 8, 56] K := by kernel_rfl

def R1_Reach_b1 (F : Nat) (E1_2 : Value → M Value) (A1 : Value → Value → Value → Value → M Value) (x0 x2 x7 x8 : Value) : M Value :=
  R1_Reach_r10 F x0 x2 x7 x8 (fun x0 x2 x7 x8 x56 => onB x56 (R1_Reach_r11 F x0 x2 x7 x8 (fun x0 x2 x7 x8 x11 => R1_Reach_r12 F x0 x2 x7 x8 x11 (fun x0 x2 x7 x8 x11 => R1_Reach_r13 F x0 x2 x7 x8 x11 (fun x0 x2 x7 x8 x11 x12 => R1_Reach_l2 F (fun x0 x2 x7 x8 => A1 x0 x2 x7 x8) F x0 x2 x7 x8 x11 x12)))) (E1_2 x7))

def R1_Reach_l1 (F : Nat) (E1_2 : Value → M Value) : Nat → Value → Value → Value → Value → M Value
  | 0, _, _, _, _ => fail
  | k1 + 1, x0, x2, x7, x8 => R1_Reach_b1 F E1_2 (R1_Reach_l1 F E1_2 k1) x0 x2 x7 x8

theorem R1_Reach_l1_s (F : Nat) (E1_2 : Value → M Value) (k1 : Nat) (x0 x2 x7 x8 : Value) : R1_Reach_l1 F E1_2 (k1 + 1) x0 x2 x7 x8 = R1_Reach_b1 F E1_2 (R1_Reach_l1 F E1_2 k1) x0 x2 x7 x8 := rfl

def R1_Reach_k4 (F : Nat) (x0 x2 x7 x8 : Value) : M Value :=
  R1_Reach_l1 F (fun x7 => R1_Reach_k0 F x7) F x0 x2 x7 x8

def R1_Reach_r5 (F : Nat) (x0 x1 x2 x7 x8 x9 : Value) (K : Value → Value → Value → Value → Value → Value → M Value) : M Value :=
  bnd (opBin .add x9 (.int .i64 (1))) fun v22 => K x0 x1 x2 x7 x8 v22

theorem R1_Reach_r5_ok (F : Nat) (x0 x1 x2 x7 x8 x9 : Value) (K : Value → Value → Value → Value → Value → Value → M Value) : R1_Reach_r5 F x0 x1 x2 x7 x8 x9 K = R1_Reach_R F 5 [(9, x9), (8, x8), (7, x7), (2, x2), (1, x1), (0, x0)] [0, 1, 2, 7, 8, 9] K := by kernel_rfl

def R1_Reach_k6 (F : Nat) (A5 : Value → Value → Value → Value → Value → Value → M Value) (x0 x1 x2 x7 x8 x9 : Value) : M Value :=
  R1_Reach_r5 F x0 x1 x2 x7 x8 x9 (fun x0 x1 x2 x7 x8 x9 => A5 x0 x1 x2 x7 x8 x9)

def R1_Reach_r9 (F : Nat) (x0 x1 x2 x7 x8 x9 x10 : Value) (K : Value → Value → Value → Value → Value → Value → M Value) : M Value :=
  bnd (opBuildSlice 1 (rep 1 [(.int .i64 (0))]) [(0, 1, false, x10)]) fun v52 => bnd (opAppend 1 8 x8 v52) fun v53 => K x0 x1 x2 x7 v53 x9

theorem R1_Reach_r9_ok (F : Nat) (x0 x1 x2 x7 x8 x9 x10 : Value) (K : Value → Value → Value → Value → Value → Value → M Value) : R1_Reach_r9 F x0 x1 x2 x7 x8 x9 x10 K = R1_Reach_R F 9 [(10, x10), (9, x9), (8, x8), (7, x7), (2, x2), (1, x1), (0, x0)] [0, 1, 2, 7, 8, 9] K := by kernel_rfl

def R1_Reach_r8 (F : Nat) (x0 x1 x2 x7 x8 x9 x10 : Value) (K : Value → Value → Value → Value → Value → Value → Value → M Value) : M Value :=
  bnd (opIndexAddr 1 x7 x10) fun v49 => bnd (opStore v49 (.bool true)) fun _ => K x0 x1 x2 x7 x8 x9 x10

theorem R1_Reach_r8_ok (F : Nat) (x0 x1 x2 x7 x8 x9 x10 : Value) (K : Value → Value → Value → Value → Value → Value → Value → M Value) : R1_Reach_r8 F x0 x1 x2 x7 x8 x9 x10 K = R1_Reach_R F 8 [(10, x10), (9, x9), (8, x8), (7, x7), (2, x2), (1, x1), (0, x0)] [0, 1, 2, 7, 8, 9, 10] K := by kernel_rfl

def R1_Reach_r7 (F : Nat) (x0 x1 x2 x7 x8 x9 x10 : Value) (K : Value → Value → Value → Value → Value → Value → Value → Value → M Value) : M Value :=
  bnd (opBin .geq x10 (.int .i64 (0))) fun v28 => onB v28 (bnd (opLen x0) fun v32 => bnd (opBin .lss x10 v32) fun v33 => onB v33 (bnd (opIndexAddr 1 x7 x10) fun v38 => bnd (opLoad v38) fun v39 => bnd (opNot v39) fun v40 => onB v40 (bnd (opBin .neq x10 x2) fun v45 => K x0 x1 x2 x7 x8 x9 x10 v45) (K x0 x1 x2 x7 x8 x9 x10 (.bool false))) (K x0 x1 x2 x7 x8 x9 x10 (.bool false))) (K x0 x1 x2 x7 x8 x9 x10 (.bool false))

theorem R1_Reach_r7_ok (F : Nat) (x0 x1 x2 x7 x8 x9 x10 : Value) (K : Value → Value → Value → Value → Value → Value → Value → Value → M Value) : R1_Reach_r7 F x0 x1 x2 x7 x8 x9 x10 K = R1_Reach_R F 7 [(10, x10), (9, x9), (8, x8), (7, x7), (2, x2), (1, x1), (0, x0)] [0, 1, 2, 7, 8, 9, 10, 46] K := by kernel_rfl

def R1_Reach_r6 (F : Nat) (x0 x1 x2 x7 x8 x9 : Value) (K : Value → Value → Value → Value → Value → Value → Value → M Value) : M Value :=
  bnd (opIndexAddr 1 x1 x9) fun v25 => bnd (opLoad v25) fun v26 => K x0 x1 x2 x7 x8 x9 v26

theorem R1_Reach_r6_ok (F : Nat) (x0 x1 x2 x7 x8 x9 : Value) (K : Value → Value → Value → Value → Value → Value → Value → M Value) : R1_Reach_r6 F x0 x1 x2 x7 x8 x9 K = R1_Reach_R F 6 [(9, x9), (8, x8), (7, x7), (2, x2), (1, x1), (0, x0)] [0, 1, 2, 7, 8, 9, 10] K := by kernel_rfl

def R1_Reach_r4 (F : Nat) (x0 x1 x2 x7 x8 x9 : Value) (K : Value → Value → Value → Value → Value → Value → Value → M Value) : M Value :=
  bnd (opLen x1) fun v19 => bnd (opBin .lss x9 v19) fun v20 => K x0 x1 x2 x7 x8 x9 v20

theorem R1_Reach_r4_ok (F : Nat) (x0 x1 x2 x7 x8 x9 : Value) (K : Value → Value → Value → Value → Value → Value → Value → M Value) : R1_Reach_r4 F x0 x1 x2 x7 x8 x9 K = R1_Reach_R F 4 [(9, x9), (8, x8), (7, x7), (2, x2), (1, x1), (0, x0)] [0, 1, 2, 7, 8, 9, 20] K := by kernel_rfl

def R1_Reach_b5 (F : Nat) (E5_0 : Value → Value → Value → Value → M Value) (A5 : Value → Value → Value → Value → Value → Value → M Value) (x0 x1 x2 x7 x8 x9 : Value) : M Value :=
  R1_Reach_r4 F x0 x1 x2 x7 x8 x9 (fun x0 x1 x2 x7 x8 x9 x20 => onB x20 (R1_Reach_r6 F x0 x1 x2 x7 x8 x9 (fun x0 x1 x2 x7 x8 x9 x10 => R1_Reach_r7 F x0 x1 x2 x7 x8 x9 x10 (fun x0 x1 x2 x7 x8 x9 x10 x46 => onB x46 (R1_Reach_r8 F x0 x1 x2 x7 x8 x9 x10 (fun x0 x1 x2 x7 x8 x9 x10 => R1_Reach_r9 F x0 x1 x2 x7 x8 x9 x10 (fun x0 x1 x2 x7 x8 x9 => R1_Reach_k6 F A5 x0 x1 x2 x7 x8 x9))) (R1_Reach_k6 F A5 x0 x1 x2 x7 x8 x9)))) (E5_0 x0 x2 x7 x8))

def R1_Reach_l5 (F : Nat) (E5_0 : Value → Value → Value → Value → M Value) : Nat → Value → Value → Value → Value → Value → Value → M Value
  | 0, _, _, _, _, _, _ => fail
  | k5 + 1, x0, x1, x2, x7, x8, x9 => R1_Reach_b5 F E5_0 (R1_Reach_l5 F E5_0 k5) x0 x1 x2 x7 x8 x9

theorem R1_Reach_l5_s (F : Nat) (E5_0 : Value → Value → Value → Value → M Value) (k5 : Nat) (x0 x1 x2 x7 x8 x9 : Value) : R1_Reach_l5 F E5_0 (k5 + 1) x0 x1 x2 x7 x8 x9 = R1_Reach_b5 F E5_0 (R1_Reach_l5 F E5_0 k5) x0 x1 x2 x7 x8 x9 := rfl

def R1_Reach_r3 (F : Nat) (x0 x1 x2 x7 x8 : Value) (K : Value → Value → Value → Value → Value → Value → M Value) : M Value :=
  K x0 x1 x2 x7 x8 (.int .i64 (0))

theorem R1_Reach_r3_ok (F : Nat) (x0 x1 x2 x7 x8 : Value) (K : Value → Value → Value → Value → Value → Value → M Value) : R1_Reach_r3 F x0 x1 x2 x7 x8 K = R1_Reach_R F 3 [(8, x8), (7, x7), (2, x2), (1, x1), (0, x0)] [0, 1, 2, 7, 8, 9] K := by kernel_rfl

def R1_Reach_r2 (F : Nat) (x0 x1 x2 x7 : Value) (K : Value → Value → Value → Value → Value → M Value) : M Value :=
  K x0 x1 x2 x7 (.slice none 0 0)

theorem R1_Reach_r2_ok (F : Nat) (x0 x1 x2 x7 : Value) (K : Value → Value → Value → Value → Value → M Value) : R1_Reach_r2 F x0 x1 x2 x7 K = R1_Reach_R F 2 [(7, x7), (2, x2), (1, x1), (0, x0)] [0, 1, 2, 7, 8] K := by kernel_rfl

def R1_Reach_r1 (F : Nat) (x0 x1 x2 : Value) (K : Value → Value → Value → Value → M Value) : M Value :=
  bnd (opLen x0) fun v15 => bnd (opMake 1 [(.bool false)] v15 v15) fun v16 => K x0 x1 x2 v16

theorem R1_Reach_r1_ok (F : Nat) (x0 x1 x2 : Value) (K : Value → Value → Value → Value → M Value) : R1_Reach_r1 F x0 x1 x2 K = R1_Reach_R F 1 [(2, x2), (1, x1), (0, x0)] [0, 1, 2, 7] K := by kernel_rfl

def R1_Reach_r0 (F : Nat) (x0 x1 x2 : Value) (K : Value → Value → Value → M Value) : M Value :=
  K x0 x1 x2

theorem R1_Reach_r0_ok (F : Nat) (x0 x1 x2 : Value) (K : Value → Value → Value → M Value) : R1_Reach_r0 F x0 x1 x2 K = R1_Reach_R F 0 [(2, x2), (1, x1), (0, x0)] [0, 1, 2] K := by kernel_rfl

def R1_Reach (F : Nat) (x0 x1 x2 : Value) : M Value :=
  R1_Reach_r0 F x0 x1 x2 (fun x0 x1 x2 => R1_Reach_r1 F x0 x1 x2 (fun x0 x1 x2 x7 => R1_Reach_r2 F x0 x1 x2 x7 (fun x0 x1 x2 x7 x8 => R1_Reach_r3 F x0 x1 x2 x7 x8 (fun x0 x1 x2 x7 x8 x9 => R1_Reach_l5 F (fun x0 x2 x7 x8 => R1_Reach_k4 F x0 x2 x7 x8) F x0 x1 x2 x7 x8 x9))))

def R1_Reach_m (F : Nat) : List Value → M Value
  | [x0, x1, x2] => R1_Reach F x0 x1 x2
  | _ => fail

theorem R1_Reach_body : Tryd.f22.body = some (.seq (.region 0 (opsOf Tryd.f22 0) false) (.seq (.region 1 (opsOf Tryd.f22 1) false) (.seq (.region 2 (opsOf Tryd.f22 2) false) (.seq (.seq (.region 3 (opsOf Tryd.f22 3) false) (.block 0 (.loop (.seq (.seq (.region 4 (opsOf Tryd.f22 4) false) (.cond (.tmp 20) .skip (.exit 0))) (.seq (.block 1 (.seq (.region 6 (opsOf Tryd.f22 6) false) (.seq (.region 7 (opsOf Tryd.f22 7) false) (.cond (.tmp 46) (.seq (.region 8 (opsOf Tryd.f22 8) false) (.region 9 (opsOf Tryd.f22 9) false)) .skip)))) (.region 5 (opsOf Tryd.f22 5) false)))))) (.seq (.block 2 (.loop (.seq (.seq (.region 10 (opsOf Tryd.f22 10) false) (.cond (.tmp 56) .skip (.exit 2))) (.block 3 (.seq (.region 11 (opsOf Tryd.f22 11) false) (.seq (.region 12 (opsOf Tryd.f22 12) false) (.seq (.region 13 (opsOf Tryd.f22 13) false) (.block 4 (.loop (.seq (.seq (.region 14 (opsOf Tryd.f22 14) false) (.cond (.tmp 68) .skip (.exit 4))) (.seq (.block 5 (.seq (.region 16 (opsOf Tryd.f22 16) false) (.seq (.region 17 (opsOf Tryd.f22 17) false) (.cond (.tmp 87) (.seq (.region 18 (opsOf Tryd.f22 18) false) (.region 19 (opsOf Tryd.f22 19) false)) .skip)))) (.region 15 (opsOf Tryd.f22 15) false)))))))))))) (.seq (.region 20 (opsOf Tryd.f22 20) false) .ret)))))) := by kernel_rfl

theorem R1_Reach_ok (F : Nat) : Sim Tryd.prog TrydG 22 (R1_Reach_m F) := by
 have hE : EnvOK Tryd.prog TrydG (R1_Reach_env F) := EnvOK.nil
 refine Sim.of_body (E := R1_Reach_env F) Tryd.func22 R1_Reach_body Tryd.call22 ?_ ?_
 · intro args hl; unfold R1_Reach_m; split
   · exact absurd hl (Nat.not_lt.2 (Nat.le_of_ble_eq_true rfl))
   · rfl
 · intro args ρ h w z; unfold R1_Reach_m; split
   · rename_i x0 x1 x2; show OKc _ _ [(0, x0), (1, x1), (2, x2)] _ _
     refine rSeq ?_
     refine cLess [2, 1, 0] ?_
     refine xR hE [0, 1, 2] rfl (R1_Reach_r0_ok F _ _ _ _) ?_
     intro x0 x1 x2
     show OKq _ _ _ [(2, x2), (1, x1), (0, x0)] _
     refine rThen ?_
     refine rSeq ?_
     refine cLess [2, 1, 0] ?_
     refine xR hE [0, 1, 2, 7] rfl (R1_Reach_r1_ok F _ _ _ _) ?_
     intro x0 x1 x2 x7
     show OKq _ _ _ [(7, x7), (2, x2), (1, x1), (0, x0)] _
     refine rThen ?_
     refine rSeq ?_
     refine cLess [7, 2, 1, 0] ?_
     refine xR hE [0, 1, 2, 7, 8] rfl (R1_Reach_r2_ok F _ _ _ _ _) ?_
     intro x0 x1 x2 x7 x8
     show OKq _ _ _ [(8, x8), (7, x7), (2, x2), (1, x1), (0, x0)] _
     refine rThen ?_
     refine xSeq [0, 2, 7, 8] (R1_Reach_k4 F ) ?_ fun hj4 => ?_
     · intro x0 x2 x7 x8
       show OKc _ _ [(8, x8), (7, x7), (2, x2), (0, x0)] _ _
       refine xSeq [7] (R1_Reach_k0 F ) ?_ fun hj0 => ?_
       · intro x7
         show OKc _ _ [(7, x7)] _ _
         refine rSeq ?_
         refine cLess [7] ?_
         refine xR hE [6] rfl (R1_Reach_r20_ok F _ _) ?_
         intro x6
         show OKq _ _ _ [(6, x6)] _
         refine rThen ?_
         refine rRet ?_
         exact rDone (.inr rfl) rfl
       · refine rBlock ?_
         refine cLess [8, 7, 2, 0] ?_
         refine xLoopAt [0, 2, 7, 8] [] (fun k1 => R1_Reach_l1 F (fun x7 => R1_Reach_k0 F x7) k1) F [x0, x2, x7, x8] rfl rfl (fun _ _ _ _ => rfl) fun I hI1 k1 => ?_
         intro x0 x2 x7 x8
         show OKc _ _ [(8, x8), (7, x7), (2, x2), (0, x0)] _ _
         refine cAs (R1_Reach_l1_s F _ _ _ _ _ _) ?_
         refine rSeq ?_
         refine rSeq ?_
         refine cLess [8, 7, 2, 0] ?_
         refine xR hE [0, 2, 7, 8, 56] rfl (R1_Reach_r10_ok F _ _ _ _ _) ?_
         intro x0 x2 x7 x8 x56
         show OKq _ _ _ [(56, x56), (8, x8), (7, x7), (2, x2), (0, x0)] _
         refine rThen ?_
         refine xCond rfl rfl ?_ ?_
         · refine rSkip ?_
           refine rThen ?_
           refine rBlock ?_
           refine rSeq ?_
           refine cLess [8, 7, 2, 0] ?_
           refine xR hE [0, 2, 7, 8, 11] rfl (R1_Reach_r11_ok F _ _ _ _ _) ?_
           intro x0 x2 x7 x8 x11
           show OKq _ _ _ [(11, x11), (8, x8), (7, x7), (2, x2), (0, x0)] _
           refine rThen ?_
           refine rSeq ?_
           refine cLess [11, 8, 7, 2, 0] ?_
           refine xR hE [0, 2, 7, 8, 11] rfl (R1_Reach_r12_ok F _ _ _ _ _ _) ?_
           intro x0 x2 x7 x8 x11
           show OKq _ _ _ [(11, x11), (8, x8), (7, x7), (2, x2), (0, x0)] _
           refine rThen ?_
           refine rSeq ?_
           refine cLess [11, 8, 7, 2, 0] ?_
           refine xR hE [0, 2, 7, 8, 11, 12] rfl (R1_Reach_r13_ok F _ _ _ _ _ _) ?_
           intro x0 x2 x7 x8 x11 x12
           show OKq _ _ _ [(12, x12), (11, x11), (8, x8), (7, x7), (2, x2), (0, x0)] _
           refine rThen ?_
           refine rBlock ?_
           refine cLess [12, 11, 8, 7, 2, 0] ?_
           refine xLoopAt [0, 2, 7, 8, 11, 12] [] (fun k2 => R1_Reach_l2 F (fun x0 x2 x7 x8 => (R1_Reach_l1 F (fun x7 => R1_Reach_k0 F x7) k1) x0 x2 x7 x8) k2) F [x0, x2, x7, x8, x11, x12] rfl rfl (fun _ _ _ _ _ _ => rfl) fun I hI2 k2 => ?_
           intro x0 x2 x7 x8 x11 x12
           show OKc _ _ [(12, x12), (11, x11), (8, x8), (7, x7), (2, x2), (0, x0)] _ _
           refine cAs (R1_Reach_l2_s F _ _ _ _ _ _ _ _) ?_
           refine rSeq ?_
           refine rSeq ?_
           refine cLess [12, 11, 8, 7, 2, 0] ?_
           refine xR hE [0, 2, 7, 8, 11, 12, 68] rfl (R1_Reach_r14_ok F _ _ _ _ _ _ _) ?_
           intro x0 x2 x7 x8 x11 x12 x68
           show OKq _ _ _ [(68, x68), (12, x12), (11, x11), (8, x8), (7, x7), (2, x2), (0, x0)] _
           refine rThen ?_
           refine xCond rfl rfl ?_ ?_
           · refine rSkip ?_
             refine rThen ?_
             refine xSeq [0, 2, 7, 8, 11, 12] (R1_Reach_k3 F (R1_Reach_l2 F (fun x0 x2 x7 x8 => (R1_Reach_l1 F (fun x7 => R1_Reach_k0 F x7) k1) x0 x2 x7 x8) k2) ) ?_ fun hj3 => ?_
             · intro x0 x2 x7 x8 x11 x12
               show OKc _ _ [(12, x12), (11, x11), (8, x8), (7, x7), (2, x2), (0, x0)] _ _
               refine cLess [12, 11, 8, 7, 2, 0] ?_
               refine xR hE [0, 2, 7, 8, 11, 12] rfl (R1_Reach_r15_ok F _ _ _ _ _ _ _) ?_
               intro x0 x2 x7 x8 x11 x12
               show OKq _ _ _ [(12, x12), (11, x11), (8, x8), (7, x7), (2, x2), (0, x0)] _
               exact qLess [12, 11, 8, 7, 2, 0] (hI2 k2 x0 x2 x7 x8 x11 x12)
             · refine rBlock ?_
               refine rSeq ?_
               refine cLess [12, 11, 8, 7, 2, 0] ?_
               refine xR hE [0, 2, 7, 8, 11, 12, 13] rfl (R1_Reach_r16_ok F _ _ _ _ _ _ _) ?_
               intro x0 x2 x7 x8 x11 x12 x13
               show OKq _ _ _ [(13, x13), (12, x12), (11, x11), (8, x8), (7, x7), (2, x2), (0, x0)] _
               refine rThen ?_
               refine rSeq ?_
               refine cLess [13, 12, 11, 8, 7, 2, 0] ?_
               refine xR hE [0, 2, 7, 8, 11, 12, 13, 87] rfl (R1_Reach_r17_ok F _ _ _ _ _ _ _ _) ?_
               intro x0 x2 x7 x8 x11 x12 x13 x87
               show OKq _ _ _ [(87, x87), (13, x13), (12, x12), (11, x11), (8, x8), (7, x7), (2, x2), (0, x0)] _
               refine rThen ?_
               refine xCond rfl rfl ?_ ?_
               · refine rSeq ?_
                 refine cLess [13, 12, 11, 8, 7, 2, 0] ?_
                 refine xR hE [0, 2, 7, 8, 11, 12, 13] rfl (R1_Reach_r18_ok F _ _ _ _ _ _ _ _) ?_
                 intro x0 x2 x7 x8 x11 x12 x13
                 show OKq _ _ _ [(13, x13), (12, x12), (11, x11), (8, x8), (7, x7), (2, x2), (0, x0)] _
                 refine rThen ?_
                 refine cLess [13, 12, 11, 8, 7, 2, 0] ?_
                 refine xR hE [0, 2, 7, 8, 11, 12] rfl (R1_Reach_r19_ok F _ _ _ _ _ _ _ _) ?_
                 intro x0 x2 x7 x8 x11 x12
                 show OKq _ _ _ [(12, x12), (11, x11), (8, x8), (7, x7), (2, x2), (0, x0)] _
                 refine xBlockN ?_
                 exact qLess [12, 11, 8, 7, 2, 0] (hj3 x0 x2 x7 x8 x11 x12)
               · refine rSkip ?_
                 refine xBlockN ?_
                 exact qLess [12, 11, 8, 7, 2, 0] (hj3 x0 x2 x7 x8 x11 x12)
           · refine rExit ?_
             refine xThenX ?_
             refine xThenX ?_
             refine rOut ?_
             refine xBlockN ?_
             exact qLess [8, 7, 2, 0] (hI1 k1 x0 x2 x7 x8)
         · refine rExit ?_
           refine xThenX ?_
           refine xThenX ?_
           refine rOut ?_
           exact qLess [7] (hj0 x7)
     · refine rSeq ?_
       refine cLess [8, 7, 2, 1, 0] ?_
       refine xR hE [0, 1, 2, 7, 8, 9] rfl (R1_Reach_r3_ok F _ _ _ _ _ _) ?_
       intro x0 x1 x2 x7 x8 x9
       show OKq _ _ _ [(9, x9), (8, x8), (7, x7), (2, x2), (1, x1), (0, x0)] _
       refine rThen ?_
       refine rBlock ?_
       refine cLess [9, 8, 7, 2, 1, 0] ?_
       refine xLoopAt [0, 1, 2, 7, 8, 9] [] (fun k5 => R1_Reach_l5 F (fun x0 x2 x7 x8 => R1_Reach_k4 F x0 x2 x7 x8) k5) F [x0, x1, x2, x7, x8, x9] rfl rfl (fun _ _ _ _ _ _ => rfl) fun I hI5 k5 => ?_
       intro x0 x1 x2 x7 x8 x9
       show OKc _ _ [(9, x9), (8, x8), (7, x7), (2, x2), (1, x1), (0, x0)] _ _
       refine cAs (R1_Reach_l5_s F _ _ _ _ _ _ _ _) ?_
       refine rSeq ?_
       refine rSeq ?_
       refine cLess [9, 8, 7, 2, 1, 0] ?_
       refine xR hE [0, 1, 2, 7, 8, 9, 20] rfl (R1_Reach_r4_ok F _ _ _ _ _ _ _) ?_
       intro x0 x1 x2 x7 x8 x9 x20
       show OKq _ _ _ [(20, x20), (9, x9), (8, x8), (7, x7), (2, x2), (1, x1), (0, x0)] _
       refine rThen ?_
       refine xCond rfl rfl ?_ ?_
       · refine rSkip ?_
         refine rThen ?_
         refine xSeq [0, 1, 2, 7, 8, 9] (R1_Reach_k6 F (R1_Reach_l5 F (fun x0 x2 x7 x8 => R1_Reach_k4 F x0 x2 x7 x8) k5) ) ?_ fun hj6 => ?_
         · intro x0 x1 x2 x7 x8 x9
           show OKc _ _ [(9, x9), (8, x8), (7, x7), (2, x2), (1, x1), (0, x0)] _ _
           refine cLess [9, 8, 7, 2, 1, 0] ?_
           refine xR hE [0, 1, 2, 7, 8, 9] rfl (R1_Reach_r5_ok F _ _ _ _ _ _ _) ?_
           intro x0 x1 x2 x7 x8 x9
           show OKq _ _ _ [(9, x9), (8, x8), (7, x7), (2, x2), (1, x1), (0, x0)] _
           exact qLess [9, 8, 7, 2, 1, 0] (hI5 k5 x0 x1 x2 x7 x8 x9)
         · refine rBlock ?_
           refine rSeq ?_
           refine cLess [9, 8, 7, 2, 1, 0] ?_
           refine xR hE [0, 1, 2, 7, 8, 9, 10] rfl (R1_Reach_r6_ok F _ _ _ _ _ _ _) ?_
           intro x0 x1 x2 x7 x8 x9 x10
           show OKq _ _ _ [(10, x10), (9, x9), (8, x8), (7, x7), (2, x2), (1, x1), (0, x0)] _
           refine rThen ?_
           refine rSeq ?_
           refine cLess [10, 9, 8, 7, 2, 1, 0] ?_
           refine xR hE [0, 1, 2, 7, 8, 9, 10, 46] rfl (R1_Reach_r7_ok F _ _ _ _ _ _ _ _) ?_
           intro x0 x1 x2 x7 x8 x9 x10 x46
           show OKq _ _ _ [(46, x46), (10, x10), (9, x9), (8, x8), (7, x7), (2, x2), (1, x1), (0, x0)] _
           refine rThen ?_
           refine xCond rfl rfl ?_ ?_
           · refine rSeq ?_
             refine cLess [10, 9, 8, 7, 2, 1, 0] ?_
             refine xR hE [0, 1, 2, 7, 8, 9, 10] rfl (R1_Reach_r8_ok F _ _ _ _ _ _ _ _) ?_
             intro x0 x1 x2 x7 x8 x9 x10
             show OKq _ _ _ [(10, x10), (9, x9), (8, x8), (7, x7), (2, x2), (1, x1), (0, x0)] _
             refine rThen ?_
             refine cLess [10, 9, 8, 7, 2, 1, 0] ?_
             refine xR hE [0, 1, 2, 7, 8, 9] rfl (R1_Reach_r9_ok F _ _ _ _ _ _ _ _) ?_
             intro x0 x1 x2 x7 x8 x9
             show OKq _ _ _ [(9, x9), (8, x8), (7, x7), (2, x2), (1, x1), (0, x0)] _
             refine xBlockN ?_
             exact qLess [9, 8, 7, 2, 1, 0] (hj6 x0 x1 x2 x7 x8 x9)
           · refine rSkip ?_
             refine xBlockN ?_
             exact qLess [9, 8, 7, 2, 1, 0] (hj6 x0 x1 x2 x7 x8 x9)
       · refine rExit ?_
         refine xThenX ?_
         refine xThenX ?_
         refine rOut ?_
         exact qLess [8, 7, 2, 0] (hj4 x0 x2 x7 x8)
   · exact rFail


/-! ### haruspex/haruspexref1.In -/

def R1_In_env (F : Nat) : Env := envOf []

noncomputable def R1_In_R (F : Nat) := rK Tryd.prog TrydG (R1_In_env F) Tryd.f34
noncomputable def R1_In_D (F : Nat) := dK Tryd.prog TrydG (R1_In_env F) Tryd.f34

def R1_In_r6 (F : Nat) (K : Value → M Value) : M Value :=
  K (.bool false)

theorem R1_In_r6_ok (F : Nat) (K : Value → M Value) : R1_In_r6 F K = R1_In_R F 6 [] [4] K := by kernel_rfl

def R1_In_k0 (F : Nat) : M Value :=
  R1_In_r6 F (fun x4 => ret x4)

def R1_In_r3 (F : Nat) (x0 x1 x5 : Value) (K : Value → Value → Value → M Value) : M Value :=
  bnd (opBin .add x5 (.int .i64 (1))) fun v11 => K x0 x1 v11

theorem R1_In_r3_ok (F : Nat) (x0 x1 x5 : Value) (K : Value → Value → Value → M Value) : R1_In_r3 F x0 x1 x5 K = R1_In_R F 3 [(5, x5), (1, x1), (0, x0)] [0, 1, 5] K := by kernel_rfl

def R1_In_r5 (F : Nat) (K : Value → M Value) : M Value :=
  K (.bool true)

theorem R1_In_r5_ok (F : Nat) (K : Value → M Value) : R1_In_r5 F K = R1_In_R F 5 [] [4] K := by kernel_rfl

def R1_In_r4 (F : Nat) (x0 x1 x5 : Value) (K : Value → Value → Value → Value → M Value) : M Value :=
  bnd (opIndexAddr 1 x0 x5) fun v14 => bnd (opLoad v14) fun v15 => bnd (opBin .eql v15 x1) fun v17 => K x0 x1 x5 v17

theorem R1_In_r4_ok (F : Nat) (x0 x1 x5 : Value) (K : Value → Value → Value → Value → M Value) : R1_In_r4 F x0 x1 x5 K = R1_In_R F 4 [(5, x5), (1, x1), (0, x0)] [0, 1, 5, 17] K := by kernel_rfl

def R1_In_r2 (F : Nat) (x0 x1 x5 : Value) (K : Value → Value → Value → Value → M Value) : M Value :=
  bnd (opLen x0) fun v8 => bnd (opBin .lss x5 v8) fun v9 => K x0 x1 x5 v9

theorem R1_In_r2_ok (F : Nat) (x0 x1 x5 : Value) (K : Value → Value → Value → Value → M Value) : R1_In_r2 F x0 x1 x5 K = R1_In_R F 2 [(5, x5), (1, x1), (0, x0)] [0, 1, 5, 9] K := by kernel_rfl

def R1_In_b1 (F : Nat) (E1_0 : M Value) (A1 : Value → Value → Value → M Value) (x0 x1 x5 : Value) : M Value :=
  R1_In_r2 F x0 x1 x5 (fun x0 x1 x5 x9 => onB x9 (R1_In_r4 F x0 x1 x5 (fun x0 x1 x5 x17 => onB x17 (R1_In_r5 F (fun x4 => ret x4)) (R1_In_r3 F x0 x1 x5 (fun x0 x1 x5 => A1 x0 x1 x5)))) (E1_0 ))

def R1_In_l1 (F : Nat) (E1_0 : M Value) : Nat → Value → Value → Value → M Value
  | 0, _, _, _ => fail
  | k1 + 1, x0, x1, x5 => R1_In_b1 F E1_0 (R1_In_l1 F E1_0 k1) x0 x1 x5

theorem R1_In_l1_s (F : Nat) (E1_0 : M Value) (k1 : Nat) (x0 x1 x5 : Value) : R1_In_l1 F E1_0 (k1 + 1) x0 x1 x5 = R1_In_b1 F E1_0 (R1_In_l1 F E1_0 k1) x0 x1 x5 := rfl

def R1_In_r1 (F : Nat) (x0 x1 : Value) (K : Value → Value → Value → M Value) : M Value :=
  K x0 x1 (.int .i64 (0))

theorem R1_In_r1_ok (F : Nat) (x0 x1 : Value) (K : Value → Value → Value → M Value) : R1_In_r1 F x0 x1 K = R1_In_R F 1 [(1, x1), (0, x0)] [0, 1, 5] K := by kernel_rfl

def R1_In_r0 (F : Nat) (x0 x1 : Value) (K : Value → Value → M Value) : M Value :=
  K x0 x1

theorem R1_In_r0_ok (F : Nat) (x0 x1 : Value) (K : Value → Value → M Value) : R1_In_r0 F x0 x1 K = R1_In_R F 0 [(1, x1), (0, x0)] [0, 1] K := by kernel_rfl

def R1_In (F : Nat) (x0 x1 : Value) : M Value :=
  R1_In_r0 F x0 x1 (fun x0 x1 => R1_In_r1 F x0 x1 (fun x0 x1 x5 => R1_In_l1 F (R1_In_k0 F ) F x0 x1 x5))

def R1_In_m (F : Nat) : List Value → M Value
  | [x0, x1] => R1_In F x0 x1
  | _ => fail

theorem R1_In_body : Tryd.f34.body = some (.seq (.region 0 (opsOf Tryd.f34 0) false) (.seq (.seq (.region 1 (opsOf Tryd.f34 1) false) (.block 0 (.loop (.seq (.seq (.region 2 (opsOf Tryd.f34 2) false) (.cond (.tmp 9) .skip (.exit 0))) (.seq (.block 1 (.seq (.region 4 (opsOf Tryd.f34 4) false) (.cond (.tmp 17) (.seq (.region 5 (opsOf Tryd.f34 5) false) .ret) .skip))) (.region 3 (opsOf Tryd.f34 3) false)))))) (.seq (.region 6 (opsOf Tryd.f34 6) false) .ret))) := by kernel_rfl

theorem R1_In_ok (F : Nat) : Sim Tryd.prog TrydG 34 (R1_In_m F) := by
 have hE : EnvOK Tryd.prog TrydG (R1_In_env F) := EnvOK.nil
 refine Sim.of_body (E := R1_In_env F) Tryd.func34 R1_In_body Tryd.call34 ?_ ?_
 · intro args hl; unfold R1_In_m; split
   · exact absurd hl (Nat.not_lt.2 (Nat.le_of_ble_eq_true rfl))
   · rfl
 · intro args ρ h w z; unfold R1_In_m; split
   · rename_i x0 x1; show OKc _ _ [(0, x0), (1, x1)] _ _
     refine rSeq ?_
     refine cLess [1, 0] ?_
     refine xR hE [0, 1] rfl (R1_In_r0_ok F _ _ _) ?_
     intro x0 x1
     show OKq _ _ _ [(1, x1), (0, x0)] _
     refine rThen ?_
     refine xSeq [] (R1_In_k0 F ) ?_ fun hj0 => ?_
     · show OKc _ _ [] _ _
       refine rSeq ?_
       refine cLess [] ?_
       refine xR hE [4] rfl (R1_In_r6_ok F _) ?_
       intro x4
       show OKq _ _ _ [(4, x4)] _
       refine rThen ?_
       refine rRet ?_
       exact rDone (.inr rfl) rfl
     · refine rSeq ?_
       refine cLess [1, 0] ?_
       refine xR hE [0, 1, 5] rfl (R1_In_r1_ok F _ _ _) ?_
       intro x0 x1 x5
       show OKq _ _ _ [(5, x5), (1, x1), (0, x0)] _
       refine rThen ?_
       refine rBlock ?_
       refine cLess [5, 1, 0] ?_
       refine xLoopAt [0, 1, 5] [] (fun k1 => R1_In_l1 F (R1_In_k0 F ) k1) F [x0, x1, x5] rfl rfl (fun _ _ _ => rfl) fun I hI1 k1 => ?_
       intro x0 x1 x5
       show OKc _ _ [(5, x5), (1, x1), (0, x0)] _ _
       refine cAs (R1_In_l1_s F _ _ _ _ _) ?_
       refine rSeq ?_
       refine rSeq ?_
       refine cLess [5, 1, 0] ?_
       refine xR hE [0, 1, 5, 9] rfl (R1_In_r2_ok F _ _ _ _) ?_
       intro x0 x1 x5 x9
       show OKq _ _ _ [(9, x9), (5, x5), (1, x1), (0, x0)] _
       refine rThen ?_
       refine xCond rfl rfl ?_ ?_
       · refine rSkip ?_
         refine rThen ?_
         refine rSeq ?_
         refine rBlock ?_
         refine rSeq ?_
         refine cLess [5, 1, 0] ?_
         refine xR hE [0, 1, 5, 17] rfl (R1_In_r4_ok F _ _ _ _) ?_
         intro x0 x1 x5 x17
         show OKq _ _ _ [(17, x17), (5, x5), (1, x1), (0, x0)] _
         refine rThen ?_
         refine xCond rfl rfl ?_ ?_
         · refine rSeq ?_
           refine cLess [] ?_
           refine xR hE [4] rfl (R1_In_r5_ok F _) ?_
           intro x4
           show OKq _ _ _ [(4, x4)] _
           refine rThen ?_
           refine rRet ?_
           refine xBlockR ?_
           refine xThenR ?_
           refine xThenR ?_
           refine xBlockR ?_
           refine xThenR ?_
           exact rDone (.inr rfl) rfl
         · refine rSkip ?_
           refine xBlockN ?_
           refine rThen ?_
           refine cLess [5, 1, 0] ?_
           refine xR hE [0, 1, 5] rfl (R1_In_r3_ok F _ _ _ _) ?_
           intro x0 x1 x5
           show OKq _ _ _ [(5, x5), (1, x1), (0, x0)] _
           exact qLess [5, 1, 0] (hI1 k1 x0 x1 x5)
       · refine rExit ?_
         refine xThenX ?_
         refine xThenX ?_
         refine rOut ?_
         exact qLess [] (hj0 )
   · exact rFail


/-! ### haruspex/graph.May -/

def graph_May_env (F : Nat) : Env := envOf []

noncomputable def graph_May_R (F : Nat) := rK Tryd.prog TrydG (graph_May_env F) Tryd.f40
noncomputable def graph_May_D (F : Nat) := dK Tryd.prog TrydG (graph_May_env F) Tryd.f40

def graph_May_r13 (F : Nat) (K : Value → M Value) : M Value :=
  K (.bool true)

theorem graph_May_r13_ok (F : Nat) (K : Value → M Value) : graph_May_r13 F K = graph_May_R F 13 [] [2] K := by kernel_rfl

def graph_May_k0 (F : Nat) : M Value :=
  graph_May_r13 F (fun x2 => ret x2)

def graph_May_r12 (F : Nat) (x1 x24 x25 x26 : Value) (K : Value → Value → Value → Value → M Value) : M Value :=
  bnd (opBin .add x26 (.int .i64 (1))) fun v45 => K x1 x24 x25 v45

theorem graph_May_r12_ok (F : Nat) (x1 x24 x25 x26 : Value) (K : Value → Value → Value → Value → M Value) : graph_May_r12 F x1 x24 x25 x26 K = graph_May_R F 12 [(26, x26), (25, x25), (24, x24), (1, x1)] [1, 24, 25, 26] K := by kernel_rfl

def graph_May_k2 (F : Nat) (A1 : Value → Value → Value → Value → M Value) (x1 x24 x25 x26 : Value) : M Value :=
  graph_May_r12 F x1 x24 x25 x26 (fun x1 x24 x25 x26 => A1 x1 x24 x25 x26)

def graph_May_r11 (F : Nat) (x1 x24 x25 x26 x30 x31 x32 : Value) (K : Value → Value → Value → Value → Value → Value → Value → M Value) : M Value :=
  bnd (opBin .add x32 (.int .i64 (1))) fun v44 => K x1 x24 x25 x26 x30 x31 v44

theorem graph_May_r11_ok (F : Nat) (x1 x24 x25 x26 x30 x31 x32 : Value) (K : Value → Value → Value → Value → Value → Value → Value → M Value) : graph_May_r11 F x1 x24 x25 x26 x30 x31 x32 K = graph_May_R F 11 [(32, x32), (31, x31), (30, x30), (26, x26), (25, x25), (24, x24), (1, x1)] [1, 24, 25, 26, 30, 31, 32] K := by kernel_rfl

def graph_May_r10 (F : Nat) (K : Value → M Value) : M Value :=
  K (.bool false)

theorem graph_May_r10_ok (F : Nat) (K : Value → M Value) : graph_May_r10 F K = graph_May_R F 10 [] [2] K := by kernel_rfl

def graph_May_r9 (F : Nat) (x1 x6 x24 x25 x26 x30 x31 x32 : Value) (K : Value → Value → Value → Value → Value → Value → Value → Value → M Value) : M Value :=
  bnd (opBin .lss x6 (.int .i64 (0))) fun v37 => onB v37 (K x1 x24 x25 x26 x30 x31 x32 (.bool true)) (bnd (opFieldAddr 0 x1) fun v40 => bnd (opLoad v40) fun v41 => bnd (opBin .geq x6 v41) fun v42 => K x1 x24 x25 x26 x30 x31 x32 v42)

theorem graph_May_r9_ok (F : Nat) (x1 x6 x24 x25 x26 x30 x31 x32 : Value) (K : Value → Value → Value → Value → Value → Value → Value → Value → M Value) : graph_May_r9 F x1 x6 x24 x25 x26 x30 x31 x32 K = graph_May_R F 9 [(32, x32), (31, x31), (30, x30), (26, x26), (25, x25), (24, x24), (6, x6), (1, x1)] [1, 24, 25, 26, 30, 31, 32, 43] K := by kernel_rfl

def graph_May_r8 (F : Nat) (x1 x24 x25 x26 x30 x31 x32 : Value) (K : Value → Value → Value → Value → Value → Value → Value → Value → M Value) : M Value :=
  bnd (opIndexAddr 1 x30 x32) fun v34 => bnd (opLoad v34) fun v35 => K x1 v35 x24 x25 x26 x30 x31 x32

theorem graph_May_r8_ok (F : Nat) (x1 x24 x25 x26 x30 x31 x32 : Value) (K : Value → Value → Value → Value → Value → Value → Value → Value → M Value) : graph_May_r8 F x1 x24 x25 x26 x30 x31 x32 K = graph_May_R F 8 [(32, x32), (31, x31), (30, x30), (26, x26), (25, x25), (24, x24), (1, x1)] [1, 6, 24, 25, 26, 30, 31, 32] K := by kernel_rfl

def graph_May_r7 (F : Nat) (x1 x24 x25 x26 x30 x31 x32 : Value) (K : Value → Value → Value → Value → Value → Value → Value → Value → M Value) : M Value :=
  bnd (opBin .lss x32 x31) fun v33 => K x1 x24 x25 x26 x30 x31 x32 v33

theorem graph_May_r7_ok (F : Nat) (x1 x24 x25 x26 x30 x31 x32 : Value) (K : Value → Value → Value → Value → Value → Value → Value → Value → M Value) : graph_May_r7 F x1 x24 x25 x26 x30 x31 x32 K = graph_May_R F 7 [(32, x32), (31, x31), (30, x30), (26, x26), (25, x25), (24, x24), (1, x1)] [1, 24, 25, 26, 30, 31, 32, 33] K := by kernel_rfl

def graph_May_b3 (F : Nat) (E3_2 : Value → Value → Value → Value → M Value) (A3 : Value → Value → Value → Value → Value → Value → Value → M Value) (x1 x24 x25 x26 x30 x31 x32 : Value) : M Value :=
  graph_May_r7 F x1 x24 x25 x26 x30 x31 x32 (fun x1 x24 x25 x26 x30 x31 x32 x33 => onB x33 (graph_May_r8 F x1 x24 x25 x26 x30 x31 x32 (fun x1 x6 x24 x25 x26 x30 x31 x32 => graph_May_r9 F x1 x6 x24 x25 x26 x30 x31 x32 (fun x1 x24 x25 x26 x30 x31 x32 x43 => onB x43 (graph_May_r10 F (fun x2 => ret x2)) (graph_May_r11 F x1 x24 x25 x26 x30 x31 x32 (fun x1 x24 x25 x26 x30 x31 x32 => A3 x1 x24 x25 x26 x30 x31 x32))))) (E3_2 x1 x24 x25 x26))

def graph_May_l3 (F : Nat) (E3_2 : Value → Value → Value → Value → M Value) : Nat → Value → Value → Value → Value → Value → Value → Value → M Value
  | 0, _, _, _, _, _, _, _ => fail
  | k3 + 1, x1, x24, x25, x26, x30, x31, x32 => graph_May_b3 F E3_2 (graph_May_l3 F E3_2 k3) x1 x24 x25 x26 x30 x31 x32

theorem graph_May_l3_s (F : Nat) (E3_2 : Value → Value → Value → Value → M Value) (k3 : Nat) (x1 x24 x25 x26 x30 x31 x32 : Value) : graph_May_l3 F E3_2 (k3 + 1) x1 x24 x25 x26 x30 x31 x32 = graph_May_b3 F E3_2 (graph_May_l3 F E3_2 k3) x1 x24 x25 x26 x30 x31 x32 := rfl

def graph_May_r6 (F : Nat) (x1 x4 x24 x25 x26 : Value) (K : Value → Value → Value → Value → Value → Value → Value → M Value) : M Value :=
  bnd (opLen x4) fun v31 => K x1 x24 x25 x26 x4 v31 (.int .i64 (0))

theorem graph_May_r6_ok (F : Nat) (x1 x4 x24 x25 x26 : Value) (K : Value → Value → Value → Value → Value → Value → Value → M Value) : graph_May_r6 F x1 x4 x24 x25 x26 K = graph_May_R F 6 [(26, x26), (25, x25), (24, x24), (4, x4), (1, x1)] [1, 24, 25, 26, 30, 31, 32] K := by kernel_rfl

def graph_May_r5 (F : Nat) (x1 x24 x25 x26 : Value) (K : Value → Value → Value → Value → Value → M Value) : M Value :=
  bnd (opIndexAddr 1 x24 x26) fun v28 => bnd (opLoad v28) fun v29 => K x1 v29 x24 x25 x26

theorem graph_May_r5_ok (F : Nat) (x1 x24 x25 x26 : Value) (K : Value → Value → Value → Value → Value → M Value) : graph_May_r5 F x1 x24 x25 x26 K = graph_May_R F 5 [(26, x26), (25, x25), (24, x24), (1, x1)] [1, 4, 24, 25, 26] K := by kernel_rfl

def graph_May_r4 (F : Nat) (x1 x24 x25 x26 : Value) (K : Value → Value → Value → Value → Value → M Value) : M Value :=
  bnd (opBin .lss x26 x25) fun v27 => K x1 x24 x25 x26 v27

theorem graph_May_r4_ok (F : Nat) (x1 x24 x25 x26 : Value) (K : Value → Value → Value → Value → Value → M Value) : graph_May_r4 F x1 x24 x25 x26 K = graph_May_R F 4 [(26, x26), (25, x25), (24, x24), (1, x1)] [1, 24, 25, 26, 27] K := by kernel_rfl

def graph_May_b1 (F : Nat) (E1_0 : M Value) (A1 : Value → Value → Value → Value → M Value) (x1 x24 x25 x26 : Value) : M Value :=
  graph_May_r4 F x1 x24 x25 x26 (fun x1 x24 x25 x26 x27 => onB x27 (graph_May_r5 F x1 x24 x25 x26 (fun x1 x4 x24 x25 x26 => graph_May_r6 F x1 x4 x24 x25 x26 (fun x1 x24 x25 x26 x30 x31 x32 => graph_May_l3 F (fun x1 x24 x25 x26 => graph_May_k2 F A1 x1 x24 x25 x26) F x1 x24 x25 x26 x30 x31 x32))) (E1_0 ))

def graph_May_l1 (F : Nat) (E1_0 : M Value) : Nat → Value → Value → Value → Value → M Value
  | 0, _, _, _, _ => fail
  | k1 + 1, x1, x24, x25, x26 => graph_May_b1 F E1_0 (graph_May_l1 F E1_0 k1) x1 x24 x25 x26

theorem graph_May_l1_s (F : Nat) (E1_0 : M Value) (k1 : Nat) (x1 x24 x25 x26 : Value) : graph_May_l1 F E1_0 (k1 + 1) x1 x24 x25 x26 = graph_May_b1 F E1_0 (graph_May_l1 F E1_0 k1) x1 x24 x25 x26 := rfl

def graph_May_r3 (F : Nat) (x1 : Value) (K : Value → Value → Value → Value → M Value) : M Value :=
  bnd (opFieldAddr 1 x1) fun v23 => bnd (opLoad v23) fun v24 => bnd (opLen v24) fun v25 => K x1 v24 v25 (.int .i64 (0))

theorem graph_May_r3_ok (F : Nat) (x1 : Value) (K : Value → Value → Value → Value → M Value) : graph_May_r3 F x1 K = graph_May_R F 3 [(1, x1)] [1, 24, 25, 26] K := by kernel_rfl

def graph_May_r2 (F : Nat) (K : Value → M Value) : M Value :=
  K (.bool false)

theorem graph_May_r2_ok (F : Nat) (K : Value → M Value) : graph_May_r2 F K = graph_May_R F 2 [] [2] K := by kernel_rfl

def graph_May_r1 (F : Nat) (x1 : Value) (K : Value → Value → M Value) : M Value :=
  bnd (opFieldAddr 0 x1) fun v7 => bnd (opLoad v7) fun v8 => bnd (opBin .lss v8 (.int .i64 (0))) fun v9 => onB v9 (K x1 (.bool true)) (bnd (opFieldAddr 0 x1) fun v11 => bnd (opLoad v11) fun v12 => bnd (opBin .gtr v12 (.int .i64 (600))) fun v13 => onB v13 (K x1 (.bool true)) (bnd (opFieldAddr 1 x1) fun v16 => bnd (opLoad v16) fun v17 => bnd (opLen v17) fun v18 => bnd (opFieldAddr 0 x1) fun v19 => bnd (opLoad v19) fun v20 => bnd (opBin .neq v18 v20) fun v21 => K x1 v21))

theorem graph_May_r1_ok (F : Nat) (x1 : Value) (K : Value → Value → M Value) : graph_May_r1 F x1 K = graph_May_R F 1 [(1, x1)] [1, 22] K := by kernel_rfl

def graph_May_r0 (F : Nat) (x0 : Value) (K : Value → M Value) : M Value :=
  bnd (opBoxN x0) fun v1 => K v1

theorem graph_May_r0_ok (F : Nat) (x0 : Value) (K : Value → M Value) : graph_May_r0 F x0 K = graph_May_R F 0 [(0, x0)] [1] K := by kernel_rfl

def graph_May (F : Nat) (x0 : Value) : M Value :=
  graph_May_r0 F x0 (fun x1 => graph_May_r1 F x1 (fun x1 x22 => onB x22 (graph_May_r2 F (fun x2 => ret x2)) (graph_May_r3 F x1 (fun x1 x24 x25 x26 => graph_May_l1 F (graph_May_k0 F ) F x1 x24 x25 x26))))

def graph_May_m (F : Nat) : List Value → M Value
  | [x0] => graph_May F x0
  | _ => fail

theorem graph_May_body : Tryd.f40.body = some (.seq (.region 0 (opsOf Tryd.f40 0) false) (.seq (.seq (.region 1 (opsOf Tryd.f40 1) false) (.cond (.tmp 22) (.seq (.region 2 (opsOf Tryd.f40 2) false) .ret) .skip)) (.seq (.seq (.region 3 (opsOf Tryd.f40 3) false) (.block 0 (.loop (.seq (.region 4 (opsOf Tryd.f40 4) false) (.seq (.cond (.tmp 27) .skip (.exit 0)) (.seq (.block 1 (.seq (.region 5 (opsOf Tryd.f40 5) false) (.seq (.region 6 (opsOf Tryd.f40 6) false) (.block 2 (.loop (.seq (.region 7 (opsOf Tryd.f40 7) false) (.seq (.cond (.tmp 33) .skip (.exit 2)) (.seq (.block 3 (.seq (.region 8 (opsOf Tryd.f40 8) false) (.seq (.region 9 (opsOf Tryd.f40 9) false) (.cond (.tmp 43) (.seq (.region 10 (opsOf Tryd.f40 10) false) .ret) .skip)))) (.region 11 (opsOf Tryd.f40 11) false))))))))) (.region 12 (opsOf Tryd.f40 12) false))))))) (.seq (.region 13 (opsOf Tryd.f40 13) false) .ret)))) := by kernel_rfl

theorem graph_May_ok (F : Nat) : Sim Tryd.prog TrydG 40 (graph_May_m F) := by
 have hE : EnvOK Tryd.prog TrydG (graph_May_env F) := EnvOK.nil
 refine Sim.of_body (E := graph_May_env F) Tryd.func40 graph_May_body Tryd.call40 ?_ ?_
 · intro args hl; unfold graph_May_m; split
   · exact absurd hl (Nat.not_lt.2 (Nat.le_of_ble_eq_true rfl))
   · rfl
 · intro args ρ h w z; unfold graph_May_m; split
   · rename_i x0; show OKc _ _ [(0, x0)] _ _
     refine rSeq ?_
     refine cLess [0] ?_
     refine xR hE [1] rfl (graph_May_r0_ok F _ _) ?_
     intro x1
     show OKq _ _ _ [(1, x1)] _
     refine rThen ?_
     refine rSeq ?_
     refine rSeq ?_
     refine cLess [1] ?_
     refine xR hE [1, 22] rfl (graph_May_r1_ok F _ _) ?_
     intro x1 x22
     show OKq _ _ _ [(22, x22), (1, x1)] _
     refine rThen ?_
     refine xCond rfl rfl ?_ ?_
     · refine rSeq ?_
       refine cLess [] ?_
       refine xR hE [2] rfl (graph_May_r2_ok F _) ?_
       intro x2
       show OKq _ _ _ [(2, x2)] _
       refine rThen ?_
       refine rRet ?_
       refine xThenR ?_
       exact rDone (.inr rfl) rfl
     · refine rSkip ?_
       refine rThen ?_
       refine xSeq [] (graph_May_k0 F ) ?_ fun hj0 => ?_
       · show OKc _ _ [] _ _
         refine rSeq ?_
         refine cLess [] ?_
         refine xR hE [2] rfl (graph_May_r13_ok F _) ?_
         intro x2
         show OKq _ _ _ [(2, x2)] _
         refine rThen ?_
         refine rRet ?_
         exact rDone (.inr rfl) rfl
       · refine rSeq ?_
         refine cLess [1] ?_
         refine xR hE [1, 24, 25, 26] rfl (graph_May_r3_ok F _ _) ?_
         intro x1 x24 x25 x26
         show OKq _ _ _ [(26, x26), (25, x25), (24, x24), (1, x1)] _
         refine rThen ?_
         refine rBlock ?_
         refine cLess [26, 25, 24, 1] ?_
         refine xLoopAt [1, 24, 25, 26] [] (fun k1 => graph_May_l1 F (graph_May_k0 F ) k1) F [x1, x24, x25, x26] rfl rfl (fun _ _ _ _ => rfl) fun I hI1 k1 => ?_
         intro x1 x24 x25 x26
         show OKc _ _ [(26, x26), (25, x25), (24, x24), (1, x1)] _ _
         refine cAs (graph_May_l1_s F _ _ _ _ _ _) ?_
         refine rSeq ?_
         refine cLess [26, 25, 24, 1] ?_
         refine xR hE [1, 24, 25, 26, 27] rfl (graph_May_r4_ok F _ _ _ _ _) ?_
         intro x1 x24 x25 x26 x27
         show OKq _ _ _ [(27, x27), (26, x26), (25, x25), (24, x24), (1, x1)] _
         refine rThen ?_
         refine rSeq ?_
         refine xCond rfl rfl ?_ ?_
         · refine rSkip ?_
           refine rThen ?_
           refine xSeq [1, 24, 25, 26] (graph_May_k2 F (graph_May_l1 F (graph_May_k0 F ) k1) ) ?_ fun hj2 => ?_
           · intro x1 x24 x25 x26
             show OKc _ _ [(26, x26), (25, x25), (24, x24), (1, x1)] _ _
             refine cLess [26, 25, 24, 1] ?_
             refine xR hE [1, 24, 25, 26] rfl (graph_May_r12_ok F _ _ _ _ _) ?_
             intro x1 x24 x25 x26
             show OKq _ _ _ [(26, x26), (25, x25), (24, x24), (1, x1)] _
             exact qLess [26, 25, 24, 1] (hI1 k1 x1 x24 x25 x26)
           · refine rBlock ?_
             refine rSeq ?_
             refine cLess [26, 25, 24, 1] ?_
             refine xR hE [1, 4, 24, 25, 26] rfl (graph_May_r5_ok F _ _ _ _ _) ?_
             intro x1 x4 x24 x25 x26
             show OKq _ _ _ [(26, x26), (25, x25), (24, x24), (4, x4), (1, x1)] _
             refine rThen ?_
             refine rSeq ?_
             refine cLess [26, 25, 24, 4, 1] ?_
             refine xR hE [1, 24, 25, 26, 30, 31, 32] rfl (graph_May_r6_ok F _ _ _ _ _ _) ?_
             intro x1 x24 x25 x26 x30 x31 x32
             show OKq _ _ _ [(32, x32), (31, x31), (30, x30), (26, x26), (25, x25), (24, x24), (1, x1)] _
             refine rThen ?_
             refine rBlock ?_
             refine cLess [32, 31, 30, 26, 25, 24, 1] ?_
             refine xLoopAt [1, 24, 25, 26, 30, 31, 32] [] (fun k3 => graph_May_l3 F (fun x1 x24 x25 x26 => graph_May_k2 F (graph_May_l1 F (graph_May_k0 F ) k1) x1 x24 x25 x26) k3) F [x1, x24, x25, x26, x30, x31, x32] rfl rfl (fun _ _ _ _ _ _ _ => rfl) fun I hI3 k3 => ?_
             intro x1 x24 x25 x26 x30 x31 x32
             show OKc _ _ [(32, x32), (31, x31), (30, x30), (26, x26), (25, x25), (24, x24), (1, x1)] _ _
             refine cAs (graph_May_l3_s F _ _ _ _ _ _ _ _ _) ?_
             refine rSeq ?_
             refine cLess [32, 31, 30, 26, 25, 24, 1] ?_
             refine xR hE [1, 24, 25, 26, 30, 31, 32, 33] rfl (graph_May_r7_ok F _ _ _ _ _ _ _ _) ?_
             intro x1 x24 x25 x26 x30 x31 x32 x33
             show OKq _ _ _ [(33, x33), (32, x32), (31, x31), (30, x30), (26, x26), (25, x25), (24, x24), (1, x1)] _
             refine rThen ?_
             refine rSeq ?_
             refine xCond rfl rfl ?_ ?_
             · refine rSkip ?_
               refine rThen ?_
               refine rSeq ?_
               refine rBlock ?_
               refine rSeq ?_
               refine cLess [32, 31, 30, 26, 25, 24, 1] ?_
               refine xR hE [1, 6, 24, 25, 26, 30, 31, 32] rfl (graph_May_r8_ok F _ _ _ _ _ _ _ _) ?_
               intro x1 x6 x24 x25 x26 x30 x31 x32
               show OKq _ _ _ [(32, x32), (31, x31), (30, x30), (26, x26), (25, x25), (24, x24), (6, x6), (1, x1)] _
               refine rThen ?_
               refine rSeq ?_
               refine cLess [32, 31, 30, 26, 25, 24, 6, 1] ?_
               refine xR hE [1, 24, 25, 26, 30, 31, 32, 43] rfl (graph_May_r9_ok F _ _ _ _ _ _ _ _ _) ?_
               intro x1 x24 x25 x26 x30 x31 x32 x43
               show OKq _ _ _ [(43, x43), (32, x32), (31, x31), (30, x30), (26, x26), (25, x25), (24, x24), (1, x1)] _
               refine rThen ?_
               refine xCond rfl rfl ?_ ?_
               · refine rSeq ?_
                 refine cLess [] ?_
                 refine xR hE [2] rfl (graph_May_r10_ok F _) ?_
                 intro x2
                 show OKq _ _ _ [(2, x2)] _
                 refine rThen ?_
                 refine rRet ?_
                 refine xBlockR ?_
                 refine xThenR ?_
                 refine xThenR ?_
                 refine xBlockR ?_
                 refine xBlockR ?_
                 refine xThenR ?_
                 refine xThenR ?_
                 refine xBlockR ?_
                 refine xThenR ?_
                 exact rDone (.inr rfl) rfl
               · refine rSkip ?_
                 refine xBlockN ?_
                 refine rThen ?_
                 refine cLess [32, 31, 30, 26, 25, 24, 1] ?_
                 refine xR hE [1, 24, 25, 26, 30, 31, 32] rfl (graph_May_r11_ok F _ _ _ _ _ _ _ _) ?_
                 intro x1 x24 x25 x26 x30 x31 x32
                 show OKq _ _ _ [(32, x32), (31, x31), (30, x30), (26, x26), (25, x25), (24, x24), (1, x1)] _
                 exact qLess [32, 31, 30, 26, 25, 24, 1] (hI3 k3 x1 x24 x25 x26 x30 x31 x32)
             · refine rExit ?_
               refine xThenX ?_
               refine xThenX ?_
               refine rOut ?_
               refine xBlockN ?_
               exact qLess [26, 25, 24, 1] (hj2 x1 x24 x25 x26)
         · refine rExit ?_
           refine xThenX ?_
           refine xThenX ?_
           refine rOut ?_
           exact qLess [] (hj0 )
   · exact rFail


/-! ### (*haruspex/bitset.Set).words -/

def bitset_Set_words_env (F : Nat) : Env := envOf []

noncomputable def bitset_Set_words_R (F : Nat) := rK Tryd.prog TrydG (bitset_Set_words_env F) Tryd.f44
noncomputable def bitset_Set_words_D (F : Nat) := dK Tryd.prog TrydG (bitset_Set_words_env F) Tryd.f44

def bitset_Set_words_r3 (F : Nat) (x0 : Value) (K : Value → M Value) : M Value :=
  bnd (opNil x0) fun v6 => bnd (opFieldAddr 0 v6) fun v7 => bnd (opLoad v7) fun v8 => K v8

theorem bitset_Set_words_r3_ok (F : Nat) (x0 : Value) (K : Value → M Value) : bitset_Set_words_r3 F x0 K = bitset_Set_words_R F 3 [(0, x0)] [2] K := by kernel_rfl

def bitset_Set_words_r2 (F : Nat) (K : Value → M Value) : M Value :=
  K (.slice none 0 0)

theorem bitset_Set_words_r2_ok (F : Nat) (K : Value → M Value) : bitset_Set_words_r2 F K = bitset_Set_words_R F 2 [] [2] K := by kernel_rfl

def bitset_Set_words_r1 (F : Nat) (x0 : Value) (K : Value → Value → M Value) : M Value :=
  bnd (opEq eqP false x0 (.pointer none)) fun v4 => K x0 v4

theorem bitset_Set_words_r1_ok (F : Nat) (x0 : Value) (K : Value → Value → M Value) : bitset_Set_words_r1 F x0 K = bitset_Set_words_R F 1 [(0, x0)] [0, 4] K := by kernel_rfl

def bitset_Set_words_r0 (F : Nat) (x0 : Value) (K : Value → M Value) : M Value :=
  K x0

theorem bitset_Set_words_r0_ok (F : Nat) (x0 : Value) (K : Value → M Value) : bitset_Set_words_r0 F x0 K = bitset_Set_words_R F 0 [(0, x0)] [0] K := by kernel_rfl

def bitset_Set_words (F : Nat) (x0 : Value) : M Value :=
  bitset_Set_words_r0 F x0 (fun x0 => bitset_Set_words_r1 F x0 (fun x0 x4 => onB x4 (bitset_Set_words_r2 F (fun x2 => ret x2)) (bitset_Set_words_r3 F x0 (fun x2 => ret x2))))

def bitset_Set_words_m (F : Nat) : List Value → M Value
  | [x0] => bitset_Set_words F x0
  | _ => fail

theorem bitset_Set_words_body : Tryd.f44.body = some (.seq (.region 0 (opsOf Tryd.f44 0) false) (.seq (.seq (.region 1 (opsOf Tryd.f44 1) false) (.cond (.tmp 4) (.seq (.region 2 (opsOf Tryd.f44 2) false) .ret) .skip)) (.seq (.region 3 (opsOf Tryd.f44 3) false) .ret))) := by kernel_rfl

theorem bitset_Set_words_ok (F : Nat) : Sim Tryd.prog TrydG 44 (bitset_Set_words_m F) := by
 have hE : EnvOK Tryd.prog TrydG (bitset_Set_words_env F) := EnvOK.nil
 refine Sim.of_body (E := bitset_Set_words_env F) Tryd.func44 bitset_Set_words_body Tryd.call44 ?_ ?_
 · intro args hl; unfold bitset_Set_words_m; split
   · exact absurd hl (Nat.not_lt.2 (Nat.le_of_ble_eq_true rfl))
   · rfl
 · intro args ρ h w z; unfold bitset_Set_words_m; split
   · rename_i x0; show OKc _ _ [(0, x0)] _ _
     refine rSeq ?_
     refine cLess [0] ?_
     refine xR hE [0] rfl (bitset_Set_words_r0_ok F _ _) ?_
     intro x0
     show OKq _ _ _ [(0, x0)] _
     refine rThen ?_
     refine rSeq ?_
     refine rSeq ?_
     refine cLess [0] ?_
     refine xR hE [0, 4] rfl (bitset_Set_words_r1_ok F _ _) ?_
     intro x0 x4
     show OKq _ _ _ [(4, x4), (0, x0)] _
     refine rThen ?_
     refine xCond rfl rfl ?_ ?_
     · refine rSeq ?_
       refine cLess [] ?_
       refine xR hE [2] rfl (bitset_Set_words_r2_ok F _) ?_
       intro x2
       show OKq _ _ _ [(2, x2)] _
       refine rThen ?_
       refine rRet ?_
       refine xThenR ?_
       exact rDone (.inr rfl) rfl
     · refine rSkip ?_
       refine rThen ?_
       refine rSeq ?_
       refine cLess [0] ?_
       refine xR hE [2] rfl (bitset_Set_words_r3_ok F _ _) ?_
       intro x2
       show OKq _ _ _ [(2, x2)] _
       refine rThen ?_
       refine rRet ?_
       exact rDone (.inr rfl) rfl
   · exact rFail


/-! ### math/bits.TrailingZeros64 -/

def bits_TrailingZeros64_env (F : Nat) : Env := envOf []

noncomputable def bits_TrailingZeros64_R (F : Nat) := rK Tryd.prog TrydG (bits_TrailingZeros64_env F) Tryd.f45
noncomputable def bits_TrailingZeros64_D (F : Nat) := dK Tryd.prog TrydG (bits_TrailingZeros64_env F) Tryd.f45

def bits_TrailingZeros64_r3 (F : Nat) (x0 : Value) (K : Value → M Value) : M Value :=
  bnd (opNeg x0) fun v7 => bnd (opBin .and x0 v7) fun v8 => bnd (opBin .mul v8 (.int .u64 (285870213051353865))) fun v9 => bnd (opBin .shr v9 (.int .u64 (58))) fun v10 => bnd (opIndexAddrA 64 1 (.pointer (some ⟨0, 0, none⟩)) v10) fun v11 => bnd (opLoad v11) fun v12 => bnd (opConv .i64 v12) fun v13 => K v13

theorem bits_TrailingZeros64_r3_ok (F : Nat) (x0 : Value) (K : Value → M Value) : bits_TrailingZeros64_r3 F x0 K = bits_TrailingZeros64_R F 3 [(0, x0)] [2] K := by kernel_rfl

def bits_TrailingZeros64_r2 (F : Nat) (K : Value → M Value) : M Value :=
  K (.int .i64 (64))

theorem bits_TrailingZeros64_r2_ok (F : Nat) (K : Value → M Value) : bits_TrailingZeros64_r2 F K = bits_TrailingZeros64_R F 2 [] [2] K := by kernel_rfl

def bits_TrailingZeros64_r1 (F : Nat) (x0 : Value) (K : Value → Value → M Value) : M Value :=
  bnd (opBin .eql x0 (.int .u64 (0))) fun v4 => K x0 v4

theorem bits_TrailingZeros64_r1_ok (F : Nat) (x0 : Value) (K : Value → Value → M Value) : bits_TrailingZeros64_r1 F x0 K = bits_TrailingZeros64_R F 1 [(0, x0)] [0, 4] K := by kernel_rfl

def bits_TrailingZeros64_r0 (F : Nat) (x0 : Value) (K : Value → M Value) : M Value :=
  K x0

theorem bits_TrailingZeros64_r0_ok (F : Nat) (x0 : Value) (K : Value → M Value) : bits_TrailingZeros64_r0 F x0 K = bits_TrailingZeros64_R F 0 [(0, x0)] [0] K := by kernel_rfl

def bits_TrailingZeros64 (F : Nat) (x0 : Value) : M Value :=
  bits_TrailingZeros64_r0 F x0 (fun x0 => bits_TrailingZeros64_r1 F x0 (fun x0 x4 => onB x4 (bits_TrailingZeros64_r2 F (fun x2 => ret x2)) (bits_TrailingZeros64_r3 F x0 (fun x2 => ret x2))))

def bits_TrailingZeros64_m (F : Nat) : List Value → M Value
  | [x0] => bits_TrailingZeros64 F x0
  | _ => fail

theorem bits_TrailingZeros64_body : Tryd.f45.body = some (.seq (.region 0 (opsOf Tryd.f45 0) false) (.seq (.seq (.region 1 (opsOf Tryd.f45 1) false) (.cond (.tmp 4) (.seq (.region 2 (opsOf Tryd.f45 2) false) .ret) .skip)) (.seq (.region 3 (opsOf Tryd.f45 3) false) .ret))) := by kernel_rfl

theorem bits_TrailingZeros64_ok (F : Nat) : Sim Tryd.prog TrydG 45 (bits_TrailingZeros64_m F) := by
 have hE : EnvOK Tryd.prog TrydG (bits_TrailingZeros64_env F) := EnvOK.nil
 refine Sim.of_body (E := bits_TrailingZeros64_env F) Tryd.func45 bits_TrailingZeros64_body Tryd.call45 ?_ ?_
 · intro args hl; unfold bits_TrailingZeros64_m; split
   · exact absurd hl (Nat.not_lt.2 (Nat.le_of_ble_eq_true rfl))
   · rfl
 · intro args ρ h w z; unfold bits_TrailingZeros64_m; split
   · rename_i x0; show OKc _ _ [(0, x0)] _ _
     refine rSeq ?_
     refine cLess [0] ?_
     refine xR hE [0] rfl (bits_TrailingZeros64_r0_ok F _ _) ?_
     intro x0
     show OKq _ _ _ [(0, x0)] _
     refine rThen ?_
     refine rSeq ?_
     refine rSeq ?_
     refine cLess [0] ?_
     refine xR hE [0, 4] rfl (bits_TrailingZeros64_r1_ok F _ _) ?_
     intro x0 x4
     show OKq _ _ _ [(4, x4), (0, x0)] _
     refine rThen ?_
     refine xCond rfl rfl ?_ ?_
     · refine rSeq ?_
       refine cLess [] ?_
       refine xR hE [2] rfl (bits_TrailingZeros64_r2_ok F _) ?_
       intro x2
       show OKq _ _ _ [(2, x2)] _
       refine rThen ?_
       refine rRet ?_
       refine xThenR ?_
       exact rDone (.inr rfl) rfl
     · refine rSkip ?_
       refine rThen ?_
       refine rSeq ?_
       refine cLess [0] ?_
       refine xR hE [2] rfl (bits_TrailingZeros64_r3_ok F _ _) ?_
       intro x2
       show OKq _ _ _ [(2, x2)] _
       refine rThen ?_
       refine rRet ?_
       exact rDone (.inr rfl) rfl
   · exact rFail


/-! ### slices.SortFunc[[][]int,[]int] -/

def slices_SortFunc (F : Nat) (x0 x1 : Value) : M Value := sortByM 49 x0 x1

def slices_SortFunc_m (F : Nat) : List Value → M Value := sortByL 49

theorem slices_SortFunc_ok (F : Nat) : Sim Tryd.prog TrydG 48 (slices_SortFunc_m F) := sortBy_sim


/-! ### haruspex/graph.Parts$1 -/

def graph_Parts_1_env (F : Nat) : Env := envOf []

noncomputable def graph_Parts_1_R (F : Nat) := rK Tryd.prog TrydG (graph_Parts_1_env F) Tryd.f49
noncomputable def graph_Parts_1_D (F : Nat) := dK Tryd.prog TrydG (graph_Parts_1_env F) Tryd.f49

def graph_Parts_1_r1 (F : Nat) (x0 x1 : Value) (K : Value → M Value) : M Value :=
  bnd (opIndexAddr 1 x0 (.int .i64 (0))) fun v6 => bnd (opLoad v6) fun v7 => bnd (opIndexAddr 1 x1 (.int .i64 (0))) fun v9 => bnd (opLoad v9) fun v10 => bnd (opBin .sub v7 v10) fun v11 => K v11

theorem graph_Parts_1_r1_ok (F : Nat) (x0 x1 : Value) (K : Value → M Value) : graph_Parts_1_r1 F x0 x1 K = graph_Parts_1_D F 1 [0, 1, 2, 3, 4, 5, 6, 7] [(1, x1), (0, x0)] [4] K := by kernel_rfl

theorem graph_Parts_1_r1_good : goodOrder (opsOf Tryd.f49 1) [0, 1, 2, 3, 4, 5, 6, 7] = true := by kernel_rfl

def graph_Parts_1_r0 (F : Nat) (x0 x1 : Value) (K : Value → Value → M Value) : M Value :=
  K x0 x1

theorem graph_Parts_1_r0_ok (F : Nat) (x0 x1 : Value) (K : Value → Value → M Value) : graph_Parts_1_r0 F x0 x1 K = graph_Parts_1_R F 0 [(1, x1), (0, x0)] [0, 1] K := by kernel_rfl

def graph_Parts_1 (F : Nat) (x0 x1 : Value) : M Value :=
  graph_Parts_1_r0 F x0 x1 (fun x0 x1 => graph_Parts_1_r1 F x0 x1 (fun x4 => ret x4))

def graph_Parts_1_m (F : Nat) : List Value → M Value
  | [x0, x1] => graph_Parts_1 F x0 x1
  | _ => fail

theorem graph_Parts_1_body : Tryd.f49.body = some (.seq (.region 0 (opsOf Tryd.f49 0) false) (.seq (.region 1 (opsOf Tryd.f49 1) true) .ret)) := by kernel_rfl

theorem graph_Parts_1_ok (F : Nat) : Sim Tryd.prog TrydG 49 (graph_Parts_1_m F) := by
 have hE : EnvOK Tryd.prog TrydG (graph_Parts_1_env F) := EnvOK.nil
 refine Sim.of_body (E := graph_Parts_1_env F) Tryd.func49 graph_Parts_1_body Tryd.call49 ?_ ?_
 · intro args hl; unfold graph_Parts_1_m; split
   · exact absurd hl (Nat.not_lt.2 (Nat.le_of_ble_eq_true rfl))
   · rfl
 · intro args ρ h w z; unfold graph_Parts_1_m; split
   · rename_i x0 x1; show OKc _ _ [(0, x0), (1, x1)] _ _
     refine rSeq ?_
     refine cLess [1, 0] ?_
     refine xR hE [0, 1] rfl (graph_Parts_1_r0_ok F _ _ _) ?_
     intro x0 x1
     show OKq _ _ _ [(1, x1), (0, x0)] _
     refine rThen ?_
     refine rSeq ?_
     refine cLess [1, 0] ?_
     refine xD Trydmix hE [4] rfl graph_Parts_1_r1_good (graph_Parts_1_r1_ok F _ _ _) ?_
     intro x4
     show OKq _ _ _ [(4, x4)] _
     refine rThen ?_
     refine rRet ?_
     exact rDone (.inr rfl) rfl
   · exact rFail


/-! ### slices.Index[[]int,int] -/

def slices_Index_env (F : Nat) : Env := envOf []

noncomputable def slices_Index_R (F : Nat) := rK Tryd.prog TrydG (slices_Index_env F) Tryd.f50
noncomputable def slices_Index_D (F : Nat) := dK Tryd.prog TrydG (slices_Index_env F) Tryd.f50

def slices_Index_r7 (F : Nat) (K : Value → M Value) : M Value :=
  K (.int .i64 (-1))

theorem slices_Index_r7_ok (F : Nat) (K : Value → M Value) : slices_Index_r7 F K = slices_Index_R F 7 [] [4] K := by kernel_rfl

def slices_Index_k0 (F : Nat) : M Value :=
  slices_Index_r7 F (fun x4 => ret x4)

def slices_Index_r6 (F : Nat) (x0 x1 x7 x8 : Value) (K : Value → Value → Value → Value → M Value) : M Value :=
  bnd (opBin .add x8 (.int .i64 (1))) fun v18 => K x0 x1 x7 v18

theorem slices_Index_r6_ok (F : Nat) (x0 x1 x7 x8 : Value) (K : Value → Value → Value → Value → M Value) : slices_Index_r6 F x0 x1 x7 x8 K = slices_Index_R F 6 [(8, x8), (7, x7), (1, x1), (0, x0)] [0, 1, 7, 8] K := by kernel_rfl

def slices_Index_r5 (F : Nat) (x5 : Value) (K : Value → M Value) : M Value :=
  K x5

theorem slices_Index_r5_ok (F : Nat) (x5 : Value) (K : Value → M Value) : slices_Index_r5 F x5 K = slices_Index_R F 5 [(5, x5)] [4] K := by kernel_rfl

def slices_Index_r4 (F : Nat) (x0 x1 x5 x7 x8 : Value) (K : Value → Value → Value → Value → Value → Value → M Value) : M Value :=
  bnd (opIndexAddr 1 x0 x5) fun v14 => bnd (opLoad v14) fun v15 => bnd (opBin .eql x1 v15) fun v16 => K x0 x1 x5 x7 x8 v16

theorem slices_Index_r4_ok (F : Nat) (x0 x1 x5 x7 x8 : Value) (K : Value → Value → Value → Value → Value → Value → M Value) : slices_Index_r4 F x0 x1 x5 x7 x8 K = slices_Index_R F 4 [(8, x8), (7, x7), (5, x5), (1, x1), (0, x0)] [0, 1, 5, 7, 8, 16] K := by kernel_rfl

def slices_Index_r3 (F : Nat) (x0 x1 x7 x8 : Value) (K : Value → Value → Value → Value → Value → M Value) : M Value :=
  K x0 x1 x8 x7 x8

theorem slices_Index_r3_ok (F : Nat) (x0 x1 x7 x8 : Value) (K : Value → Value → Value → Value → Value → M Value) : slices_Index_r3 F x0 x1 x7 x8 K = slices_Index_R F 3 [(8, x8), (7, x7), (1, x1), (0, x0)] [0, 1, 5, 7, 8] K := by kernel_rfl

def slices_Index_r2 (F : Nat) (x0 x1 x7 x8 : Value) (K : Value → Value → Value → Value → Value → M Value) : M Value :=
  bnd (opBin .lss x8 x7) fun v9 => K x0 x1 x7 x8 v9

theorem slices_Index_r2_ok (F : Nat) (x0 x1 x7 x8 : Value) (K : Value → Value → Value → Value → Value → M Value) : slices_Index_r2 F x0 x1 x7 x8 K = slices_Index_R F 2 [(8, x8), (7, x7), (1, x1), (0, x0)] [0, 1, 7, 8, 9] K := by kernel_rfl

def slices_Index_b1 (F : Nat) (E1_0 : M Value) (A1 : Value → Value → Value → Value → M Value) (x0 x1 x7 x8 : Value) : M Value :=
  slices_Index_r2 F x0 x1 x7 x8 (fun x0 x1 x7 x8 x9 => onB x9 (slices_Index_r3 F x0 x1 x7 x8 (fun x0 x1 x5 x7 x8 => slices_Index_r4 F x0 x1 x5 x7 x8 (fun x0 x1 x5 x7 x8 x16 => onB x16 (slices_Index_r5 F x5 (fun x4 => ret x4)) (slices_Index_r6 F x0 x1 x7 x8 (fun x0 x1 x7 x8 => A1 x0 x1 x7 x8))))) (E1_0 ))

def slices_Index_l1 (F : Nat) (E1_0 : M Value) : Nat → Value → Value → Value → Value → M Value
  | 0, _, _, _, _ => fail
  | k1 + 1, x0, x1, x7, x8 => slices_Index_b1 F E1_0 (slices_Index_l1 F E1_0 k1) x0 x1 x7 x8

theorem slices_Index_l1_s (F : Nat) (E1_0 : M Value) (k1 : Nat) (x0 x1 x7 x8 : Value) : slices_Index_l1 F E1_0 (k1 + 1) x0 x1 x7 x8 = slices_Index_b1 F E1_0 (slices_Index_l1 F E1_0 k1) x0 x1 x7 x8 := rfl

def slices_Index_r1 (F : Nat) (x0 x1 : Value) (K : Value → Value → Value → Value → M Value) : M Value :=
  bnd (opLen x0) fun v7 => K x0 x1 v7 (.int .i64 (0))

theorem slices_Index_r1_ok (F : Nat) (x0 x1 : Value) (K : Value → Value → Value → Value → M Value) : slices_Index_r1 F x0 x1 K = slices_Index_R F 1 [(1, x1), (0, x0)] [0, 1, 7, 8] K := by kernel_rfl

def slices_Index_r0 (F : Nat) (x0 x1 : Value) (K : Value → Value → M Value) : M Value :=
  K x0 x1

theorem slices_Index_r0_ok (F : Nat) (x0 x1 : Value) (K : Value → Value → M Value) : slices_Index_r0 F x0 x1 K = slices_Index_R F 0 [(1, x1), (0, x0)] [0, 1] K := by kernel_rfl

def slices_Index (F : Nat) (x0 x1 : Value) : M Value :=
  slices_Index_r0 F x0 x1 (fun x0 x1 => slices_Index_r1 F x0 x1 (fun x0 x1 x7 x8 => slices_Index_l1 F (slices_Index_k0 F ) F x0 x1 x7 x8))

def slices_Index_m (F : Nat) : List Value → M Value
  | [x0, x1] => slices_Index F x0 x1
  | _ => fail

theorem slices_Index_body : Tryd.f50.body = some (.seq (.region 0 (opsOf Tryd.f50 0) false) (.seq (.seq (.region 1 (opsOf Tryd.f50 1) false) (.block 0 (.loop (.seq (.region 2 (opsOf Tryd.f50 2) false) (.seq (.cond (.tmp 9) .skip (.exit 0)) (.seq (.block 1 (.seq (.region 3 (opsOf Tryd.f50 3) false) (.seq (.region 4 (opsOf Tryd.f50 4) false) (.cond (.tmp 16) (.seq (.region 5 (opsOf Tryd.f50 5) false) .ret) .skip)))) (.region 6 (opsOf Tryd.f50 6) false))))))) (.seq (.region 7 (opsOf Tryd.f50 7) false) .ret))) := by kernel_rfl

theorem slices_Index_ok (F : Nat) : Sim Tryd.prog TrydG 50 (slices_Index_m F) := by
 have hE : EnvOK Tryd.prog TrydG (slices_Index_env F) := EnvOK.nil
 refine Sim.of_body (E := slices_Index_env F) Tryd.func50 slices_Index_body Tryd.call50 ?_ ?_
 · intro args hl; unfold slices_Index_m; split
   · exact absurd hl (Nat.not_lt.2 (Nat.le_of_ble_eq_true rfl))
   · rfl
 · intro args ρ h w z; unfold slices_Index_m; split
   · rename_i x0 x1; show OKc _ _ [(0, x0), (1, x1)] _ _
     refine rSeq ?_
     refine cLess [1, 0] ?_
     refine xR hE [0, 1] rfl (slices_Index_r0_ok F _ _ _) ?_
     intro x0 x1
     show OKq _ _ _ [(1, x1), (0, x0)] _
     refine rThen ?_
     refine xSeq [] (slices_Index_k0 F ) ?_ fun hj0 => ?_
     · show OKc _ _ [] _ _
       refine rSeq ?_
       refine cLess [] ?_
       refine xR hE [4] rfl (slices_Index_r7_ok F _) ?_
       intro x4
       show OKq _ _ _ [(4, x4)] _
       refine rThen ?_
       refine rRet ?_
       exact rDone (.inr rfl) rfl
     · refine rSeq ?_
       refine cLess [1, 0] ?_
       refine xR hE [0, 1, 7, 8] rfl (slices_Index_r1_ok F _ _ _) ?_
       intro x0 x1 x7 x8
       show OKq _ _ _ [(8, x8), (7, x7), (1, x1), (0, x0)] _
       refine rThen ?_
       refine rBlock ?_
       refine cLess [8, 7, 1, 0] ?_
       refine xLoopAt [0, 1, 7, 8] [] (fun k1 => slices_Index_l1 F (slices_Index_k0 F ) k1) F [x0, x1, x7, x8] rfl rfl (fun _ _ _ _ => rfl) fun I hI1 k1 => ?_
       intro x0 x1 x7 x8
       show OKc _ _ [(8, x8), (7, x7), (1, x1), (0, x0)] _ _
       refine cAs (slices_Index_l1_s F _ _ _ _ _ _) ?_
       refine rSeq ?_
       refine cLess [8, 7, 1, 0] ?_
       refine xR hE [0, 1, 7, 8, 9] rfl (slices_Index_r2_ok F _ _ _ _ _) ?_
       intro x0 x1 x7 x8 x9
       show OKq _ _ _ [(9, x9), (8, x8), (7, x7), (1, x1), (0, x0)] _
       refine rThen ?_
       refine rSeq ?_
       refine xCond rfl rfl ?_ ?_
       · refine rSkip ?_
         refine rThen ?_
         refine rSeq ?_
         refine rBlock ?_
         refine rSeq ?_
         refine cLess [8, 7, 1, 0] ?_
         refine xR hE [0, 1, 5, 7, 8] rfl (slices_Index_r3_ok F _ _ _ _ _) ?_
         intro x0 x1 x5 x7 x8
         show OKq _ _ _ [(8, x8), (7, x7), (5, x5), (1, x1), (0, x0)] _
         refine rThen ?_
         refine rSeq ?_
         refine cLess [8, 7, 5, 1, 0] ?_
         refine xR hE [0, 1, 5, 7, 8, 16] rfl (slices_Index_r4_ok F _ _ _ _ _ _) ?_
         intro x0 x1 x5 x7 x8 x16
         show OKq _ _ _ [(16, x16), (8, x8), (7, x7), (5, x5), (1, x1), (0, x0)] _
         refine rThen ?_
         refine xCond rfl rfl ?_ ?_
         · refine rSeq ?_
           refine cLess [5] ?_
           refine xR hE [4] rfl (slices_Index_r5_ok F _ _) ?_
           intro x4
           show OKq _ _ _ [(4, x4)] _
           refine rThen ?_
           refine rRet ?_
           refine xBlockR ?_
           refine xThenR ?_
           refine xThenR ?_
           refine xBlockR ?_
           refine xThenR ?_
           exact rDone (.inr rfl) rfl
         · refine rSkip ?_
           refine xBlockN ?_
           refine rThen ?_
           refine cLess [8, 7, 1, 0] ?_
           refine xR hE [0, 1, 7, 8] rfl (slices_Index_r6_ok F _ _ _ _ _) ?_
           intro x0 x1 x7 x8
           show OKq _ _ _ [(8, x8), (7, x7), (1, x1), (0, x0)] _
           exact qLess [8, 7, 1, 0] (hI1 k1 x0 x1 x7 x8)
       · refine rExit ?_
         refine xThenX ?_
         refine xThenX ?_
         refine rOut ?_
         exact qLess [] (hj0 )
   · exact rFail


/-! ### slices.Reverse[[]int,int] -/

def slices_Reverse_env (F : Nat) : Env := envOf []

noncomputable def slices_Reverse_R (F : Nat) := rK Tryd.prog TrydG (slices_Reverse_env F) Tryd.f52
noncomputable def slices_Reverse_D (F : Nat) := dK Tryd.prog TrydG (slices_Reverse_env F) Tryd.f52

def slices_Reverse_r2 (F : Nat) (x0 x2 x3 : Value) (K : Value → Value → Value → M Value) : M Value :=
  bnd (opBin .add x2 (.int .i64 (1))) fun v11 => bnd (opBin .sub x3 (.int .i64 (1))) fun v13 => K x0 v11 v13

theorem slices_Reverse_r2_ok (F : Nat) (x0 x2 x3 : Value) (K : Value → Value → Value → M Value) : slices_Reverse_r2 F x0 x2 x3 K = slices_Reverse_R F 2 [(3, x3), (2, x2), (0, x0)] [0, 2, 3] K := by kernel_rfl

def slices_Reverse_r3 (F : Nat) (x0 x2 x3 : Value) (K : Value → Value → Value → M Value) : M Value :=
  bnd (opIndexAddr 1 x0 x3) fun v20 => bnd (opLoad v20) fun v21 => bnd (opIndexAddr 1 x0 x2) fun v24 => bnd (opLoad v24) fun v25 => bnd (opIndexAddr 1 x0 x2) fun v26 => bnd (opStore v26 v21) fun _ => bnd (opIndexAddr 1 x0 x3) fun v27 => bnd (opStore v27 v25) fun _ => K x0 x2 x3

theorem slices_Reverse_r3_ok (F : Nat) (x0 x2 x3 : Value) (K : Value → Value → Value → M Value) : slices_Reverse_r3 F x0 x2 x3 K = slices_Reverse_D F 3 [0, 1, 2, 3, 4, 5, 6, 7, 8, 9, 10, 11, 12, 13, 14, 15] [(3, x3), (2, x2), (0, x0)] [0, 2, 3] K := by kernel_rfl

theorem slices_Reverse_r3_good : goodOrder (opsOf Tryd.f52 3) [0, 1, 2, 3, 4, 5, 6, 7, 8, 9, 10, 11, 12, 13, 14, 15] = true := by kernel_rfl

def slices_Reverse_r1 (F : Nat) (x0 x2 x3 : Value) (K : Value → Value → Value → Value → M Value) : M Value :=
  bnd (opBin .lss x2 x3) fun v9 => K x0 x2 x3 v9

theorem slices_Reverse_r1_ok (F : Nat) (x0 x2 x3 : Value) (K : Value → Value → Value → Value → M Value) : slices_Reverse_r1 F x0 x2 x3 K = slices_Reverse_R F 1 [(3, x3), (2, x2), (0, x0)] [0, 2, 3, 9] K := by kernel_rfl

def slices_Reverse_b0 (F : Nat) (E0_0 : M Value) (A0 : Value → Value → Value → M Value) (x0 x2 x3 : Value) : M Value :=
  slices_Reverse_r1 F x0 x2 x3 (fun x0 x2 x3 x9 => onB x9 (slices_Reverse_r3 F x0 x2 x3 (fun x0 x2 x3 => slices_Reverse_r2 F x0 x2 x3 (fun x0 x2 x3 => A0 x0 x2 x3))) (E0_0 ))

def slices_Reverse_l0 (F : Nat) (E0_0 : M Value) : Nat → Value → Value → Value → M Value
  | 0, _, _, _ => fail
  | k0 + 1, x0, x2, x3 => slices_Reverse_b0 F E0_0 (slices_Reverse_l0 F E0_0 k0) x0 x2 x3

theorem slices_Reverse_l0_s (F : Nat) (E0_0 : M Value) (k0 : Nat) (x0 x2 x3 : Value) : slices_Reverse_l0 F E0_0 (k0 + 1) x0 x2 x3 = slices_Reverse_b0 F E0_0 (slices_Reverse_l0 F E0_0 k0) x0 x2 x3 := rfl

def slices_Reverse_r0 (F : Nat) (x0 : Value) (K : Value → Value → Value → M Value) : M Value :=
  bnd (opLen x0) fun v5 => bnd (opBin .sub v5 (.int .i64 (1))) fun v6 => K x0 (.int .i64 (0)) v6

theorem slices_Reverse_r0_ok (F : Nat) (x0 : Value) (K : Value → Value → Value → M Value) : slices_Reverse_r0 F x0 K = slices_Reverse_R F 0 [(0, x0)] [0, 2, 3] K := by kernel_rfl

def slices_Reverse (F : Nat) (x0 : Value) : M Value :=
  slices_Reverse_r0 F x0 (fun x0 x2 x3 => slices_Reverse_l0 F (tupK []) F x0 x2 x3)

def slices_Reverse_m (F : Nat) : List Value → M Value
  | [x0] => slices_Reverse F x0
  | _ => fail

theorem slices_Reverse_body : Tryd.f52.body = some (.seq (.region 0 (opsOf Tryd.f52 0) false) (.block 0 (.loop (.seq (.seq (.region 1 (opsOf Tryd.f52 1) false) (.cond (.tmp 9) .skip (.exit 0))) (.seq (.block 1 (.region 3 (opsOf Tryd.f52 3) true)) (.region 2 (opsOf Tryd.f52 2) false)))))) := by kernel_rfl

theorem slices_Reverse_ok (F : Nat) : Sim Tryd.prog TrydG 52 (slices_Reverse_m F) := by
 have hE : EnvOK Tryd.prog TrydG (slices_Reverse_env F) := EnvOK.nil
 refine Sim.of_body (E := slices_Reverse_env F) Tryd.func52 slices_Reverse_body Tryd.call52 ?_ ?_
 · intro args hl; unfold slices_Reverse_m; split
   · exact absurd hl (Nat.not_lt.2 (Nat.le_of_ble_eq_true rfl))
   · rfl
 · intro args ρ h w z; unfold slices_Reverse_m; split
   · rename_i x0; show OKc _ _ [(0, x0)] _ _
     refine rSeq ?_
     refine cLess [0] ?_
     refine xR hE [0, 2, 3] rfl (slices_Reverse_r0_ok F _ _) ?_
     intro x0 x2 x3
     show OKq _ _ _ [(3, x3), (2, x2), (0, x0)] _
     refine rThen ?_
     refine rBlock ?_
     refine cLess [3, 2, 0] ?_
     refine xLoopAt [0, 2, 3] [] (fun k0 => slices_Reverse_l0 F (tupK []) k0) F [x0, x2, x3] rfl rfl (fun _ _ _ => rfl) fun I hI0 k0 => ?_
     intro x0 x2 x3
     show OKc _ _ [(3, x3), (2, x2), (0, x0)] _ _
     refine cAs (slices_Reverse_l0_s F _ _ _ _ _) ?_
     refine rSeq ?_
     refine rSeq ?_
     refine cLess [3, 2, 0] ?_
     refine xR hE [0, 2, 3, 9] rfl (slices_Reverse_r1_ok F _ _ _ _) ?_
     intro x0 x2 x3 x9
     show OKq _ _ _ [(9, x9), (3, x3), (2, x2), (0, x0)] _
     refine rThen ?_
     refine xCond rfl rfl ?_ ?_
     · refine rSkip ?_
       refine rThen ?_
       refine rSeq ?_
       refine rBlock ?_
       refine cLess [3, 2, 0] ?_
       refine xD Trydmix hE [0, 2, 3] rfl slices_Reverse_r3_good (slices_Reverse_r3_ok F _ _ _ _) ?_
       intro x0 x2 x3
       show OKq _ _ _ [(3, x3), (2, x2), (0, x0)] _
       refine xBlockN ?_
       refine rThen ?_
       refine cLess [3, 2, 0] ?_
       refine xR hE [0, 2, 3] rfl (slices_Reverse_r2_ok F _ _ _ _) ?_
       intro x0 x2 x3
       show OKq _ _ _ [(3, x3), (2, x2), (0, x0)] _
       exact qLess [3, 2, 0] (hI0 k0 x0 x2 x3)
     · refine rExit ?_
       refine xThenX ?_
       refine xThenX ?_
       refine rOut ?_
       exact rDone (.inl rfl) rfl
   · exact rFail


/-! ### math/bits.OnesCount64 -/

def bits_OnesCount64_env (F : Nat) : Env := envOf []

noncomputable def bits_OnesCount64_R (F : Nat) := rK Tryd.prog TrydG (bits_OnesCount64_env F) Tryd.f57
noncomputable def bits_OnesCount64_D (F : Nat) := dK Tryd.prog TrydG (bits_OnesCount64_env F) Tryd.f57

def bits_OnesCount64_r7 (F : Nat) (x0 : Value) (K : Value → M Value) : M Value :=
  bnd (opConv .i64 x0) fun v33 => bnd (opBin .and v33 (.int .i64 (127))) fun v34 => K v34

theorem bits_OnesCount64_r7_ok (F : Nat) (x0 : Value) (K : Value → M Value) : bits_OnesCount64_r7 F x0 K = bits_OnesCount64_R F 7 [(0, x0)] [2] K := by kernel_rfl

def bits_OnesCount64_r6 (F : Nat) (x0 : Value) (K : Value → M Value) : M Value :=
  bnd (opBin .shr x0 (.int .u64 (32))) fun v30 => bnd (opBin .add x0 v30) fun v31 => K v31

theorem bits_OnesCount64_r6_ok (F : Nat) (x0 : Value) (K : Value → M Value) : bits_OnesCount64_r6 F x0 K = bits_OnesCount64_R F 6 [(0, x0)] [0] K := by kernel_rfl

def bits_OnesCount64_r5 (F : Nat) (x0 : Value) (K : Value → M Value) : M Value :=
  bnd (opBin .shr x0 (.int .u64 (16))) fun v26 => bnd (opBin .add x0 v26) fun v27 => K v27

theorem bits_OnesCount64_r5_ok (F : Nat) (x0 : Value) (K : Value → M Value) : bits_OnesCount64_r5 F x0 K = bits_OnesCount64_R F 5 [(0, x0)] [0] K := by kernel_rfl

def bits_OnesCount64_r4 (F : Nat) (x0 : Value) (K : Value → M Value) : M Value :=
  bnd (opBin .shr x0 (.int .u64 (8))) fun v22 => bnd (opBin .add x0 v22) fun v23 => K v23

theorem bits_OnesCount64_r4_ok (F : Nat) (x0 : Value) (K : Value → M Value) : bits_OnesCount64_r4 F x0 K = bits_OnesCount64_R F 4 [(0, x0)] [0] K := by kernel_rfl

def bits_OnesCount64_r3 (F : Nat) (x0 : Value) (K : Value → M Value) : M Value :=
  bnd (opBin .shr x0 (.int .u64 (4))) fun v16 => bnd (opBin .add v16 x0) fun v18 => bnd (opBin .and v18 (.int .u64 (1085102592571150095))) fun v19 => K v19

theorem bits_OnesCount64_r3_ok (F : Nat) (x0 : Value) (K : Value → M Value) : bits_OnesCount64_r3 F x0 K = bits_OnesCount64_R F 3 [(0, x0)] [0] K := by kernel_rfl

def bits_OnesCount64_r2 (F : Nat) (x0 : Value) (K : Value → M Value) : M Value :=
  bnd (opBin .shr x0 (.int .u64 (2))) fun v10 => bnd (opBin .and v10 (.int .u64 (3689348814741910323))) fun v11 => bnd (opBin .and x0 (.int .u64 (3689348814741910323))) fun v13 => bnd (opBin .add v11 v13) fun v14 => K v14

theorem bits_OnesCount64_r2_ok (F : Nat) (x0 : Value) (K : Value → M Value) : bits_OnesCount64_r2 F x0 K = bits_OnesCount64_R F 2 [(0, x0)] [0] K := by kernel_rfl

def bits_OnesCount64_r1 (F : Nat) (x0 : Value) (K : Value → M Value) : M Value :=
  bnd (opBin .shr x0 (.int .u64 (1))) fun v4 => bnd (opBin .and v4 (.int .u64 (6148914691236517205))) fun v5 => bnd (opBin .and x0 (.int .u64 (6148914691236517205))) fun v7 => bnd (opBin .add v5 v7) fun v8 => K v8

theorem bits_OnesCount64_r1_ok (F : Nat) (x0 : Value) (K : Value → M Value) : bits_OnesCount64_r1 F x0 K = bits_OnesCount64_R F 1 [(0, x0)] [0] K := by kernel_rfl

def bits_OnesCount64_r0 (F : Nat) (x0 : Value) (K : Value → M Value) : M Value :=
  K x0

theorem bits_OnesCount64_r0_ok (F : Nat) (x0 : Value) (K : Value → M Value) : bits_OnesCount64_r0 F x0 K = bits_OnesCount64_R F 0 [(0, x0)] [0] K := by kernel_rfl

def bits_OnesCount64 (F : Nat) (x0 : Value) : M Value :=
  bits_OnesCount64_r0 F x0 (fun x0 => bits_OnesCount64_r1 F x0 (fun x0 => bits_OnesCount64_r2 F x0 (fun x0 => bits_OnesCount64_r3 F x0 (fun x0 => bits_OnesCount64_r4 F x0 (fun x0 => bits_OnesCount64_r5 F x0 (fun x0 => bits_OnesCount64_r6 F x0 (fun x0 => bits_OnesCount64_r7 F x0 (fun x2 => ret x2))))))))

def bits_OnesCount64_m (F : Nat) : List Value → M Value
  | [x0] => bits_OnesCount64 F x0
  | _ => fail

theorem bits_OnesCount64_body : Tryd.f57.body = some (.seq (.region 0 (opsOf Tryd.f57 0) false) (.seq (.region 1 (opsOf Tryd.f57 1) false) (.seq (.region 2 (opsOf Tryd.f57 2) false) (.seq (.region 3 (opsOf Tryd.f57 3) false) (.seq (.region 4 (opsOf Tryd.f57 4) false) (.seq (.region 5 (opsOf Tryd.f57 5) false) (.seq (.region 6 (opsOf Tryd.f57 6) false) (.seq (.region 7 (opsOf Tryd.f57 7) false) .ret)))))))) := by kernel_rfl

theorem bits_OnesCount64_ok (F : Nat) : Sim Tryd.prog TrydG 57 (bits_OnesCount64_m F) := by
 have hE : EnvOK Tryd.prog TrydG (bits_OnesCount64_env F) := EnvOK.nil
 refine Sim.of_body (E := bits_OnesCount64_env F) Tryd.func57 bits_OnesCount64_body Tryd.call57 ?_ ?_
 · intro args hl; unfold bits_OnesCount64_m; split
   · exact absurd hl (Nat.not_lt.2 (Nat.le_of_ble_eq_true rfl))
   · rfl
 · intro args ρ h w z; unfold bits_OnesCount64_m; split
   · rename_i x0; show OKc _ _ [(0, x0)] _ _
     refine rSeq ?_
     refine cLess [0] ?_
     refine xR hE [0] rfl (bits_OnesCount64_r0_ok F _ _) ?_
     intro x0
     show OKq _ _ _ [(0, x0)] _
     refine rThen ?_
     refine rSeq ?_
     refine cLess [0] ?_
     refine xR hE [0] rfl (bits_OnesCount64_r1_ok F _ _) ?_
     intro x0
     show OKq _ _ _ [(0, x0)] _
     refine rThen ?_
     refine rSeq ?_
     refine cLess [0] ?_
     refine xR hE [0] rfl (bits_OnesCount64_r2_ok F _ _) ?_
     intro x0
     show OKq _ _ _ [(0, x0)] _
     refine rThen ?_
     refine rSeq ?_
     refine cLess [0] ?_
     refine xR hE [0] rfl (bits_OnesCount64_r3_ok F _ _) ?_
     intro x0
     show OKq _ _ _ [(0, x0)] _
     refine rThen ?_
     refine rSeq ?_
     refine cLess [0] ?_
     refine xR hE [0] rfl (bits_OnesCount64_r4_ok F _ _) ?_
     intro x0
     show OKq _ _ _ [(0, x0)] _
     refine rThen ?_
     refine rSeq ?_
     refine cLess [0] ?_
     refine xR hE [0] rfl (bits_OnesCount64_r5_ok F _ _) ?_
     intro x0
     show OKq _ _ _ [(0, x0)] _
     refine rThen ?_
     refine rSeq ?_
     refine cLess [0] ?_
     refine xR hE [0] rfl (bits_OnesCount64_r6_ok F _ _) ?_
     intro x0
     show OKq _ _ _ [(0, x0)] _
     refine rThen ?_
     refine rSeq ?_
     refine cLess [0] ?_
     refine xR hE [2] rfl (bits_OnesCount64_r7_ok F _ _) ?_
     intro x2
     show OKq _ _ _ [(2, x2)] _
     refine rThen ?_
     refine rRet ?_
     exact rDone (.inr rfl) rfl
   · exact rFail


/-! ### slices.Clone[[]int,int] -/

def slices_Clone_env (F : Nat) : Env := envOf []

noncomputable def slices_Clone_R (F : Nat) := rK Tryd.prog TrydG (slices_Clone_env F) Tryd.f58
noncomputable def slices_Clone_D (F : Nat) := dK Tryd.prog TrydG (slices_Clone_env F) Tryd.f58

def slices_Clone_r3 (F : Nat) (x0 : Value) (K : Value → M Value) : M Value :=
  bnd (opBuildSlice 0 (rep 0 [(.int .i64 (0))]) []) fun v5 => bnd (opAppend 1 8 v5 x0) fun v7 => K v7

theorem slices_Clone_r3_ok (F : Nat) (x0 : Value) (K : Value → M Value) : slices_Clone_r3 F x0 K = slices_Clone_R F 3 [(0, x0)] [2] K := by kernel_rfl

def slices_Clone_r2 (F : Nat) (K : Value → M Value) : M Value :=
  K (.slice none 0 0)

theorem slices_Clone_r2_ok (F : Nat) (K : Value → M Value) : slices_Clone_r2 F K = slices_Clone_R F 2 [] [2] K := by kernel_rfl

def slices_Clone_r1 (F : Nat) (x0 : Value) (K : Value → Value → M Value) : M Value :=
  bnd (opEq eqSl false x0 (.slice none 0 0)) fun v4 => K x0 v4

theorem slices_Clone_r1_ok (F : Nat) (x0 : Value) (K : Value → Value → M Value) : slices_Clone_r1 F x0 K = slices_Clone_R F 1 [(0, x0)] [0, 4] K := by kernel_rfl

def slices_Clone_r0 (F : Nat) (x0 : Value) (K : Value → M Value) : M Value :=
  K x0

theorem slices_Clone_r0_ok (F : Nat) (x0 : Value) (K : Value → M Value) : slices_Clone_r0 F x0 K = slices_Clone_R F 0 [(0, x0)] [0] K := by kernel_rfl

def slices_Clone (F : Nat) (x0 : Value) : M Value :=
  slices_Clone_r0 F x0 (fun x0 => slices_Clone_r1 F x0 (fun x0 x4 => onB x4 (slices_Clone_r2 F (fun x2 => ret x2)) (slices_Clone_r3 F x0 (fun x2 => ret x2))))

def slices_Clone_m (F : Nat) : List Value → M Value
  | [x0] => slices_Clone F x0
  | _ => fail

theorem slices_Clone_body : Tryd.f58.body = some (.seq (.region 0 (opsOf Tryd.f58 0) false) (.seq (.seq (.region 1 (opsOf Tryd.f58 1) false) (.cond (.tmp 4) (.seq (.region 2 (opsOf Tryd.f58 2) false) .ret) .skip)) (.seq (.region 3 (opsOf Tryd.f58 3) false) .ret))) := by kernel_rfl

theorem slices_Clone_ok (F : Nat) : Sim Tryd.prog TrydG 58 (slices_Clone_m F) := by
 have hE : EnvOK Tryd.prog TrydG (slices_Clone_env F) := EnvOK.nil
 refine Sim.of_body (E := slices_Clone_env F) Tryd.func58 slices_Clone_body Tryd.call58 ?_ ?_
 · intro args hl; unfold slices_Clone_m; split
   · exact absurd hl (Nat.not_lt.2 (Nat.le_of_ble_eq_true rfl))
   · rfl
 · intro args ρ h w z; unfold slices_Clone_m; split
   · rename_i x0; show OKc _ _ [(0, x0)] _ _
     refine rSeq ?_
     refine cLess [0] ?_
     refine xR hE [0] rfl (slices_Clone_r0_ok F _ _) ?_
     intro x0
     show OKq _ _ _ [(0, x0)] _
     refine rThen ?_
     refine rSeq ?_
     refine rSeq ?_
     refine cLess [0] ?_
     refine xR hE [0, 4] rfl (slices_Clone_r1_ok F _ _) ?_
     intro x0 x4
     show OKq _ _ _ [(4, x4), (0, x0)] _
     refine rThen ?_
     refine xCond rfl rfl ?_ ?_
     · refine rSeq ?_
       refine cLess [] ?_
       refine xR hE [2] rfl (slices_Clone_r2_ok F _) ?_
       intro x2
       show OKq _ _ _ [(2, x2)] _
       refine rThen ?_
       refine rRet ?_
       refine xThenR ?_
       exact rDone (.inr rfl) rfl
     · refine rSkip ?_
       refine rThen ?_
       refine rSeq ?_
       refine cLess [0] ?_
       refine xR hE [2] rfl (slices_Clone_r3_ok F _ _) ?_
       intro x2
       show OKq _ _ _ [(2, x2)] _
       refine rThen ?_
       refine rRet ?_
       exact rDone (.inr rfl) rfl
   · exact rFail


/-! ### slices.Sort[[]int,int] -/

def slices_Sort (F : Nat) (x0 : Value) : M Value := sortM x0

def slices_Sort_m (F : Nat) : List Value → M Value := sortL

theorem slices_Sort_ok (F : Nat) : Sim Tryd.prog TrydG 59 (slices_Sort_m F) := sort_sim


/-! ### (*haruspex/bitset.Set).All -/

def bitset_Set_All_env (F : Nat) : Env := envOf [(44, bitset_Set_words_m F), (45, bits_TrailingZeros64_m F)]

noncomputable def bitset_Set_All_R (F : Nat) := rK Tryd.prog TrydG (bitset_Set_All_env F) Tryd.f20
noncomputable def bitset_Set_All_D (F : Nat) := dK Tryd.prog TrydG (bitset_Set_All_env F) Tryd.f20

def bitset_Set_All_r9 (F : Nat) (x3 : Value) (K : Value → M Value) : M Value :=
  K x3

theorem bitset_Set_All_r9_ok (F : Nat) (x3 : Value) (K : Value → M Value) : bitset_Set_All_r9 F x3 K = bitset_Set_All_R F 9 [(3, x3)] [2] K := by kernel_rfl

def bitset_Set_All_k0 (F : Nat) (x3 : Value) : M Value :=
  bitset_Set_All_r9 F x3 (fun x2 => ret x2)

def bitset_Set_All_r8 (F : Nat) (x3 x7 x8 x9 : Value) (K : Value → Value → Value → Value → M Value) : M Value :=
  bnd (opBin .add x9 (.int .i64 (1))) fun v28 => K x3 x7 x8 v28

theorem bitset_Set_All_r8_ok (F : Nat) (x3 x7 x8 x9 : Value) (K : Value → Value → Value → Value → M Value) : bitset_Set_All_r8 F x3 x7 x8 x9 K = bitset_Set_All_R F 8 [(9, x9), (8, x8), (7, x7), (3, x3)] [3, 7, 8, 9] K := by kernel_rfl

def bitset_Set_All_k2 (F : Nat) (A1 : Value → Value → Value → Value → M Value) (x3 x7 x8 x9 : Value) : M Value :=
  bitset_Set_All_r8 F x3 x7 x8 x9 (fun x3 x7 x8 x9 => A1 x3 x7 x8 x9)

def bitset_Set_All_r6 (F : Nat) (x3 x4 x5 x7 x8 x9 : Value) (K : Value → Value → Value → Value → Value → Value → M Value) : M Value :=
  bnd (opBin .sub x5 (.int .u64 (1))) fun v18 => bnd (opBin .and x5 v18) fun v19 => K x3 x4 v19 x7 x8 x9

theorem bitset_Set_All_r6_ok (F : Nat) (x3 x4 x5 x7 x8 x9 : Value) (K : Value → Value → Value → Value → Value → Value → M Value) : bitset_Set_All_r6 F x3 x4 x5 x7 x8 x9 K = bitset_Set_All_R F 6 [(9, x9), (8, x8), (7, x7), (5, x5), (4, x4), (3, x3)] [3, 4, 5, 7, 8, 9] K := by kernel_rfl

def bitset_Set_All_r7 (F : Nat) (x3 x4 x5 x7 x8 x9 : Value) (K : Value → Value → Value → Value → Value → Value → M Value) : M Value :=
  bnd (opBin .mul x4 (.int .i64 (64))) fun v22 => bnd (bits_TrailingZeros64 F x5) fun v24 => bnd (opBin .add v22 v24) fun v25 => bnd (opBuildSlice 1 (rep 1 [(.int .i64 (0))]) [(0, 1, false, v25)]) fun v26 => bnd (opAppend 1 8 x3 v26) fun v27 => K v27 x4 x5 x7 x8 x9

theorem bitset_Set_All_r7_ok (F : Nat) (x3 x4 x5 x7 x8 x9 : Value) (K : Value → Value → Value → Value → Value → Value → M Value) : bitset_Set_All_r7 F x3 x4 x5 x7 x8 x9 K = bitset_Set_All_R F 7 [(9, x9), (8, x8), (7, x7), (5, x5), (4, x4), (3, x3)] [3, 4, 5, 7, 8, 9] K := by kernel_rfl

def bitset_Set_All_r5 (F : Nat) (x3 x4 x5 x7 x8 x9 : Value) (K : Value → Value → Value → Value → Value → Value → Value → M Value) : M Value :=
  bnd (opBin .gtr x5 (.int .u64 (0))) fun v15 => K x3 x4 x5 x7 x8 x9 v15

theorem bitset_Set_All_r5_ok (F : Nat) (x3 x4 x5 x7 x8 x9 : Value) (K : Value → Value → Value → Value → Value → Value → Value → M Value) : bitset_Set_All_r5 F x3 x4 x5 x7 x8 x9 K = bitset_Set_All_R F 5 [(9, x9), (8, x8), (7, x7), (5, x5), (4, x4), (3, x3)] [3, 4, 5, 7, 8, 9, 15] K := by kernel_rfl

def bitset_Set_All_b3 (F : Nat) (E3_2 : Value → Value → Value → Value → M Value) (A3 : Value → Value → Value → Value → Value → Value → M Value) (x3 x4 x5 x7 x8 x9 : Value) : M Value :=
  bitset_Set_All_r5 F x3 x4 x5 x7 x8 x9 (fun x3 x4 x5 x7 x8 x9 x15 => onB x15 (bitset_Set_All_r7 F x3 x4 x5 x7 x8 x9 (fun x3 x4 x5 x7 x8 x9 => bitset_Set_All_r6 F x3 x4 x5 x7 x8 x9 (fun x3 x4 x5 x7 x8 x9 => A3 x3 x4 x5 x7 x8 x9))) (E3_2 x3 x7 x8 x9))

def bitset_Set_All_l3 (F : Nat) (E3_2 : Value → Value → Value → Value → M Value) : Nat → Value → Value → Value → Value → Value → Value → M Value
  | 0, _, _, _, _, _, _ => fail
  | k3 + 1, x3, x4, x5, x7, x8, x9 => bitset_Set_All_b3 F E3_2 (bitset_Set_All_l3 F E3_2 k3) x3 x4 x5 x7 x8 x9

theorem bitset_Set_All_l3_s (F : Nat) (E3_2 : Value → Value → Value → Value → M Value) (k3 : Nat) (x3 x4 x5 x7 x8 x9 : Value) : bitset_Set_All_l3 F E3_2 (k3 + 1) x3 x4 x5 x7 x8 x9 = bitset_Set_All_b3 F E3_2 (bitset_Set_All_l3 F E3_2 k3) x3 x4 x5 x7 x8 x9 := rfl

def bitset_Set_All_r4 (F : Nat) (x3 x7 x8 x9 : Value) (K : Value → Value → Value → Value → Value → Value → M Value) : M Value :=
  bnd (opIndexAddr 1 x7 x9) fun v12 => bnd (opLoad v12) fun v13 => K x3 x9 v13 x7 x8 x9

theorem bitset_Set_All_r4_ok (F : Nat) (x3 x7 x8 x9 : Value) (K : Value → Value → Value → Value → Value → Value → M Value) : bitset_Set_All_r4 F x3 x7 x8 x9 K = bitset_Set_All_R F 4 [(9, x9), (8, x8), (7, x7), (3, x3)] [3, 4, 5, 7, 8, 9] K := by kernel_rfl

def bitset_Set_All_r3 (F : Nat) (x3 x7 x8 x9 : Value) (K : Value → Value → Value → Value → Value → M Value) : M Value :=
  bnd (opBin .lss x9 x8) fun v10 => K x3 x7 x8 x9 v10

theorem bitset_Set_All_r3_ok (F : Nat) (x3 x7 x8 x9 : Value) (K : Value → Value → Value → Value → Value → M Value) : bitset_Set_All_r3 F x3 x7 x8 x9 K = bitset_Set_All_R F 3 [(9, x9), (8, x8), (7, x7), (3, x3)] [3, 7, 8, 9, 10] K := by kernel_rfl

def bitset_Set_All_b1 (F : Nat) (E1_0 : Value → M Value) (A1 : Value → Value → Value → Value → M Value) (x3 x7 x8 x9 : Value) : M Value :=
  bitset_Set_All_r3 F x3 x7 x8 x9 (fun x3 x7 x8 x9 x10 => onB x10 (bitset_Set_All_r4 F x3 x7 x8 x9 (fun x3 x4 x5 x7 x8 x9 => bitset_Set_All_l3 F (fun x3 x7 x8 x9 => bitset_Set_All_k2 F A1 x3 x7 x8 x9) F x3 x4 x5 x7 x8 x9)) (E1_0 x3))

def bitset_Set_All_l1 (F : Nat) (E1_0 : Value → M Value) : Nat → Value → Value → Value → Value → M Value
  | 0, _, _, _, _ => fail
  | k1 + 1, x3, x7, x8, x9 => bitset_Set_All_b1 F E1_0 (bitset_Set_All_l1 F E1_0 k1) x3 x7 x8 x9

theorem bitset_Set_All_l1_s (F : Nat) (E1_0 : Value → M Value) (k1 : Nat) (x3 x7 x8 x9 : Value) : bitset_Set_All_l1 F E1_0 (k1 + 1) x3 x7 x8 x9 = bitset_Set_All_b1 F E1_0 (bitset_Set_All_l1 F E1_0 k1) x3 x7 x8 x9 := rfl

def bitset_Set_All_r2 (F : Nat) (x0 x3 : Value) (K : Value → Value → Value → Value → M Value) : M Value :=
  bnd (bitset_Set_words F x0) fun v7 => bnd (opLen v7) fun v8 => K x3 v7 v8 (.int .i64 (0))

theorem bitset_Set_All_r2_ok (F : Nat) (x0 x3 : Value) (K : Value → Value → Value → Value → M Value) : bitset_Set_All_r2 F x0 x3 K = bitset_Set_All_R F 2 [(3, x3), (0, x0)] [3, 7, 8, 9] K := by kernel_rfl

def bitset_Set_All_r1 (F : Nat) (x0 : Value) (K : Value → Value → M Value) : M Value :=
  K x0 (.slice none 0 0)

theorem bitset_Set_All_r1_ok (F : Nat) (x0 : Value) (K : Value → Value → M Value) : bitset_Set_All_r1 F x0 K = bitset_Set_All_R F 1 [(0, x0)] [0, 3] K := by kernel_rfl

def bitset_Set_All_r0 (F : Nat) (x0 : Value) (K : Value → M Value) : M Value :=
  K x0

theorem bitset_Set_All_r0_ok (F : Nat) (x0 : Value) (K : Value → M Value) : bitset_Set_All_r0 F x0 K = bitset_Set_All_R F 0 [(0, x0)] [0] K := by kernel_rfl

def bitset_Set_All (F : Nat) (x0 : Value) : M Value :=
  bitset_Set_All_r0 F x0 (fun x0 => bitset_Set_All_r1 F x0 (fun x0 x3 => bitset_Set_All_r2 F x0 x3 (fun x3 x7 x8 x9 => bitset_Set_All_l1 F (fun x3 => bitset_Set_All_k0 F x3) F x3 x7 x8 x9)))

def bitset_Set_All_m (F : Nat) : List Value → M Value
  | [x0] => bitset_Set_All F x0
  | _ => fail

theorem bitset_Set_All_body : Tryd.f20.body = some (.seq (.region 0 (opsOf Tryd.f20 0) false) (.seq (.region 1 (opsOf Tryd.f20 1) false) (.seq (.seq (.region 2 (opsOf Tryd.f20 2) false) (.block 0 (.loop (.seq (.region 3 (opsOf Tryd.f20 3) false) (.seq (.cond (.tmp 10) .skip (.exit 0)) (.seq (.block 1 (.seq (.region 4 (opsOf Tryd.f20 4) false) (.block 2 (.loop (.seq (.seq (.region 5 (opsOf Tryd.f20 5) false) (.cond (.tmp 15) .skip (.exit 2))) (.seq (.block 3 (.region 7 (opsOf Tryd.f20 7) false)) (.region 6 (opsOf Tryd.f20 6) false))))))) (.region 8 (opsOf Tryd.f20 8) false))))))) (.seq (.region 9 (opsOf Tryd.f20 9) false) .ret)))) := by kernel_rfl

theorem bitset_Set_All_ok (F : Nat) : Sim Tryd.prog TrydG 20 (bitset_Set_All_m F) := by
 have hE : EnvOK Tryd.prog TrydG (bitset_Set_All_env F) := (EnvOK.cons (bitset_Set_words_ok F) (EnvOK.cons (bits_TrailingZeros64_ok F) EnvOK.nil))
 refine Sim.of_body (E := bitset_Set_All_env F) Tryd.func20 bitset_Set_All_body Tryd.call20 ?_ ?_
 · intro args hl; unfold bitset_Set_All_m; split
   · exact absurd hl (Nat.not_lt.2 (Nat.le_of_ble_eq_true rfl))
   · rfl
 · intro args ρ h w z; unfold bitset_Set_All_m; split
   · rename_i x0; show OKc _ _ [(0, x0)] _ _
     refine rSeq ?_
     refine cLess [0] ?_
     refine xR hE [0] rfl (bitset_Set_All_r0_ok F _ _) ?_
     intro x0
     show OKq _ _ _ [(0, x0)] _
     refine rThen ?_
     refine rSeq ?_
     refine cLess [0] ?_
     refine xR hE [0, 3] rfl (bitset_Set_All_r1_ok F _ _) ?_
     intro x0 x3
     show OKq _ _ _ [(3, x3), (0, x0)] _
     refine rThen ?_
     refine xSeq [3] (bitset_Set_All_k0 F ) ?_ fun hj0 => ?_
     · intro x3
       show OKc _ _ [(3, x3)] _ _
       refine rSeq ?_
       refine cLess [3] ?_
       refine xR hE [2] rfl (bitset_Set_All_r9_ok F _ _) ?_
       intro x2
       show OKq _ _ _ [(2, x2)] _
       refine rThen ?_
       refine rRet ?_
       exact rDone (.inr rfl) rfl
     · refine rSeq ?_
       refine cLess [3, 0] ?_
       refine xR hE [3, 7, 8, 9] rfl (bitset_Set_All_r2_ok F _ _ _) ?_
       intro x3 x7 x8 x9
       show OKq _ _ _ [(9, x9), (8, x8), (7, x7), (3, x3)] _
       refine rThen ?_
       refine rBlock ?_
       refine cLess [9, 8, 7, 3] ?_
       refine xLoopAt [3, 7, 8, 9] [] (fun k1 => bitset_Set_All_l1 F (fun x3 => bitset_Set_All_k0 F x3) k1) F [x3, x7, x8, x9] rfl rfl (fun _ _ _ _ => rfl) fun I hI1 k1 => ?_
       intro x3 x7 x8 x9
       show OKc _ _ [(9, x9), (8, x8), (7, x7), (3, x3)] _ _
       refine cAs (bitset_Set_All_l1_s F _ _ _ _ _ _) ?_
       refine rSeq ?_
       refine cLess [9, 8, 7, 3] ?_
       refine xR hE [3, 7, 8, 9, 10] rfl (bitset_Set_All_r3_ok F _ _ _ _ _) ?_
       intro x3 x7 x8 x9 x10
       show OKq _ _ _ [(10, x10), (9, x9), (8, x8), (7, x7), (3, x3)] _
       refine rThen ?_
       refine rSeq ?_
       refine xCond rfl rfl ?_ ?_
       · refine rSkip ?_
         refine rThen ?_
         refine xSeq [3, 7, 8, 9] (bitset_Set_All_k2 F (bitset_Set_All_l1 F (fun x3 => bitset_Set_All_k0 F x3) k1) ) ?_ fun hj2 => ?_
         · intro x3 x7 x8 x9
           show OKc _ _ [(9, x9), (8, x8), (7, x7), (3, x3)] _ _
           refine cLess [9, 8, 7, 3] ?_
           refine xR hE [3, 7, 8, 9] rfl (bitset_Set_All_r8_ok F _ _ _ _ _) ?_
           intro x3 x7 x8 x9
           show OKq _ _ _ [(9, x9), (8, x8), (7, x7), (3, x3)] _
           exact qLess [9, 8, 7, 3] (hI1 k1 x3 x7 x8 x9)
         · refine rBlock ?_
           refine rSeq ?_
           refine cLess [9, 8, 7, 3] ?_
           refine xR hE [3, 4, 5, 7, 8, 9] rfl (bitset_Set_All_r4_ok F _ _ _ _ _) ?_
           intro x3 x4 x5 x7 x8 x9
           show OKq _ _ _ [(9, x9), (8, x8), (7, x7), (5, x5), (4, x4), (3, x3)] _
           refine rThen ?_
           refine rBlock ?_
           refine cLess [9, 8, 7, 5, 4, 3] ?_
           refine xLoopAt [3, 4, 5, 7, 8, 9] [] (fun k3 => bitset_Set_All_l3 F (fun x3 x7 x8 x9 => bitset_Set_All_k2 F (bitset_Set_All_l1 F (fun x3 => bitset_Set_All_k0 F x3) k1) x3 x7 x8 x9) k3) F [x3, x4, x5, x7, x8, x9] rfl rfl (fun _ _ _ _ _ _ => rfl) fun I hI3 k3 => ?_
           intro x3 x4 x5 x7 x8 x9
           show OKc _ _ [(9, x9), (8, x8), (7, x7), (5, x5), (4, x4), (3, x3)] _ _
           refine cAs (bitset_Set_All_l3_s F _ _ _ _ _ _ _ _) ?_
           refine rSeq ?_
           refine rSeq ?_
           refine cLess [9, 8, 7, 5, 4, 3] ?_
           refine xR hE [3, 4, 5, 7, 8, 9, 15] rfl (bitset_Set_All_r5_ok F _ _ _ _ _ _ _) ?_
           intro x3 x4 x5 x7 x8 x9 x15
           show OKq _ _ _ [(15, x15), (9, x9), (8, x8), (7, x7), (5, x5), (4, x4), (3, x3)] _
           refine rThen ?_
           refine xCond rfl rfl ?_ ?_
           · refine rSkip ?_
             refine rThen ?_
             refine rSeq ?_
             refine rBlock ?_
             refine cLess [9, 8, 7, 5, 4, 3] ?_
             refine xR hE [3, 4, 5, 7, 8, 9] rfl (bitset_Set_All_r7_ok F _ _ _ _ _ _ _) ?_
             intro x3 x4 x5 x7 x8 x9
             show OKq _ _ _ [(9, x9), (8, x8), (7, x7), (5, x5), (4, x4), (3, x3)] _
             refine xBlockN ?_
             refine rThen ?_
             refine cLess [9, 8, 7, 5, 4, 3] ?_
             refine xR hE [3, 4, 5, 7, 8, 9] rfl (bitset_Set_All_r6_ok F _ _ _ _ _ _ _) ?_
             intro x3 x4 x5 x7 x8 x9
             show OKq _ _ _ [(9, x9), (8, x8), (7, x7), (5, x5), (4, x4), (3, x3)] _
             exact qLess [9, 8, 7, 5, 4, 3] (hI3 k3 x3 x4 x5 x7 x8 x9)
           · refine rExit ?_
             refine xThenX ?_
             refine xThenX ?_
             refine rOut ?_
             refine xBlockN ?_
             exact qLess [9, 8, 7, 3] (hj2 x3 x7 x8 x9)
       · refine rExit ?_
         refine xThenX ?_
         refine xThenX ?_
         refine rOut ?_
         exact qLess [3] (hj0 x3)
   · exact rFail


/-! ### haruspex/haruspexref1.Loops -/

def R1_Loops_env (F : Nat) : Env := envOf [(22, R1_Reach_m F)]

noncomputable def R1_Loops_R (F : Nat) := rK Tryd.prog TrydG (R1_Loops_env F) Tryd.f24
noncomputable def R1_Loops_D (F : Nat) := dK Tryd.prog TrydG (R1_Loops_env F) Tryd.f24

def R1_Loops_r7 (F : Nat) (x3 : Value) (K : Value → M Value) : M Value :=
  K x3

theorem R1_Loops_r7_ok (F : Nat) (x3 : Value) (K : Value → M Value) : R1_Loops_r7 F x3 K = R1_Loops_R F 7 [(3, x3)] [2] K := by kernel_rfl

def R1_Loops_k0 (F : Nat) (x3 : Value) : M Value :=
  R1_Loops_r7 F x3 (fun x2 => ret x2)

def R1_Loops_r4 (F : Nat) (x0 x3 x4 : Value) (K : Value → Value → Value → M Value) : M Value :=
  bnd (opBin .add x4 (.int .i64 (1))) fun v10 => K x0 x3 v10

theorem R1_Loops_r4_ok (F : Nat) (x0 x3 x4 : Value) (K : Value → Value → Value → M Value) : R1_Loops_r4 F x0 x3 x4 K = R1_Loops_R F 4 [(4, x4), (3, x3), (0, x0)] [0, 3, 4] K := by kernel_rfl

def R1_Loops_k2 (F : Nat) (A1 : Value → Value → Value → M Value) (x0 x3 x4 : Value) : M Value :=
  R1_Loops_r4 F x0 x3 x4 (fun x0 x3 x4 => A1 x0 x3 x4)

def R1_Loops_r6 (F : Nat) (x0 x3 x4 : Value) (K : Value → Value → Value → M Value) : M Value :=
  bnd (opBuildSlice 1 (rep 1 [(.int .i64 (0))]) [(0, 1, false, x4)]) fun v22 => bnd (opAppend 1 8 x3 v22) fun v23 => K x0 v23 x4

theorem R1_Loops_r6_ok (F : Nat) (x0 x3 x4 : Value) (K : Value → Value → Value → M Value) : R1_Loops_r6 F x0 x3 x4 K = R1_Loops_R F 6 [(4, x4), (3, x3), (0, x0)] [0, 3, 4] K := by kernel_rfl

def R1_Loops_r5 (F : Nat) (x0 x3 x4 : Value) (K : Value → Value → Value → Value → M Value) : M Value :=
  bnd (opIndexAddr 1 x0 x4) fun v14 => bnd (opLoad v14) fun v15 => bnd (R1_Reach F x0 v15 (.int .i64 (-1))) fun v16 => bnd (opIndexAddr 1 v16 x4) fun v18 => bnd (opLoad v18) fun v19 => K x0 x3 x4 v19

theorem R1_Loops_r5_ok (F : Nat) (x0 x3 x4 : Value) (K : Value → Value → Value → Value → M Value) : R1_Loops_r5 F x0 x3 x4 K = R1_Loops_R F 5 [(4, x4), (3, x3), (0, x0)] [0, 3, 4, 19] K := by kernel_rfl

def R1_Loops_r3 (F : Nat) (x0 x3 x4 : Value) (K : Value → Value → Value → Value → M Value) : M Value :=
  bnd (opLen x0) fun v7 => bnd (opBin .lss x4 v7) fun v8 => K x0 x3 x4 v8

theorem R1_Loops_r3_ok (F : Nat) (x0 x3 x4 : Value) (K : Value → Value → Value → Value → M Value) : R1_Loops_r3 F x0 x3 x4 K = R1_Loops_R F 3 [(4, x4), (3, x3), (0, x0)] [0, 3, 4, 8] K := by kernel_rfl

def R1_Loops_b1 (F : Nat) (E1_0 : Value → M Value) (A1 : Value → Value → Value → M Value) (x0 x3 x4 : Value) : M Value :=
  R1_Loops_r3 F x0 x3 x4 (fun x0 x3 x4 x8 => onB x8 (R1_Loops_r5 F x0 x3 x4 (fun x0 x3 x4 x19 => onB x19 (R1_Loops_r6 F x0 x3 x4 (fun x0 x3 x4 => R1_Loops_k2 F A1 x0 x3 x4)) (R1_Loops_k2 F A1 x0 x3 x4))) (E1_0 x3))

def R1_Loops_l1 (F : Nat) (E1_0 : Value → M Value) : Nat → Value → Value → Value → M Value
  | 0, _, _, _ => fail
  | k1 + 1, x0, x3, x4 => R1_Loops_b1 F E1_0 (R1_Loops_l1 F E1_0 k1) x0 x3 x4

theorem R1_Loops_l1_s (F : Nat) (E1_0 : Value → M Value) (k1 : Nat) (x0 x3 x4 : Value) : R1_Loops_l1 F E1_0 (k1 + 1) x0 x3 x4 = R1_Loops_b1 F E1_0 (R1_Loops_l1 F E1_0 k1) x0 x3 x4 := rfl

def R1_Loops_r2 (F : Nat) (x0 x3 : Value) (K : Value → Value → Value → M Value) : M Value :=
  K x0 x3 (.int .i64 (0))

theorem R1_Loops_r2_ok (F : Nat) (x0 x3 : Value) (K : Value → Value → Value → M Value) : R1_Loops_r2 F x0 x3 K = R1_Loops_R F 2 [(3, x3), (0, x0)] [0, 3, 4] K := by kernel_rfl

def R1_Loops_r1 (F : Nat) (x0 : Value) (K : Value → Value → M Value) : M Value :=
  K x0 (.slice none 0 0)

theorem R1_Loops_r1_ok (F : Nat) (x0 : Value) (K : Value → Value → M Value) : R1_Loops_r1 F x0 K = R1_Loops_R F 1 [(0, x0)] [0, 3] K := by kernel_rfl

def R1_Loops_r0 (F : Nat) (x0 : Value) (K : Value → M Value) : M Value :=
  K x0

theorem R1_Loops_r0_ok (F : Nat) (x0 : Value) (K : Value → M Value) : R1_Loops_r0 F x0 K = R1_Loops_R F 0 [(0, x0)] [0] K := by kernel_rfl

def R1_Loops (F : Nat) (x0 : Value) : M Value :=
  R1_Loops_r0 F x0 (fun x0 => R1_Loops_r1 F x0 (fun x0 x3 => R1_Loops_r2 F x0 x3 (fun x0 x3 x4 => R1_Loops_l1 F (fun x3 => R1_Loops_k0 F x3) F x0 x3 x4)))

def R1_Loops_m (F : Nat) : List Value → M Value
  | [x0] => R1_Loops F x0
  | _ => fail

theorem R1_Loops_body : Tryd.f24.body = some (.seq (.region 0 (opsOf Tryd.f24 0) false) (.seq (.region 1 (opsOf Tryd.f24 1) false) (.seq (.seq (.region 2 (opsOf Tryd.f24 2) false) (.block 0 (.loop (.seq (.seq (.region 3 (opsOf Tryd.f24 3) false) (.cond (.tmp 8) .skip (.exit 0))) (.seq (.block 1 (.seq (.region 5 (opsOf Tryd.f24 5) false) (.cond (.tmp 19) (.region 6 (opsOf Tryd.f24 6) false) .skip))) (.region 4 (opsOf Tryd.f24 4) false)))))) (.seq (.region 7 (opsOf Tryd.f24 7) false) .ret)))) := by kernel_rfl

theorem R1_Loops_ok (F : Nat) : Sim Tryd.prog TrydG 24 (R1_Loops_m F) := by
 have hE : EnvOK Tryd.prog TrydG (R1_Loops_env F) := (EnvOK.cons (R1_Reach_ok F) EnvOK.nil)
 refine Sim.of_body (E := R1_Loops_env F) Tryd.func24 R1_Loops_body Tryd.call24 ?_ ?_
 · intro args hl; unfold R1_Loops_m; split
   · exact absurd hl (Nat.not_lt.2 (Nat.le_of_ble_eq_true rfl))
   · rfl
 · intro args ρ h w z; unfold R1_Loops_m; split
   · rename_i x0; show OKc _ _ [(0, x0)] _ _
     refine rSeq ?_
     refine cLess [0] ?_
     refine xR hE [0] rfl (R1_Loops_r0_ok F _ _) ?_
     intro x0
     show OKq _ _ _ [(0, x0)] _
     refine rThen ?_
     refine rSeq ?_
     refine cLess [0] ?_
     refine xR hE [0, 3] rfl (R1_Loops_r1_ok F _ _) ?_
     intro x0 x3
     show OKq _ _ _ [(3, x3), (0, x0)] _
     refine rThen ?_
     refine xSeq [3] (R1_Loops_k0 F ) ?_ fun hj0 => ?_
     · intro x3
       show OKc _ _ [(3, x3)] _ _
       refine rSeq ?_
       refine cLess [3] ?_
       refine xR hE [2] rfl (R1_Loops_r7_ok F _ _) ?_
       intro x2
       show OKq _ _ _ [(2, x2)] _
       refine rThen ?_
       refine rRet ?_
       exact rDone (.inr rfl) rfl
     · refine rSeq ?_
       refine cLess [3, 0] ?_
       refine xR hE [0, 3, 4] rfl (R1_Loops_r2_ok F _ _ _) ?_
       intro x0 x3 x4
       show OKq _ _ _ [(4, x4), (3, x3), (0, x0)] _
       refine rThen ?_
       refine rBlock ?_
       refine cLess [4, 3, 0] ?_
       refine xLoopAt [0, 3, 4] [] (fun k1 => R1_Loops_l1 F (fun x3 => R1_Loops_k0 F x3) k1) F [x0, x3, x4] rfl rfl (fun _ _ _ => rfl) fun I hI1 k1 => ?_
       intro x0 x3 x4
       show OKc _ _ [(4, x4), (3, x3), (0, x0)] _ _
       refine cAs (R1_Loops_l1_s F _ _ _ _ _) ?_
       refine rSeq ?_
       refine rSeq ?_
       refine cLess [4, 3, 0] ?_
       refine xR hE [0, 3, 4, 8] rfl (R1_Loops_r3_ok F _ _ _ _) ?_
       intro x0 x3 x4 x8
       show OKq _ _ _ [(8, x8), (4, x4), (3, x3), (0, x0)] _
       refine rThen ?_
       refine xCond rfl rfl ?_ ?_
       · refine rSkip ?_
         refine rThen ?_
         refine xSeq [0, 3, 4] (R1_Loops_k2 F (R1_Loops_l1 F (fun x3 => R1_Loops_k0 F x3) k1) ) ?_ fun hj2 => ?_
         · intro x0 x3 x4
           show OKc _ _ [(4, x4), (3, x3), (0, x0)] _ _
           refine cLess [4, 3, 0] ?_
           refine xR hE [0, 3, 4] rfl (R1_Loops_r4_ok F _ _ _ _) ?_
           intro x0 x3 x4
           show OKq _ _ _ [(4, x4), (3, x3), (0, x0)] _
           exact qLess [4, 3, 0] (hI1 k1 x0 x3 x4)
         · refine rBlock ?_
           refine rSeq ?_
           refine cLess [4, 3, 0] ?_
           refine xR hE [0, 3, 4, 19] rfl (R1_Loops_r5_ok F _ _ _ _) ?_
           intro x0 x3 x4 x19
           show OKq _ _ _ [(19, x19), (4, x4), (3, x3), (0, x0)] _
           refine rThen ?_
           refine xCond rfl rfl ?_ ?_
           · refine cLess [4, 3, 0] ?_
             refine xR hE [0, 3, 4] rfl (R1_Loops_r6_ok F _ _ _ _) ?_
             intro x0 x3 x4
             show OKq _ _ _ [(4, x4), (3, x3), (0, x0)] _
             refine xBlockN ?_
             exact qLess [4, 3, 0] (hj2 x0 x3 x4)
           · refine rSkip ?_
             refine xBlockN ?_
             exact qLess [4, 3, 0] (hj2 x0 x3 x4)
       · refine rExit ?_
         refine xThenX ?_
         refine xThenX ?_
         refine rOut ?_
         exact qLess [3] (hj0 x3)
   · exact rFail


/-! ### haruspex/haruspexref1.EqAll -/

def R1_EqAll_env (F : Nat) : Env := envOf [(18, R1_Eq_m F)]

noncomputable def R1_EqAll_R (F : Nat) := rK Tryd.prog TrydG (R1_EqAll_env F) Tryd.f25
noncomputable def R1_EqAll_D (F : Nat) := dK Tryd.prog TrydG (R1_EqAll_env F) Tryd.f25

def R1_EqAll_r8 (F : Nat) (K : Value → M Value) : M Value :=
  K (.bool true)

theorem R1_EqAll_r8_ok (F : Nat) (K : Value → M Value) : R1_EqAll_r8 F K = R1_EqAll_R F 8 [] [4] K := by kernel_rfl

def R1_EqAll_k0 (F : Nat) : M Value :=
  R1_EqAll_r8 F (fun x4 => ret x4)

def R1_EqAll_r5 (F : Nat) (x0 x1 x5 : Value) (K : Value → Value → Value → M Value) : M Value :=
  bnd (opBin .add x5 (.int .i64 (1))) fun v16 => K x0 x1 v16

theorem R1_EqAll_r5_ok (F : Nat) (x0 x1 x5 : Value) (K : Value → Value → Value → M Value) : R1_EqAll_r5 F x0 x1 x5 K = R1_EqAll_R F 5 [(5, x5), (1, x1), (0, x0)] [0, 1, 5] K := by kernel_rfl

def R1_EqAll_r7 (F : Nat) (K : Value → M Value) : M Value :=
  K (.bool false)

theorem R1_EqAll_r7_ok (F : Nat) (K : Value → M Value) : R1_EqAll_r7 F K = R1_EqAll_R F 7 [] [4] K := by kernel_rfl

def R1_EqAll_r6 (F : Nat) (x0 x1 x5 : Value) (K : Value → Value → Value → Value → M Value) : M Value :=
  bnd (opIndexAddr 1 x0 x5) fun v19 => bnd (opLoad v19) fun v20 => bnd (opIndexAddr 1 x1 x5) fun v23 => bnd (opLoad v23) fun v24 => bnd (R1_Eq F v20 v24) fun v25 => bnd (opNot v25) fun v26 => K x0 x1 x5 v26

theorem R1_EqAll_r6_ok (F : Nat) (x0 x1 x5 : Value) (K : Value → Value → Value → Value → M Value) : R1_EqAll_r6 F x0 x1 x5 K = R1_EqAll_D F 6 [0, 1, 2, 3, 4, 5, 6, 7, 8, 9] [(5, x5), (1, x1), (0, x0)] [0, 1, 5, 26] K := by kernel_rfl

theorem R1_EqAll_r6_good : goodOrder (opsOf Tryd.f25 6) [0, 1, 2, 3, 4, 5, 6, 7, 8, 9] = true := by kernel_rfl

def R1_EqAll_r4 (F : Nat) (x0 x1 x5 : Value) (K : Value → Value → Value → Value → M Value) : M Value :=
  bnd (opLen x0) fun v13 => bnd (opBin .lss x5 v13) fun v14 => K x0 x1 x5 v14

theorem R1_EqAll_r4_ok (F : Nat) (x0 x1 x5 : Value) (K : Value → Value → Value → Value → M Value) : R1_EqAll_r4 F x0 x1 x5 K = R1_EqAll_R F 4 [(5, x5), (1, x1), (0, x0)] [0, 1, 5, 14] K := by kernel_rfl

def R1_EqAll_b1 (F : Nat) (E1_0 : M Value) (A1 : Value → Value → Value → M Value) (x0 x1 x5 : Value) : M Value :=
  R1_EqAll_r4 F x0 x1 x5 (fun x0 x1 x5 x14 => onB x14 (R1_EqAll_r6 F x0 x1 x5 (fun x0 x1 x5 x26 => onB x26 (R1_EqAll_r7 F (fun x4 => ret x4)) (R1_EqAll_r5 F x0 x1 x5 (fun x0 x1 x5 => A1 x0 x1 x5)))) (E1_0 ))

def R1_EqAll_l1 (F : Nat) (E1_0 : M Value) : Nat → Value → Value → Value → M Value
  | 0, _, _, _ => fail
  | k1 + 1, x0, x1, x5 => R1_EqAll_b1 F E1_0 (R1_EqAll_l1 F E1_0 k1) x0 x1 x5

theorem R1_EqAll_l1_s (F : Nat) (E1_0 : M Value) (k1 : Nat) (x0 x1 x5 : Value) : R1_EqAll_l1 F E1_0 (k1 + 1) x0 x1 x5 = R1_EqAll_b1 F E1_0 (R1_EqAll_l1 F E1_0 k1) x0 x1 x5 := rfl

def R1_EqAll_r3 (F : Nat) (x0 x1 : Value) (K : Value → Value → Value → M Value) : M Value :=
  K x0 x1 (.int .i64 (0))

theorem R1_EqAll_r3_ok (F : Nat) (x0 x1 : Value) (K : Value → Value → Value → M Value) : R1_EqAll_r3 F x0 x1 K = R1_EqAll_R F 3 [(1, x1), (0, x0)] [0, 1, 5] K := by kernel_rfl

def R1_EqAll_r2 (F : Nat) (K : Value → M Value) : M Value :=
  K (.bool false)

theorem R1_EqAll_r2_ok (F : Nat) (K : Value → M Value) : R1_EqAll_r2 F K = R1_EqAll_R F 2 [] [4] K := by kernel_rfl

def R1_EqAll_r1 (F : Nat) (x0 x1 : Value) (K : Value → Value → Value → M Value) : M Value :=
  bnd (opLen x0) fun v7 => bnd (opLen x1) fun v9 => bnd (opBin .neq v7 v9) fun v10 => K x0 x1 v10

theorem R1_EqAll_r1_ok (F : Nat) (x0 x1 : Value) (K : Value → Value → Value → M Value) : R1_EqAll_r1 F x0 x1 K = R1_EqAll_R F 1 [(1, x1), (0, x0)] [0, 1, 10] K := by kernel_rfl

def R1_EqAll_r0 (F : Nat) (x0 x1 : Value) (K : Value → Value → M Value) : M Value :=
  K x0 x1

theorem R1_EqAll_r0_ok (F : Nat) (x0 x1 : Value) (K : Value → Value → M Value) : R1_EqAll_r0 F x0 x1 K = R1_EqAll_R F 0 [(1, x1), (0, x0)] [0, 1] K := by kernel_rfl

def R1_EqAll (F : Nat) (x0 x1 : Value) : M Value :=
  R1_EqAll_r0 F x0 x1 (fun x0 x1 => R1_EqAll_r1 F x0 x1 (fun x0 x1 x10 => onB x10 (R1_EqAll_r2 F (fun x4 => ret x4)) (R1_EqAll_r3 F x0 x1 (fun x0 x1 x5 => R1_EqAll_l1 F (R1_EqAll_k0 F ) F x0 x1 x5))))

def R1_EqAll_m (F : Nat) : List Value → M Value
  | [x0, x1] => R1_EqAll F x0 x1
  | _ => fail

theorem R1_EqAll_body : Tryd.f25.body = some (.seq (.region 0 (opsOf Tryd.f25 0) false) (.seq (.seq (.region 1 (opsOf Tryd.f25 1) false) (.cond (.tmp 10) (.seq (.region 2 (opsOf Tryd.f25 2) false) .ret) .skip)) (.seq (.seq (.region 3 (opsOf Tryd.f25 3) false) (.block 0 (.loop (.seq (.seq (.region 4 (opsOf Tryd.f25 4) false) (.cond (.tmp 14) .skip (.exit 0))) (.seq (.block 1 (.seq (.region 6 (opsOf Tryd.f25 6) true) (.cond (.tmp 26) (.seq (.region 7 (opsOf Tryd.f25 7) false) .ret) .skip))) (.region 5 (opsOf Tryd.f25 5) false)))))) (.seq (.region 8 (opsOf Tryd.f25 8) false) .ret)))) := by kernel_rfl

theorem R1_EqAll_ok (F : Nat) : Sim Tryd.prog TrydG 25 (R1_EqAll_m F) := by
 have hE : EnvOK Tryd.prog TrydG (R1_EqAll_env F) := (EnvOK.cons (R1_Eq_ok F) EnvOK.nil)
 refine Sim.of_body (E := R1_EqAll_env F) Tryd.func25 R1_EqAll_body Tryd.call25 ?_ ?_
 · intro args hl; unfold R1_EqAll_m; split
   · exact absurd hl (Nat.not_lt.2 (Nat.le_of_ble_eq_true rfl))
   · rfl
 · intro args ρ h w z; unfold R1_EqAll_m; split
   · rename_i x0 x1; show OKc _ _ [(0, x0), (1, x1)] _ _
     refine rSeq ?_
     refine cLess [1, 0] ?_
     refine xR hE [0, 1] rfl (R1_EqAll_r0_ok F _ _ _) ?_
     intro x0 x1
     show OKq _ _ _ [(1, x1), (0, x0)] _
     refine rThen ?_
     refine rSeq ?_
     refine rSeq ?_
     refine cLess [1, 0] ?_
     refine xR hE [0, 1, 10] rfl (R1_EqAll_r1_ok F _ _ _) ?_
     intro x0 x1 x10
     show OKq _ _ _ [(10, x10), (1, x1), (0, x0)] _
     refine rThen ?_
     refine xCond rfl rfl ?_ ?_
     · refine rSeq ?_
       refine cLess [] ?_
       refine xR hE [4] rfl (R1_EqAll_r2_ok F _) ?_
       intro x4
       show OKq _ _ _ [(4, x4)] _
       refine rThen ?_
       refine rRet ?_
       refine xThenR ?_
       exact rDone (.inr rfl) rfl
     · refine rSkip ?_
       refine rThen ?_
       refine xSeq [] (R1_EqAll_k0 F ) ?_ fun hj0 => ?_
       · show OKc _ _ [] _ _
         refine rSeq ?_
         refine cLess [] ?_
         refine xR hE [4] rfl (R1_EqAll_r8_ok F _) ?_
         intro x4
         show OKq _ _ _ [(4, x4)] _
         refine rThen ?_
         refine rRet ?_
         exact rDone (.inr rfl) rfl
       · refine rSeq ?_
         refine cLess [1, 0] ?_
         refine xR hE [0, 1, 5] rfl (R1_EqAll_r3_ok F _ _ _) ?_
         intro x0 x1 x5
         show OKq _ _ _ [(5, x5), (1, x1), (0, x0)] _
         refine rThen ?_
         refine rBlock ?_
         refine cLess [5, 1, 0] ?_
         refine xLoopAt [0, 1, 5] [] (fun k1 => R1_EqAll_l1 F (R1_EqAll_k0 F ) k1) F [x0, x1, x5] rfl rfl (fun _ _ _ => rfl) fun I hI1 k1 => ?_
         intro x0 x1 x5
         show OKc _ _ [(5, x5), (1, x1), (0, x0)] _ _
         refine cAs (R1_EqAll_l1_s F _ _ _ _ _) ?_
         refine rSeq ?_
         refine rSeq ?_
         refine cLess [5, 1, 0] ?_
         refine xR hE [0, 1, 5, 14] rfl (R1_EqAll_r4_ok F _ _ _ _) ?_
         intro x0 x1 x5 x14
         show OKq _ _ _ [(14, x14), (5, x5), (1, x1), (0, x0)] _
         refine rThen ?_
         refine xCond rfl rfl ?_ ?_
         · refine rSkip ?_
           refine rThen ?_
           refine rSeq ?_
           refine rBlock ?_
           refine rSeq ?_
           refine cLess [5, 1, 0] ?_
           refine xD Trydmix hE [0, 1, 5, 26] rfl R1_EqAll_r6_good (R1_EqAll_r6_ok F _ _ _ _) ?_
           intro x0 x1 x5 x26
           show OKq _ _ _ [(26, x26), (5, x5), (1, x1), (0, x0)] _
           refine rThen ?_
           refine xCond rfl rfl ?_ ?_
           · refine rSeq ?_
             refine cLess [] ?_
             refine xR hE [4] rfl (R1_EqAll_r7_ok F _) ?_
             intro x4
             show OKq _ _ _ [(4, x4)] _
             refine rThen ?_
             refine rRet ?_
             refine xBlockR ?_
             refine xThenR ?_
             refine xThenR ?_
             refine xBlockR ?_
             refine xThenR ?_
             exact rDone (.inr rfl) rfl
           · refine rSkip ?_
             refine xBlockN ?_
             refine rThen ?_
             refine cLess [5, 1, 0] ?_
             refine xR hE [0, 1, 5] rfl (R1_EqAll_r5_ok F _ _ _ _) ?_
             intro x0 x1 x5
             show OKq _ _ _ [(5, x5), (1, x1), (0, x0)] _
             exact qLess [5, 1, 0] (hI1 k1 x0 x1 x5)
         · refine rExit ?_
           refine xThenX ?_
           refine xThenX ?_
           refine rOut ?_
           exact qLess [] (hj0 )
   · exact rFail


/-! ### haruspex/haruspexref1.Parts -/

def R1_Parts_env (F : Nat) : Env := envOf [(22, R1_Reach_m F)]

noncomputable def R1_Parts_R (F : Nat) := rK Tryd.prog TrydG (R1_Parts_env F) Tryd.f27
noncomputable def R1_Parts_D (F : Nat) := dK Tryd.prog TrydG (R1_Parts_env F) Tryd.f27

def R1_Parts_r31 (F : Nat) (x7 : Value) (K : Value → M Value) : M Value :=
  K x7

theorem R1_Parts_r31_ok (F : Nat) (x7 : Value) (K : Value → M Value) : R1_Parts_r31 F x7 K = R1_Parts_R F 31 [(7, x7)] [2] K := by kernel_rfl

def R1_Parts_k0 (F : Nat) (x7 : Value) : M Value :=
  R1_Parts_r31 F x7 (fun x2 => ret x2)

def R1_Parts_r30 (F : Nat) (x3 x4 x6 x7 x12 : Value) (K : Value → Value → Value → Value → M Value) : M Value :=
  bnd (opBuildSlice 1 (rep 1 [(.slice none 0 0)]) [(0, 1, false, x12)]) fun v112 => bnd (opAppend 1 24 x7 v112) fun v113 => K x3 x4 x6 v113

theorem R1_Parts_r30_ok (F : Nat) (x3 x4 x6 x7 x12 : Value) (K : Value → Value → Value → Value → M Value) : R1_Parts_r30 F x3 x4 x6 x7 x12 K = R1_Parts_R F 30 [(12, x12), (7, x7), (6, x6), (4, x4), (3, x3)] [3, 4, 6, 7] K := by kernel_rfl

def R1_Parts_k2 (F : Nat) (A1 : Value → Value → Value → Value → M Value) (x3 x4 x6 x7 x12 : Value) : M Value :=
  R1_Parts_r30 F x3 x4 x6 x7 x12 (fun x3 x4 x6 x7 => A1 x3 x4 x6 x7)

def R1_Parts_r26 (F : Nat) (x3 x4 x6 x7 x8 x12 x13 : Value) (K : Value → Value → Value → Value → Value → Value → Value → M Value) : M Value :=
  bnd (opBin .add x13 (.int .i64 (1))) fun v86 => K x3 x4 x6 x7 x8 x12 v86

theorem R1_Parts_r26_ok (F : Nat) (x3 x4 x6 x7 x8 x12 x13 : Value) (K : Value → Value → Value → Value → Value → Value → Value → M Value) : R1_Parts_r26 F x3 x4 x6 x7 x8 x12 x13 K = R1_Parts_R F 26 [(13, x13), (12, x12), (8, x8), (7, x7), (6, x6), (4, x4), (3, x3)] [3, 4, 6, 7, 8, 12, 13] K := by kernel_rfl

def R1_Parts_k4 (F : Nat) (A3 : Value → Value → Value → Value → Value → Value → Value → M Value) (x3 x4 x6 x7 x8 x12 x13 : Value) : M Value :=
  R1_Parts_r26 F x3 x4 x6 x7 x8 x12 x13 (fun x3 x4 x6 x7 x8 x12 x13 => A3 x3 x4 x6 x7 x8 x12 x13)

def R1_Parts_r29 (F : Nat) (x3 x4 x6 x7 x8 x12 x13 : Value) (K : Value → Value → Value → Value → Value → Value → Value → M Value) : M Value :=
  bnd (opIndexAddr 1 x6 x13) fun v109 => bnd (opStore v109 (.bool true)) fun _ => K x3 x4 x6 x7 x8 x12 x13

theorem R1_Parts_r29_ok (F : Nat) (x3 x4 x6 x7 x8 x12 x13 : Value) (K : Value → Value → Value → Value → Value → Value → Value → M Value) : R1_Parts_r29 F x3 x4 x6 x7 x8 x12 x13 K = R1_Parts_R F 29 [(13, x13), (12, x12), (8, x8), (7, x7), (6, x6), (4, x4), (3, x3)] [3, 4, 6, 7, 8, 12, 13] K := by kernel_rfl

def R1_Parts_r28 (F : Nat) (x3 x4 x6 x7 x8 x12 x13 : Value) (K : Value → Value → Value → Value → Value → Value → Value → M Value) : M Value :=
  bnd (opBuildSlice 1 (rep 1 [(.int .i64 (0))]) [(0, 1, false, x13)]) fun v105 => bnd (opAppend 1 8 x12 v105) fun v106 => K x3 x4 x6 x7 x8 v106 x13

theorem R1_Parts_r28_ok (F : Nat) (x3 x4 x6 x7 x8 x12 x13 : Value) (K : Value → Value → Value → Value → Value → Value → Value → M Value) : R1_Parts_r28 F x3 x4 x6 x7 x8 x12 x13 K = R1_Parts_R F 28 [(13, x13), (12, x12), (8, x8), (7, x7), (6, x6), (4, x4), (3, x3)] [3, 4, 6, 7, 8, 12, 13] K := by kernel_rfl

def R1_Parts_r27 (F : Nat) (x3 x4 x6 x7 x8 x12 x13 : Value) (K : Value → Value → Value → Value → Value → Value → Value → Value → M Value) : M Value :=
  bnd (opIndexAddr 1 x4 x8) fun v89 => bnd (opLoad v89) fun v90 => bnd (opIndexAddr 1 v90 x13) fun v92 => bnd (opLoad v92) fun v93 => onB v93 (bnd (opIndexAddr 1 x4 x13) fun v97 => bnd (opLoad v97) fun v98 => bnd (opIndexAddr 1 v98 x8) fun v100 => bnd (opLoad v100) fun v101 => K x3 x4 x6 x7 x8 x12 x13 v101) (K x3 x4 x6 x7 x8 x12 x13 (.bool false))

theorem R1_Parts_r27_ok (F : Nat) (x3 x4 x6 x7 x8 x12 x13 : Value) (K : Value → Value → Value → Value → Value → Value → Value → Value → M Value) : R1_Parts_r27 F x3 x4 x6 x7 x8 x12 x13 K = R1_Parts_R F 27 [(13, x13), (12, x12), (8, x8), (7, x7), (6, x6), (4, x4), (3, x3)] [3, 4, 6, 7, 8, 12, 13, 102] K := by kernel_rfl

def R1_Parts_r25 (F : Nat) (x3 x4 x6 x7 x8 x12 x13 : Value) (K : Value → Value → Value → Value → Value → Value → Value → Value → M Value) : M Value :=
  bnd (opBin .lss x13 x3) fun v84 => K x3 x4 x6 x7 x8 x12 x13 v84

theorem R1_Parts_r25_ok (F : Nat) (x3 x4 x6 x7 x8 x12 x13 : Value) (K : Value → Value → Value → Value → Value → Value → Value → Value → M Value) : R1_Parts_r25 F x3 x4 x6 x7 x8 x12 x13 K = R1_Parts_R F 25 [(13, x13), (12, x12), (8, x8), (7, x7), (6, x6), (4, x4), (3, x3)] [3, 4, 6, 7, 8, 12, 13, 84] K := by kernel_rfl

def R1_Parts_b3 (F : Nat) (E3_8 : Value → Value → Value → Value → Value → M Value) (A3 : Value → Value → Value → Value → Value → Value → Value → M Value) (x3 x4 x6 x7 x8 x12 x13 : Value) : M Value :=
  R1_Parts_r25 F x3 x4 x6 x7 x8 x12 x13 (fun x3 x4 x6 x7 x8 x12 x13 x84 => onB x84 (R1_Parts_r27 F x3 x4 x6 x7 x8 x12 x13 (fun x3 x4 x6 x7 x8 x12 x13 x102 => onB x102 (R1_Parts_r28 F x3 x4 x6 x7 x8 x12 x13 (fun x3 x4 x6 x7 x8 x12 x13 => R1_Parts_r29 F x3 x4 x6 x7 x8 x12 x13 (fun x3 x4 x6 x7 x8 x12 x13 => R1_Parts_k4 F A3 x3 x4 x6 x7 x8 x12 x13))) (R1_Parts_k4 F A3 x3 x4 x6 x7 x8 x12 x13))) (E3_8 x3 x4 x6 x7 x12))

def R1_Parts_l3 (F : Nat) (E3_8 : Value → Value → Value → Value → Value → M Value) : Nat → Value → Value → Value → Value → Value → Value → Value → M Value
  | 0, _, _, _, _, _, _, _ => fail
  | k3 + 1, x3, x4, x6, x7, x8, x12, x13 => R1_Parts_b3 F E3_8 (R1_Parts_l3 F E3_8 k3) x3 x4 x6 x7 x8 x12 x13

theorem R1_Parts_l3_s (F : Nat) (E3_8 : Value → Value → Value → Value → Value → M Value) (k3 : Nat) (x3 x4 x6 x7 x8 x12 x13 : Value) : R1_Parts_l3 F E3_8 (k3 + 1) x3 x4 x6 x7 x8 x12 x13 = R1_Parts_b3 F E3_8 (R1_Parts_l3 F E3_8 k3) x3 x4 x6 x7 x8 x12 x13 := rfl

def R1_Parts_r24 (F : Nat) (x3 x4 x6 x7 x8 x12 : Value) (K : Value → Value → Value → Value → Value → Value → Value → M Value) : M Value :=
  K x3 x4 x6 x7 x8 x12 (.int .i64 (0))

theorem R1_Parts_r24_ok (F : Nat) (x3 x4 x6 x7 x8 x12 : Value) (K : Value → Value → Value → Value → Value → Value → Value → M Value) : R1_Parts_r24 F x3 x4 x6 x7 x8 x12 K = R1_Parts_R F 24 [(12, x12), (8, x8), (7, x7), (6, x6), (4, x4), (3, x3)] [3, 4, 6, 7, 8, 12, 13] K := by kernel_rfl

def R1_Parts_r23 (F : Nat) (x3 x4 x6 x7 x8 : Value) (K : Value → Value → Value → Value → Value → Value → M Value) : M Value :=
  K x3 x4 x6 x7 x8 (.slice none 0 0)

theorem R1_Parts_r23_ok (F : Nat) (x3 x4 x6 x7 x8 : Value) (K : Value → Value → Value → Value → Value → Value → M Value) : R1_Parts_r23 F x3 x4 x6 x7 x8 K = R1_Parts_R F 23 [(8, x8), (7, x7), (6, x6), (4, x4), (3, x3)] [3, 4, 6, 7, 8, 12] K := by kernel_rfl

def R1_Parts_r22 (F : Nat) (x3 x4 x6 x7 x8 : Value) (K : Value → Value → Value → Value → Value → Value → M Value) : M Value :=
  bnd (opBin .lss x8 (.int .i64 (0))) fun v81 => K x3 x4 x6 x7 x8 v81

theorem R1_Parts_r22_ok (F : Nat) (x3 x4 x6 x7 x8 : Value) (K : Value → Value → Value → Value → Value → Value → M Value) : R1_Parts_r22 F x3 x4 x6 x7 x8 K = R1_Parts_R F 22 [(8, x8), (7, x7), (6, x6), (4, x4), (3, x3)] [3, 4, 6, 7, 8, 81] K := by kernel_rfl

def R1_Parts_k5 (F : Nat) (E1_2 : Value → M Value) (A1 : Value → Value → Value → Value → M Value) (x3 x4 x6 x7 x8 : Value) : M Value :=
  R1_Parts_r22 F x3 x4 x6 x7 x8 (fun x3 x4 x6 x7 x8 x81 => onB x81 (E1_2 x7) (R1_Parts_r23 F x3 x4 x6 x7 x8 (fun x3 x4 x6 x7 x8 x12 => R1_Parts_r24 F x3 x4 x6 x7 x8 x12 (fun x3 x4 x6 x7 x8 x12 x13 => R1_Parts_l3 F (fun x3 x4 x6 x7 x12 => R1_Parts_k2 F A1 x3 x4 x6 x7 x12) F x3 x4 x6 x7 x8 x12 x13))))

def R1_Parts_r13 (F : Nat) (x3 x4 x6 x7 x8 x9 : Value) (K : Value → Value → Value → Value → Value → Value → M Value) : M Value :=
  bnd (opBin .add x9 (.int .i64 (1))) fun v42 => K x3 x4 x6 x7 x8 v42

theorem R1_Parts_r13_ok (F : Nat) (x3 x4 x6 x7 x8 x9 : Value) (K : Value → Value → Value → Value → Value → Value → M Value) : R1_Parts_r13 F x3 x4 x6 x7 x8 x9 K = R1_Parts_R F 13 [(9, x9), (8, x8), (7, x7), (6, x6), (4, x4), (3, x3)] [3, 4, 6, 7, 8, 9] K := by kernel_rfl

def R1_Parts_k7 (F : Nat) (A6 : Value → Value → Value → Value → Value → Value → M Value) (x3 x4 x6 x7 x8 x9 : Value) : M Value :=
  R1_Parts_r13 F x3 x4 x6 x7 x8 x9 (fun x3 x4 x6 x7 x8 x9 => A6 x3 x4 x6 x7 x8 x9)

def R1_Parts_r21 (F : Nat) (x3 x4 x6 x7 x9 : Value) (K : Value → Value → Value → Value → Value → Value → M Value) : M Value :=
  K x3 x4 x6 x7 x9 x9

theorem R1_Parts_r21_ok (F : Nat) (x3 x4 x6 x7 x9 : Value) (K : Value → Value → Value → Value → Value → Value → M Value) : R1_Parts_r21 F x3 x4 x6 x7 x9 K = R1_Parts_R F 21 [(9, x9), (7, x7), (6, x6), (4, x4), (3, x3)] [3, 4, 6, 7, 8, 9] K := by kernel_rfl

def R1_Parts_r20 (F : Nat) (x3 x4 x6 x7 x8 x9 x10 : Value) (K : Value → Value → Value → Value → Value → Value → Value → M Value) : M Value :=
  K x3 x4 x6 x7 x8 x9 x10

theorem R1_Parts_r20_ok (F : Nat) (x3 x4 x6 x7 x8 x9 x10 : Value) (K : Value → Value → Value → Value → Value → Value → Value → M Value) : R1_Parts_r20 F x3 x4 x6 x7 x8 x9 x10 K = R1_Parts_R F 20 [(10, x10), (9, x9), (8, x8), (7, x7), (6, x6), (4, x4), (3, x3)] [3, 4, 6, 7, 8, 9, 78] K := by kernel_rfl

def R1_Parts_k8 (F : Nat) (A6 : Value → Value → Value → Value → Value → Value → M Value) (x3 x4 x6 x7 x8 x9 x10 : Value) : M Value :=
  R1_Parts_r20 F x3 x4 x6 x7 x8 x9 x10 (fun x3 x4 x6 x7 x8 x9 x78 => onB x78 (R1_Parts_r21 F x3 x4 x6 x7 x9 (fun x3 x4 x6 x7 x8 x9 => R1_Parts_k7 F A6 x3 x4 x6 x7 x8 x9)) (R1_Parts_k7 F A6 x3 x4 x6 x7 x8 x9))

def R1_Parts_r18 (F : Nat) (x3 x4 x6 x7 x8 x9 x10 x11 : Value) (K : Value → Value → Value → Value → Value → Value → Value → Value → M Value) : M Value :=
  bnd (opBin .add x11 (.int .i64 (1))) fun v51 => K x3 x4 x6 x7 x8 x9 x10 v51

theorem R1_Parts_r18_ok (F : Nat) (x3 x4 x6 x7 x8 x9 x10 x11 : Value) (K : Value → Value → Value → Value → Value → Value → Value → Value → M Value) : R1_Parts_r18 F x3 x4 x6 x7 x8 x9 x10 x11 K = R1_Parts_R F 18 [(11, x11), (10, x10), (9, x9), (8, x8), (7, x7), (6, x6), (4, x4), (3, x3)] [3, 4, 6, 7, 8, 9, 10, 11] K := by kernel_rfl

def R1_Parts_r19 (F : Nat) (x3 x4 x6 x7 x8 x9 x10 x11 : Value) (K : Value → Value → Value → Value → Value → Value → Value → Value → M Value) : M Value :=
  onB x10 (bnd (opIndexAddr 1 x6 x11) fun v56 => bnd (opLoad v56) fun v57 => onB v57 (K x3 x4 x6 x7 x8 x9 (.bool true) x11) (bnd (opIndexAddr 1 x4 x11) fun v61 => bnd (opLoad v61) fun v62 => bnd (opIndexAddr 1 v62 x9) fun v64 => bnd (opLoad v64) fun v65 => bnd (opNot v65) fun v66 => onB v66 (K x3 x4 x6 x7 x8 x9 (.bool true) x11) (bnd (opIndexAddr 1 x4 x9) fun v71 => bnd (opLoad v71) fun v72 => bnd (opIndexAddr 1 v72 x11) fun v74 => bnd (opLoad v74) fun v75 => K x3 x4 x6 x7 x8 x9 v75 x11))) (K x3 x4 x6 x7 x8 x9 (.bool false) x11)

theorem R1_Parts_r19_ok (F : Nat) (x3 x4 x6 x7 x8 x9 x10 x11 : Value) (K : Value → Value → Value → Value → Value → Value → Value → Value → M Value) : R1_Parts_r19 F x3 x4 x6 x7 x8 x9 x10 x11 K = R1_Parts_R F 19 [(11, x11), (10, x10), (9, x9), (8, x8), (7, x7), (6, x6), (4, x4), (3, x3)] [3, 4, 6, 7, 8, 9, 10, 11] K := by kernel_rfl

def R1_Parts_r17 (F : Nat) (x3 x4 x6 x7 x8 x9 x10 x11 : Value) (K : Value → Value → Value → Value → Value → Value → Value → Value → Value → M Value) : M Value :=
  bnd (opBin .lss x11 x3) fun v49 => K x3 x4 x6 x7 x8 x9 x10 x11 v49

theorem R1_Parts_r17_ok (F : Nat) (x3 x4 x6 x7 x8 x9 x10 x11 : Value) (K : Value → Value → Value → Value → Value → Value → Value → Value → Value → M Value) : R1_Parts_r17 F x3 x4 x6 x7 x8 x9 x10 x11 K = R1_Parts_R F 17 [(11, x11), (10, x10), (9, x9), (8, x8), (7, x7), (6, x6), (4, x4), (3, x3)] [3, 4, 6, 7, 8, 9, 10, 11, 49] K := by kernel_rfl

def R1_Parts_b9 (F : Nat) (E9_6 : Value → Value → Value → Value → Value → Value → Value → M Value) (A9 : Value → Value → Value → Value → Value → Value → Value → Value → M Value) (x3 x4 x6 x7 x8 x9 x10 x11 : Value) : M Value :=
  R1_Parts_r17 F x3 x4 x6 x7 x8 x9 x10 x11 (fun x3 x4 x6 x7 x8 x9 x10 x11 x49 => onB x49 (R1_Parts_r19 F x3 x4 x6 x7 x8 x9 x10 x11 (fun x3 x4 x6 x7 x8 x9 x10 x11 => R1_Parts_r18 F x3 x4 x6 x7 x8 x9 x10 x11 (fun x3 x4 x6 x7 x8 x9 x10 x11 => A9 x3 x4 x6 x7 x8 x9 x10 x11))) (E9_6 x3 x4 x6 x7 x8 x9 x10))

def R1_Parts_l9 (F : Nat) (E9_6 : Value → Value → Value → Value → Value → Value → Value → M Value) : Nat → Value → Value → Value → Value → Value → Value → Value → Value → M Value
  | 0, _, _, _, _, _, _, _, _ => fail
  | k9 + 1, x3, x4, x6, x7, x8, x9, x10, x11 => R1_Parts_b9 F E9_6 (R1_Parts_l9 F E9_6 k9) x3 x4 x6 x7 x8 x9 x10 x11

theorem R1_Parts_l9_s (F : Nat) (E9_6 : Value → Value → Value → Value → Value → Value → Value → M Value) (k9 : Nat) (x3 x4 x6 x7 x8 x9 x10 x11 : Value) : R1_Parts_l9 F E9_6 (k9 + 1) x3 x4 x6 x7 x8 x9 x10 x11 = R1_Parts_b9 F E9_6 (R1_Parts_l9 F E9_6 k9) x3 x4 x6 x7 x8 x9 x10 x11 := rfl

def R1_Parts_r16 (F : Nat) (x3 x4 x6 x7 x8 x9 x10 : Value) (K : Value → Value → Value → Value → Value → Value → Value → Value → M Value) : M Value :=
  K x3 x4 x6 x7 x8 x9 x10 (.int .i64 (0))

theorem R1_Parts_r16_ok (F : Nat) (x3 x4 x6 x7 x8 x9 x10 : Value) (K : Value → Value → Value → Value → Value → Value → Value → Value → M Value) : R1_Parts_r16 F x3 x4 x6 x7 x8 x9 x10 K = R1_Parts_R F 16 [(10, x10), (9, x9), (8, x8), (7, x7), (6, x6), (4, x4), (3, x3)] [3, 4, 6, 7, 8, 9, 10, 11] K := by kernel_rfl

def R1_Parts_r15 (F : Nat) (x3 x4 x6 x7 x8 x9 : Value) (K : Value → Value → Value → Value → Value → Value → Value → M Value) : M Value :=
  K x3 x4 x6 x7 x8 x9 (.bool true)

theorem R1_Parts_r15_ok (F : Nat) (x3 x4 x6 x7 x8 x9 : Value) (K : Value → Value → Value → Value → Value → Value → Value → M Value) : R1_Parts_r15 F x3 x4 x6 x7 x8 x9 K = R1_Parts_R F 15 [(9, x9), (8, x8), (7, x7), (6, x6), (4, x4), (3, x3)] [3, 4, 6, 7, 8, 9, 10] K := by kernel_rfl

def R1_Parts_r14 (F : Nat) (x3 x4 x6 x7 x8 x9 : Value) (K : Value → Value → Value → Value → Value → Value → Value → M Value) : M Value :=
  bnd (opIndexAddr 1 x6 x9) fun v45 => bnd (opLoad v45) fun v46 => K x3 x4 x6 x7 x8 x9 v46

theorem R1_Parts_r14_ok (F : Nat) (x3 x4 x6 x7 x8 x9 : Value) (K : Value → Value → Value → Value → Value → Value → Value → M Value) : R1_Parts_r14 F x3 x4 x6 x7 x8 x9 K = R1_Parts_R F 14 [(9, x9), (8, x8), (7, x7), (6, x6), (4, x4), (3, x3)] [3, 4, 6, 7, 8, 9, 46] K := by kernel_rfl

def R1_Parts_r12 (F : Nat) (x3 x4 x6 x7 x8 x9 : Value) (K : Value → Value → Value → Value → Value → Value → Value → M Value) : M Value :=
  bnd (opBin .lss x9 x3) fun v36 => onB v36 (bnd (opBin .lss x8 (.int .i64 (0))) fun v39 => K x3 x4 x6 x7 x8 x9 v39) (K x3 x4 x6 x7 x8 x9 (.bool false))

theorem R1_Parts_r12_ok (F : Nat) (x3 x4 x6 x7 x8 x9 : Value) (K : Value → Value → Value → Value → Value → Value → Value → M Value) : R1_Parts_r12 F x3 x4 x6 x7 x8 x9 K = R1_Parts_R F 12 [(9, x9), (8, x8), (7, x7), (6, x6), (4, x4), (3, x3)] [3, 4, 6, 7, 8, 9, 40] K := by kernel_rfl

def R1_Parts_b6 (F : Nat) (E6_4 : Value → Value → Value → Value → Value → M Value) (A6 : Value → Value → Value → Value → Value → Value → M Value) (x3 x4 x6 x7 x8 x9 : Value) : M Value :=
  R1_Parts_r12 F x3 x4 x6 x7 x8 x9 (fun x3 x4 x6 x7 x8 x9 x40 => onB x40 (R1_Parts_r14 F x3 x4 x6 x7 x8 x9 (fun x3 x4 x6 x7 x8 x9 x46 => onB x46 (R1_Parts_k7 F A6 x3 x4 x6 x7 x8 x9) (R1_Parts_r15 F x3 x4 x6 x7 x8 x9 (fun x3 x4 x6 x7 x8 x9 x10 => R1_Parts_r16 F x3 x4 x6 x7 x8 x9 x10 (fun x3 x4 x6 x7 x8 x9 x10 x11 => R1_Parts_l9 F (fun x3 x4 x6 x7 x8 x9 x10 => R1_Parts_k8 F A6 x3 x4 x6 x7 x8 x9 x10) F x3 x4 x6 x7 x8 x9 x10 x11))))) (E6_4 x3 x4 x6 x7 x8))

def R1_Parts_l6 (F : Nat) (E6_4 : Value → Value → Value → Value → Value → M Value) : Nat → Value → Value → Value → Value → Value → Value → M Value
  | 0, _, _, _, _, _, _ => fail
  | k6 + 1, x3, x4, x6, x7, x8, x9 => R1_Parts_b6 F E6_4 (R1_Parts_l6 F E6_4 k6) x3 x4 x6 x7 x8 x9

theorem R1_Parts_l6_s (F : Nat) (E6_4 : Value → Value → Value → Value → Value → M Value) (k6 : Nat) (x3 x4 x6 x7 x8 x9 : Value) : R1_Parts_l6 F E6_4 (k6 + 1) x3 x4 x6 x7 x8 x9 = R1_Parts_b6 F E6_4 (R1_Parts_l6 F E6_4 k6) x3 x4 x6 x7 x8 x9 := rfl

def R1_Parts_r11 (F : Nat) (x3 x4 x6 x7 x8 : Value) (K : Value → Value → Value → Value → Value → Value → M Value) : M Value :=
  K x3 x4 x6 x7 x8 (.int .i64 (0))

theorem R1_Parts_r11_ok (F : Nat) (x3 x4 x6 x7 x8 : Value) (K : Value → Value → Value → Value → Value → Value → M Value) : R1_Parts_r11 F x3 x4 x6 x7 x8 K = R1_Parts_R F 11 [(8, x8), (7, x7), (6, x6), (4, x4), (3, x3)] [3, 4, 6, 7, 8, 9] K := by kernel_rfl

def R1_Parts_r10 (F : Nat) (x3 x4 x6 x7 : Value) (K : Value → Value → Value → Value → Value → M Value) : M Value :=
  K x3 x4 x6 x7 (.int .i64 (-1))

theorem R1_Parts_r10_ok (F : Nat) (x3 x4 x6 x7 : Value) (K : Value → Value → Value → Value → Value → M Value) : R1_Parts_r10 F x3 x4 x6 x7 K = R1_Parts_R F 10 [(7, x7), (6, x6), (4, x4), (3, x3)] [3, 4, 6, 7, 8] K := by kernel_rfl

def R1_Parts_r9 (F : Nat) (x3 x4 x6 x7 : Value) (K : Value → Value → Value → Value → Value → M Value) : M Value :=
  bnd (opLen x7) fun v31 => bnd (opBin .leq v31 x3) fun v33 => K x3 x4 x6 x7 v33

theorem R1_Parts_r9_ok (F : Nat) (x3 x4 x6 x7 : Value) (K : Value → Value → Value → Value → Value → M Value) : R1_Parts_r9 F x3 x4 x6 x7 K = R1_Parts_R F 9 [(7, x7), (6, x6), (4, x4), (3, x3)] [3, 4, 6, 7, 33] K := by kernel_rfl

def R1_Parts_b1 (F : Nat) (E1_2 : Value → M Value) (A1 : Value → Value → Value → Value → M Value) (x3 x4 x6 x7 : Value) : M Value :=
  R1_Parts_r9 F x3 x4 x6 x7 (fun x3 x4 x6 x7 x33 => onB x33 (R1_Parts_r10 F x3 x4 x6 x7 (fun x3 x4 x6 x7 x8 => R1_Parts_r11 F x3 x4 x6 x7 x8 (fun x3 x4 x6 x7 x8 x9 => R1_Parts_l6 F (fun x3 x4 x6 x7 x8 => R1_Parts_k5 F E1_2 A1 x3 x4 x6 x7 x8) F x3 x4 x6 x7 x8 x9))) (E1_2 x7))

def R1_Parts_l1 (F : Nat) (E1_2 : Value → M Value) : Nat → Value → Value → Value → Value → M Value
  | 0, _, _, _, _ => fail
  | k1 + 1, x3, x4, x6, x7 => R1_Parts_b1 F E1_2 (R1_Parts_l1 F E1_2 k1) x3 x4 x6 x7

theorem R1_Parts_l1_s (F : Nat) (E1_2 : Value → M Value) (k1 : Nat) (x3 x4 x6 x7 : Value) : R1_Parts_l1 F E1_2 (k1 + 1) x3 x4 x6 x7 = R1_Parts_b1 F E1_2 (R1_Parts_l1 F E1_2 k1) x3 x4 x6 x7 := rfl

def R1_Parts_r8 (F : Nat) (x3 x4 x6 : Value) (K : Value → Value → Value → Value → M Value) : M Value :=
  K x3 x4 x6 (.slice none 0 0)

theorem R1_Parts_r8_ok (F : Nat) (x3 x4 x6 : Value) (K : Value → Value → Value → Value → M Value) : R1_Parts_r8 F x3 x4 x6 K = R1_Parts_R F 8 [(6, x6), (4, x4), (3, x3)] [3, 4, 6, 7] K := by kernel_rfl

def R1_Parts_r7 (F : Nat) (x3 x4 : Value) (K : Value → Value → Value → M Value) : M Value :=
  bnd (opMake 1 [(.bool false)] x3 x3) fun v29 => K x3 x4 v29

theorem R1_Parts_r7_ok (F : Nat) (x3 x4 : Value) (K : Value → Value → Value → M Value) : R1_Parts_r7 F x3 x4 K = R1_Parts_R F 7 [(4, x4), (3, x3)] [3, 4, 6] K := by kernel_rfl

def R1_Parts_k10 (F : Nat) (x3 x4 : Value) : M Value :=
  R1_Parts_r7 F x3 x4 (fun x3 x4 x6 => R1_Parts_r8 F x3 x4 x6 (fun x3 x4 x6 x7 => R1_Parts_l1 F (fun x7 => R1_Parts_k0 F x7) F x3 x4 x6 x7))

def R1_Parts_r5 (F : Nat) (x0 x3 x4 x5 : Value) (K : Value → Value → Value → Value → M Value) : M Value :=
  bnd (opBin .add x5 (.int .i64 (1))) fun v20 => K x0 x3 x4 v20

theorem R1_Parts_r5_ok (F : Nat) (x0 x3 x4 x5 : Value) (K : Value → Value → Value → Value → M Value) : R1_Parts_r5 F x0 x3 x4 x5 K = R1_Parts_R F 5 [(5, x5), (4, x4), (3, x3), (0, x0)] [0, 3, 4, 5] K := by kernel_rfl

def R1_Parts_r6 (F : Nat) (x0 x3 x4 x5 : Value) (K : Value → Value → Value → Value → M Value) : M Value :=
  bnd (opBuildSlice 1 (rep 1 [(.int .i64 (0))]) [(0, 1, false, x5)]) fun v24 => bnd (R1_Reach F x0 v24 (.int .i64 (-1))) fun v25 => bnd (opBuildSlice 1 (rep 1 [(.slice none 0 0)]) [(0, 1, false, v25)]) fun v26 => bnd (opAppend 1 24 x4 v26) fun v27 => K x0 x3 v27 x5

theorem R1_Parts_r6_ok (F : Nat) (x0 x3 x4 x5 : Value) (K : Value → Value → Value → Value → M Value) : R1_Parts_r6 F x0 x3 x4 x5 K = R1_Parts_R F 6 [(5, x5), (4, x4), (3, x3), (0, x0)] [0, 3, 4, 5] K := by kernel_rfl

def R1_Parts_r4 (F : Nat) (x0 x3 x4 x5 : Value) (K : Value → Value → Value → Value → Value → M Value) : M Value :=
  bnd (opBin .lss x5 x3) fun v18 => K x0 x3 x4 x5 v18

theorem R1_Parts_r4_ok (F : Nat) (x0 x3 x4 x5 : Value) (K : Value → Value → Value → Value → Value → M Value) : R1_Parts_r4 F x0 x3 x4 x5 K = R1_Parts_R F 4 [(5, x5), (4, x4), (3, x3), (0, x0)] [0, 3, 4, 5, 18] K := by kernel_rfl

def R1_Parts_b11 (F : Nat) (E11_0 : Value → Value → M Value) (A11 : Value → Value → Value → Value → M Value) (x0 x3 x4 x5 : Value) : M Value :=
  R1_Parts_r4 F x0 x3 x4 x5 (fun x0 x3 x4 x5 x18 => onB x18 (R1_Parts_r6 F x0 x3 x4 x5 (fun x0 x3 x4 x5 => R1_Parts_r5 F x0 x3 x4 x5 (fun x0 x3 x4 x5 => A11 x0 x3 x4 x5))) (E11_0 x3 x4))

def R1_Parts_l11 (F : Nat) (E11_0 : Value → Value → M Value) : Nat → Value → Value → Value → Value → M Value
  | 0, _, _, _, _ => fail
  | k11 + 1, x0, x3, x4, x5 => R1_Parts_b11 F E11_0 (R1_Parts_l11 F E11_0 k11) x0 x3 x4 x5

theorem R1_Parts_l11_s (F : Nat) (E11_0 : Value → Value → M Value) (k11 : Nat) (x0 x3 x4 x5 : Value) : R1_Parts_l11 F E11_0 (k11 + 1) x0 x3 x4 x5 = R1_Parts_b11 F E11_0 (R1_Parts_l11 F E11_0 k11) x0 x3 x4 x5 := rfl

def R1_Parts_r3 (F : Nat) (x0 x3 x4 : Value) (K : Value → Value → Value → Value → M Value) : M Value :=
  K x0 x3 x4 (.int .i64 (0))

theorem R1_Parts_r3_ok (F : Nat) (x0 x3 x4 : Value) (K : Value → Value → Value → Value → M Value) : R1_Parts_r3 F x0 x3 x4 K = R1_Parts_R F 3 [(4, x4), (3, x3), (0, x0)] [0, 3, 4, 5] K := by kernel_rfl

def R1_Parts_r2 (F : Nat) (x0 x3 : Value) (K : Value → Value → Value → M Value) : M Value :=
  K x0 x3 (.slice none 0 0)

theorem R1_Parts_r2_ok (F : Nat) (x0 x3 : Value) (K : Value → Value → Value → M Value) : R1_Parts_r2 F x0 x3 K = R1_Parts_R F 2 [(3, x3), (0, x0)] [0, 3, 4] K := by kernel_rfl

def R1_Parts_r1 (F : Nat) (x0 : Value) (K : Value → Value → M Value) : M Value :=
  bnd (opLen x0) fun v15 => K x0 v15

theorem R1_Parts_r1_ok (F : Nat) (x0 : Value) (K : Value → Value → M Value) : R1_Parts_r1 F x0 K = R1_Parts_R F 1 [(0, x0)] [0, 3] K := by kernel_rfl

def R1_Parts_r0 (F : Nat) (x0 : Value) (K : Value → M Value) : M Value :=
  K x0

theorem R1_Parts_r0_ok (F : Nat) (x0 : Value) (K : Value → M Value) : R1_Parts_r0 F x0 K = R1_Parts_R F 0 [(0, x0)] [0] K := by kernel_rfl

def R1_Parts (F : Nat) (x0 : Value) : M Value :=
  R1_Parts_r0 F x0 (fun x0 => R1_Parts_r1 F x0 (fun x0 x3 => R1_Parts_r2 F x0 x3 (fun x0 x3 x4 => R1_Parts_r3 F x0 x3 x4 (fun x0 x3 x4 x5 => R1_Parts_l11 F (fun x3 x4 => R1_Parts_k10 F x3 x4) F x0 x3 x4 x5))))

def R1_Parts_m (F : Nat) : List Value → M Value
  | [x0] => R1_Parts F x0
  | _ => fail

theorem R1_Parts_body : Tryd.f27.body = some (.seq (.region 0 (opsOf Tryd.f27 0) false) (.seq (.region 1 (opsOf Tryd.f27 1) false) (.seq (.region 2 (opsOf Tryd.f27 2) false) (.seq (.seq (.region 3 (opsOf Tryd.f27 3) false) (.block 0 (.loop (.seq (.seq (.region 4 (opsOf Tryd.f27 4) false) (.cond (.tmp 18) .skip (.exit 0))) (.seq (.block 1 (.region 6 (opsOf Tryd.f27 6) false)) (.region 5 (opsOf Tryd.f27 5) false)))))) (.seq (.region 7 (opsOf Tryd.f27 7) false) (.seq (.region 8 (opsOf Tryd.f27 8) false) (.seq (.block 2 (.loop (.seq (.seq (.region 9 (opsOf Tryd.f27 9) false) (.cond (.tmp 33) .skip (.exit 2))) (.block 3 (.seq (.region 10 (opsOf Tryd.f27 10) false) (.seq (.seq (.region 11 (opsOf Tryd.f27 11) false) (.block 4 (.loop (.seq (.seq (.region 12 (opsOf Tryd.f27 12) false) (.cond (.tmp 40) .skip (.exit 4))) (.seq (.block 5 (.seq (.seq (.region 14 (opsOf Tryd.f27 14) false) (.cond (.tmp 46) (.exit 5) .skip)) (.seq (.region 15 (opsOf Tryd.f27 15) false) (.seq (.seq (.region 16 (opsOf Tryd.f27 16) false) (.block 6 (.loop (.seq (.seq (.region 17 (opsOf Tryd.f27 17) false) (.cond (.tmp 49) .skip (.exit 6))) (.seq (.block 7 (.region 19 (opsOf Tryd.f27 19) false)) (.region 18 (opsOf Tryd.f27 18) false)))))) (.seq (.region 20 (opsOf Tryd.f27 20) false) (.cond (.tmp 78) (.region 21 (opsOf Tryd.f27 21) false) .skip)))))) (.region 13 (opsOf Tryd.f27 13) false)))))) (.seq (.seq (.region 22 (opsOf Tryd.f27 22) false) (.cond (.tmp 81) (.exit 2) .skip)) (.seq (.region 23 (opsOf Tryd.f27 23) false) (.seq (.seq (.region 24 (opsOf Tryd.f27 24) false) (.block 8 (.loop (.seq (.seq (.region 25 (opsOf Tryd.f27 25) false) (.cond (.tmp 84) .skip (.exit 8))) (.seq (.block 9 (.seq (.region 27 (opsOf Tryd.f27 27) false) (.cond (.tmp 102) (.seq (.region 28 (opsOf Tryd.f27 28) false) (.region 29 (opsOf Tryd.f27 29) false)) .skip))) (.region 26 (opsOf Tryd.f27 26) false)))))) (.region 30 (opsOf Tryd.f27 30) false)))))))))) (.seq (.region 31 (opsOf Tryd.f27 31) false) .ret)))))))) := by kernel_rfl

theorem R1_Parts_ok (F : Nat) : Sim Tryd.prog TrydG 27 (R1_Parts_m F) := by
 have hE : EnvOK Tryd.prog TrydG (R1_Parts_env F) := (EnvOK.cons (R1_Reach_ok F) EnvOK.nil)
 refine Sim.of_body (E := R1_Parts_env F) Tryd.func27 R1_Parts_body Tryd.call27 ?_ ?_
 · intro args hl; unfold R1_Parts_m; split
   · exact absurd hl (Nat.not_lt.2 (Nat.le_of_ble_eq_true rfl))
   · rfl
 · intro args ρ h w z; unfold R1_Parts_m; split
   · rename_i x0; show OKc _ _ [(0, x0)] _ _
     refine rSeq ?_
     refine cLess [0] ?_
     refine xR hE [0] rfl (R1_Parts_r0_ok F _ _) ?_
     intro x0
     show OKq _ _ _ [(0, x0)] _
     refine rThen ?_
     refine rSeq ?_
     refine cLess [0] ?_
     refine xR hE [0, 3] rfl (R1_Parts_r1_ok F _ _) ?_
     intro x0 x3
     show OKq _ _ _ [(3, x3), (0, x0)] _
     refine rThen ?_
     refine rSeq ?_
     refine cLess [3, 0] ?_
     refine xR hE [0, 3, 4] rfl (R1_Parts_r2_ok F _ _ _) ?_
     intro x0 x3 x4
     show OKq _ _ _ [(4, x4), (3, x3), (0, x0)] _
     refine rThen ?_
     refine xSeq [3, 4] (R1_Parts_k10 F ) ?_ fun hj10 => ?_
     · intro x3 x4
       show OKc _ _ [(4, x4), (3, x3)] _ _
       refine rSeq ?_
       refine cLess [4, 3] ?_
       refine xR hE [3, 4, 6] rfl (R1_Parts_r7_ok F _ _ _) ?_
       intro x3 x4 x6
       show OKq _ _ _ [(6, x6), (4, x4), (3, x3)] _
       refine rThen ?_
       refine rSeq ?_
       refine cLess [6, 4, 3] ?_
       refine xR hE [3, 4, 6, 7] rfl (R1_Parts_r8_ok F _ _ _ _) ?_
       intro x3 x4 x6 x7
       show OKq _ _ _ [(7, x7), (6, x6), (4, x4), (3, x3)] _
       refine rThen ?_
       refine xSeq [7] (R1_Parts_k0 F ) ?_ fun hj0 => ?_
       · intro x7
         show OKc _ _ [(7, x7)] _ _
         refine rSeq ?_
         refine cLess [7] ?_
         refine xR hE [2] rfl (R1_Parts_r31_ok F _ _) ?_
         intro x2
         show OKq _ _ _ [(2, x2)] _
         refine rThen ?_
         refine rRet ?_
         exact rDone (.inr rfl) rfl
       · refine rBlock ?_
         refine cLess [7, 6, 4, 3] ?_
         refine xLoopAt [3, 4, 6, 7] [] (fun k1 => R1_Parts_l1 F (fun x7 => R1_Parts_k0 F x7) k1) F [x3, x4, x6, x7] rfl rfl (fun _ _ _ _ => rfl) fun I hI1 k1 => ?_
         intro x3 x4 x6 x7
         show OKc _ _ [(7, x7), (6, x6), (4, x4), (3, x3)] _ _
         refine cAs (R1_Parts_l1_s F _ _ _ _ _ _) ?_
         refine rSeq ?_
         refine rSeq ?_
         refine cLess [7, 6, 4, 3] ?_
         refine xR hE [3, 4, 6, 7, 33] rfl (R1_Parts_r9_ok F _ _ _ _ _) ?_
         intro x3 x4 x6 x7 x33
         show OKq _ _ _ [(33, x33), (7, x7), (6, x6), (4, x4), (3, x3)] _
         refine rThen ?_
         refine xCond rfl rfl ?_ ?_
         · refine rSkip ?_
           refine rThen ?_
           refine rBlock ?_
           refine rSeq ?_
           refine cLess [7, 6, 4, 3] ?_
           refine xR hE [3, 4, 6, 7, 8] rfl (R1_Parts_r10_ok F _ _ _ _ _) ?_
           intro x3 x4 x6 x7 x8
           show OKq _ _ _ [(8, x8), (7, x7), (6, x6), (4, x4), (3, x3)] _
           refine rThen ?_
           refine xSeq [3, 4, 6, 7, 8] (R1_Parts_k5 F (fun x7 => R1_Parts_k0 F x7)  (R1_Parts_l1 F (fun x7 => R1_Parts_k0 F x7) k1) ) ?_ fun hj5 => ?_
           · intro x3 x4 x6 x7 x8
             show OKc _ _ [(8, x8), (7, x7), (6, x6), (4, x4), (3, x3)] _ _
             refine rSeq ?_
             refine rSeq ?_
             refine cLess [8, 7, 6, 4, 3] ?_
             refine xR hE [3, 4, 6, 7, 8, 81] rfl (R1_Parts_r22_ok F _ _ _ _ _ _) ?_
             intro x3 x4 x6 x7 x8 x81
             show OKq _ _ _ [(81, x81), (8, x8), (7, x7), (6, x6), (4, x4), (3, x3)] _
             refine rThen ?_
             refine xCond rfl rfl ?_ ?_
             · refine rExit ?_
               refine xThenX ?_
               refine rPast rfl ?_
               refine xThenX ?_
               refine rOut ?_
               exact qLess [7] (hj0 x7)
             · refine rSkip ?_
               refine rThen ?_
               refine rSeq ?_
               refine cLess [8, 7, 6, 4, 3] ?_
               refine xR hE [3, 4, 6, 7, 8, 12] rfl (R1_Parts_r23_ok F _ _ _ _ _ _) ?_
               intro x3 x4 x6 x7 x8 x12
               show OKq _ _ _ [(12, x12), (8, x8), (7, x7), (6, x6), (4, x4), (3, x3)] _
               refine rThen ?_
               refine xSeq [3, 4, 6, 7, 12] (R1_Parts_k2 F (R1_Parts_l1 F (fun x7 => R1_Parts_k0 F x7) k1) ) ?_ fun hj2 => ?_
               · intro x3 x4 x6 x7 x12
                 show OKc _ _ [(12, x12), (7, x7), (6, x6), (4, x4), (3, x3)] _ _
                 refine cLess [12, 7, 6, 4, 3] ?_
                 refine xR hE [3, 4, 6, 7] rfl (R1_Parts_r30_ok F _ _ _ _ _ _) ?_
                 intro x3 x4 x6 x7
                 show OKq _ _ _ [(7, x7), (6, x6), (4, x4), (3, x3)] _
                 refine xBlockN ?_
                 exact qLess [7, 6, 4, 3] (hI1 k1 x3 x4 x6 x7)
               · refine rSeq ?_
                 refine cLess [12, 8, 7, 6, 4, 3] ?_
                 refine xR hE [3, 4, 6, 7, 8, 12, 13] rfl (R1_Parts_r24_ok F _ _ _ _ _ _ _) ?_
                 intro x3 x4 x6 x7 x8 x12 x13
                 show OKq _ _ _ [(13, x13), (12, x12), (8, x8), (7, x7), (6, x6), (4, x4), (3, x3)] _
                 refine rThen ?_
                 refine rBlock ?_
                 refine cLess [13, 12, 8, 7, 6, 4, 3] ?_
                 refine xLoopAt [3, 4, 6, 7, 8, 12, 13] [] (fun k3 => R1_Parts_l3 F (fun x3 x4 x6 x7 x12 => R1_Parts_k2 F (R1_Parts_l1 F (fun x7 => R1_Parts_k0 F x7) k1) x3 x4 x6 x7 x12) k3) F [x3, x4, x6, x7, x8, x12, x13] rfl rfl (fun _ _ _ _ _ _ _ => rfl) fun I hI3 k3 => ?_
                 intro x3 x4 x6 x7 x8 x12 x13
                 show OKc _ _ [(13, x13), (12, x12), (8, x8), (7, x7), (6, x6), (4, x4), (3, x3)] _ _
                 refine cAs (R1_Parts_l3_s F _ _ _ _ _ _ _ _ _) ?_
                 refine rSeq ?_
                 refine rSeq ?_
                 refine cLess [13, 12, 8, 7, 6, 4, 3] ?_
                 refine xR hE [3, 4, 6, 7, 8, 12, 13, 84] rfl (R1_Parts_r25_ok F _ _ _ _ _ _ _ _) ?_
                 intro x3 x4 x6 x7 x8 x12 x13 x84
                 show OKq _ _ _ [(84, x84), (13, x13), (12, x12), (8, x8), (7, x7), (6, x6), (4, x4), (3, x3)] _
                 refine rThen ?_
                 refine xCond rfl rfl ?_ ?_
                 · refine rSkip ?_
                   refine rThen ?_
                   refine xSeq [3, 4, 6, 7, 8, 12, 13] (R1_Parts_k4 F (R1_Parts_l3 F (fun x3 x4 x6 x7 x12 => R1_Parts_k2 F (R1_Parts_l1 F (fun x7 => R1_Parts_k0 F x7) k1) x3 x4 x6 x7 x12) k3) ) ?_ fun hj4 => ?_
                   · intro x3 x4 x6 x7 x8 x12 x13
                     show OKc _ _ [(13, x13), (12, x12), (8, x8), (7, x7), (6, x6), (4, x4), (3, x3)] _ _
                     refine cLess [13, 12, 8, 7, 6, 4, 3] ?_
                     refine xR hE [3, 4, 6, 7, 8, 12, 13] rfl (R1_Parts_r26_ok F _ _ _ _ _ _ _ _) ?_
                     intro x3 x4 x6 x7 x8 x12 x13
                     show OKq _ _ _ [(13, x13), (12, x12), (8, x8), (7, x7), (6, x6), (4, x4), (3, x3)] _
                     exact qLess [13, 12, 8, 7, 6, 4, 3] (hI3 k3 x3 x4 x6 x7 x8 x12 x13)
                   · refine rBlock ?_
                     refine rSeq ?_
                     refine cLess [13, 12, 8, 7, 6, 4, 3] ?_
                     refine xR hE [3, 4, 6, 7, 8, 12, 13, 102] rfl (R1_Parts_r27_ok F _ _ _ _ _ _ _ _) ?_
                     intro x3 x4 x6 x7 x8 x12 x13 x102
                     show OKq _ _ _ [(102, x102), (13, x13), (12, x12), (8, x8), (7, x7), (6, x6), (4, x4), (3, x3)] _
                     refine rThen ?_
                     refine xCond rfl rfl ?_ ?_
                     · refine rSeq ?_
                       refine cLess [13, 12, 8, 7, 6, 4, 3] ?_
                       refine xR hE [3, 4, 6, 7, 8, 12, 13] rfl (R1_Parts_r28_ok F _ _ _ _ _ _ _ _) ?_
                       intro x3 x4 x6 x7 x8 x12 x13
                       show OKq _ _ _ [(13, x13), (12, x12), (8, x8), (7, x7), (6, x6), (4, x4), (3, x3)] _
                       refine rThen ?_
                       refine cLess [13, 12, 8, 7, 6, 4, 3] ?_
                       refine xR hE [3, 4, 6, 7, 8, 12, 13] rfl (R1_Parts_r29_ok F _ _ _ _ _ _ _ _) ?_
                       intro x3 x4 x6 x7 x8 x12 x13
                       show OKq _ _ _ [(13, x13), (12, x12), (8, x8), (7, x7), (6, x6), (4, x4), (3, x3)] _
                       refine xBlockN ?_
                       exact qLess [13, 12, 8, 7, 6, 4, 3] (hj4 x3 x4 x6 x7 x8 x12 x13)
                     · refine rSkip ?_
                       refine xBlockN ?_
                       exact qLess [13, 12, 8, 7, 6, 4, 3] (hj4 x3 x4 x6 x7 x8 x12 x13)
                 · refine rExit ?_
                   refine xThenX ?_
                   refine xThenX ?_
                   refine rOut ?_
                   exact qLess [12, 7, 6, 4, 3] (hj2 x3 x4 x6 x7 x12)
           · refine rSeq ?_
             refine cLess [8, 7, 6, 4, 3] ?_
             refine xR hE [3, 4, 6, 7, 8, 9] rfl (R1_Parts_r11_ok F _ _ _ _ _ _) ?_
             intro x3 x4 x6 x7 x8 x9
             show OKq _ _ _ [(9, x9), (8, x8), (7, x7), (6, x6), (4, x4), (3, x3)] _
             refine rThen ?_
             refine rBlock ?_
             refine cLess [9, 8, 7, 6, 4, 3] ?_
             refine xLoopAt [3, 4, 6, 7, 8, 9] [] (fun k6 => R1_Parts_l6 F (fun x3 x4 x6 x7 x8 => R1_Parts_k5 F (fun x7 => R1_Parts_k0 F x7)  (R1_Parts_l1 F (fun x7 => R1_Parts_k0 F x7) k1) x3 x4 x6 x7 x8) k6) F [x3, x4, x6, x7, x8, x9] rfl rfl (fun _ _ _ _ _ _ => rfl) fun I hI6 k6 => ?_
             intro x3 x4 x6 x7 x8 x9
             show OKc _ _ [(9, x9), (8, x8), (7, x7), (6, x6), (4, x4), (3, x3)] _ _
             refine cAs (R1_Parts_l6_s F _ _ _ _ _ _ _ _) ?_
             refine rSeq ?_
             refine rSeq ?_
             refine cLess [9, 8, 7, 6, 4, 3] ?_
             refine xR hE [3, 4, 6, 7, 8, 9, 40] rfl (R1_Parts_r12_ok F _ _ _ _ _ _ _) ?_
             intro x3 x4 x6 x7 x8 x9 x40
             show OKq _ _ _ [(40, x40), (9, x9), (8, x8), (7, x7), (6, x6), (4, x4), (3, x3)] _
             refine rThen ?_
             refine xCond rfl rfl ?_ ?_
             · refine rSkip ?_
               refine rThen ?_
               refine xSeq [3, 4, 6, 7, 8, 9] (R1_Parts_k7 F (R1_Parts_l6 F (fun x3 x4 x6 x7 x8 => R1_Parts_k5 F (fun x7 => R1_Parts_k0 F x7)  (R1_Parts_l1 F (fun x7 => R1_Parts_k0 F x7) k1) x3 x4 x6 x7 x8) k6) ) ?_ fun hj7 => ?_
               · intro x3 x4 x6 x7 x8 x9
                 show OKc _ _ [(9, x9), (8, x8), (7, x7), (6, x6), (4, x4), (3, x3)] _ _
                 refine cLess [9, 8, 7, 6, 4, 3] ?_
                 refine xR hE [3, 4, 6, 7, 8, 9] rfl (R1_Parts_r13_ok F _ _ _ _ _ _ _) ?_
                 intro x3 x4 x6 x7 x8 x9
                 show OKq _ _ _ [(9, x9), (8, x8), (7, x7), (6, x6), (4, x4), (3, x3)] _
                 exact qLess [9, 8, 7, 6, 4, 3] (hI6 k6 x3 x4 x6 x7 x8 x9)
               · refine rBlock ?_
                 refine rSeq ?_
                 refine rSeq ?_
                 refine cLess [9, 8, 7, 6, 4, 3] ?_
                 refine xR hE [3, 4, 6, 7, 8, 9, 46] rfl (R1_Parts_r14_ok F _ _ _ _ _ _ _) ?_
                 intro x3 x4 x6 x7 x8 x9 x46
                 show OKq _ _ _ [(46, x46), (9, x9), (8, x8), (7, x7), (6, x6), (4, x4), (3, x3)] _
                 refine rThen ?_
                 refine xCond rfl rfl ?_ ?_
                 · refine rExit ?_
                   refine xThenX ?_
                   refine rOut ?_
                   exact qLess [9, 8, 7, 6, 4, 3] (hj7 x3 x4 x6 x7 x8 x9)
                 · refine rSkip ?_
                   refine rThen ?_
                   refine rSeq ?_
                   refine cLess [9, 8, 7, 6, 4, 3] ?_
                   refine xR hE [3, 4, 6, 7, 8, 9, 10] rfl (R1_Parts_r15_ok F _ _ _ _ _ _ _) ?_
                   intro x3 x4 x6 x7 x8 x9 x10
                   show OKq _ _ _ [(10, x10), (9, x9), (8, x8), (7, x7), (6, x6), (4, x4), (3, x3)] _
                   refine rThen ?_
                   refine xSeq [3, 4, 6, 7, 8, 9, 10] (R1_Parts_k8 F (R1_Parts_l6 F (fun x3 x4 x6 x7 x8 => R1_Parts_k5 F (fun x7 => R1_Parts_k0 F x7)  (R1_Parts_l1 F (fun x7 => R1_Parts_k0 F x7) k1) x3 x4 x6 x7 x8) k6) ) ?_ fun hj8 => ?_
                   · intro x3 x4 x6 x7 x8 x9 x10
                     show OKc _ _ [(10, x10), (9, x9), (8, x8), (7, x7), (6, x6), (4, x4), (3, x3)] _ _
                     refine rSeq ?_
                     refine cLess [10, 9, 8, 7, 6, 4, 3] ?_
                     refine xR hE [3, 4, 6, 7, 8, 9, 78] rfl (R1_Parts_r20_ok F _ _ _ _ _ _ _ _) ?_
                     intro x3 x4 x6 x7 x8 x9 x78
                     show OKq _ _ _ [(78, x78), (9, x9), (8, x8), (7, x7), (6, x6), (4, x4), (3, x3)] _
                     refine rThen ?_
                     refine xCond rfl rfl ?_ ?_
                     · refine cLess [9, 7, 6, 4, 3] ?_
                       refine xR hE [3, 4, 6, 7, 8, 9] rfl (R1_Parts_r21_ok F _ _ _ _ _ _) ?_
                       intro x3 x4 x6 x7 x8 x9
                       show OKq _ _ _ [(9, x9), (8, x8), (7, x7), (6, x6), (4, x4), (3, x3)] _
                       refine xBlockN ?_
                       exact qLess [9, 8, 7, 6, 4, 3] (hj7 x3 x4 x6 x7 x8 x9)
                     · refine rSkip ?_
                       refine xBlockN ?_
                       exact qLess [9, 8, 7, 6, 4, 3] (hj7 x3 x4 x6 x7 x8 x9)
                   · refine rSeq ?_
                     refine cLess [10, 9, 8, 7, 6, 4, 3] ?_
                     refine xR hE [3, 4, 6, 7, 8, 9, 10, 11] rfl (R1_Parts_r16_ok F _ _ _ _ _ _ _ _) ?_
                     intro x3 x4 x6 x7 x8 x9 x10 x11
                     show OKq _ _ _ [(11, x11), (10, x10), (9, x9), (8, x8), (7, x7), (6, x6), (4, x4), (3, x3)] _
                     refine rThen ?_
                     refine rBlock ?_
                     refine cLess [11, 10, 9, 8, 7, 6, 4, 3] ?_
                     refine xLoopAt [3, 4, 6, 7, 8, 9, 10, 11] [] (fun k9 => R1_Parts_l9 F (fun x3 x4 x6 x7 x8 x9 x10 => R1_Parts_k8 F (R1_Parts_l6 F (fun x3 x4 x6 x7 x8 => R1_Parts_k5 F (fun x7 => R1_Parts_k0 F x7)  (R1_Parts_l1 F (fun x7 => R1_Parts_k0 F x7) k1) x3 x4 x6 x7 x8) k6) x3 x4 x6 x7 x8 x9 x10) k9) F [x3, x4, x6, x7, x8, x9, x10, x11] rfl rfl (fun _ _ _ _ _ _ _ _ => rfl) fun I hI9 k9 => ?_
                     intro x3 x4 x6 x7 x8 x9 x10 x11
                     show OKc _ _ [(11, x11), (10, x10), (9, x9), (8, x8), (7, x7), (6, x6), (4, x4), (3, x3)] _ _
                     refine cAs (R1_Parts_l9_s F _ _ _ _ _ _ _ _ _ _) ?_
                     refine rSeq ?_
                     refine rSeq ?_
                     refine cLess [11, 10, 9, 8, 7, 6, 4, 3] ?_
                     refine xR hE [3, 4, 6, 7, 8, 9, 10, 11, 49] rfl (R1_Parts_r17_ok F _ _ _ _ _ _ _ _ _) ?_
                     intro x3 x4 x6 x7 x8 x9 x10 x11 x49
                     show OKq _ _ _ [(49, x49), (11, x11), (10, x10), (9, x9), (8, x8), (7, x7), (6, x6), (4, x4), (3, x3)] _
                     refine rThen ?_
                     refine xCond rfl rfl ?_ ?_
                     · refine rSkip ?_
                       refine rThen ?_
                       refine rSeq ?_
                       refine rBlock ?_
                       refine cLess [11, 10, 9, 8, 7, 6, 4, 3] ?_
                       refine xR hE [3, 4, 6, 7, 8, 9, 10, 11] rfl (R1_Parts_r19_ok F _ _ _ _ _ _ _ _ _) ?_
                       intro x3 x4 x6 x7 x8 x9 x10 x11
                       show OKq _ _ _ [(11, x11), (10, x10), (9, x9), (8, x8), (7, x7), (6, x6), (4, x4), (3, x3)] _
                       refine xBlockN ?_
                       refine rThen ?_
                       refine cLess [11, 10, 9, 8, 7, 6, 4, 3] ?_
                       refine xR hE [3, 4, 6, 7, 8, 9, 10, 11] rfl (R1_Parts_r18_ok F _ _ _ _ _ _ _ _ _) ?_
                       intro x3 x4 x6 x7 x8 x9 x10 x11
                       show OKq _ _ _ [(11, x11), (10, x10), (9, x9), (8, x8), (7, x7), (6, x6), (4, x4), (3, x3)] _
                       exact qLess [11, 10, 9, 8, 7, 6, 4, 3] (hI9 k9 x3 x4 x6 x7 x8 x9 x10 x11)
                     · refine rExit ?_
                       refine xThenX ?_
                       refine xThenX ?_
                       refine rOut ?_
                       exact qLess [10, 9, 8, 7, 6, 4, 3] (hj8 x3 x4 x6 x7 x8 x9 x10)
             · refine rExit ?_
               refine xThenX ?_
               refine xThenX ?_
               refine rOut ?_
               exact qLess [8, 7, 6, 4, 3] (hj5 x3 x4 x6 x7 x8)
         · refine rExit ?_
           refine xThenX ?_
           refine xThenX ?_
           refine rOut ?_
           exact qLess [7] (hj0 x7)
     · refine rSeq ?_
       refine cLess [4, 3, 0] ?_
       refine xR hE [0, 3, 4, 5] rfl (R1_Parts_r3_ok F _ _ _ _) ?_
       intro x0 x3 x4 x5
       show OKq _ _ _ [(5, x5), (4, x4), (3, x3), (0, x0)] _
       refine rThen ?_
       refine rBlock ?_
       refine cLess [5, 4, 3, 0] ?_
       refine xLoopAt [0, 3, 4, 5] [] (fun k11 => R1_Parts_l11 F (fun x3 x4 => R1_Parts_k10 F x3 x4) k11) F [x0, x3, x4, x5] rfl rfl (fun _ _ _ _ => rfl) fun I hI11 k11 => ?_
       intro x0 x3 x4 x5
       show OKc _ _ [(5, x5), (4, x4), (3, x3), (0, x0)] _ _
       refine cAs (R1_Parts_l11_s F _ _ _ _ _ _) ?_
       refine rSeq ?_
       refine rSeq ?_
       refine cLess [5, 4, 3, 0] ?_
       refine xR hE [0, 3, 4, 5, 18] rfl (R1_Parts_r4_ok F _ _ _ _ _) ?_
       intro x0 x3 x4 x5 x18
       show OKq _ _ _ [(18, x18), (5, x5), (4, x4), (3, x3), (0, x0)] _
       refine rThen ?_
       refine xCond rfl rfl ?_ ?_
       · refine rSkip ?_
         refine rThen ?_
         refine rSeq ?_
         refine rBlock ?_
         refine cLess [5, 4, 3, 0] ?_
         refine xR hE [0, 3, 4, 5] rfl (R1_Parts_r6_ok F _ _ _ _ _) ?_
         intro x0 x3 x4 x5
         show OKq _ _ _ [(5, x5), (4, x4), (3, x3), (0, x0)] _
         refine xBlockN ?_
         refine rThen ?_
         refine cLess [5, 4, 3, 0] ?_
         refine xR hE [0, 3, 4, 5] rfl (R1_Parts_r5_ok F _ _ _ _ _) ?_
         intro x0 x3 x4 x5
         show OKq _ _ _ [(5, x5), (4, x4), (3, x3), (0, x0)] _
         exact qLess [5, 4, 3, 0] (hI11 k11 x0 x3 x4 x5)
       · refine rExit ?_
         refine xThenX ?_
         refine xThenX ?_
         refine rOut ?_
         exact qLess [4, 3] (hj10 x3 x4)
   · exact rFail


/-! ### haruspex/graph.Turn -/

def graph_Turn_env (F : Nat) : Env := envOf [(40, graph_May_m F)]

noncomputable def graph_Turn_R (F : Nat) := rK Tryd.prog TrydG (graph_Turn_env F) Tryd.f32
noncomputable def graph_Turn_D (F : Nat) := dK Tryd.prog TrydG (graph_Turn_env F) Tryd.f32

def graph_Turn_r13 (F : Nat) (x2 x3 : Value) (K : Value → M Value) : M Value :=
  bnd (opLoadN 2 x3) fun v46 => bnd (opStoreN 2 x2 v46) fun _ => K x2

theorem graph_Turn_r13_ok (F : Nat) (x2 x3 : Value) (K : Value → M Value) : graph_Turn_r13 F x2 x3 K = graph_Turn_R F 13 [(3, x3), (2, x2)] [2] K := by kernel_rfl

def graph_Turn_k0 (F : Nat) (x2 x3 : Value) : M Value :=
  graph_Turn_r13 F x2 x3 (fun x2 => bnd (opLoadN 2 x2) fun r0 => ret r0)

def graph_Turn_r12 (F : Nat) (x2 x3 x19 x20 x21 : Value) (K : Value → Value → Value → Value → Value → M Value) : M Value :=
  bnd (opBin .add x21 (.int .i64 (1))) fun v45 => K x2 x3 x19 x20 v45

theorem graph_Turn_r12_ok (F : Nat) (x2 x3 x19 x20 x21 : Value) (K : Value → Value → Value → Value → Value → M Value) : graph_Turn_r12 F x2 x3 x19 x20 x21 K = graph_Turn_R F 12 [(21, x21), (20, x20), (19, x19), (3, x3), (2, x2)] [2, 3, 19, 20, 21] K := by kernel_rfl

def graph_Turn_k2 (F : Nat) (A1 : Value → Value → Value → Value → Value → M Value) (x2 x3 x19 x20 x21 : Value) : M Value :=
  graph_Turn_r12 F x2 x3 x19 x20 x21 (fun x2 x3 x19 x20 x21 => A1 x2 x3 x19 x20 x21)

def graph_Turn_r11 (F : Nat) (x2 x3 x4 x19 x20 x21 x26 x27 x28 : Value) (K : Value → Value → Value → Value → Value → Value → Value → Value → Value → M Value) : M Value :=
  bnd (opBin .add x28 (.int .i64 (1))) fun v44 => K x2 x3 x4 x19 x20 x21 x26 x27 v44

theorem graph_Turn_r11_ok (F : Nat) (x2 x3 x4 x19 x20 x21 x26 x27 x28 : Value) (K : Value → Value → Value → Value → Value → Value → Value → Value → Value → M Value) : graph_Turn_r11 F x2 x3 x4 x19 x20 x21 x26 x27 x28 K = graph_Turn_R F 11 [(28, x28), (27, x27), (26, x26), (21, x21), (20, x20), (19, x19), (4, x4), (3, x3), (2, x2)] [2, 3, 4, 19, 20, 21, 26, 27, 28] K := by kernel_rfl

def graph_Turn_r10 (F : Nat) (x2 x3 x4 x7 x19 x20 x21 x26 x27 x28 : Value) (K : Value → Value → Value → Value → Value → Value → Value → Value → Value → M Value) : M Value :=
  bnd (opFieldAddr 1 x3) fun v32 => bnd (opLoad v32) fun v33 => bnd (opFieldAddr 1 x3) fun v35 => bnd (opLoad v35) fun v36 => bnd (opIndexAddr 1 v36 x7) fun v38 => bnd (opLoad v38) fun v39 => bnd (opBuildSlice 1 (rep 1 [(.int .i64 (0))]) [(0, 1, false, x4)]) fun v41 => bnd (opAppend 1 8 v39 v41) fun v42 => bnd (opChk false v32 v33) fun _ => bnd (opIndexAddr 1 v33 x7) fun v43 => bnd (opStore v43 v42) fun _ => K x2 x3 x4 x19 x20 x21 x26 x27 x28

theorem graph_Turn_r10_ok (F : Nat) (x2 x3 x4 x7 x19 x20 x21 x26 x27 x28 : Value) (K : Value → Value → Value → Value → Value → Value → Value → Value → Value → M Value) : graph_Turn_r10 F x2 x3 x4 x7 x19 x20 x21 x26 x27 x28 K = graph_Turn_D F 10 [0, 1, 2, 3, 4, 5, 6, 7, 8, 9, 10, 11, 12] [(28, x28), (27, x27), (26, x26), (21, x21), (20, x20), (19, x19), (7, x7), (4, x4), (3, x3), (2, x2)] [2, 3, 4, 19, 20, 21, 26, 27, 28] K := by kernel_rfl

theorem graph_Turn_r10_good : goodOrder (opsOf Tryd.f32 10) [0, 1, 2, 3, 4, 5, 6, 7, 8, 9, 10, 11, 12] = true := by kernel_rfl

def graph_Turn_r9 (F : Nat) (x2 x3 x4 x19 x20 x21 x26 x27 x28 : Value) (K : Value → Value → Value → Value → Value → Value → Value → Value → Value → Value → M Value) : M Value :=
  bnd (opIndexAddr 1 x26 x28) fun v30 => bnd (opLoad v30) fun v31 => K x2 x3 x4 v31 x19 x20 x21 x26 x27 x28

theorem graph_Turn_r9_ok (F : Nat) (x2 x3 x4 x19 x20 x21 x26 x27 x28 : Value) (K : Value → Value → Value → Value → Value → Value → Value → Value → Value → Value → M Value) : graph_Turn_r9 F x2 x3 x4 x19 x20 x21 x26 x27 x28 K = graph_Turn_R F 9 [(28, x28), (27, x27), (26, x26), (21, x21), (20, x20), (19, x19), (4, x4), (3, x3), (2, x2)] [2, 3, 4, 7, 19, 20, 21, 26, 27, 28] K := by kernel_rfl

def graph_Turn_r8 (F : Nat) (x2 x3 x4 x19 x20 x21 x26 x27 x28 : Value) (K : Value → Value → Value → Value → Value → Value → Value → Value → Value → Value → M Value) : M Value :=
  bnd (opBin .lss x28 x27) fun v29 => K x2 x3 x4 x19 x20 x21 x26 x27 x28 v29

theorem graph_Turn_r8_ok (F : Nat) (x2 x3 x4 x19 x20 x21 x26 x27 x28 : Value) (K : Value → Value → Value → Value → Value → Value → Value → Value → Value → Value → M Value) : graph_Turn_r8 F x2 x3 x4 x19 x20 x21 x26 x27 x28 K = graph_Turn_R F 8 [(28, x28), (27, x27), (26, x26), (21, x21), (20, x20), (19, x19), (4, x4), (3, x3), (2, x2)] [2, 3, 4, 19, 20, 21, 26, 27, 28, 29] K := by kernel_rfl

def graph_Turn_b3 (F : Nat) (E3_2 : Value → Value → Value → Value → Value → M Value) (A3 : Value → Value → Value → Value → Value → Value → Value → Value → Value → M Value) (x2 x3 x4 x19 x20 x21 x26 x27 x28 : Value) : M Value :=
  graph_Turn_r8 F x2 x3 x4 x19 x20 x21 x26 x27 x28 (fun x2 x3 x4 x19 x20 x21 x26 x27 x28 x29 => onB x29 (graph_Turn_r9 F x2 x3 x4 x19 x20 x21 x26 x27 x28 (fun x2 x3 x4 x7 x19 x20 x21 x26 x27 x28 => graph_Turn_r10 F x2 x3 x4 x7 x19 x20 x21 x26 x27 x28 (fun x2 x3 x4 x19 x20 x21 x26 x27 x28 => graph_Turn_r11 F x2 x3 x4 x19 x20 x21 x26 x27 x28 (fun x2 x3 x4 x19 x20 x21 x26 x27 x28 => A3 x2 x3 x4 x19 x20 x21 x26 x27 x28)))) (E3_2 x2 x3 x19 x20 x21))

def graph_Turn_l3 (F : Nat) (E3_2 : Value → Value → Value → Value → Value → M Value) : Nat → Value → Value → Value → Value → Value → Value → Value → Value → Value → M Value
  | 0, _, _, _, _, _, _, _, _, _ => fail
  | k3 + 1, x2, x3, x4, x19, x20, x21, x26, x27, x28 => graph_Turn_b3 F E3_2 (graph_Turn_l3 F E3_2 k3) x2 x3 x4 x19 x20 x21 x26 x27 x28

theorem graph_Turn_l3_s (F : Nat) (E3_2 : Value → Value → Value → Value → Value → M Value) (k3 : Nat) (x2 x3 x4 x19 x20 x21 x26 x27 x28 : Value) : graph_Turn_l3 F E3_2 (k3 + 1) x2 x3 x4 x19 x20 x21 x26 x27 x28 = graph_Turn_b3 F E3_2 (graph_Turn_l3 F E3_2 k3) x2 x3 x4 x19 x20 x21 x26 x27 x28 := rfl

def graph_Turn_r7 (F : Nat) (x2 x3 x4 x5 x19 x20 x21 : Value) (K : Value → Value → Value → Value → Value → Value → Value → Value → Value → M Value) : M Value :=
  bnd (opLen x5) fun v27 => K x2 x3 x4 x19 x20 x21 x5 v27 (.int .i64 (0))

theorem graph_Turn_r7_ok (F : Nat) (x2 x3 x4 x5 x19 x20 x21 : Value) (K : Value → Value → Value → Value → Value → Value → Value → Value → Value → M Value) : graph_Turn_r7 F x2 x3 x4 x5 x19 x20 x21 K = graph_Turn_R F 7 [(21, x21), (20, x20), (19, x19), (5, x5), (4, x4), (3, x3), (2, x2)] [2, 3, 4, 19, 20, 21, 26, 27, 28] K := by kernel_rfl

def graph_Turn_r6 (F : Nat) (x2 x3 x19 x20 x21 : Value) (K : Value → Value → Value → Value → Value → Value → Value → M Value) : M Value :=
  bnd (opIndexAddr 1 x19 x21) fun v24 => bnd (opLoad v24) fun v25 => K x2 x3 x21 v25 x19 x20 x21

theorem graph_Turn_r6_ok (F : Nat) (x2 x3 x19 x20 x21 : Value) (K : Value → Value → Value → Value → Value → Value → Value → M Value) : graph_Turn_r6 F x2 x3 x19 x20 x21 K = graph_Turn_R F 6 [(21, x21), (20, x20), (19, x19), (3, x3), (2, x2)] [2, 3, 4, 5, 19, 20, 21] K := by kernel_rfl

def graph_Turn_r5 (F : Nat) (x2 x3 x19 x20 x21 : Value) (K : Value → Value → Value → Value → Value → Value → M Value) : M Value :=
  bnd (opBin .lss x21 x20) fun v22 => K x2 x3 x19 x20 x21 v22

theorem graph_Turn_r5_ok (F : Nat) (x2 x3 x19 x20 x21 : Value) (K : Value → Value → Value → Value → Value → Value → M Value) : graph_Turn_r5 F x2 x3 x19 x20 x21 K = graph_Turn_R F 5 [(21, x21), (20, x20), (19, x19), (3, x3), (2, x2)] [2, 3, 19, 20, 21, 22] K := by kernel_rfl

def graph_Turn_b1 (F : Nat) (E1_0 : Value → Value → M Value) (A1 : Value → Value → Value → Value → Value → M Value) (x2 x3 x19 x20 x21 : Value) : M Value :=
  graph_Turn_r5 F x2 x3 x19 x20 x21 (fun x2 x3 x19 x20 x21 x22 => onB x22 (graph_Turn_r6 F x2 x3 x19 x20 x21 (fun x2 x3 x4 x5 x19 x20 x21 => graph_Turn_r7 F x2 x3 x4 x5 x19 x20 x21 (fun x2 x3 x4 x19 x20 x21 x26 x27 x28 => graph_Turn_l3 F (fun x2 x3 x19 x20 x21 => graph_Turn_k2 F A1 x2 x3 x19 x20 x21) F x2 x3 x4 x19 x20 x21 x26 x27 x28))) (E1_0 x2 x3))

def graph_Turn_l1 (F : Nat) (E1_0 : Value → Value → M Value) : Nat → Value → Value → Value → Value → Value → M Value
  | 0, _, _, _, _, _ => fail
  | k1 + 1, x2, x3, x19, x20, x21 => graph_Turn_b1 F E1_0 (graph_Turn_l1 F E1_0 k1) x2 x3 x19 x20 x21

theorem graph_Turn_l1_s (F : Nat) (E1_0 : Value → Value → M Value) (k1 : Nat) (x2 x3 x19 x20 x21 : Value) : graph_Turn_l1 F E1_0 (k1 + 1) x2 x3 x19 x20 x21 = graph_Turn_b1 F E1_0 (graph_Turn_l1 F E1_0 k1) x2 x3 x19 x20 x21 := rfl

def graph_Turn_r4 (F : Nat) (x1 x2 x3 : Value) (K : Value → Value → Value → Value → Value → M Value) : M Value :=
  bnd (opFieldAddr 1 x1) fun v18 => bnd (opLoad v18) fun v19 => bnd (opLen v19) fun v20 => K x2 x3 v19 v20 (.int .i64 (0))

theorem graph_Turn_r4_ok (F : Nat) (x1 x2 x3 : Value) (K : Value → Value → Value → Value → Value → M Value) : graph_Turn_r4 F x1 x2 x3 K = graph_Turn_R F 4 [(3, x3), (2, x2), (1, x1)] [2, 3, 19, 20, 21] K := by kernel_rfl

def graph_Turn_r3 (F : Nat) (x1 x2 : Value) (K : Value → Value → Value → M Value) : M Value :=
  bnd (opFieldAddr 0 x1) fun v12 => bnd (opLoad v12) fun v13 => bnd (opFieldAddr 0 x1) fun v14 => bnd (opLoad v14) fun v15 => bnd (opMake 24 [(.slice none 0 0)] v15 v15) fun v16 => bnd (opBuild [(.int .i64 (0)), (.slice none 0 0)] [(0, 1, false, v13), (1, 1, false, v16)]) fun v17 => bnd (opPtr [(.int .i64 (0)), (.slice none 0 0)]) fun v3 => bnd (opStoreN 2 v3 v17) fun _ => K x1 x2 v3

theorem graph_Turn_r3_ok (F : Nat) (x1 x2 : Value) (K : Value → Value → Value → M Value) : graph_Turn_r3 F x1 x2 K = graph_Turn_D F 3 [0, 1, 2, 3, 4, 5, 6, 7] [(2, x2), (1, x1)] [1, 2, 3] K := by kernel_rfl

theorem graph_Turn_r3_good : goodOrder (opsOf Tryd.f32 3) [0, 1, 2, 3, 4, 5, 6, 7] = true := by kernel_rfl

def graph_Turn_r2 (F : Nat) (x2 : Value) (K : Value → M Value) : M Value :=
  bnd (opBuild [(.int .i64 (0)), (.slice none 0 0)] []) fun v11 => bnd (opStoreN 2 x2 v11) fun _ => K x2

theorem graph_Turn_r2_ok (F : Nat) (x2 : Value) (K : Value → M Value) : graph_Turn_r2 F x2 K = graph_Turn_R F 2 [(2, x2)] [2] K := by kernel_rfl

def graph_Turn_r1 (F : Nat) (x1 x2 : Value) (K : Value → Value → Value → M Value) : M Value :=
  bnd (opLoadN 2 x1) fun v8 => bnd (graph_May F v8) fun v9 => bnd (opNot v9) fun v10 => K x1 x2 v10

theorem graph_Turn_r1_ok (F : Nat) (x1 x2 : Value) (K : Value → Value → Value → M Value) : graph_Turn_r1 F x1 x2 K = graph_Turn_R F 1 [(2, x2), (1, x1)] [1, 2, 10] K := by kernel_rfl

def graph_Turn_r0 (F : Nat) (x0 : Value) (K : Value → Value → M Value) : M Value :=
  bnd (opBoxN x0) fun v1 => bnd (opPtr [(.int .i64 (0)), (.slice none 0 0)]) fun v2 => K v1 v2

theorem graph_Turn_r0_ok (F : Nat) (x0 : Value) (K : Value → Value → M Value) : graph_Turn_r0 F x0 K = graph_Turn_R F 0 [(0, x0)] [1, 2] K := by kernel_rfl

def graph_Turn (F : Nat) (x0 : Value) : M Value :=
  graph_Turn_r0 F x0 (fun x1 x2 => graph_Turn_r1 F x1 x2 (fun x1 x2 x10 => onB x10 (graph_Turn_r2 F x2 (fun x2 => bnd (opLoadN 2 x2) fun r0 => ret r0)) (graph_Turn_r3 F x1 x2 (fun x1 x2 x3 => graph_Turn_r4 F x1 x2 x3 (fun x2 x3 x19 x20 x21 => graph_Turn_l1 F (fun x2 x3 => graph_Turn_k0 F x2 x3) F x2 x3 x19 x20 x21)))))

def graph_Turn_m (F : Nat) : List Value → M Value
  | [x0] => graph_Turn F x0
  | _ => fail

theorem graph_Turn_body : Tryd.f32.body = some (.seq (.region 0 (opsOf Tryd.f32 0) false) (.seq (.seq (.region 1 (opsOf Tryd.f32 1) false) (.cond (.tmp 10) (.seq (.region 2 (opsOf Tryd.f32 2) false) .ret) .skip)) (.seq (.region 3 (opsOf Tryd.f32 3) true) (.seq (.seq (.region 4 (opsOf Tryd.f32 4) false) (.block 0 (.loop (.seq (.region 5 (opsOf Tryd.f32 5) false) (.seq (.cond (.tmp 22) .skip (.exit 0)) (.seq (.block 1 (.seq (.region 6 (opsOf Tryd.f32 6) false) (.seq (.region 7 (opsOf Tryd.f32 7) false) (.block 2 (.loop (.seq (.region 8 (opsOf Tryd.f32 8) false) (.seq (.cond (.tmp 29) .skip (.exit 2)) (.seq (.block 3 (.seq (.region 9 (opsOf Tryd.f32 9) false) (.region 10 (opsOf Tryd.f32 10) true))) (.region 11 (opsOf Tryd.f32 11) false))))))))) (.region 12 (opsOf Tryd.f32 12) false))))))) (.seq (.region 13 (opsOf Tryd.f32 13) false) .ret))))) := by kernel_rfl

theorem graph_Turn_ok (F : Nat) : Sim Tryd.prog TrydG 32 (graph_Turn_m F) := by
 have hE : EnvOK Tryd.prog TrydG (graph_Turn_env F) := (EnvOK.cons (graph_May_ok F) EnvOK.nil)
 refine Sim.of_body (E := graph_Turn_env F) Tryd.func32 graph_Turn_body Tryd.call32 ?_ ?_
 · intro args hl; unfold graph_Turn_m; split
   · exact absurd hl (Nat.not_lt.2 (Nat.le_of_ble_eq_true rfl))
   · rfl
 · intro args ρ h w z; unfold graph_Turn_m; split
   · rename_i x0; show OKc _ _ [(0, x0)] _ _
     refine rSeq ?_
     refine cLess [0] ?_
     refine xR hE [1, 2] rfl (graph_Turn_r0_ok F _ _) ?_
     intro x1 x2
     show OKq _ _ _ [(2, x2), (1, x1)] _
     refine rThen ?_
     refine rSeq ?_
     refine rSeq ?_
     refine cLess [2, 1] ?_
     refine xR hE [1, 2, 10] rfl (graph_Turn_r1_ok F _ _ _) ?_
     intro x1 x2 x10
     show OKq _ _ _ [(10, x10), (2, x2), (1, x1)] _
     refine rThen ?_
     refine xCond rfl rfl ?_ ?_
     · refine rSeq ?_
       refine cLess [2] ?_
       refine xR hE [2] rfl (graph_Turn_r2_ok F _ _) ?_
       intro x2
       show OKq _ _ _ [(2, x2)] _
       refine rThen ?_
       refine rRet ?_
       refine xThenR ?_
       exact rDone (.inr rfl) rfl
     · refine rSkip ?_
       refine rThen ?_
       refine rSeq ?_
       refine cLess [2, 1] ?_
       refine xD Trydmix hE [1, 2, 3] rfl graph_Turn_r3_good (graph_Turn_r3_ok F _ _ _) ?_
       intro x1 x2 x3
       show OKq _ _ _ [(3, x3), (2, x2), (1, x1)] _
       refine rThen ?_
       refine xSeq [2, 3] (graph_Turn_k0 F ) ?_ fun hj0 => ?_
       · intro x2 x3
         show OKc _ _ [(3, x3), (2, x2)] _ _
         refine rSeq ?_
         refine cLess [3, 2] ?_
         refine xR hE [2] rfl (graph_Turn_r13_ok F _ _ _) ?_
         intro x2
         show OKq _ _ _ [(2, x2)] _
         refine rThen ?_
         refine rRet ?_
         exact rDone (.inr rfl) rfl
       · refine rSeq ?_
         refine cLess [3, 2, 1] ?_
         refine xR hE [2, 3, 19, 20, 21] rfl (graph_Turn_r4_ok F _ _ _ _) ?_
         intro x2 x3 x19 x20 x21
         show OKq _ _ _ [(21, x21), (20, x20), (19, x19), (3, x3), (2, x2)] _
         refine rThen ?_
         refine rBlock ?_
         refine cLess [21, 20, 19, 3, 2] ?_
         refine xLoopAt [2, 3, 19, 20, 21] [] (fun k1 => graph_Turn_l1 F (fun x2 x3 => graph_Turn_k0 F x2 x3) k1) F [x2, x3, x19, x20, x21] rfl rfl (fun _ _ _ _ _ => rfl) fun I hI1 k1 => ?_
         intro x2 x3 x19 x20 x21
         show OKc _ _ [(21, x21), (20, x20), (19, x19), (3, x3), (2, x2)] _ _
         refine cAs (graph_Turn_l1_s F _ _ _ _ _ _ _) ?_
         refine rSeq ?_
         refine cLess [21, 20, 19, 3, 2] ?_
         refine xR hE [2, 3, 19, 20, 21, 22] rfl (graph_Turn_r5_ok F _ _ _ _ _ _) ?_
         intro x2 x3 x19 x20 x21 x22
         show OKq _ _ _ [(22, x22), (21, x21), (20, x20), (19, x19), (3, x3), (2, x2)] _
         refine rThen ?_
         refine rSeq ?_
         refine xCond rfl rfl ?_ ?_
         · refine rSkip ?_
           refine rThen ?_
           refine xSeq [2, 3, 19, 20, 21] (graph_Turn_k2 F (graph_Turn_l1 F (fun x2 x3 => graph_Turn_k0 F x2 x3) k1) ) ?_ fun hj2 => ?_
           · intro x2 x3 x19 x20 x21
             show OKc _ _ [(21, x21), (20, x20), (19, x19), (3, x3), (2, x2)] _ _
             refine cLess [21, 20, 19, 3, 2] ?_
             refine xR hE [2, 3, 19, 20, 21] rfl (graph_Turn_r12_ok F _ _ _ _ _ _) ?_
             intro x2 x3 x19 x20 x21
             show OKq _ _ _ [(21, x21), (20, x20), (19, x19), (3, x3), (2, x2)] _
             exact qLess [21, 20, 19, 3, 2] (hI1 k1 x2 x3 x19 x20 x21)
           · refine rBlock ?_
             refine rSeq ?_
             refine cLess [21, 20, 19, 3, 2] ?_
             refine xR hE [2, 3, 4, 5, 19, 20, 21] rfl (graph_Turn_r6_ok F _ _ _ _ _ _) ?_
             intro x2 x3 x4 x5 x19 x20 x21
             show OKq _ _ _ [(21, x21), (20, x20), (19, x19), (5, x5), (4, x4), (3, x3), (2, x2)] _
             refine rThen ?_
             refine rSeq ?_
             refine cLess [21, 20, 19, 5, 4, 3, 2] ?_
             refine xR hE [2, 3, 4, 19, 20, 21, 26, 27, 28] rfl (graph_Turn_r7_ok F _ _ _ _ _ _ _ _) ?_
             intro x2 x3 x4 x19 x20 x21 x26 x27 x28
             show OKq _ _ _ [(28, x28), (27, x27), (26, x26), (21, x21), (20, x20), (19, x19), (4, x4), (3, x3), (2, x2)] _
             refine rThen ?_
             refine rBlock ?_
             refine cLess [28, 27, 26, 21, 20, 19, 4, 3, 2] ?_
             refine xLoopAt [2, 3, 4, 19, 20, 21, 26, 27, 28] [] (fun k3 => graph_Turn_l3 F (fun x2 x3 x19 x20 x21 => graph_Turn_k2 F (graph_Turn_l1 F (fun x2 x3 => graph_Turn_k0 F x2 x3) k1) x2 x3 x19 x20 x21) k3) F [x2, x3, x4, x19, x20, x21, x26, x27, x28] rfl rfl (fun _ _ _ _ _ _ _ _ _ => rfl) fun I hI3 k3 => ?_
             intro x2 x3 x4 x19 x20 x21 x26 x27 x28
             show OKc _ _ [(28, x28), (27, x27), (26, x26), (21, x21), (20, x20), (19, x19), (4, x4), (3, x3), (2, x2)] _ _
             refine cAs (graph_Turn_l3_s F _ _ _ _ _ _ _ _ _ _ _) ?_
             refine rSeq ?_
             refine cLess [28, 27, 26, 21, 20, 19, 4, 3, 2] ?_
             refine xR hE [2, 3, 4, 19, 20, 21, 26, 27, 28, 29] rfl (graph_Turn_r8_ok F _ _ _ _ _ _ _ _ _ _) ?_
             intro x2 x3 x4 x19 x20 x21 x26 x27 x28 x29
             show OKq _ _ _ [(29, x29), (28, x28), (27, x27), (26, x26), (21, x21), (20, x20), (19, x19), (4, x4), (3, x3), (2, x2)] _
             refine rThen ?_
             refine rSeq ?_
             refine xCond rfl rfl ?_ ?_
             · refine rSkip ?_
               refine rThen ?_
               refine rSeq ?_
               refine rBlock ?_
               refine rSeq ?_
               refine cLess [28, 27, 26, 21, 20, 19, 4, 3, 2] ?_
               refine xR hE [2, 3, 4, 7, 19, 20, 21, 26, 27, 28] rfl (graph_Turn_r9_ok F _ _ _ _ _ _ _ _ _ _) ?_
               intro x2 x3 x4 x7 x19 x20 x21 x26 x27 x28
               show OKq _ _ _ [(28, x28), (27, x27), (26, x26), (21, x21), (20, x20), (19, x19), (7, x7), (4, x4), (3, x3), (2, x2)] _
               refine rThen ?_
               refine cLess [28, 27, 26, 21, 20, 19, 7, 4, 3, 2] ?_
               refine xD Trydmix hE [2, 3, 4, 19, 20, 21, 26, 27, 28] rfl graph_Turn_r10_good (graph_Turn_r10_ok F _ _ _ _ _ _ _ _ _ _ _) ?_
               intro x2 x3 x4 x19 x20 x21 x26 x27 x28
               show OKq _ _ _ [(28, x28), (27, x27), (26, x26), (21, x21), (20, x20), (19, x19), (4, x4), (3, x3), (2, x2)] _
               refine xBlockN ?_
               refine rThen ?_
               refine cLess [28, 27, 26, 21, 20, 19, 4, 3, 2] ?_
               refine xR hE [2, 3, 4, 19, 20, 21, 26, 27, 28] rfl (graph_Turn_r11_ok F _ _ _ _ _ _ _ _ _ _) ?_
               intro x2 x3 x4 x19 x20 x21 x26 x27 x28
               show OKq _ _ _ [(28, x28), (27, x27), (26, x26), (21, x21), (20, x20), (19, x19), (4, x4), (3, x3), (2, x2)] _
               exact qLess [28, 27, 26, 21, 20, 19, 4, 3, 2] (hI3 k3 x2 x3 x4 x19 x20 x21 x26 x27 x28)
             · refine rExit ?_
               refine xThenX ?_
               refine xThenX ?_
               refine rOut ?_
               refine xBlockN ?_
               exact qLess [21, 20, 19, 3, 2] (hj2 x2 x3 x19 x20 x21)
         · refine rExit ?_
           refine xThenX ?_
           refine xThenX ?_
           refine rOut ?_
           exact qLess [3, 2] (hj0 x2 x3)
   · exact rFail


/-! ### (*haruspex/bitset.Set).Len -/

def bitset_Set_Len_env (F : Nat) : Env := envOf [(44, bitset_Set_words_m F), (57, bits_OnesCount64_m F)]

noncomputable def bitset_Set_Len_R (F : Nat) := rK Tryd.prog TrydG (bitset_Set_Len_env F) Tryd.f41
noncomputable def bitset_Set_Len_D (F : Nat) := dK Tryd.prog TrydG (bitset_Set_Len_env F) Tryd.f41

def bitset_Set_Len_r7 (F : Nat) (x3 : Value) (K : Value → M Value) : M Value :=
  K x3

theorem bitset_Set_Len_r7_ok (F : Nat) (x3 : Value) (K : Value → M Value) : bitset_Set_Len_r7 F x3 K = bitset_Set_Len_R F 7 [(3, x3)] [2] K := by kernel_rfl

def bitset_Set_Len_k0 (F : Nat) (x3 : Value) : M Value :=
  bitset_Set_Len_r7 F x3 (fun x2 => ret x2)

def bitset_Set_Len_r6 (F : Nat) (x3 x7 x8 x9 : Value) (K : Value → Value → Value → Value → M Value) : M Value :=
  bnd (opBin .add x9 (.int .i64 (1))) fun v17 => K x3 x7 x8 v17

theorem bitset_Set_Len_r6_ok (F : Nat) (x3 x7 x8 x9 : Value) (K : Value → Value → Value → Value → M Value) : bitset_Set_Len_r6 F x3 x7 x8 x9 K = bitset_Set_Len_R F 6 [(9, x9), (8, x8), (7, x7), (3, x3)] [3, 7, 8, 9] K := by kernel_rfl

def bitset_Set_Len_r5 (F : Nat) (x3 x5 x7 x8 x9 : Value) (K : Value → Value → Value → Value → M Value) : M Value :=
  bnd (bits_OnesCount64 F x5) fun v15 => bnd (opBin .add x3 v15) fun v16 => K v16 x7 x8 x9

theorem bitset_Set_Len_r5_ok (F : Nat) (x3 x5 x7 x8 x9 : Value) (K : Value → Value → Value → Value → M Value) : bitset_Set_Len_r5 F x3 x5 x7 x8 x9 K = bitset_Set_Len_R F 5 [(9, x9), (8, x8), (7, x7), (5, x5), (3, x3)] [3, 7, 8, 9] K := by kernel_rfl

def bitset_Set_Len_r4 (F : Nat) (x3 x7 x8 x9 : Value) (K : Value → Value → Value → Value → Value → M Value) : M Value :=
  bnd (opIndexAddr 1 x7 x9) fun v11 => bnd (opLoad v11) fun v12 => K x3 v12 x7 x8 x9

theorem bitset_Set_Len_r4_ok (F : Nat) (x3 x7 x8 x9 : Value) (K : Value → Value → Value → Value → Value → M Value) : bitset_Set_Len_r4 F x3 x7 x8 x9 K = bitset_Set_Len_R F 4 [(9, x9), (8, x8), (7, x7), (3, x3)] [3, 5, 7, 8, 9] K := by kernel_rfl

def bitset_Set_Len_r3 (F : Nat) (x3 x7 x8 x9 : Value) (K : Value → Value → Value → Value → Value → M Value) : M Value :=
  bnd (opBin .lss x9 x8) fun v10 => K x3 x7 x8 x9 v10

theorem bitset_Set_Len_r3_ok (F : Nat) (x3 x7 x8 x9 : Value) (K : Value → Value → Value → Value → Value → M Value) : bitset_Set_Len_r3 F x3 x7 x8 x9 K = bitset_Set_Len_R F 3 [(9, x9), (8, x8), (7, x7), (3, x3)] [3, 7, 8, 9, 10] K := by kernel_rfl

def bitset_Set_Len_b1 (F : Nat) (E1_0 : Value → M Value) (A1 : Value → Value → Value → Value → M Value) (x3 x7 x8 x9 : Value) : M Value :=
  bitset_Set_Len_r3 F x3 x7 x8 x9 (fun x3 x7 x8 x9 x10 => onB x10 (bitset_Set_Len_r4 F x3 x7 x8 x9 (fun x3 x5 x7 x8 x9 => bitset_Set_Len_r5 F x3 x5 x7 x8 x9 (fun x3 x7 x8 x9 => bitset_Set_Len_r6 F x3 x7 x8 x9 (fun x3 x7 x8 x9 => A1 x3 x7 x8 x9)))) (E1_0 x3))

def bitset_Set_Len_l1 (F : Nat) (E1_0 : Value → M Value) : Nat → Value → Value → Value → Value → M Value
  | 0, _, _, _, _ => fail
  | k1 + 1, x3, x7, x8, x9 => bitset_Set_Len_b1 F E1_0 (bitset_Set_Len_l1 F E1_0 k1) x3 x7 x8 x9

theorem bitset_Set_Len_l1_s (F : Nat) (E1_0 : Value → M Value) (k1 : Nat) (x3 x7 x8 x9 : Value) : bitset_Set_Len_l1 F E1_0 (k1 + 1) x3 x7 x8 x9 = bitset_Set_Len_b1 F E1_0 (bitset_Set_Len_l1 F E1_0 k1) x3 x7 x8 x9 := rfl

def bitset_Set_Len_r2 (F : Nat) (x0 x3 : Value) (K : Value → Value → Value → Value → M Value) : M Value :=
  bnd (bitset_Set_words F x0) fun v7 => bnd (opLen v7) fun v8 => K x3 v7 v8 (.int .i64 (0))

theorem bitset_Set_Len_r2_ok (F : Nat) (x0 x3 : Value) (K : Value → Value → Value → Value → M Value) : bitset_Set_Len_r2 F x0 x3 K = bitset_Set_Len_R F 2 [(3, x3), (0, x0)] [3, 7, 8, 9] K := by kernel_rfl

def bitset_Set_Len_r1 (F : Nat) (x0 : Value) (K : Value → Value → M Value) : M Value :=
  K x0 (.int .i64 (0))

theorem bitset_Set_Len_r1_ok (F : Nat) (x0 : Value) (K : Value → Value → M Value) : bitset_Set_Len_r1 F x0 K = bitset_Set_Len_R F 1 [(0, x0)] [0, 3] K := by kernel_rfl

def bitset_Set_Len_r0 (F : Nat) (x0 : Value) (K : Value → M Value) : M Value :=
  K x0

theorem bitset_Set_Len_r0_ok (F : Nat) (x0 : Value) (K : Value → M Value) : bitset_Set_Len_r0 F x0 K = bitset_Set_Len_R F 0 [(0, x0)] [0] K := by kernel_rfl

def bitset_Set_Len (F : Nat) (x0 : Value) : M Value :=
  bitset_Set_Len_r0 F x0 (fun x0 => bitset_Set_Len_r1 F x0 (fun x0 x3 => bitset_Set_Len_r2 F x0 x3 (fun x3 x7 x8 x9 => bitset_Set_Len_l1 F (fun x3 => bitset_Set_Len_k0 F x3) F x3 x7 x8 x9)))

def bitset_Set_Len_m (F : Nat) : List Value → M Value
  | [x0] => bitset_Set_Len F x0
  | _ => fail

theorem bitset_Set_Len_body : Tryd.f41.body = some (.seq (.region 0 (opsOf Tryd.f41 0) false) (.seq (.region 1 (opsOf Tryd.f41 1) false) (.seq (.seq (.region 2 (opsOf Tryd.f41 2) false) (.block 0 (.loop (.seq (.region 3 (opsOf Tryd.f41 3) false) (.seq (.cond (.tmp 10) .skip (.exit 0)) (.seq (.block 1 (.seq (.region 4 (opsOf Tryd.f41 4) false) (.region 5 (opsOf Tryd.f41 5) false))) (.region 6 (opsOf Tryd.f41 6) false))))))) (.seq (.region 7 (opsOf Tryd.f41 7) false) .ret)))) := by kernel_rfl

theorem bitset_Set_Len_ok (F : Nat) : Sim Tryd.prog TrydG 41 (bitset_Set_Len_m F) := by
 have hE : EnvOK Tryd.prog TrydG (bitset_Set_Len_env F) := (EnvOK.cons (bitset_Set_words_ok F) (EnvOK.cons (bits_OnesCount64_ok F) EnvOK.nil))
 refine Sim.of_body (E := bitset_Set_Len_env F) Tryd.func41 bitset_Set_Len_body Tryd.call41 ?_ ?_
 · intro args hl; unfold bitset_Set_Len_m; split
   · exact absurd hl (Nat.not_lt.2 (Nat.le_of_ble_eq_true rfl))
   · rfl
 · intro args ρ h w z; unfold bitset_Set_Len_m; split
   · rename_i x0; show OKc _ _ [(0, x0)] _ _
     refine rSeq ?_
     refine cLess [0] ?_
     refine xR hE [0] rfl (bitset_Set_Len_r0_ok F _ _) ?_
     intro x0
     show OKq _ _ _ [(0, x0)] _
     refine rThen ?_
     refine rSeq ?_
     refine cLess [0] ?_
     refine xR hE [0, 3] rfl (bitset_Set_Len_r1_ok F _ _) ?_
     intro x0 x3
     show OKq _ _ _ [(3, x3), (0, x0)] _
     refine rThen ?_
     refine xSeq [3] (bitset_Set_Len_k0 F ) ?_ fun hj0 => ?_
     · intro x3
       show OKc _ _ [(3, x3)] _ _
       refine rSeq ?_
       refine cLess [3] ?_
       refine xR hE [2] rfl (bitset_Set_Len_r7_ok F _ _) ?_
       intro x2
       show OKq _ _ _ [(2, x2)] _
       refine rThen ?_
       refine rRet ?_
       exact rDone (.inr rfl) rfl
     · refine rSeq ?_
       refine cLess [3, 0] ?_
       refine xR hE [3, 7, 8, 9] rfl (bitset_Set_Len_r2_ok F _ _ _) ?_
       intro x3 x7 x8 x9
       show OKq _ _ _ [(9, x9), (8, x8), (7, x7), (3, x3)] _
       refine rThen ?_
       refine rBlock ?_
       refine cLess [9, 8, 7, 3] ?_
       refine xLoopAt [3, 7, 8, 9] [] (fun k1 => bitset_Set_Len_l1 F (fun x3 => bitset_Set_Len_k0 F x3) k1) F [x3, x7, x8, x9] rfl rfl (fun _ _ _ _ => rfl) fun I hI1 k1 => ?_
       intro x3 x7 x8 x9
       show OKc _ _ [(9, x9), (8, x8), (7, x7), (3, x3)] _ _
       refine cAs (bitset_Set_Len_l1_s F _ _ _ _ _ _) ?_
       refine rSeq ?_
       refine cLess [9, 8, 7, 3] ?_
       refine xR hE [3, 7, 8, 9, 10] rfl (bitset_Set_Len_r3_ok F _ _ _ _ _) ?_
       intro x3 x7 x8 x9 x10
       show OKq _ _ _ [(10, x10), (9, x9), (8, x8), (7, x7), (3, x3)] _
       refine rThen ?_
       refine rSeq ?_
       refine xCond rfl rfl ?_ ?_
       · refine rSkip ?_
         refine rThen ?_
         refine rSeq ?_
         refine rBlock ?_
         refine rSeq ?_
         refine cLess [9, 8, 7, 3] ?_
         refine xR hE [3, 5, 7, 8, 9] rfl (bitset_Set_Len_r4_ok F _ _ _ _ _) ?_
         intro x3 x5 x7 x8 x9
         show OKq _ _ _ [(9, x9), (8, x8), (7, x7), (5, x5), (3, x3)] _
         refine rThen ?_
         refine cLess [9, 8, 7, 5, 3] ?_
         refine xR hE [3, 7, 8, 9] rfl (bitset_Set_Len_r5_ok F _ _ _ _ _ _) ?_
         intro x3 x7 x8 x9
         show OKq _ _ _ [(9, x9), (8, x8), (7, x7), (3, x3)] _
         refine xBlockN ?_
         refine rThen ?_
         refine cLess [9, 8, 7, 3] ?_
         refine xR hE [3, 7, 8, 9] rfl (bitset_Set_Len_r6_ok F _ _ _ _ _) ?_
         intro x3 x7 x8 x9
         show OKq _ _ _ [(9, x9), (8, x8), (7, x7), (3, x3)] _
         exact qLess [9, 8, 7, 3] (hI1 k1 x3 x7 x8 x9)
       · refine rExit ?_
         refine xThenX ?_
         refine xThenX ?_
         refine rOut ?_
         exact qLess [3] (hj0 x3)
   · exact rFail


/-! ### slices.Contains[[]int,int] -/

def slices_Contains_env (F : Nat) : Env := envOf [(50, slices_Index_m F)]

noncomputable def slices_Contains_R (F : Nat) := rK Tryd.prog TrydG (slices_Contains_env F) Tryd.f46
noncomputable def slices_Contains_D (F : Nat) := dK Tryd.prog TrydG (slices_Contains_env F) Tryd.f46

def slices_Contains_r1 (F : Nat) (x0 x1 : Value) (K : Value → M Value) : M Value :=
  bnd (slices_Index F x0 x1) fun v7 => bnd (opBin .geq v7 (.int .i64 (0))) fun v8 => K v8

theorem slices_Contains_r1_ok (F : Nat) (x0 x1 : Value) (K : Value → M Value) : slices_Contains_r1 F x0 x1 K = slices_Contains_R F 1 [(1, x1), (0, x0)] [4] K := by kernel_rfl

def slices_Contains_r0 (F : Nat) (x0 x1 : Value) (K : Value → Value → M Value) : M Value :=
  K x0 x1

theorem slices_Contains_r0_ok (F : Nat) (x0 x1 : Value) (K : Value → Value → M Value) : slices_Contains_r0 F x0 x1 K = slices_Contains_R F 0 [(1, x1), (0, x0)] [0, 1] K := by kernel_rfl

def slices_Contains (F : Nat) (x0 x1 : Value) : M Value :=
  slices_Contains_r0 F x0 x1 (fun x0 x1 => slices_Contains_r1 F x0 x1 (fun x4 => ret x4))

def slices_Contains_m (F : Nat) : List Value → M Value
  | [x0, x1] => slices_Contains F x0 x1
  | _ => fail

theorem slices_Contains_body : Tryd.f46.body = some (.seq (.region 0 (opsOf Tryd.f46 0) false) (.seq (.region 1 (opsOf Tryd.f46 1) false) .ret)) := by kernel_rfl

theorem slices_Contains_ok (F : Nat) : Sim Tryd.prog TrydG 46 (slices_Contains_m F) := by
 have hE : EnvOK Tryd.prog TrydG (slices_Contains_env F) := (EnvOK.cons (slices_Index_ok F) EnvOK.nil)
 refine Sim.of_body (E := slices_Contains_env F) Tryd.func46 slices_Contains_body Tryd.call46 ?_ ?_
 · intro args hl; unfold slices_Contains_m; split
   · exact absurd hl (Nat.not_lt.2 (Nat.le_of_ble_eq_true rfl))
   · rfl
 · intro args ρ h w z; unfold slices_Contains_m; split
   · rename_i x0 x1; show OKc _ _ [(0, x0), (1, x1)] _ _
     refine rSeq ?_
     refine cLess [1, 0] ?_
     refine xR hE [0, 1] rfl (slices_Contains_r0_ok F _ _ _) ?_
     intro x0 x1
     show OKq _ _ _ [(1, x1), (0, x0)] _
     refine rThen ?_
     refine rSeq ?_
     refine cLess [1, 0] ?_
     refine xR hE [4] rfl (slices_Contains_r1_ok F _ _ _) ?_
     intro x4
     show OKq _ _ _ [(4, x4)] _
     refine rThen ?_
     refine rRet ?_
     exact rDone (.inr rfl) rfl
   · exact rFail



end Go.Fw
