/-
  What functions of this seat come to, and that they do: part 1.
-/
import Derived.Test.YtmkpboaigdnpnaaDoorProg
import Derived.Test.YtmkpboaigdnpnaaDoorFwP
import Derived.KernelRfl
set_option linter.unusedVariables false
set_option maxRecDepth 20000
namespace Go.Fw
open Go.Proofs

-- left: []
def TrydG : Nat := 1
theorem Trydmix : Tryd.prog.follows .mixedOrders = true := by kernel_rfl

/-! ### haruspex/haruspexlaw5.Made -/

def L5_Made_env (F : Nat) : Env := envOf []

noncomputable def L5_Made_R (F : Nat) := rK Tryd.prog TrydG (L5_Made_env F) Tryd.f9
noncomputable def L5_Made_D (F : Nat) := dK Tryd.prog TrydG (L5_Made_env F) Tryd.f9

def L5_Made_r8 (F : Nat) (x4 x5 : Value) (K : Value → M Value) : M Value :=
  bnd (opLoadN 2 x5) fun v62 => bnd (opStoreN 2 x4 v62) fun _ => K x4

theorem L5_Made_r8_ok (F : Nat) (x4 x5 : Value) (K : Value → M Value) : L5_Made_r8 F x4 x5 K = L5_Made_R F 8 [(5, x5), (4, x4)] [4] K := by kernel_rfl

def L5_Made_k0 (F : Nat) (x4 x5 : Value) : M Value :=
  L5_Made_r8 F x4 x5 (fun x4 => bnd (opLoadN 2 x4) fun r0 => ret r0)

def L5_Made_r5 (F : Nat) (x0 x1 x4 x5 x6 : Value) (K : Value → Value → Value → Value → Value → M Value) : M Value :=
  bnd (opBin .add x6 (.int .i64 (1))) fun v27 => K x0 x1 x4 x5 v27

theorem L5_Made_r5_ok (F : Nat) (x0 x1 x4 x5 x6 : Value) (K : Value → Value → Value → Value → Value → M Value) : L5_Made_r5 F x0 x1 x4 x5 x6 K = L5_Made_R F 5 [(6, x6), (5, x5), (4, x4), (1, x1), (0, x0)] [0, 1, 4, 5, 6] K := by kernel_rfl

def L5_Made_r7 (F : Nat) (x0 x1 x4 x5 x6 x7 x8 : Value) (K : Value → Value → Value → Value → Value → M Value) : M Value :=
  bnd (opFieldAddr 1 x5) fun v50 => bnd (opLoad v50) fun v51 => bnd (opFieldAddr 1 x5) fun v53 => bnd (opLoad v53) fun v54 => bnd (opIndexAddr 1 v54 x7) fun v56 => bnd (opLoad v56) fun v57 => bnd (opBuildSlice 1 (rep 1 [(.int .i64 (0))]) [(0, 1, false, x8)]) fun v59 => bnd (opAppend 1 8 v57 v59) fun v60 => bnd (opChk false v50 v51) fun _ => bnd (opIndexAddr 1 v51 x7) fun v61 => bnd (opStore v61 v60) fun _ => K x0 x1 x4 x5 x6

theorem L5_Made_r7_ok (F : Nat) (x0 x1 x4 x5 x6 x7 x8 : Value) (K : Value → Value → Value → Value → Value → M Value) : L5_Made_r7 F x0 x1 x4 x5 x6 x7 x8 K = L5_Made_D F 7 [0, 1, 2, 3, 4, 5, 6, 7, 8, 9, 10, 11, 12] [(8, x8), (7, x7), (6, x6), (5, x5), (4, x4), (1, x1), (0, x0)] [0, 1, 4, 5, 6] K := by kernel_rfl

theorem L5_Made_r7_good : goodOrder (opsOf Tryd.f9 7) [0, 1, 2, 3, 4, 5, 6, 7, 8, 9, 10, 11, 12] = true := by kernel_rfl

def L5_Made_r6 (F : Nat) (x0 x1 x4 x5 x6 : Value) (K : Value → Value → Value → Value → Value → Value → Value → M Value) : M Value :=
  bnd (opIndexAddr 2 x1 x6) fun v30 => bnd (opIndexAddrA 2 1 v30 (.int .i64 (0))) fun v31 => bnd (opLoad v31) fun v32 => bnd (opBin .rem v32 x0) fun v34 => bnd (opBin .add v34 x0) fun v36 => bnd (opBin .rem v36 x0) fun v38 => bnd (opIndexAddr 2 x1 x6) fun v41 => bnd (opIndexAddrA 2 1 v41 (.int .i64 (1))) fun v42 => bnd (opLoad v42) fun v43 => bnd (opBin .rem v43 x0) fun v45 => bnd (opBin .add v45 x0) fun v47 => bnd (opBin .rem v47 x0) fun v49 => K x0 x1 x4 x5 x6 v38 v49

theorem L5_Made_r6_ok (F : Nat) (x0 x1 x4 x5 x6 : Value) (K : Value → Value → Value → Value → Value → Value → Value → M Value) : L5_Made_r6 F x0 x1 x4 x5 x6 K = L5_Made_D F 6 [0, 1, 2, 3, 4, 5, 6, 7, 8, 9, 10, 11, 12, 13, 14, 15, 16, 17, 18, 19, 20, 21, 22, 23] [(6, x6), (5, x5), (4, x4), (1, x1), (0, x0)] [0, 1, 4, 5, 6, 7, 8] K := by kernel_rfl

theorem L5_Made_r6_good : goodOrder (opsOf Tryd.f9 6) [0, 1, 2, 3, 4, 5, 6, 7, 8, 9, 10, 11, 12, 13, 14, 15, 16, 17, 18, 19, 20, 21, 22, 23] = true := by kernel_rfl

def L5_Made_r4 (F : Nat) (x0 x1 x4 x5 x6 : Value) (K : Value → Value → Value → Value → Value → Value → M Value) : M Value :=
  bnd (opLen x1) fun v20 => bnd (opBin .lss x6 v20) fun v21 => onB v21 (bnd (opBin .lss x6 (.int .i64 (80))) fun v24 => K x0 x1 x4 x5 x6 v24) (K x0 x1 x4 x5 x6 (.bool false))

theorem L5_Made_r4_ok (F : Nat) (x0 x1 x4 x5 x6 : Value) (K : Value → Value → Value → Value → Value → Value → M Value) : L5_Made_r4 F x0 x1 x4 x5 x6 K = L5_Made_R F 4 [(6, x6), (5, x5), (4, x4), (1, x1), (0, x0)] [0, 1, 4, 5, 6, 25] K := by kernel_rfl

def L5_Made_b1 (F : Nat) (E1_0 : Value → Value → M Value) (A1 : Value → Value → Value → Value → Value → M Value) (x0 x1 x4 x5 x6 : Value) : M Value :=
  L5_Made_r4 F x0 x1 x4 x5 x6 (fun x0 x1 x4 x5 x6 x25 => onB x25 (L5_Made_r6 F x0 x1 x4 x5 x6 (fun x0 x1 x4 x5 x6 x7 x8 => L5_Made_r7 F x0 x1 x4 x5 x6 x7 x8 (fun x0 x1 x4 x5 x6 => L5_Made_r5 F x0 x1 x4 x5 x6 (fun x0 x1 x4 x5 x6 => A1 x0 x1 x4 x5 x6)))) (E1_0 x4 x5))

def L5_Made_l1 (F : Nat) (E1_0 : Value → Value → M Value) : Nat → Value → Value → Value → Value → Value → M Value
  | 0, _, _, _, _, _ => fail
  | k1 + 1, x0, x1, x4, x5, x6 => L5_Made_b1 F E1_0 (L5_Made_l1 F E1_0 k1) x0 x1 x4 x5 x6

theorem L5_Made_l1_s (F : Nat) (E1_0 : Value → Value → M Value) (k1 : Nat) (x0 x1 x4 x5 x6 : Value) : L5_Made_l1 F E1_0 (k1 + 1) x0 x1 x4 x5 x6 = L5_Made_b1 F E1_0 (L5_Made_l1 F E1_0 k1) x0 x1 x4 x5 x6 := rfl

def L5_Made_r3 (F : Nat) (x0 x1 x4 x5 : Value) (K : Value → Value → Value → Value → Value → M Value) : M Value :=
  K x0 x1 x4 x5 (.int .i64 (0))

theorem L5_Made_r3_ok (F : Nat) (x0 x1 x4 x5 : Value) (K : Value → Value → Value → Value → Value → M Value) : L5_Made_r3 F x0 x1 x4 x5 K = L5_Made_R F 3 [(5, x5), (4, x4), (1, x1), (0, x0)] [0, 1, 4, 5, 6] K := by kernel_rfl

def L5_Made_r2 (F : Nat) (x0 x1 x4 : Value) (K : Value → Value → Value → Value → M Value) : M Value :=
  bnd (opMake 24 [(.slice none 0 0)] x0 x0) fun v16 => bnd (opBuild [(.int .i64 (0)), (.slice none 0 0)] [(0, 1, false, x0), (1, 1, false, v16)]) fun v17 => bnd (opPtr [(.int .i64 (0)), (.slice none 0 0)]) fun v5 => bnd (opStoreN 2 v5 v17) fun _ => K x0 x1 x4 v5

theorem L5_Made_r2_ok (F : Nat) (x0 x1 x4 : Value) (K : Value → Value → Value → Value → M Value) : L5_Made_r2 F x0 x1 x4 K = L5_Made_R F 2 [(4, x4), (1, x1), (0, x0)] [0, 1, 4, 5] K := by kernel_rfl

def L5_Made_r1 (F : Nat) (x0 x1 x4 : Value) (K : Value → Value → Value → M Value) : M Value :=
  bnd (opBin .rem x0 (.int .i64 (25))) fun v10 => bnd (opBin .add v10 (.int .i64 (25))) fun v11 => bnd (opBin .rem v11 (.int .i64 (25))) fun v12 => bnd (opBin .add (.int .i64 (1)) v12) fun v13 => K v13 x1 x4

theorem L5_Made_r1_ok (F : Nat) (x0 x1 x4 : Value) (K : Value → Value → Value → M Value) : L5_Made_r1 F x0 x1 x4 K = L5_Made_R F 1 [(4, x4), (1, x1), (0, x0)] [0, 1, 4] K := by kernel_rfl

def L5_Made_r0 (F : Nat) (x0 x1 : Value) (K : Value → Value → Value → M Value) : M Value :=
  bnd (opPtr [(.int .i64 (0)), (.slice none 0 0)]) fun v4 => K x0 x1 v4

theorem L5_Made_r0_ok (F : Nat) (x0 x1 : Value) (K : Value → Value → Value → M Value) : L5_Made_r0 F x0 x1 K = L5_Made_R F 0 [(1, x1), (0, x0)] [0, 1, 4] K := by kernel_rfl

def L5_Made (F : Nat) (x0 x1 : Value) : M Value :=
  L5_Made_r0 F x0 x1 (fun x0 x1 x4 => L5_Made_r1 F x0 x1 x4 (fun x0 x1 x4 => L5_Made_r2 F x0 x1 x4 (fun x0 x1 x4 x5 => L5_Made_r3 F x0 x1 x4 x5 (fun x0 x1 x4 x5 x6 => L5_Made_l1 F (fun x4 x5 => L5_Made_k0 F x4 x5) F x0 x1 x4 x5 x6))))

def L5_Made_m (F : Nat) : List Value → M Value
  | [x0, x1] => L5_Made F x0 x1
  | _ => fail

theorem L5_Made_body : Tryd.f9.body = some (.seq (.region 0 (opsOf Tryd.f9 0) false) (.seq (.region 1 (opsOf Tryd.f9 1) false) (.seq (.region 2 (opsOf Tryd.f9 2) false) (.seq (.seq (.region 3 (opsOf Tryd.f9 3) false) (.block 0 (.loop (.seq (.seq (.region 4 (opsOf Tryd.f9 4) false) (.cond (.tmp 25) .skip (.exit 0))) (.seq (.block 1 (.seq (.region 6 (opsOf Tryd.f9 6) true) (.region 7 (opsOf Tryd.f9 7) true))) (.region 5 (opsOf Tryd.f9 5) false)))))) (.seq (.region 8 (opsOf Tryd.f9 8) false) .ret))))) := by kernel_rfl

theorem L5_Made_ok (F : Nat) : Sim Tryd.prog TrydG 9 (L5_Made_m F) := by
 have hE : EnvOK Tryd.prog TrydG (L5_Made_env F) := EnvOK.nil
 refine Sim.of_body (E := L5_Made_env F) Tryd.func9 L5_Made_body Tryd.call9 ?_ ?_
 · intro args hl; unfold L5_Made_m; split
   · exact absurd hl (Nat.not_lt.2 (Nat.le_of_ble_eq_true rfl))
   · rfl
 · intro args ρ h w z; unfold L5_Made_m; split
   · rename_i x0 x1; show OKc _ _ [(0, x0), (1, x1)] _ _
     refine rSeq ?_
     refine cLess [1, 0] ?_
     refine xR hE [0, 1, 4] rfl (L5_Made_r0_ok F _ _ _) ?_
     intro x0 x1 x4
     show OKq _ _ _ [(4, x4), (1, x1), (0, x0)] _
     refine rThen ?_
     refine rSeq ?_
     refine cLess [4, 1, 0] ?_
     refine xR hE [0, 1, 4] rfl (L5_Made_r1_ok F _ _ _ _) ?_
     intro x0 x1 x4
     show OKq _ _ _ [(4, x4), (1, x1), (0, x0)] _
     refine rThen ?_
     refine rSeq ?_
     refine cLess [4, 1, 0] ?_
     refine xR hE [0, 1, 4, 5] rfl (L5_Made_r2_ok F _ _ _ _) ?_
     intro x0 x1 x4 x5
     show OKq _ _ _ [(5, x5), (4, x4), (1, x1), (0, x0)] _
     refine rThen ?_
     refine xSeq [4, 5] (L5_Made_k0 F ) ?_ fun hj0 => ?_
     · intro x4 x5
       show OKc _ _ [(5, x5), (4, x4)] _ _
       refine rSeq ?_
       refine cLess [5, 4] ?_
       refine xR hE [4] rfl (L5_Made_r8_ok F _ _ _) ?_
       intro x4
       show OKq _ _ _ [(4, x4)] _
       refine rThen ?_
       refine rRet ?_
       exact rDone (.inr rfl) rfl
     · refine rSeq ?_
       refine cLess [5, 4, 1, 0] ?_
       refine xR hE [0, 1, 4, 5, 6] rfl (L5_Made_r3_ok F _ _ _ _ _) ?_
       intro x0 x1 x4 x5 x6
       show OKq _ _ _ [(6, x6), (5, x5), (4, x4), (1, x1), (0, x0)] _
       refine rThen ?_
       refine rBlock ?_
       refine cLess [6, 5, 4, 1, 0] ?_
       refine xLoopAt [0, 1, 4, 5, 6] [] (fun k1 => L5_Made_l1 F (fun x4 x5 => L5_Made_k0 F x4 x5) k1) F [x0, x1, x4, x5, x6] rfl rfl (fun _ _ _ _ _ => rfl) fun I hI1 k1 => ?_
       intro x0 x1 x4 x5 x6
       show OKc _ _ [(6, x6), (5, x5), (4, x4), (1, x1), (0, x0)] _ _
       refine cAs (L5_Made_l1_s F _ _ _ _ _ _ _) ?_
       refine rSeq ?_
       refine rSeq ?_
       refine cLess [6, 5, 4, 1, 0] ?_
       refine xR hE [0, 1, 4, 5, 6, 25] rfl (L5_Made_r4_ok F _ _ _ _ _ _) ?_
       intro x0 x1 x4 x5 x6 x25
       show OKq _ _ _ [(25, x25), (6, x6), (5, x5), (4, x4), (1, x1), (0, x0)] _
       refine rThen ?_
       refine xCond rfl rfl ?_ ?_
       · refine rSkip ?_
         refine rThen ?_
         refine rSeq ?_
         refine rBlock ?_
         refine rSeq ?_
         refine cLess [6, 5, 4, 1, 0] ?_
         refine xD Trydmix hE [0, 1, 4, 5, 6, 7, 8] rfl L5_Made_r6_good (L5_Made_r6_ok F _ _ _ _ _ _) ?_
         intro x0 x1 x4 x5 x6 x7 x8
         show OKq _ _ _ [(8, x8), (7, x7), (6, x6), (5, x5), (4, x4), (1, x1), (0, x0)] _
         refine rThen ?_
         refine cLess [8, 7, 6, 5, 4, 1, 0] ?_
         refine xD Trydmix hE [0, 1, 4, 5, 6] rfl L5_Made_r7_good (L5_Made_r7_ok F _ _ _ _ _ _ _ _) ?_
         intro x0 x1 x4 x5 x6
         show OKq _ _ _ [(6, x6), (5, x5), (4, x4), (1, x1), (0, x0)] _
         refine xBlockN ?_
         refine rThen ?_
         refine cLess [6, 5, 4, 1, 0] ?_
         refine xR hE [0, 1, 4, 5, 6] rfl (L5_Made_r5_ok F _ _ _ _ _ _) ?_
         intro x0 x1 x4 x5 x6
         show OKq _ _ _ [(6, x6), (5, x5), (4, x4), (1, x1), (0, x0)] _
         exact qLess [6, 5, 4, 1, 0] (hI1 k1 x0 x1 x4 x5 x6)
       · refine rExit ?_
         refine xThenX ?_
         refine xThenX ?_
         refine rOut ?_
         exact qLess [5, 4] (hj0 x4 x5)
   · exact rFail


/-! ### haruspex/haruspexref1.Eq -/

def R1_Eq_env (F : Nat) : Env := envOf []

noncomputable def R1_Eq_R (F : Nat) := rK Tryd.prog TrydG (R1_Eq_env F) Tryd.f12
noncomputable def R1_Eq_D (F : Nat) := dK Tryd.prog TrydG (R1_Eq_env F) Tryd.f12

def R1_Eq_r8 (F : Nat) (K : Value → M Value) : M Value :=
  K (.bool true)

theorem R1_Eq_r8_ok (F : Nat) (K : Value → M Value) : R1_Eq_r8 F K = R1_Eq_R F 8 [] [4] K := by kernel_rfl

def R1_Eq_k0 (F : Nat) : M Value :=
  R1_Eq_r8 F (fun x4 => ret x4)

def R1_Eq_r5 (F : Nat) (x0 x1 x5 : Value) (K : Value → Value → Value → M Value) : M Value :=
  bnd (opBin .add x5 (.int .i64 (1))) fun v16 => K x0 x1 v16

theorem R1_Eq_r5_ok (F : Nat) (x0 x1 x5 : Value) (K : Value → Value → Value → M Value) : R1_Eq_r5 F x0 x1 x5 K = R1_Eq_R F 5 [(5, x5), (1, x1), (0, x0)] [0, 1, 5] K := by kernel_rfl

def R1_Eq_r7 (F : Nat) (K : Value → M Value) : M Value :=
  K (.bool false)

theorem R1_Eq_r7_ok (F : Nat) (K : Value → M Value) : R1_Eq_r7 F K = R1_Eq_R F 7 [] [4] K := by kernel_rfl

def R1_Eq_r6 (F : Nat) (x0 x1 x5 : Value) (K : Value → Value → Value → Value → M Value) : M Value :=
  bnd (opIndexAddr 1 x0 x5) fun v19 => bnd (opLoad v19) fun v20 => bnd (opIndexAddr 1 x1 x5) fun v23 => bnd (opLoad v23) fun v24 => bnd (opBin .neq v20 v24) fun v25 => K x0 x1 x5 v25

theorem R1_Eq_r6_ok (F : Nat) (x0 x1 x5 : Value) (K : Value → Value → Value → Value → M Value) : R1_Eq_r6 F x0 x1 x5 K = R1_Eq_D F 6 [0, 1, 2, 3, 4, 5, 6, 7, 8] [(5, x5), (1, x1), (0, x0)] [0, 1, 5, 25] K := by kernel_rfl

theorem R1_Eq_r6_good : goodOrder (opsOf Tryd.f12 6) [0, 1, 2, 3, 4, 5, 6, 7, 8] = true := by kernel_rfl

def R1_Eq_r4 (F : Nat) (x0 x1 x5 : Value) (K : Value → Value → Value → Value → M Value) : M Value :=
  bnd (opLen x0) fun v13 => bnd (opBin .lss x5 v13) fun v14 => K x0 x1 x5 v14

theorem R1_Eq_r4_ok (F : Nat) (x0 x1 x5 : Value) (K : Value → Value → Value → Value → M Value) : R1_Eq_r4 F x0 x1 x5 K = R1_Eq_R F 4 [(5, x5), (1, x1), (0, x0)] [0, 1, 5, 14] K := by kernel_rfl

def R1_Eq_b1 (F : Nat) (E1_0 : M Value) (A1 : Value → Value → Value → M Value) (x0 x1 x5 : Value) : M Value :=
  R1_Eq_r4 F x0 x1 x5 (fun x0 x1 x5 x14 => onB x14 (R1_Eq_r6 F x0 x1 x5 (fun x0 x1 x5 x25 => onB x25 (R1_Eq_r7 F (fun x4 => ret x4)) (R1_Eq_r5 F x0 x1 x5 (fun x0 x1 x5 => A1 x0 x1 x5)))) (E1_0 ))

def R1_Eq_l1 (F : Nat) (E1_0 : M Value) : Nat → Value → Value → Value → M Value
  | 0, _, _, _ => fail
  | k1 + 1, x0, x1, x5 => R1_Eq_b1 F E1_0 (R1_Eq_l1 F E1_0 k1) x0 x1 x5

theorem R1_Eq_l1_s (F : Nat) (E1_0 : M Value) (k1 : Nat) (x0 x1 x5 : Value) : R1_Eq_l1 F E1_0 (k1 + 1) x0 x1 x5 = R1_Eq_b1 F E1_0 (R1_Eq_l1 F E1_0 k1) x0 x1 x5 := rfl

def R1_Eq_r3 (F : Nat) (x0 x1 : Value) (K : Value → Value → Value → M Value) : M Value :=
  K x0 x1 (.int .i64 (0))

theorem R1_Eq_r3_ok (F : Nat) (x0 x1 : Value) (K : Value → Value → Value → M Value) : R1_Eq_r3 F x0 x1 K = R1_Eq_R F 3 [(1, x1), (0, x0)] [0, 1, 5] K := by kernel_rfl

def R1_Eq_r2 (F : Nat) (K : Value → M Value) : M Value :=
  K (.bool false)

theorem R1_Eq_r2_ok (F : Nat) (K : Value → M Value) : R1_Eq_r2 F K = R1_Eq_R F 2 [] [4] K := by kernel_rfl

def R1_Eq_r1 (F : Nat) (x0 x1 : Value) (K : Value → Value → Value → M Value) : M Value :=
  bnd (opLen x0) fun v7 => bnd (opLen x1) fun v9 => bnd (opBin .neq v7 v9) fun v10 => K x0 x1 v10

theorem R1_Eq_r1_ok (F : Nat) (x0 x1 : Value) (K : Value → Value → Value → M Value) : R1_Eq_r1 F x0 x1 K = R1_Eq_R F 1 [(1, x1), (0, x0)] [0, 1, 10] K := by kernel_rfl

def R1_Eq_r0 (F : Nat) (x0 x1 : Value) (K : Value → Value → M Value) : M Value :=
  K x0 x1

theorem R1_Eq_r0_ok (F : Nat) (x0 x1 : Value) (K : Value → Value → M Value) : R1_Eq_r0 F x0 x1 K = R1_Eq_R F 0 [(1, x1), (0, x0)] [0, 1] K := by kernel_rfl

def R1_Eq (F : Nat) (x0 x1 : Value) : M Value :=
  R1_Eq_r0 F x0 x1 (fun x0 x1 => R1_Eq_r1 F x0 x1 (fun x0 x1 x10 => onB x10 (R1_Eq_r2 F (fun x4 => ret x4)) (R1_Eq_r3 F x0 x1 (fun x0 x1 x5 => R1_Eq_l1 F (R1_Eq_k0 F ) F x0 x1 x5))))

def R1_Eq_m (F : Nat) : List Value → M Value
  | [x0, x1] => R1_Eq F x0 x1
  | _ => fail

theorem R1_Eq_body : Tryd.f12.body = some (.seq (.region 0 (opsOf Tryd.f12 0) false) (.seq (.seq (.region 1 (opsOf Tryd.f12 1) false) (.cond (.tmp 10) (.seq (.region 2 (opsOf Tryd.f12 2) false) .ret) .skip)) (.seq (.seq (.region 3 (opsOf Tryd.f12 3) false) (.block 0 (.loop (.seq (.seq (.region 4 (opsOf Tryd.f12 4) false) (.cond (.tmp 14) .skip (.exit 0))) (.seq (.block 1 (.seq (.region 6 (opsOf Tryd.f12 6) true) (.cond (.tmp 25) (.seq (.region 7 (opsOf Tryd.f12 7) false) .ret) .skip))) (.region 5 (opsOf Tryd.f12 5) false)))))) (.seq (.region 8 (opsOf Tryd.f12 8) false) .ret)))) := by kernel_rfl

theorem R1_Eq_ok (F : Nat) : Sim Tryd.prog TrydG 12 (R1_Eq_m F) := by
 have hE : EnvOK Tryd.prog TrydG (R1_Eq_env F) := EnvOK.nil
 refine Sim.of_body (E := R1_Eq_env F) Tryd.func12 R1_Eq_body Tryd.call12 ?_ ?_
 · intro args hl; unfold R1_Eq_m; split
   · exact absurd hl (Nat.not_lt.2 (Nat.le_of_ble_eq_true rfl))
   · rfl
 · intro args ρ h w z; unfold R1_Eq_m; split
   · rename_i x0 x1; show OKc _ _ [(0, x0), (1, x1)] _ _
     refine rSeq ?_
     refine cLess [1, 0] ?_
     refine xR hE [0, 1] rfl (R1_Eq_r0_ok F _ _ _) ?_
     intro x0 x1
     show OKq _ _ _ [(1, x1), (0, x0)] _
     refine rThen ?_
     refine rSeq ?_
     refine rSeq ?_
     refine cLess [1, 0] ?_
     refine xR hE [0, 1, 10] rfl (R1_Eq_r1_ok F _ _ _) ?_
     intro x0 x1 x10
     show OKq _ _ _ [(10, x10), (1, x1), (0, x0)] _
     refine rThen ?_
     refine xCond rfl rfl ?_ ?_
     · refine rSeq ?_
       refine cLess [] ?_
       refine xR hE [4] rfl (R1_Eq_r2_ok F _) ?_
       intro x4
       show OKq _ _ _ [(4, x4)] _
       refine rThen ?_
       refine rRet ?_
       refine xThenR ?_
       exact rDone (.inr rfl) rfl
     · refine rSkip ?_
       refine rThen ?_
       refine xSeq [] (R1_Eq_k0 F ) ?_ fun hj0 => ?_
       · show OKc _ _ [] _ _
         refine rSeq ?_
         refine cLess [] ?_
         refine xR hE [4] rfl (R1_Eq_r8_ok F _) ?_
         intro x4
         show OKq _ _ _ [(4, x4)] _
         refine rThen ?_
         refine rRet ?_
         exact rDone (.inr rfl) rfl
       · refine rSeq ?_
         refine cLess [1, 0] ?_
         refine xR hE [0, 1, 5] rfl (R1_Eq_r3_ok F _ _ _) ?_
         intro x0 x1 x5
         show OKq _ _ _ [(5, x5), (1, x1), (0, x0)] _
         refine rThen ?_
         refine rBlock ?_
         refine cLess [5, 1, 0] ?_
         refine xLoopAt [0, 1, 5] [] (fun k1 => R1_Eq_l1 F (R1_Eq_k0 F ) k1) F [x0, x1, x5] rfl rfl (fun _ _ _ => rfl) fun I hI1 k1 => ?_
         intro x0 x1 x5
         show OKc _ _ [(5, x5), (1, x1), (0, x0)] _ _
         refine cAs (R1_Eq_l1_s F _ _ _ _ _) ?_
         refine rSeq ?_
         refine rSeq ?_
         refine cLess [5, 1, 0] ?_
         refine xR hE [0, 1, 5, 14] rfl (R1_Eq_r4_ok F _ _ _ _) ?_
         intro x0 x1 x5 x14
         show OKq _ _ _ [(14, x14), (5, x5), (1, x1), (0, x0)] _
         refine rThen ?_
         refine xCond rfl rfl ?_ ?_
         · refine rSkip ?_
           refine rThen ?_
           refine rSeq ?_
           refine rBlock ?_
           refine rSeq ?_
           refine cLess [5, 1, 0] ?_
           refine xD Trydmix hE [0, 1, 5, 25] rfl R1_Eq_r6_good (R1_Eq_r6_ok F _ _ _ _) ?_
           intro x0 x1 x5 x25
           show OKq _ _ _ [(25, x25), (5, x5), (1, x1), (0, x0)] _
           refine rThen ?_
           refine xCond rfl rfl ?_ ?_
           · refine rSeq ?_
             refine cLess [] ?_
             refine xR hE [4] rfl (R1_Eq_r7_ok F _) ?_
             intro x4
             show OKq _ _ _ [(4, x4)] _
             refine rThen ?_
             refine rRet ?_
             refine xBlockR ?_
             refine xThenR ?_
             refine xThenR ?_
             refine xBlockR ?_
             refine xThenR ?_
             exact rDone (.inr rfl) rfl
           · refine rSkip ?_
             refine xBlockN ?_
             refine rThen ?_
             refine cLess [5, 1, 0] ?_
             refine xR hE [0, 1, 5] rfl (R1_Eq_r5_ok F _ _ _ _) ?_
             intro x0 x1 x5
             show OKq _ _ _ [(5, x5), (1, x1), (0, x0)] _
             exact qLess [5, 1, 0] (hI1 k1 x0 x1 x5)
         · refine rExit ?_
           refine xThenX ?_
           refine xThenX ?_
           refine rOut ?_
           exact qLess [] (hj0 )
   · exact rFail


/-! ### haruspex/haruspexref1.In -/

def R1_In_env (F : Nat) : Env := envOf []

noncomputable def R1_In_R (F : Nat) := rK Tryd.prog TrydG (R1_In_env F) Tryd.f14
noncomputable def R1_In_D (F : Nat) := dK Tryd.prog TrydG (R1_In_env F) Tryd.f14

def R1_In_r6 (F : Nat) (K : Value → M Value) : M Value :=
  K (.bool false)

theorem R1_In_r6_ok (F : Nat) (K : Value → M Value) : R1_In_r6 F K = R1_In_R F 6 [] [4] K := by kernel_rfl

def R1_In_k0 (F : Nat) : M Value :=
  R1_In_r6 F (fun x4 => ret x4)

def R1_In_r3 (F : Nat) (x0 x1 x5 : Value) (K : Value → Value → Value → M Value) : M Value :=
  bnd (opBin .add x5 (.int .i64 (1))) fun v11 => K x0 x1 v11

theorem R1_In_r3_ok (F : Nat) (x0 x1 x5 : Value) (K : Value → Value → Value → M Value) : R1_In_r3 F x0 x1 x5 K = R1_In_R F 3 [(5, x5), (1, x1), (0, x0)] [0, 1, 5] K := by kernel_rfl

def R1_In_r5 (F : Nat) (K : Value → M Value) : M Value :=
  K (.bool true)

theorem R1_In_r5_ok (F : Nat) (K : Value → M Value) : R1_In_r5 F K = R1_In_R F 5 [] [4] K := by kernel_rfl

def R1_In_r4 (F : Nat) (x0 x1 x5 : Value) (K : Value → Value → Value → Value → M Value) : M Value :=
  bnd (opIndexAddr 1 x0 x5) fun v14 => bnd (opLoad v14) fun v15 => bnd (opBin .eql v15 x1) fun v17 => K x0 x1 x5 v17

theorem R1_In_r4_ok (F : Nat) (x0 x1 x5 : Value) (K : Value → Value → Value → Value → M Value) : R1_In_r4 F x0 x1 x5 K = R1_In_R F 4 [(5, x5), (1, x1), (0, x0)] [0, 1, 5, 17] K := by kernel_rfl

def R1_In_r2 (F : Nat) (x0 x1 x5 : Value) (K : Value → Value → Value → Value → M Value) : M Value :=
  bnd (opLen x0) fun v8 => bnd (opBin .lss x5 v8) fun v9 => K x0 x1 x5 v9

theorem R1_In_r2_ok (F : Nat) (x0 x1 x5 : Value) (K : Value → Value → Value → Value → M Value) : R1_In_r2 F x0 x1 x5 K = R1_In_R F 2 [(5, x5), (1, x1), (0, x0)] [0, 1, 5, 9] K := by kernel_rfl

def R1_In_b1 (F : Nat) (E1_0 : M Value) (A1 : Value → Value → Value → M Value) (x0 x1 x5 : Value) : M Value :=
  R1_In_r2 F x0 x1 x5 (fun x0 x1 x5 x9 => onB x9 (R1_In_r4 F x0 x1 x5 (fun x0 x1 x5 x17 => onB x17 (R1_In_r5 F (fun x4 => ret x4)) (R1_In_r3 F x0 x1 x5 (fun x0 x1 x5 => A1 x0 x1 x5)))) (E1_0 ))

def R1_In_l1 (F : Nat) (E1_0 : M Value) : Nat → Value → Value → Value → M Value
  | 0, _, _, _ => fail
  | k1 + 1, x0, x1, x5 => R1_In_b1 F E1_0 (R1_In_l1 F E1_0 k1) x0 x1 x5

theorem R1_In_l1_s (F : Nat) (E1_0 : M Value) (k1 : Nat) (x0 x1 x5 : Value) : R1_In_l1 F E1_0 (k1 + 1) x0 x1 x5 = R1_In_b1 F E1_0 (R1_In_l1 F E1_0 k1) x0 x1 x5 := rfl

def R1_In_r1 (F : Nat) (x0 x1 : Value) (K : Value → Value → Value → M Value) : M Value :=
  K x0 x1 (.int .i64 (0))

theorem R1_In_r1_ok (F : Nat) (x0 x1 : Value) (K : Value → Value → Value → M Value) : R1_In_r1 F x0 x1 K = R1_In_R F 1 [(1, x1), (0, x0)] [0, 1, 5] K := by kernel_rfl

def R1_In_r0 (F : Nat) (x0 x1 : Value) (K : Value → Value → M Value) : M Value :=
  K x0 x1

theorem R1_In_r0_ok (F : Nat) (x0 x1 : Value) (K : Value → Value → M Value) : R1_In_r0 F x0 x1 K = R1_In_R F 0 [(1, x1), (0, x0)] [0, 1] K := by kernel_rfl

def R1_In (F : Nat) (x0 x1 : Value) : M Value :=
  R1_In_r0 F x0 x1 (fun x0 x1 => R1_In_r1 F x0 x1 (fun x0 x1 x5 => R1_In_l1 F (R1_In_k0 F ) F x0 x1 x5))

def R1_In_m (F : Nat) : List Value → M Value
  | [x0, x1] => R1_In F x0 x1
  | _ => fail

theorem R1_In_body : Tryd.f14.body = some (.seq (.region 0 (opsOf Tryd.f14 0) false) (.seq (.seq (.region 1 (opsOf Tryd.f14 1) false) (.block 0 (.loop (.seq (.seq (.region 2 (opsOf Tryd.f14 2) false) (.cond (.tmp 9) .skip (.exit 0))) (.seq (.block 1 (.seq (.region 4 (opsOf Tryd.f14 4) false) (.cond (.tmp 17) (.seq (.region 5 (opsOf Tryd.f14 5) false) .ret) .skip))) (.region 3 (opsOf Tryd.f14 3) false)))))) (.seq (.region 6 (opsOf Tryd.f14 6) false) .ret))) := by kernel_rfl

theorem R1_In_ok (F : Nat) : Sim Tryd.prog TrydG 14 (R1_In_m F) := by
 have hE : EnvOK Tryd.prog TrydG (R1_In_env F) := EnvOK.nil
 refine Sim.of_body (E := R1_In_env F) Tryd.func14 R1_In_body Tryd.call14 ?_ ?_
 · intro args hl; unfold R1_In_m; split
   · exact absurd hl (Nat.not_lt.2 (Nat.le_of_ble_eq_true rfl))
   · rfl
 · intro args ρ h w z; unfold R1_In_m; split
   · rename_i x0 x1; show OKc _ _ [(0, x0), (1, x1)] _ _
     refine rSeq ?_
     refine cLess [1, 0] ?_
     refine xR hE [0, 1] rfl (R1_In_r0_ok F _ _ _) ?_
     intro x0 x1
     show OKq _ _ _ [(1, x1), (0, x0)] _
     refine rThen ?_
     refine xSeq [] (R1_In_k0 F ) ?_ fun hj0 => ?_
     · show OKc _ _ [] _ _
       refine rSeq ?_
       refine cLess [] ?_
       refine xR hE [4] rfl (R1_In_r6_ok F _) ?_
       intro x4
       show OKq _ _ _ [(4, x4)] _
       refine rThen ?_
       refine rRet ?_
       exact rDone (.inr rfl) rfl
     · refine rSeq ?_
       refine cLess [1, 0] ?_
       refine xR hE [0, 1, 5] rfl (R1_In_r1_ok F _ _ _) ?_
       intro x0 x1 x5
       show OKq _ _ _ [(5, x5), (1, x1), (0, x0)] _
       refine rThen ?_
       refine rBlock ?_
       refine cLess [5, 1, 0] ?_
       refine xLoopAt [0, 1, 5] [] (fun k1 => R1_In_l1 F (R1_In_k0 F ) k1) F [x0, x1, x5] rfl rfl (fun _ _ _ => rfl) fun I hI1 k1 => ?_
       intro x0 x1 x5
       show OKc _ _ [(5, x5), (1, x1), (0, x0)] _ _
       refine cAs (R1_In_l1_s F _ _ _ _ _) ?_
       refine rSeq ?_
       refine rSeq ?_
       refine cLess [5, 1, 0] ?_
       refine xR hE [0, 1, 5, 9] rfl (R1_In_r2_ok F _ _ _ _) ?_
       intro x0 x1 x5 x9
       show OKq _ _ _ [(9, x9), (5, x5), (1, x1), (0, x0)] _
       refine rThen ?_
       refine xCond rfl rfl ?_ ?_
       · refine rSkip ?_
         refine rThen ?_
         refine rSeq ?_
         refine rBlock ?_
         refine rSeq ?_
         refine cLess [5, 1, 0] ?_
         refine xR hE [0, 1, 5, 17] rfl (R1_In_r4_ok F _ _ _ _) ?_
         intro x0 x1 x5 x17
         show OKq _ _ _ [(17, x17), (5, x5), (1, x1), (0, x0)] _
         refine rThen ?_
         refine xCond rfl rfl ?_ ?_
         · refine rSeq ?_
           refine cLess [] ?_
           refine xR hE [4] rfl (R1_In_r5_ok F _) ?_
           intro x4
           show OKq _ _ _ [(4, x4)] _
           refine rThen ?_
           refine rRet ?_
           refine xBlockR ?_
           refine xThenR ?_
           refine xThenR ?_
           refine xBlockR ?_
           refine xThenR ?_
           exact rDone (.inr rfl) rfl
         · refine rSkip ?_
           refine xBlockN ?_
           refine rThen ?_
           refine cLess [5, 1, 0] ?_
           refine xR hE [0, 1, 5] rfl (R1_In_r3_ok F _ _ _ _) ?_
           intro x0 x1 x5
           show OKq _ _ _ [(5, x5), (1, x1), (0, x0)] _
           exact qLess [5, 1, 0] (hI1 k1 x0 x1 x5)
       · refine rExit ?_
         refine xThenX ?_
         refine xThenX ?_
         refine rOut ?_
         exact qLess [] (hj0 )
   · exact rFail


/-! ### haruspex/haruspexref1.Reach -/

def R1_Reach_env (F : Nat) : Env := envOf []

noncomputable def R1_Reach_R (F : Nat) := rK Tryd.prog TrydG (R1_Reach_env F) Tryd.f18
noncomputable def R1_Reach_D (F : Nat) := dK Tryd.prog TrydG (R1_Reach_env F) Tryd.f18

def R1_Reach_r20 (F : Nat) (x7 : Value) (K : Value → M Value) : M Value :=
  K x7

theorem R1_Reach_r20_ok (F : Nat) (x7 : Value) (K : Value → M Value) : R1_Reach_r20 F x7 K = R1_Reach_R F 20 [(7, x7)] [6] K := by kernel_rfl

def R1_Reach_k0 (F : Nat) (x7 : Value) : M Value :=
  R1_Reach_r20 F x7 (fun x6 => ret x6)

def R1_Reach_r15 (F : Nat) (x0 x2 x7 x8 x11 x12 : Value) (K : Value → Value → Value → Value → Value → Value → M Value) : M Value :=
  bnd (opBin .add x12 (.int .i64 (1))) fun v70 => K x0 x2 x7 x8 x11 v70

theorem R1_Reach_r15_ok (F : Nat) (x0 x2 x7 x8 x11 x12 : Value) (K : Value → Value → Value → Value → Value → Value → M Value) : R1_Reach_r15 F x0 x2 x7 x8 x11 x12 K = R1_Reach_R F 15 [(12, x12), (11, x11), (8, x8), (7, x7), (2, x2), (0, x0)] [0, 2, 7, 8, 11, 12] K := by kernel_rfl

def R1_Reach_k3 (F : Nat) (A2 : Value → Value → Value → Value → Value → Value → M Value) (x0 x2 x7 x8 x11 x12 : Value) : M Value :=
  R1_Reach_r15 F x0 x2 x7 x8 x11 x12 (fun x0 x2 x7 x8 x11 x12 => A2 x0 x2 x7 x8 x11 x12)

def R1_Reach_r19 (F : Nat) (x0 x2 x7 x8 x11 x12 x13 : Value) (K : Value → Value → Value → Value → Value → Value → M Value) : M Value :=
  bnd (opBuildSlice 1 (rep 1 [(.int .i64 (0))]) [(0, 1, false, x13)]) fun v93 => bnd (opAppend 1 8 x8 v93) fun v94 => K x0 x2 x7 v94 x11 x12

theorem R1_Reach_r19_ok (F : Nat) (x0 x2 x7 x8 x11 x12 x13 : Value) (K : Value → Value → Value → Value → Value → Value → M Value) : R1_Reach_r19 F x0 x2 x7 x8 x11 x12 x13 K = R1_Reach_R F 19 [(13, x13), (12, x12), (11, x11), (8, x8), (7, x7), (2, x2), (0, x0)] [0, 2, 7, 8, 11, 12] K := by kernel_rfl

def R1_Reach_r18 (F : Nat) (x0 x2 x7 x8 x11 x12 x13 : Value) (K : Value → Value → Value → Value → Value → Value → Value → M Value) : M Value :=
  bnd (opIndexAddr 1 x7 x13) fun v90 => bnd (opStore v90 (.bool true)) fun _ => K x0 x2 x7 x8 x11 x12 x13

theorem R1_Reach_r18_ok (F : Nat) (x0 x2 x7 x8 x11 x12 x13 : Value) (K : Value → Value → Value → Value → Value → Value → Value → M Value) : R1_Reach_r18 F x0 x2 x7 x8 x11 x12 x13 K = R1_Reach_R F 18 [(13, x13), (12, x12), (11, x11), (8, x8), (7, x7), (2, x2), (0, x0)] [0, 2, 7, 8, 11, 12, 13] K := by kernel_rfl

def R1_Reach_r17 (F : Nat) (x0 x2 x7 x8 x11 x12 x13 : Value) (K : Value → Value → Value → Value → Value → Value → Value → Value → M Value) : M Value :=
  bnd (opIndexAddr 1 x7 x13) fun v80 => bnd (opLoad v80) fun v81 => bnd (opNot v81) fun v82 => onB v82 (bnd (opBin .neq x13 x2) fun v86 => K x0 x2 x7 x8 x11 x12 x13 v86) (K x0 x2 x7 x8 x11 x12 x13 (.bool false))

theorem R1_Reach_r17_ok (F : Nat) (x0 x2 x7 x8 x11 x12 x13 : Value) (K : Value → Value → Value → Value → Value → Value → Value → Value → M Value) : R1_Reach_r17 F x0 x2 x7 x8 x11 x12 x13 K = R1_Reach_R F 17 [(13, x13), (12, x12), (11, x11), (8, x8), (7, x7), (2, x2), (0, x0)] [0, 2, 7, 8, 11, 12, 13, 87] K := by kernel_rfl

def R1_Reach_r16 (F : Nat) (x0 x2 x7 x8 x11 x12 : Value) (K : Value → Value → Value → Value → Value → Value → Value → M Value) : M Value :=
  bnd (opIndexAddr 1 x0 x11) fun v73 => bnd (opLoad v73) fun v74 => bnd (opIndexAddr 1 v74 x12) fun v76 => bnd (opLoad v76) fun v77 => K x0 x2 x7 x8 x11 x12 v77

theorem R1_Reach_r16_ok (F : Nat) (x0 x2 x7 x8 x11 x12 : Value) (K : Value → Value → Value → Value → Value → Value → Value → M Value) : R1_Reach_r16 F x0 x2 x7 x8 x11 x12 K = R1_Reach_R F 16 [(12, x12), (11, x11), (8, x8), (7, x7), (2, x2), (0, x0)] [0, 2, 7, 8, 11, 12, 13] K := by kernel_rfl

def R1_Reach_r14 (F : Nat) (x0 x2 x7 x8 x11 x12 : Value) (K : Value → Value → Value → Value → Value → Value → Value → M Value) : M Value :=
  bnd (opIndexAddr 1 x0 x11) fun v65 => bnd (opLoad v65) fun v66 => bnd (opLen v66) fun v67 => bnd (opBin .lss x12 v67) fun v68 => K x0 x2 x7 x8 x11 x12 v68

theorem R1_Reach_r14_ok (F : Nat) (x0 x2 x7 x8 x11 x12 : Value) (K : Value → Value → Value → Value → Value → Value → Value → M Value) : R1_Reach_r14 F x0 x2 x7 x8 x11 x12 K = R1_Reach_R F 14 [(12, x12), (11, x11), (8, x8), (7, x7), (2, x2), (0, x0)] [0, 2, 7, 8, 11, 12, 68] K := by kernel_rfl

def R1_Reach_b2 (F : Nat) (E2_4 : Value → Value → Value → Value → M Value) (A2 : Value → Value → Value → Value → Value → Value → M Value) (x0 x2 x7 x8 x11 x12 : Value) : M Value :=
  R1_Reach_r14 F x0 x2 x7 x8 x11 x12 (fun x0 x2 x7 x8 x11 x12 x68 => onB x68 (R1_Reach_r16 F x0 x2 x7 x8 x11 x12 (fun x0 x2 x7 x8 x11 x12 x13 => R1_Reach_r17 F x0 x2 x7 x8 x11 x12 x13 (fun x0 x2 x7 x8 x11 x12 x13 x87 => onB x87 (R1_Reach_r18 F x0 x2 x7 x8 x11 x12 x13 (fun x0 x2 x7 x8 x11 x12 x13 => R1_Reach_r19 F x0 x2 x7 x8 x11 x12 x13 (fun x0 x2 x7 x8 x11 x12 => R1_Reach_k3 F A2 x0 x2 x7 x8 x11 x12))) (R1_Reach_k3 F A2 x0 x2 x7 x8 x11 x12)))) (E2_4 x0 x2 x7 x8))

def R1_Reach_l2 (F : Nat) (E2_4 : Value → Value → Value → Value → M Value) : Nat → Value → Value → Value → Value → Value → Value → M Value
  | 0, _, _, _, _, _, _ => fail
  | k2 + 1, x0, x2, x7, x8, x11, x12 => R1_Reach_b2 F E2_4 (R1_Reach_l2 F E2_4 k2) x0 x2 x7 x8 x11 x12

theorem R1_Reach_l2_s (F : Nat) (E2_4 : Value → Value → Value → Value → M Value) (k2 : Nat) (x0 x2 x7 x8 x11 x12 : Value) : R1_Reach_l2 F E2_4 (k2 + 1) x0 x2 x7 x8 x11 x12 = R1_Reach_b2 F E2_4 (R1_Reach_l2 F E2_4 k2) x0 x2 x7 x8 x11 x12 := rfl

def R1_Reach_r13 (F : Nat) (x0 x2 x7 x8 x11 : Value) (K : Value → Value → Value → Value → Value → Value → M Value) : M Value :=
  K x0 x2 x7 x8 x11 (.int .i64 (0))

theorem R1_Reach_r13_ok (F : Nat) (x0 x2 x7 x8 x11 : Value) (K : Value → Value → Value → Value → Value → Value → M Value) : R1_Reach_r13 F x0 x2 x7 x8 x11 K = R1_Reach_R F 13 [(11, x11), (8, x8), (7, x7), (2, x2), (0, x0)] [0, 2, 7, 8, 11, 12] K := by kernel_rfl

def R1_Reach_r12 (F : Nat) (x0 x2 x7 x8 x11 : Value) (K : Value → Value → Value → Value → Value → M Value) : M Value :=
  bnd (opSlice 1 x8 (some (.int .i64 (1))) none none) fun v61 => K x0 x2 x7 v61 x11

theorem R1_Reach_r12_ok (F : Nat) (x0 x2 x7 x8 x11 : Value) (K : Value → Value → Value → Value → Value → M Value) : R1_Reach_r12 F x0 x2 x7 x8 x11 K = R1_Reach_R F 12 [(11, x11), (8, x8), (7, x7), (2, x2), (0, x0)] [0, 2, 7, 8, 11] K := by kernel_rfl

def R1_Reach_r11 (F : Nat) (x0 x2 x7 x8 : Value) (K : Value → Value → Value → Value → Value → M Value) : M Value :=
  bnd (opIndexAddr 1 x8 (.int .i64 (0))) fun v58 => bnd (opLoad v58) fun v59 => K x0 x2 x7 x8 v59

theorem R1_Reach_r11_ok (F : Nat) (x0 x2 x7 x8 : Value) (K : Value → Value → Value → Value → Value → M Value) : R1_Reach_r11 F x0 x2 x7 x8 K = R1_Reach_R F 11 [(8, x8), (7, x7), (2, x2), (0, x0)] [0, 2, 7, 8, 11] K := by kernel_rfl

def R1_Reach_r10 (F : Nat) (x0 x2 x7 x8 : Value) (K : Value → Value → Value → Value → Value → M Value) : M Value :=
  bnd (opLen x8) fun v55 => bnd (opBin .gtr v55 (.int .i64 (0))) fun v56 => K x0 x2 x7 x8 v56

theorem R1_Reach_r10_ok (F : Nat) (x0 x2 x7 x8 : Value) (K : Value → Value → Value → Value → Value → M Value) : R1_Reach_r10 F x0 x2 x7 x8 K = R1_Reach_R F 10 [(8, x8), (7, x7), (2, x2), (0, x0)] [0, 2, 7, 8, 56] K := by kernel_rfl

def R1_Reach_b1 (F : Nat) (E1_2 : Value → M Value) (A1 : Value → Value → Value → Value → M Value) (x0 x2 x7 x8 : Value) : M Value :=
  R1_Reach_r10 F x0 x2 x7 x8 (fun x0 x2 x7 x8 x56 => onB x56 (R1_Reach_r11 F x0 x2 x7 x8 (fun x0 x2 x7 x8 x11 => R1_Reach_r12 F x0 x2 x7 x8 x11 (fun x0 x2 x7 x8 x11 => R1_Reach_r13 F x0 x2 x7 x8 x11 (fun x0 x2 x7 x8 x11 x12 => R1_Reach_l2 F (fun x0 x2 x7 x8 => A1 x0 x2 x7 x8) F x0 x2 x7 x8 x11 x12)))) (E1_2 x7))

def R1_Reach_l1 (F : Nat) (E1_2 : Value → M Value) : Nat → Value → Value → Value → Value → M Value
  | 0, _, _, _, _ => fail
  | k1 + 1, x0, x2, x7, x8 => R1_Reach_b1 F E1_2 (R1_Reach_l1 F E1_2 k1) x0 x2 x7 x8

theorem R1_Reach_l1_s (F : Nat) (E1_2 : Value → M Value) (k1 : Nat) (x0 x2 x7 x8 : Value) : R1_Reach_l1 F E1_2 (k1 + 1) x0 x2 x7 x8 = R1_Reach_b1 F E1_2 (R1_Reach_l1 F E1_2 k1) x0 x2 x7 x8 := rfl

def R1_Reach_k4 (F : Nat) (x0 x2 x7 x8 : Value) : M Value :=
  R1_Reach_l1 F (fun x7 => R1_Reach_k0 F x7) F x0 x2 x7 x8

def R1_Reach_r5 (F : Nat) (x0 x1 x2 x7 x8 x9 : Value) (K : Value → Value → Value → Value → Value → Value → M Value) : M Value :=
  bnd (opBin .add x9 (.int .i64 (1))) fun v22 => K x0 x1 x2 x7 x8 v22

theorem R1_Reach_r5_ok (F : Nat) (x0 x1 x2 x7 x8 x9 : Value) (K : Value → Value → Value → Value → Value → Value → M Value) : R1_Reach_r5 F x0 x1 x2 x7 x8 x9 K = R1_Reach_R F 5 [(9, x9), (8, x8), (7, x7), (2, x2), (1, x1), (0, x0)] [0, 1, 2, 7, 8, 9] K := by kernel_rfl

def R1_Reach_k6 (F : Nat) (A5 : Value → Value → Value → Value → Value → Value → M Value) (x0 x1 x2 x7 x8 x9 : Value) : M Value :=
  R1_Reach_r5 F x0 x1 x2 x7 x8 x9 (fun x0 x1 x2 x7 x8 x9 => A5 x0 x1 x2 x7 x8 x9)

def R1_Reach_r9 (F : Nat) (x0 x1 x2 x7 x8 x9 x10 : Value) (K : Value → Value → Value → Value → Value → Value → M Value) : M Value :=
  bnd (opBuildSlice 1 (rep 1 [(.int .i64 (0))]) [(0, 1, false, x10)]) fun v52 => bnd (opAppend 1 8 x8 v52) fun v53 => K x0 x1 x2 x7 v53 x9

theorem R1_Reach_r9_ok (F : Nat) (x0 x1 x2 x7 x8 x9 x10 : Value) (K : Value → Value → Value → Value → Value → Value → M Value) : R1_Reach_r9 F x0 x1 x2 x7 x8 x9 x10 K = R1_Reach_R F 9 [(10, x10), (9, x9), (8, x8), (7, x7), (2, x2), (1, x1), (0, x0)] [0, 1, 2, 7, 8, 9] K := by kernel_rfl

def R1_Reach_r8 (F : Nat) (x0 x1 x2 x7 x8 x9 x10 : Value) (K : Value → Value → Value → Value → Value → Value → Value → M Value) : M Value :=
  bnd (opIndexAddr 1 x7 x10) fun v49 => bnd (opStore v49 (.bool true)) fun _ => K x0 x1 x2 x7 x8 x9 x10

theorem R1_Reach_r8_ok (F : Nat) (x0 x1 x2 x7 x8 x9 x10 : Value) (K : Value → Value → Value → Value → Value → Value → Value → M Value) : R1_Reach_r8 F x0 x1 x2 x7 x8 x9 x10 K = R1_Reach_R F 8 [(10, x10), (9, x9), (8, x8), (7, x7), (2, x2), (1, x1), (0, x0)] [0, 1, 2, 7, 8, 9, 10] K := by kernel_rfl

def R1_Reach_r7 (F : Nat) (x0 x1 x2 x7 x8 x9 x10 : Value) (K : Value → Value → Value → Value → Value → Value → Value → Value → M Value) : M Value :=
  bnd (opBin .geq x10 (.int .i64 (0))) fun v28 => onB v28 (bnd (opLen x0) fun v32 => bnd (opBin .lss x10 v32) fun v33 => onB v33 (bnd (opIndexAddr 1 x7 x10) fun v38 => bnd (opLoad v38) fun v39 => bnd (opNot v39) fun v40 => onB v40 (bnd (opBin .neq x10 x2) fun v45 => K x0 x1 x2 x7 x8 x9 x10 v45) (K x0 x1 x2 x7 x8 x9 x10 (.bool false))) (K x0 x1 x2 x7 x8 x9 x10 (.bool false))) (K x0 x1 x2 x7 x8 x9 x10 (.bool false))

theorem R1_Reach_r7_ok (F : Nat) (x0 x1 x2 x7 x8 x9 x10 : Value) (K : Value → Value → Value → Value → Value → Value → Value → Value → M Value) : R1_Reach_r7 F x0 x1 x2 x7 x8 x9 x10 K = R1_Reach_R F 7 [(10, x10), (9, x9), (8, x8), (7, x7), (2, x2), (1, x1), (0, x0)] [0, 1, 2, 7, 8, 9, 10, 46] K := by kernel_rfl

def R1_Reach_r6 (F : Nat) (x0 x1 x2 x7 x8 x9 : Value) (K : Value → Value → Value → Value → Value → Value → Value → M Value) : M Value :=
  bnd (opIndexAddr 1 x1 x9) fun v25 => bnd (opLoad v25) fun v26 => K x0 x1 x2 x7 x8 x9 v26

theorem R1_Reach_r6_ok (F : Nat) (x0 x1 x2 x7 x8 x9 : Value) (K : Value → Value → Value → Value → Value → Value → Value → M Value) : R1_Reach_r6 F x0 x1 x2 x7 x8 x9 K = R1_Reach_R F 6 [(9, x9), (8, x8), (7, x7), (2, x2), (1, x1), (0, x0)] [0, 1, 2, 7, 8, 9, 10] K := by kernel_rfl

def R1_Reach_r4 (F : Nat) (x0 x1 x2 x7 x8 x9 : Value) (K : Value → Value → Value → Value → Value → Value → Value → M Value) : M Value :=
  bnd (opLen x1) fun v19 => bnd (opBin .lss x9 v19) fun v20 => K x0 x1 x2 x7 x8 x9 v20

theorem R1_Reach_r4_ok (F : Nat) (x0 x1 x2 x7 x8 x9 : Value) (K : Value → Value → Value → Value → Value → Value → Value → M Value) : R1_Reach_r4 F x0 x1 x2 x7 x8 x9 K = R1_Reach_R F 4 [(9, x9), (8, x8), (7, x7), (2, x2), (1, x1), (0, x0)] [0, 1, 2, 7, 8, 9, 20] K := by kernel_rfl

def R1_Reach_b5 (F : Nat) (E5_0 : Value → Value → Value → Value → M Value) (A5 : Value → Value → Value → Value → Value → Value → M Value) (x0 x1 x2 x7 x8 x9 : Value) : M Value :=
  R1_Reach_r4 F x0 x1 x2 x7 x8 x9 (fun x0 x1 x2 x7 x8 x9 x20 => onB x20 (R1_Reach_r6 F x0 x1 x2 x7 x8 x9 (fun x0 x1 x2 x7 x8 x9 x10 => R1_Reach_r7 F x0 x1 x2 x7 x8 x9 x10 (fun x0 x1 x2 x7 x8 x9 x10 x46 => onB x46 (R1_Reach_r8 F x0 x1 x2 x7 x8 x9 x10 (fun x0 x1 x2 x7 x8 x9 x10 => R1_Reach_r9 F x0 x1 x2 x7 x8 x9 x10 (fun x0 x1 x2 x7 x8 x9 => R1_Reach_k6 F A5 x0 x1 x2 x7 x8 x9))) (R1_Reach_k6 F A5 x0 x1 x2 x7 x8 x9)))) (E5_0 x0 x2 x7 x8))

def R1_Reach_l5 (F : Nat) (E5_0 : Value → Value → Value → Value → M Value) : Nat → Value → Value → Value → Value → Value → Value → M Value
  | 0, _, _, _, _, _, _ => fail
  | k5 + 1, x0, x1, x2, x7, x8, x9 => R1_Reach_b5 F E5_0 (R1_Reach_l5 F E5_0 k5) x0 x1 x2 x7 x8 x9

theorem R1_Reach_l5_s (F : Nat) (E5_0 : Value → Value → Value → Value → M Value) (k5 : Nat) (x0 x1 x2 x7 x8 x9 : Value) : R1_Reach_l5 F E5_0 (k5 + 1) x0 x1 x2 x7 x8 x9 = R1_Reach_b5 F E5_0 (R1_Reach_l5 F E5_0 k5) x0 x1 x2 x7 x8 x9 := rfl

def R1_Reach_r3 (F : Nat) (x0 x1 x2 x7 x8 : Value) (K : Value → Value → Value → Value → Value → Value → M Value) : M Value :=
  K x0 x1 x2 x7 x8 (.int .i64 (0))

theorem R1_Reach_r3_ok (F : Nat) (x0 x1 x2 x7 x8 : Value) (K : Value → Value → Value → Value → Value → Value → M Value) : R1_Reach_r3 F x0 x1 x2 x7 x8 K = R1_Reach_R F 3 [(8, x8), (7, x7), (2, x2), (1, x1), (0, x0)] [0, 1, 2, 7, 8, 9] K := by kernel_rfl

def R1_Reach_r2 (F : Nat) (x0 x1 x2 x7 : Value) (K : Value → Value → Value → Value → Value → M Value) : M Value :=
  K x0 x1 x2 x7 (.slice none 0 0)

theorem R1_Reach_r2_ok (F : Nat) (x0 x1 x2 x7 : Value) (K : Value → Value → Value → Value → Value → M Value) : R1_Reach_r2 F x0 x1 x2 x7 K = R1_Reach_R F 2 [(7, x7), (2, x2), (1, x1), (0, x0)] [0, 1, 2, 7, 8] K := by kernel_rfl

def R1_Reach_r1 (F : Nat) (x0 x1 x2 : Value) (K : Value → Value → Value → Value → M Value) : M Value :=
  bnd (opLen x0) fun v15 => bnd (opMake 1 [(.bool false)] v15 v15) fun v16 => K x0 x1 x2 v16

theorem R1_Reach_r1_ok (F : Nat) (x0 x1 x2 : Value) (K : Value → Value → Value → Value → M Value) : R1_Reach_r1 F x0 x1 x2 K = R1_Reach_R F 1 [(2, x2), (1, x1), (0, x0)] [0, 1, 2, 7] K := by kernel_rfl

def R1_Reach_r0 (F : Nat) (x0 x1 x2 : Value) (K : Value → Value → Value → M Value) : M Value :=
  K x0 x1 x2

theorem R1_Reach_r0_ok (F : Nat) (x0 x1 x2 : Value) (K : Value → Value → Value → M Value) : R1_Reach_r0 F x0 x1 x2 K = R1_Reach_R F 0 [(2, x2), (1, x1), (0, x0)] [0, 1, 2] K := by kernel_rfl

def R1_Reach (F : Nat) (x0 x1 x2 : Value) : M Value :=
  R1_Reach_r0 F x0 x1 x2 (fun x0 x1 x2 => R1_Reach_r1 F x0 x1 x2 (fun x0 x1 x2 x7 => R1_Reach_r2 F x0 x1 x2 x7 (fun x0 x1 x2 x7 x8 => R1_Reach_r3 F x0 x1 x2 x7 x8 (fun x0 x1 x2 x7 x8 x9 => R1_Reach_l5 F (fun x0 x2 x7 x8 => R1_Reach_k4 F x0 x2 x7 x8) F x0 x1 x2 x7 x8 x9))))

def R1_Reach_m (F : Nat) : List Value → M Value
  | [x0, x1, x2] => R1_Reach F x0 x1 x2
  | _ => fail

theorem R1_Reach_body : Tryd.f18.body = some (.seq (.region 0 (opsOf Tryd.f18 0) false) (.seq (.region 1 (opsOf Tryd.f18 1) false) (.seq (.region 2 (opsOf Tryd.f18 2) false) (.seq (.seq (.region 3 (opsOf Tryd.f18 3) false) (.block 0 (.loop (.seq (.seq (.region 4 (opsOf Tryd.f18 4) false) (.cond (.tmp 20) .skip (.exit 0))) (.seq (.block 1 (.seq (.region 6 (opsOf Tryd.f18 6) false) (.seq (.region 7 (opsOf Tryd.f18 7) false) (.cond (.tmp 46) (.seq (.region 8 (opsOf Tryd.f18 8) false) (.region 9 (opsOf Tryd.f18 9) false)) .skip)))) (.region 5 (opsOf Tryd.f18 5) false)))))) (.seq (.block 2 (.loop (.seq (.seq (.region 10 (opsOf Tryd.f18 10) false) (.cond (.tmp 56) .skip (.exit 2))) (.block 3 (.seq (.region 11 (opsOf Tryd.f18 11) false) (.seq (.region 12 (opsOf Tryd.f18 12) false) (.seq (.region 13 (opsOf Tryd.f18 13) false) (.block 4 (.loop (.seq (.seq (.region 14 (opsOf Tryd.f18 14) false) (.cond (.tmp 68) .skip (.exit 4))) (.seq (.block 5 (.seq (.region 16 (opsOf Tryd.f18 16) false) (.seq (.region 17 (opsOf Tryd.f18 17) false) (.cond (.tmp 87) (.seq (.region 18 (opsOf Tryd.f18 18) false) (.region 19 (opsOf Tryd.f18 19) false)) .skip)))) (.region 15 (opsOf Tryd.f18 15) false)))))))))))) (.seq (.region 20 (opsOf Tryd.f18 20) false) .ret)))))) := by kernel_rfl

theorem R1_Reach_ok (F : Nat) : Sim Tryd.prog TrydG 18 (R1_Reach_m F) := by
 have hE : EnvOK Tryd.prog TrydG (R1_Reach_env F) := EnvOK.nil
 refine Sim.of_body (E := R1_Reach_env F) Tryd.func18 R1_Reach_body Tryd.call18 ?_ ?_
 · intro args hl; unfold R1_Reach_m; split
   · exact absurd hl (Nat.not_lt.2 (Nat.le_of_ble_eq_true rfl))
   · rfl
 · intro args ρ h w z; unfold R1_Reach_m; split
   · rename_i x0 x1 x2; show OKc _ _ [(0, x0), (1, x1), (2, x2)] _ _
     refine rSeq ?_
     refine cLess [2, 1, 0] ?_
     refine xR hE [0, 1, 2] rfl (R1_Reach_r0_ok F _ _ _ _) ?_
     intro x0 x1 x2
     show OKq _ _ _ [(2, x2), (1, x1), (0, x0)] _
     refine rThen ?_
     refine rSeq ?_
     refine cLess [2, 1, 0] ?_
     refine xR hE [0, 1, 2, 7] rfl (R1_Reach_r1_ok F _ _ _ _) ?_
     intro x0 x1 x2 x7
     show OKq _ _ _ [(7, x7), (2, x2), (1, x1), (0, x0)] _
     refine rThen ?_
     refine rSeq ?_
     refine cLess [7, 2, 1, 0] ?_
     refine xR hE [0, 1, 2, 7, 8] rfl (R1_Reach_r2_ok F _ _ _ _ _) ?_
     intro x0 x1 x2 x7 x8
     show OKq _ _ _ [(8, x8), (7, x7), (2, x2), (1, x1), (0, x0)] _
     refine rThen ?_
     refine xSeq [0, 2, 7, 8] (R1_Reach_k4 F ) ?_ fun hj4 => ?_
     · intro x0 x2 x7 x8
       show OKc _ _ [(8, x8), (7, x7), (2, x2), (0, x0)] _ _
       refine xSeq [7] (R1_Reach_k0 F ) ?_ fun hj0 => ?_
       · intro x7
         show OKc _ _ [(7, x7)] _ _
         refine rSeq ?_
         refine cLess [7] ?_
         refine xR hE [6] rfl (R1_Reach_r20_ok F _ _) ?_
         intro x6
         show OKq _ _ _ [(6, x6)] _
         refine rThen ?_
         refine rRet ?_
         exact rDone (.inr rfl) rfl
       · refine rBlock ?_
         refine cLess [8, 7, 2, 0] ?_
         refine xLoopAt [0, 2, 7, 8] [] (fun k1 => R1_Reach_l1 F (fun x7 => R1_Reach_k0 F x7) k1) F [x0, x2, x7, x8] rfl rfl (fun _ _ _ _ => rfl) fun I hI1 k1 => ?_
         intro x0 x2 x7 x8
         show OKc _ _ [(8, x8), (7, x7), (2, x2), (0, x0)] _ _
         refine cAs (R1_Reach_l1_s F _ _ _ _ _ _) ?_
         refine rSeq ?_
         refine rSeq ?_
         refine cLess [8, 7, 2, 0] ?_
         refine xR hE [0, 2, 7, 8, 56] rfl (R1_Reach_r10_ok F _ _ _ _ _) ?_
         intro x0 x2 x7 x8 x56
         show OKq _ _ _ [(56, x56), (8, x8), (7, x7), (2, x2), (0, x0)] _
         refine rThen ?_
         refine xCond rfl rfl ?_ ?_
         · refine rSkip ?_
           refine rThen ?_
           refine rBlock ?_
           refine rSeq ?_
           refine cLess [8, 7, 2, 0] ?_
           refine xR hE [0, 2, 7, 8, 11] rfl (R1_Reach_r11_ok F _ _ _ _ _) ?_
           intro x0 x2 x7 x8 x11
           show OKq _ _ _ [(11, x11), (8, x8), (7, x7), (2, x2), (0, x0)] _
           refine rThen ?_
           refine rSeq ?_
           refine cLess [11, 8, 7, 2, 0] ?_
           refine xR hE [0, 2, 7, 8, 11] rfl (R1_Reach_r12_ok F _ _ _ _ _ _) ?_
           intro x0 x2 x7 x8 x11
           show OKq _ _ _ [(11, x11), (8, x8), (7, x7), (2, x2), (0, x0)] _
           refine rThen ?_
           refine rSeq ?_
           refine cLess [11, 8, 7, 2, 0] ?_
           refine xR hE [0, 2, 7, 8, 11, 12] rfl (R1_Reach_r13_ok F _ _ _ _ _ _) ?_
           intro x0 x2 x7 x8 x11 x12
           show OKq _ _ _ [(12, x12), (11, x11), (8, x8), (7, x7), (2, x2), (0, x0)] _
           refine rThen ?_
           refine rBlock ?_
           refine cLess [12, 11, 8, 7, 2, 0] ?_
           refine xLoopAt [0, 2, 7, 8, 11, 12] [] (fun k2 => R1_Reach_l2 F (fun x0 x2 x7 x8 => (R1_Reach_l1 F (fun x7 => R1_Reach_k0 F x7) k1) x0 x2 x7 x8) k2) F [x0, x2, x7, x8, x11, x12] rfl rfl (fun _ _ _ _ _ _ => rfl) fun I hI2 k2 => ?_
           intro x0 x2 x7 x8 x11 x12
           show OKc _ _ [(12, x12), (11, x11), (8, x8), (7, x7), (2, x2), (0, x0)] _ _
           refine cAs (R1_Reach_l2_s F _ _ _ _ _ _ _ _) ?_
           refine rSeq ?_
           refine rSeq ?_
           refine cLess [12, 11, 8, 7, 2, 0] ?_
           refine xR hE [0, 2, 7, 8, 11, 12, 68] rfl (R1_Reach_r14_ok F _ _ _ _ _ _ _) ?_
           intro x0 x2 x7 x8 x11 x12 x68
           show OKq _ _ _ [(68, x68), (12, x12), (11, x11), (8, x8), (7, x7), (2, x2), (0, x0)] _
           refine rThen ?_
           refine xCond rfl rfl ?_ ?_
           · refine rSkip ?_
             refine rThen ?_
             refine xSeq [0, 2, 7, 8, 11, 12] (R1_Reach_k3 F (R1_Reach_l2 F (fun x0 x2 x7 x8 => (R1_Reach_l1 F (fun x7 => R1_Reach_k0 F x7) k1) x0 x2 x7 x8) k2) ) ?_ fun hj3 => ?_
             · intro x0 x2 x7 x8 x11 x12
               show OKc _ _ [(12, x12), (11, x11), (8, x8), (7, x7), (2, x2), (0, x0)] _ _
               refine cLess [12, 11, 8, 7, 2, 0] ?_
               refine xR hE [0, 2, 7, 8, 11, 12] rfl (R1_Reach_r15_ok F _ _ _ _ _ _ _) ?_
               intro x0 x2 x7 x8 x11 x12
               show OKq _ _ _ [(12, x12), (11, x11), (8, x8), (7, x7), (2, x2), (0, x0)] _
               exact qLess [12, 11, 8, 7, 2, 0] (hI2 k2 x0 x2 x7 x8 x11 x12)
             · refine rBlock ?_
               refine rSeq ?_
               refine cLess [12, 11, 8, 7, 2, 0] ?_
               refine xR hE [0, 2, 7, 8, 11, 12, 13] rfl (R1_Reach_r16_ok F _ _ _ _ _ _ _) ?_
               intro x0 x2 x7 x8 x11 x12 x13
               show OKq _ _ _ [(13, x13), (12, x12), (11, x11), (8, x8), (7, x7), (2, x2), (0, x0)] _
               refine rThen ?_
               refine rSeq ?_
               refine cLess [13, 12, 11, 8, 7, 2, 0] ?_
               refine xR hE [0, 2, 7, 8, 11, 12, 13, 87] rfl (R1_Reach_r17_ok F _ _ _ _ _ _ _ _) ?_
               intro x0 x2 x7 x8 x11 x12 x13 x87
               show OKq _ _ _ [(87, x87), (13, x13), (12, x12), (11, x11), (8, x8), (7, x7), (2, x2), (0, x0)] _
               refine rThen ?_
               refine xCond rfl rfl ?_ ?_
               · refine rSeq ?_
                 refine cLess [13, 12, 11, 8, 7, 2, 0] ?_
                 refine xR hE [0, 2, 7, 8, 11, 12, 13] rfl (R1_Reach_r18_ok F _ _ _ _ _ _ _ _) ?_
                 intro x0 x2 x7 x8 x11 x12 x13
                 show OKq _ _ _ [(13, x13), (12, x12), (11, x11), (8, x8), (7, x7), (2, x2), (0, x0)] _
                 refine rThen ?_
                 refine cLess [13, 12, 11, 8, 7, 2, 0] ?_
                 refine xR hE [0, 2, 7, 8, 11, 12] rfl (R1_Reach_r19_ok F _ _ _ _ _ _ _ _) ?_
                 intro x0 x2 x7 x8 x11 x12
                 show OKq _ _ _ [(12, x12), (11, x11), (8, x8), (7, x7), (2, x2), (0, x0)] _
                 refine xBlockN ?_
                 exact qLess [12, 11, 8, 7, 2, 0] (hj3 x0 x2 x7 x8 x11 x12)
               · refine rSkip ?_
                 refine xBlockN ?_
                 exact qLess [12, 11, 8, 7, 2, 0] (hj3 x0 x2 x7 x8 x11 x12)
           · refine rExit ?_
             refine xThenX ?_
             refine xThenX ?_
             refine rOut ?_
             refine xBlockN ?_
             exact qLess [8, 7, 2, 0] (hI1 k1 x0 x2 x7 x8)
         · refine rExit ?_
           refine xThenX ?_
           refine xThenX ?_
           refine rOut ?_
           exact qLess [7] (hj0 x7)
     · refine rSeq ?_
       refine cLess [8, 7, 2, 1, 0] ?_
       refine xR hE [0, 1, 2, 7, 8, 9] rfl (R1_Reach_r3_ok F _ _ _ _ _ _) ?_
       intro x0 x1 x2 x7 x8 x9
       show OKq _ _ _ [(9, x9), (8, x8), (7, x7), (2, x2), (1, x1), (0, x0)] _
       refine rThen ?_
       refine rBlock ?_
       refine cLess [9, 8, 7, 2, 1, 0] ?_
       refine xLoopAt [0, 1, 2, 7, 8, 9] [] (fun k5 => R1_Reach_l5 F (fun x0 x2 x7 x8 => R1_Reach_k4 F x0 x2 x7 x8) k5) F [x0, x1, x2, x7, x8, x9] rfl rfl (fun _ _ _ _ _ _ => rfl) fun I hI5 k5 => ?_
       intro x0 x1 x2 x7 x8 x9
       show OKc _ _ [(9, x9), (8, x8), (7, x7), (2, x2), (1, x1), (0, x0)] _ _
       refine cAs (R1_Reach_l5_s F _ _ _ _ _ _ _ _) ?_
       refine rSeq ?_
       refine rSeq ?_
       refine cLess [9, 8, 7, 2, 1, 0] ?_
       refine xR hE [0, 1, 2, 7, 8, 9, 20] rfl (R1_Reach_r4_ok F _ _ _ _ _ _ _) ?_
       intro x0 x1 x2 x7 x8 x9 x20
       show OKq _ _ _ [(20, x20), (9, x9), (8, x8), (7, x7), (2, x2), (1, x1), (0, x0)] _
       refine rThen ?_
       refine xCond rfl rfl ?_ ?_
       · refine rSkip ?_
         refine rThen ?_
         refine xSeq [0, 1, 2, 7, 8, 9] (R1_Reach_k6 F (R1_Reach_l5 F (fun x0 x2 x7 x8 => R1_Reach_k4 F x0 x2 x7 x8) k5) ) ?_ fun hj6 => ?_
         · intro x0 x1 x2 x7 x8 x9
           show OKc _ _ [(9, x9), (8, x8), (7, x7), (2, x2), (1, x1), (0, x0)] _ _
           refine cLess [9, 8, 7, 2, 1, 0] ?_
           refine xR hE [0, 1, 2, 7, 8, 9] rfl (R1_Reach_r5_ok F _ _ _ _ _ _ _) ?_
           intro x0 x1 x2 x7 x8 x9
           show OKq _ _ _ [(9, x9), (8, x8), (7, x7), (2, x2), (1, x1), (0, x0)] _
           exact qLess [9, 8, 7, 2, 1, 0] (hI5 k5 x0 x1 x2 x7 x8 x9)
         · refine rBlock ?_
           refine rSeq ?_
           refine cLess [9, 8, 7, 2, 1, 0] ?_
           refine xR hE [0, 1, 2, 7, 8, 9, 10] rfl (R1_Reach_r6_ok F _ _ _ _ _ _ _) ?_
           intro x0 x1 x2 x7 x8 x9 x10
           show OKq _ _ _ [(10, x10), (9, x9), (8, x8), (7, x7), (2, x2), (1, x1), (0, x0)] _
           refine rThen ?_
           refine rSeq ?_
           refine cLess [10, 9, 8, 7, 2, 1, 0] ?_
           refine xR hE [0, 1, 2, 7, 8, 9, 10, 46] rfl (R1_Reach_r7_ok F _ _ _ _ _ _ _ _) ?_
           intro x0 x1 x2 x7 x8 x9 x10 x46
           show OKq _ _ _ [(46, x46), (10, x10), (9, x9), (8, x8), (7, x7), (2, x2), (1, x1), (0, x0)] _
           refine rThen ?_
           refine xCond rfl rfl ?_ ?_
           · refine rSeq ?_
             refine cLess [10, 9, 8, 7, 2, 1, 0] ?_
             refine xR hE [0, 1, 2, 7, 8, 9, 10] rfl (R1_Reach_r8_ok F _ _ _ _ _ _ _ _) ?_
             intro x0 x1 x2 x7 x8 x9 x10
             show OKq _ _ _ [(10, x10), (9, x9), (8, x8), (7, x7), (2, x2), (1, x1), (0, x0)] _
             refine rThen ?_
             refine cLess [10, 9, 8, 7, 2, 1, 0] ?_
             refine xR hE [0, 1, 2, 7, 8, 9] rfl (R1_Reach_r9_ok F _ _ _ _ _ _ _ _) ?_
             intro x0 x1 x2 x7 x8 x9
             show OKq _ _ _ [(9, x9), (8, x8), (7, x7), (2, x2), (1, x1), (0, x0)] _
             refine xBlockN ?_
             exact qLess [9, 8, 7, 2, 1, 0] (hj6 x0 x1 x2 x7 x8 x9)
           · refine rSkip ?_
             refine xBlockN ?_
             exact qLess [9, 8, 7, 2, 1, 0] (hj6 x0 x1 x2 x7 x8 x9)
       · refine rExit ?_
         refine xThenX ?_
         refine xThenX ?_
         refine rOut ?_
         exact qLess [8, 7, 2, 0] (hj4 x0 x2 x7 x8)
   · exact rFail


/-! ### (*haruspex/bitset.Set).words -/

def bitset_Set_words_env (F : Nat) : Env := envOf []

noncomputable def bitset_Set_words_R (F : Nat) := rK Tryd.prog TrydG (bitset_Set_words_env F) Tryd.f28
noncomputable def bitset_Set_words_D (F : Nat) := dK Tryd.prog TrydG (bitset_Set_words_env F) Tryd.f28

def bitset_Set_words_r3 (F : Nat) (x0 : Value) (K : Value → M Value) : M Value :=
  bnd (opNil x0) fun v6 => bnd (opFieldAddr 0 v6) fun v7 => bnd (opLoad v7) fun v8 => K v8

theorem bitset_Set_words_r3_ok (F : Nat) (x0 : Value) (K : Value → M Value) : bitset_Set_words_r3 F x0 K = bitset_Set_words_R F 3 [(0, x0)] [2] K := by kernel_rfl

def bitset_Set_words_r2 (F : Nat) (K : Value → M Value) : M Value :=
  K (.slice none 0 0)

theorem bitset_Set_words_r2_ok (F : Nat) (K : Value → M Value) : bitset_Set_words_r2 F K = bitset_Set_words_R F 2 [] [2] K := by kernel_rfl

def bitset_Set_words_r1 (F : Nat) (x0 : Value) (K : Value → Value → M Value) : M Value :=
  bnd (opEq eqP false x0 (.pointer none)) fun v4 => K x0 v4

theorem bitset_Set_words_r1_ok (F : Nat) (x0 : Value) (K : Value → Value → M Value) : bitset_Set_words_r1 F x0 K = bitset_Set_words_R F 1 [(0, x0)] [0, 4] K := by kernel_rfl

def bitset_Set_words_r0 (F : Nat) (x0 : Value) (K : Value → M Value) : M Value :=
  K x0

theorem bitset_Set_words_r0_ok (F : Nat) (x0 : Value) (K : Value → M Value) : bitset_Set_words_r0 F x0 K = bitset_Set_words_R F 0 [(0, x0)] [0] K := by kernel_rfl

def bitset_Set_words (F : Nat) (x0 : Value) : M Value :=
  bitset_Set_words_r0 F x0 (fun x0 => bitset_Set_words_r1 F x0 (fun x0 x4 => onB x4 (bitset_Set_words_r2 F (fun x2 => ret x2)) (bitset_Set_words_r3 F x0 (fun x2 => ret x2))))

def bitset_Set_words_m (F : Nat) : List Value → M Value
  | [x0] => bitset_Set_words F x0
  | _ => fail

theorem bitset_Set_words_body : Tryd.f28.body = some (.seq (.region 0 (opsOf Tryd.f28 0) false) (.seq (.seq (.region 1 (opsOf Tryd.f28 1) false) (.cond (.tmp 4) (.seq (.region 2 (opsOf Tryd.f28 2) false) .ret) .skip)) (.seq (.region 3 (opsOf Tryd.f28 3) false) .ret))) := by kernel_rfl

theorem bitset_Set_words_ok (F : Nat) : Sim Tryd.prog TrydG 28 (bitset_Set_words_m F) := by
 have hE : EnvOK Tryd.prog TrydG (bitset_Set_words_env F) := EnvOK.nil
 refine Sim.of_body (E := bitset_Set_words_env F) Tryd.func28 bitset_Set_words_body Tryd.call28 ?_ ?_
 · intro args hl; unfold bitset_Set_words_m; split
   · exact absurd hl (Nat.not_lt.2 (Nat.le_of_ble_eq_true rfl))
   · rfl
 · intro args ρ h w z; unfold bitset_Set_words_m; split
   · rename_i x0; show OKc _ _ [(0, x0)] _ _
     refine rSeq ?_
     refine cLess [0] ?_
     refine xR hE [0] rfl (bitset_Set_words_r0_ok F _ _) ?_
     intro x0
     show OKq _ _ _ [(0, x0)] _
     refine rThen ?_
     refine rSeq ?_
     refine rSeq ?_
     refine cLess [0] ?_
     refine xR hE [0, 4] rfl (bitset_Set_words_r1_ok F _ _) ?_
     intro x0 x4
     show OKq _ _ _ [(4, x4), (0, x0)] _
     refine rThen ?_
     refine xCond rfl rfl ?_ ?_
     · refine rSeq ?_
       refine cLess [] ?_
       refine xR hE [2] rfl (bitset_Set_words_r2_ok F _) ?_
       intro x2
       show OKq _ _ _ [(2, x2)] _
       refine rThen ?_
       refine rRet ?_
       refine xThenR ?_
       exact rDone (.inr rfl) rfl
     · refine rSkip ?_
       refine rThen ?_
       refine rSeq ?_
       refine cLess [0] ?_
       refine xR hE [2] rfl (bitset_Set_words_r3_ok F _ _) ?_
       intro x2
       show OKq _ _ _ [(2, x2)] _
       refine rThen ?_
       refine rRet ?_
       exact rDone (.inr rfl) rfl
   · exact rFail


/-! ### math/bits.TrailingZeros64 -/

def bits_TrailingZeros64_env (F : Nat) : Env := envOf []

noncomputable def bits_TrailingZeros64_R (F : Nat) := rK Tryd.prog TrydG (bits_TrailingZeros64_env F) Tryd.f29
noncomputable def bits_TrailingZeros64_D (F : Nat) := dK Tryd.prog TrydG (bits_TrailingZeros64_env F) Tryd.f29

def bits_TrailingZeros64_r3 (F : Nat) (x0 : Value) (K : Value → M Value) : M Value :=
  bnd (opNeg x0) fun v7 => bnd (opBin .and x0 v7) fun v8 => bnd (opBin .mul v8 (.int .u64 (285870213051353865))) fun v9 => bnd (opBin .shr v9 (.int .u64 (58))) fun v10 => bnd (opIndexAddrA 64 1 (.pointer (some ⟨0, 0, none⟩)) v10) fun v11 => bnd (opLoad v11) fun v12 => bnd (opConv .i64 v12) fun v13 => K v13

theorem bits_TrailingZeros64_r3_ok (F : Nat) (x0 : Value) (K : Value → M Value) : bits_TrailingZeros64_r3 F x0 K = bits_TrailingZeros64_R F 3 [(0, x0)] [2] K := by kernel_rfl

def bits_TrailingZeros64_r2 (F : Nat) (K : Value → M Value) : M Value :=
  K (.int .i64 (64))

theorem bits_TrailingZeros64_r2_ok (F : Nat) (K : Value → M Value) : bits_TrailingZeros64_r2 F K = bits_TrailingZeros64_R F 2 [] [2] K := by kernel_rfl

def bits_TrailingZeros64_r1 (F : Nat) (x0 : Value) (K : Value → Value → M Value) : M Value :=
  bnd (opBin .eql x0 (.int .u64 (0))) fun v4 => K x0 v4

theorem bits_TrailingZeros64_r1_ok (F : Nat) (x0 : Value) (K : Value → Value → M Value) : bits_TrailingZeros64_r1 F x0 K = bits_TrailingZeros64_R F 1 [(0, x0)] [0, 4] K := by kernel_rfl

def bits_TrailingZeros64_r0 (F : Nat) (x0 : Value) (K : Value → M Value) : M Value :=
  K x0

theorem bits_TrailingZeros64_r0_ok (F : Nat) (x0 : Value) (K : Value → M Value) : bits_TrailingZeros64_r0 F x0 K = bits_TrailingZeros64_R F 0 [(0, x0)] [0] K := by kernel_rfl

def bits_TrailingZeros64 (F : Nat) (x0 : Value) : M Value :=
  bits_TrailingZeros64_r0 F x0 (fun x0 => bits_TrailingZeros64_r1 F x0 (fun x0 x4 => onB x4 (bits_TrailingZeros64_r2 F (fun x2 => ret x2)) (bits_TrailingZeros64_r3 F x0 (fun x2 => ret x2))))

def bits_TrailingZeros64_m (F : Nat) : List Value → M Value
  | [x0] => bits_TrailingZeros64 F x0
  | _ => fail

theorem bits_TrailingZeros64_body : Tryd.f29.body = some (.seq (.region 0 (opsOf Tryd.f29 0) false) (.seq (.seq (.region 1 (opsOf Tryd.f29 1) false) (.cond (.tmp 4) (.seq (.region 2 (opsOf Tryd.f29 2) false) .ret) .skip)) (.seq (.region 3 (opsOf Tryd.f29 3) false) .ret))) := by kernel_rfl

theorem bits_TrailingZeros64_ok (F : Nat) : Sim Tryd.prog TrydG 29 (bits_TrailingZeros64_m F) := by
 have hE : EnvOK Tryd.prog TrydG (bits_TrailingZeros64_env F) := EnvOK.nil
 refine Sim.of_body (E := bits_TrailingZeros64_env F) Tryd.func29 bits_TrailingZeros64_body Tryd.call29 ?_ ?_
 · intro args hl; unfold bits_TrailingZeros64_m; split
   · exact absurd hl (Nat.not_lt.2 (Nat.le_of_ble_eq_true rfl))
   · rfl
 · intro args ρ h w z; unfold bits_TrailingZeros64_m; split
   · rename_i x0; show OKc _ _ [(0, x0)] _ _
     refine rSeq ?_
     refine cLess [0] ?_
     refine xR hE [0] rfl (bits_TrailingZeros64_r0_ok F _ _) ?_
     intro x0
     show OKq _ _ _ [(0, x0)] _
     refine rThen ?_
     refine rSeq ?_
     refine rSeq ?_
     refine cLess [0] ?_
     refine xR hE [0, 4] rfl (bits_TrailingZeros64_r1_ok F _ _) ?_
     intro x0 x4
     show OKq _ _ _ [(4, x4), (0, x0)] _
     refine rThen ?_
     refine xCond rfl rfl ?_ ?_
     · refine rSeq ?_
       refine cLess [] ?_
       refine xR hE [2] rfl (bits_TrailingZeros64_r2_ok F _) ?_
       intro x2
       show OKq _ _ _ [(2, x2)] _
       refine rThen ?_
       refine rRet ?_
       refine xThenR ?_
       exact rDone (.inr rfl) rfl
     · refine rSkip ?_
       refine rThen ?_
       refine rSeq ?_
       refine cLess [0] ?_
       refine xR hE [2] rfl (bits_TrailingZeros64_r3_ok F _ _) ?_
       intro x2
       show OKq _ _ _ [(2, x2)] _
       refine rThen ?_
       refine rRet ?_
       exact rDone (.inr rfl) rfl
   · exact rFail


/-! ### haruspex/dom.meet -/

def dom_meet_env (F : Nat) : Env := envOf []

noncomputable def dom_meet_R (F : Nat) := rK Tryd.prog TrydG (dom_meet_env F) Tryd.f32
noncomputable def dom_meet_D (F : Nat) := dK Tryd.prog TrydG (dom_meet_env F) Tryd.f32

def dom_meet_r7 (F : Nat) (x2 : Value) (K : Value → M Value) : M Value :=
  K x2

theorem dom_meet_r7_ok (F : Nat) (x2 : Value) (K : Value → M Value) : dom_meet_r7 F x2 K = dom_meet_R F 7 [(2, x2)] [8] K := by kernel_rfl

def dom_meet_k0 (F : Nat) (x2 : Value) : M Value :=
  dom_meet_r7 F x2 (fun x8 => ret x8)

def dom_meet_r5 (F : Nat) (x0 x1 x2 x3 : Value) (K : Value → Value → Value → Value → M Value) : M Value :=
  bnd (opIndexAddr 1 x0 x2) fun v26 => bnd (opLoad v26) fun v27 => K x0 x1 v27 x3

theorem dom_meet_r5_ok (F : Nat) (x0 x1 x2 x3 : Value) (K : Value → Value → Value → Value → M Value) : dom_meet_r5 F x0 x1 x2 x3 K = dom_meet_R F 5 [(3, x3), (2, x2), (1, x1), (0, x0)] [0, 1, 2, 3] K := by kernel_rfl

def dom_meet_r6 (F : Nat) (x0 x1 x2 x3 : Value) (K : Value → Value → Value → Value → M Value) : M Value :=
  bnd (opIndexAddr 1 x0 x3) fun v30 => bnd (opLoad v30) fun v31 => K x0 x1 x2 v31

theorem dom_meet_r6_ok (F : Nat) (x0 x1 x2 x3 : Value) (K : Value → Value → Value → Value → M Value) : dom_meet_r6 F x0 x1 x2 x3 K = dom_meet_R F 6 [(3, x3), (2, x2), (1, x1), (0, x0)] [0, 1, 2, 3] K := by kernel_rfl

def dom_meet_r4 (F : Nat) (x0 x1 x2 x3 : Value) (K : Value → Value → Value → Value → Value → M Value) : M Value :=
  bnd (opIndexAddr 1 x1 x2) fun v17 => bnd (opLoad v17) fun v18 => bnd (opIndexAddr 1 x1 x3) fun v21 => bnd (opLoad v21) fun v22 => bnd (opBin .gtr v18 v22) fun v23 => K x0 x1 x2 x3 v23

theorem dom_meet_r4_ok (F : Nat) (x0 x1 x2 x3 : Value) (K : Value → Value → Value → Value → Value → M Value) : dom_meet_r4 F x0 x1 x2 x3 K = dom_meet_D F 4 [0, 1, 2, 3, 4, 5, 6, 7, 8] [(3, x3), (2, x2), (1, x1), (0, x0)] [0, 1, 2, 3, 23] K := by kernel_rfl

theorem dom_meet_r4_good : goodOrder (opsOf Tryd.f32 4) [0, 1, 2, 3, 4, 5, 6, 7, 8] = true := by kernel_rfl

def dom_meet_r3 (F : Nat) (x0 x1 x2 x3 : Value) (K : Value → Value → Value → Value → Value → M Value) : M Value :=
  bnd (opBin .neq x2 x3) fun v14 => K x0 x1 x2 x3 v14

theorem dom_meet_r3_ok (F : Nat) (x0 x1 x2 x3 : Value) (K : Value → Value → Value → Value → Value → M Value) : dom_meet_r3 F x0 x1 x2 x3 K = dom_meet_R F 3 [(3, x3), (2, x2), (1, x1), (0, x0)] [0, 1, 2, 3, 14] K := by kernel_rfl

def dom_meet_b1 (F : Nat) (E1_0 : Value → M Value) (A1 : Value → Value → Value → Value → M Value) (x0 x1 x2 x3 : Value) : M Value :=
  dom_meet_r3 F x0 x1 x2 x3 (fun x0 x1 x2 x3 x14 => onB x14 (dom_meet_r4 F x0 x1 x2 x3 (fun x0 x1 x2 x3 x23 => onB x23 (dom_meet_r5 F x0 x1 x2 x3 (fun x0 x1 x2 x3 => A1 x0 x1 x2 x3)) (dom_meet_r6 F x0 x1 x2 x3 (fun x0 x1 x2 x3 => A1 x0 x1 x2 x3)))) (E1_0 x2))

def dom_meet_l1 (F : Nat) (E1_0 : Value → M Value) : Nat → Value → Value → Value → Value → M Value
  | 0, _, _, _, _ => fail
  | k1 + 1, x0, x1, x2, x3 => dom_meet_b1 F E1_0 (dom_meet_l1 F E1_0 k1) x0 x1 x2 x3

theorem dom_meet_l1_s (F : Nat) (E1_0 : Value → M Value) (k1 : Nat) (x0 x1 x2 x3 : Value) : dom_meet_l1 F E1_0 (k1 + 1) x0 x1 x2 x3 = dom_meet_b1 F E1_0 (dom_meet_l1 F E1_0 k1) x0 x1 x2 x3 := rfl

def dom_meet_r2 (F : Nat) (x3 : Value) (K : Value → M Value) : M Value :=
  K x3

theorem dom_meet_r2_ok (F : Nat) (x3 : Value) (K : Value → M Value) : dom_meet_r2 F x3 K = dom_meet_R F 2 [(3, x3)] [8] K := by kernel_rfl

def dom_meet_r1 (F : Nat) (x0 x1 x2 x3 : Value) (K : Value → Value → Value → Value → Value → M Value) : M Value :=
  bnd (opBin .lss x2 (.int .i64 (0))) fun v10 => K x0 x1 x2 x3 v10

theorem dom_meet_r1_ok (F : Nat) (x0 x1 x2 x3 : Value) (K : Value → Value → Value → Value → Value → M Value) : dom_meet_r1 F x0 x1 x2 x3 K = dom_meet_R F 1 [(3, x3), (2, x2), (1, x1), (0, x0)] [0, 1, 2, 3, 10] K := by kernel_rfl

def dom_meet_r0 (F : Nat) (x0 x1 x2 x3 : Value) (K : Value → Value → Value → Value → M Value) : M Value :=
  K x0 x1 x2 x3

theorem dom_meet_r0_ok (F : Nat) (x0 x1 x2 x3 : Value) (K : Value → Value → Value → Value → M Value) : dom_meet_r0 F x0 x1 x2 x3 K = dom_meet_R F 0 [(3, x3), (2, x2), (1, x1), (0, x0)] [0, 1, 2, 3] K := by kernel_rfl

def dom_meet (F : Nat) (x0 x1 x2 x3 : Value) : M Value :=
  dom_meet_r0 F x0 x1 x2 x3 (fun x0 x1 x2 x3 => dom_meet_r1 F x0 x1 x2 x3 (fun x0 x1 x2 x3 x10 => onB x10 (dom_meet_r2 F x3 (fun x8 => ret x8)) (dom_meet_l1 F (fun x2 => dom_meet_k0 F x2) F x0 x1 x2 x3)))

def dom_meet_m (F : Nat) : List Value → M Value
  | [x0, x1, x2, x3] => dom_meet F x0 x1 x2 x3
  | _ => fail

theorem dom_meet_body : Tryd.f32.body = some (.seq (.region 0 (opsOf Tryd.f32 0) false) (.seq (.seq (.region 1 (opsOf Tryd.f32 1) false) (.cond (.tmp 10) (.seq (.region 2 (opsOf Tryd.f32 2) false) .ret) .skip)) (.seq (.block 0 (.loop (.seq (.seq (.region 3 (opsOf Tryd.f32 3) false) (.cond (.tmp 14) .skip (.exit 0))) (.block 1 (.seq (.region 4 (opsOf Tryd.f32 4) true) (.cond (.tmp 23) (.region 5 (opsOf Tryd.f32 5) false) (.region 6 (opsOf Tryd.f32 6) false))))))) (.seq (.region 7 (opsOf Tryd.f32 7) false) .ret)))) := by kernel_rfl

theorem dom_meet_ok (F : Nat) : Sim Tryd.prog TrydG 32 (dom_meet_m F) := by
 have hE : EnvOK Tryd.prog TrydG (dom_meet_env F) := EnvOK.nil
 refine Sim.of_body (E := dom_meet_env F) Tryd.func32 dom_meet_body Tryd.call32 ?_ ?_
 · intro args hl; unfold dom_meet_m; split
   · exact absurd hl (Nat.not_lt.2 (Nat.le_of_ble_eq_true rfl))
   · rfl
 · intro args ρ h w z; unfold dom_meet_m; split
   · rename_i x0 x1 x2 x3; show OKc _ _ [(0, x0), (1, x1), (2, x2), (3, x3)] _ _
     refine rSeq ?_
     refine cLess [3, 2, 1, 0] ?_
     refine xR hE [0, 1, 2, 3] rfl (dom_meet_r0_ok F _ _ _ _ _) ?_
     intro x0 x1 x2 x3
     show OKq _ _ _ [(3, x3), (2, x2), (1, x1), (0, x0)] _
     refine rThen ?_
     refine rSeq ?_
     refine rSeq ?_
     refine cLess [3, 2, 1, 0] ?_
     refine xR hE [0, 1, 2, 3, 10] rfl (dom_meet_r1_ok F _ _ _ _ _) ?_
     intro x0 x1 x2 x3 x10
     show OKq _ _ _ [(10, x10), (3, x3), (2, x2), (1, x1), (0, x0)] _
     refine rThen ?_
     refine xCond rfl rfl ?_ ?_
     · refine rSeq ?_
       refine cLess [3] ?_
       refine xR hE [8] rfl (dom_meet_r2_ok F _ _) ?_
       intro x8
       show OKq _ _ _ [(8, x8)] _
       refine rThen ?_
       refine rRet ?_
       refine xThenR ?_
       exact rDone (.inr rfl) rfl
     · refine rSkip ?_
       refine rThen ?_
       refine xSeq [2] (dom_meet_k0 F ) ?_ fun hj0 => ?_
       · intro x2
         show OKc _ _ [(2, x2)] _ _
         refine rSeq ?_
         refine cLess [2] ?_
         refine xR hE [8] rfl (dom_meet_r7_ok F _ _) ?_
         intro x8
         show OKq _ _ _ [(8, x8)] _
         refine rThen ?_
         refine rRet ?_
         exact rDone (.inr rfl) rfl
       · refine rBlock ?_
         refine cLess [3, 2, 1, 0] ?_
         refine xLoopAt [0, 1, 2, 3] [] (fun k1 => dom_meet_l1 F (fun x2 => dom_meet_k0 F x2) k1) F [x0, x1, x2, x3] rfl rfl (fun _ _ _ _ => rfl) fun I hI1 k1 => ?_
         intro x0 x1 x2 x3
         show OKc _ _ [(3, x3), (2, x2), (1, x1), (0, x0)] _ _
         refine cAs (dom_meet_l1_s F _ _ _ _ _ _) ?_
         refine rSeq ?_
         refine rSeq ?_
         refine cLess [3, 2, 1, 0] ?_
         refine xR hE [0, 1, 2, 3, 14] rfl (dom_meet_r3_ok F _ _ _ _ _) ?_
         intro x0 x1 x2 x3 x14
         show OKq _ _ _ [(14, x14), (3, x3), (2, x2), (1, x1), (0, x0)] _
         refine rThen ?_
         refine xCond rfl rfl ?_ ?_
         · refine rSkip ?_
           refine rThen ?_
           refine rBlock ?_
           refine rSeq ?_
           refine cLess [3, 2, 1, 0] ?_
           refine xD Trydmix hE [0, 1, 2, 3, 23] rfl dom_meet_r4_good (dom_meet_r4_ok F _ _ _ _ _) ?_
           intro x0 x1 x2 x3 x23
           show OKq _ _ _ [(23, x23), (3, x3), (2, x2), (1, x1), (0, x0)] _
           refine rThen ?_
           refine xCond rfl rfl ?_ ?_
           · refine cLess [3, 2, 1, 0] ?_
             refine xR hE [0, 1, 2, 3] rfl (dom_meet_r5_ok F _ _ _ _ _) ?_
             intro x0 x1 x2 x3
             show OKq _ _ _ [(3, x3), (2, x2), (1, x1), (0, x0)] _
             refine xBlockN ?_
             exact qLess [3, 2, 1, 0] (hI1 k1 x0 x1 x2 x3)
           · refine cLess [3, 2, 1, 0] ?_
             refine xR hE [0, 1, 2, 3] rfl (dom_meet_r6_ok F _ _ _ _ _) ?_
             intro x0 x1 x2 x3
             show OKq _ _ _ [(3, x3), (2, x2), (1, x1), (0, x0)] _
             refine xBlockN ?_
             exact qLess [3, 2, 1, 0] (hI1 k1 x0 x1 x2 x3)
         · refine rExit ?_
           refine xThenX ?_
           refine xThenX ?_
           refine rOut ?_
           exact qLess [2] (hj0 x2)
   · exact rFail


/-! ### haruspex/graph.May -/

def graph_May_env (F : Nat) : Env := envOf []

noncomputable def graph_May_R (F : Nat) := rK Tryd.prog TrydG (graph_May_env F) Tryd.f33
noncomputable def graph_May_D (F : Nat) := dK Tryd.prog TrydG (graph_May_env F) Tryd.f33

def graph_May_r13 (F : Nat) (K : Value → M Value) : M Value :=
  K (.bool true)

theorem graph_May_r13_ok (F : Nat) (K : Value → M Value) : graph_May_r13 F K = graph_May_R F 13 [] [2] K := by kernel_rfl

def graph_May_k0 (F : Nat) : M Value :=
  graph_May_r13 F (fun x2 => ret x2)

def graph_May_r12 (F : Nat) (x1 x24 x25 x26 : Value) (K : Value → Value → Value → Value → M Value) : M Value :=
  bnd (opBin .add x26 (.int .i64 (1))) fun v45 => K x1 x24 x25 v45

theorem graph_May_r12_ok (F : Nat) (x1 x24 x25 x26 : Value) (K : Value → Value → Value → Value → M Value) : graph_May_r12 F x1 x24 x25 x26 K = graph_May_R F 12 [(26, x26), (25, x25), (24, x24), (1, x1)] [1, 24, 25, 26] K := by kernel_rfl

def graph_May_k2 (F : Nat) (A1 : Value → Value → Value → Value → M Value) (x1 x24 x25 x26 : Value) : M Value :=
  graph_May_r12 F x1 x24 x25 x26 (fun x1 x24 x25 x26 => A1 x1 x24 x25 x26)

def graph_May_r11 (F : Nat) (x1 x24 x25 x26 x30 x31 x32 : Value) (K : Value → Value → Value → Value → Value → Value → Value → M Value) : M Value :=
  bnd (opBin .add x32 (.int .i64 (1))) fun v44 => K x1 x24 x25 x26 x30 x31 v44

theorem graph_May_r11_ok (F : Nat) (x1 x24 x25 x26 x30 x31 x32 : Value) (K : Value → Value → Value → Value → Value → Value → Value → M Value) : graph_May_r11 F x1 x24 x25 x26 x30 x31 x32 K = graph_May_R F 11 [(32, x32), (31, x31), (30, x30), (26, x26), (25, x25), (24, x24), (1, x1)] [1, 24, 25, 26, 30, 31, 32] K := by kernel_rfl

def graph_May_r10 (F : Nat) (K : Value → M Value) : M Value :=
  K (.bool false)

theorem graph_May_r10_ok (F : Nat) (K : Value → M Value) : graph_May_r10 F K = graph_May_R F 10 [] [2] K := by kernel_rfl

def graph_May_r9 (F : Nat) (x1 x6 x24 x25 x26 x30 x31 x32 : Value) (K : Value → Value → Value → Value → Value → Value → Value → Value → M Value) : M Value :=
  bnd (opBin .lss x6 (.int .i64 (0))) fun v37 => onB v37 (K x1 x24 x25 x26 x30 x31 x32 (.bool true)) (bnd (opFieldAddr 0 x1) fun v40 => bnd (opLoad v40) fun v41 => bnd (opBin .geq x6 v41) fun v42 => K x1 x24 x25 x26 x30 x31 x32 v42)

theorem graph_May_r9_ok (F : Nat) (x1 x6 x24 x25 x26 x30 x31 x32 : Value) (K : Value → Value → Value → Value → Value → Value → Value → Value → M Value) : graph_May_r9 F x1 x6 x24 x25 x26 x30 x31 x32 K = graph_May_R F 9 [(32, x32), (31, x31), (30, x30), (26, x26), (25, x25), (24, x24), (6, x6), (1, x1)] [1, 24, 25, 26, 30, 31, 32, 43] K := by kernel_rfl

def graph_May_r8 (F : Nat) (x1 x24 x25 x26 x30 x31 x32 : Value) (K : Value → Value → Value → Value → Value → Value → Value → Value → M Value) : M Value :=
  bnd (opIndexAddr 1 x30 x32) fun v34 => bnd (opLoad v34) fun v35 => K x1 v35 x24 x25 x26 x30 x31 x32

theorem graph_May_r8_ok (F : Nat) (x1 x24 x25 x26 x30 x31 x32 : Value) (K : Value → Value → Value → Value → Value → Value → Value → Value → M Value) : graph_May_r8 F x1 x24 x25 x26 x30 x31 x32 K = graph_May_R F 8 [(32, x32), (31, x31), (30, x30), (26, x26), (25, x25), (24, x24), (1, x1)] [1, 6, 24, 25, 26, 30, 31, 32] K := by kernel_rfl

def graph_May_r7 (F : Nat) (x1 x24 x25 x26 x30 x31 x32 : Value) (K : Value → Value → Value → Value → Value → Value → Value → Value → M Value) : M Value :=
  bnd (opBin .lss x32 x31) fun v33 => K x1 x24 x25 x26 x30 x31 x32 v33

theorem graph_May_r7_ok (F : Nat) (x1 x24 x25 x26 x30 x31 x32 : Value) (K : Value → Value → Value → Value → Value → Value → Value → Value → M Value) : graph_May_r7 F x1 x24 x25 x26 x30 x31 x32 K = graph_May_R F 7 [(32, x32), (31, x31), (30, x30), (26, x26), (25, x25), (24, x24), (1, x1)] [1, 24, 25, 26, 30, 31, 32, 33] K := by kernel_rfl

def graph_May_b3 (F : Nat) (E3_2 : Value → Value → Value → Value → M Value) (A3 : Value → Value → Value → Value → Value → Value → Value → M Value) (x1 x24 x25 x26 x30 x31 x32 : Value) : M Value :=
  graph_May_r7 F x1 x24 x25 x26 x30 x31 x32 (fun x1 x24 x25 x26 x30 x31 x32 x33 => onB x33 (graph_May_r8 F x1 x24 x25 x26 x30 x31 x32 (fun x1 x6 x24 x25 x26 x30 x31 x32 => graph_May_r9 F x1 x6 x24 x25 x26 x30 x31 x32 (fun x1 x24 x25 x26 x30 x31 x32 x43 => onB x43 (graph_May_r10 F (fun x2 => ret x2)) (graph_May_r11 F x1 x24 x25 x26 x30 x31 x32 (fun x1 x24 x25 x26 x30 x31 x32 => A3 x1 x24 x25 x26 x30 x31 x32))))) (E3_2 x1 x24 x25 x26))

def graph_May_l3 (F : Nat) (E3_2 : Value → Value → Value → Value → M Value) : Nat → Value → Value → Value → Value → Value → Value → Value → M Value
  | 0, _, _, _, _, _, _, _ => fail
  | k3 + 1, x1, x24, x25, x26, x30, x31, x32 => graph_May_b3 F E3_2 (graph_May_l3 F E3_2 k3) x1 x24 x25 x26 x30 x31 x32

theorem graph_May_l3_s (F : Nat) (E3_2 : Value → Value → Value → Value → M Value) (k3 : Nat) (x1 x24 x25 x26 x30 x31 x32 : Value) : graph_May_l3 F E3_2 (k3 + 1) x1 x24 x25 x26 x30 x31 x32 = graph_May_b3 F E3_2 (graph_May_l3 F E3_2 k3) x1 x24 x25 x26 x30 x31 x32 := rfl

def graph_May_r6 (F : Nat) (x1 x4 x24 x25 x26 : Value) (K : Value → Value → Value → Value → Value → Value → Value → M Value) : M Value :=
  bnd (opLen x4) fun v31 => K x1 x24 x25 x26 x4 v31 (.int .i64 (0))

theorem graph_May_r6_ok (F : Nat) (x1 x4 x24 x25 x26 : Value) (K : Value → Value → Value → Value → Value → Value → Value → M Value) : graph_May_r6 F x1 x4 x24 x25 x26 K = graph_May_R F 6 [(26, x26), (25, x25), (24, x24), (4, x4), (1, x1)] [1, 24, 25, 26, 30, 31, 32] K := by kernel_rfl

def graph_May_r5 (F : Nat) (x1 x24 x25 x26 : Value) (K : Value → Value → Value → Value → Value → M Value) : M Value :=
  bnd (opIndexAddr 1 x24 x26) fun v28 => bnd (opLoad v28) fun v29 => K x1 v29 x24 x25 x26

theorem graph_May_r5_ok (F : Nat) (x1 x24 x25 x26 : Value) (K : Value → Value → Value → Value → Value → M Value) : graph_May_r5 F x1 x24 x25 x26 K = graph_May_R F 5 [(26, x26), (25, x25), (24, x24), (1, x1)] [1, 4, 24, 25, 26] K := by kernel_rfl

def graph_May_r4 (F : Nat) (x1 x24 x25 x26 : Value) (K : Value → Value → Value → Value → Value → M Value) : M Value :=
  bnd (opBin .lss x26 x25) fun v27 => K x1 x24 x25 x26 v27

theorem graph_May_r4_ok (F : Nat) (x1 x24 x25 x26 : Value) (K : Value → Value → Value → Value → Value → M Value) : graph_May_r4 F x1 x24 x25 x26 K = graph_May_R F 4 [(26, x26), (25, x25), (24, x24), (1, x1)] [1, 24, 25, 26, 27] K := by kernel_rfl

def graph_May_b1 (F : Nat) (E1_0 : M Value) (A1 : Value → Value → Value → Value → M Value) (x1 x24 x25 x26 : Value) : M Value :=
  graph_May_r4 F x1 x24 x25 x26 (fun x1 x24 x25 x26 x27 => onB x27 (graph_May_r5 F x1 x24 x25 x26 (fun x1 x4 x24 x25 x26 => graph_May_r6 F x1 x4 x24 x25 x26 (fun x1 x24 x25 x26 x30 x31 x32 => graph_May_l3 F (fun x1 x24 x25 x26 => graph_May_k2 F A1 x1 x24 x25 x26) F x1 x24 x25 x26 x30 x31 x32))) (E1_0 ))

def graph_May_l1 (F : Nat) (E1_0 : M Value) : Nat → Value → Value → Value → Value → M Value
  | 0, _, _, _, _ => fail
  | k1 + 1, x1, x24, x25, x26 => graph_May_b1 F E1_0 (graph_May_l1 F E1_0 k1) x1 x24 x25 x26

theorem graph_May_l1_s (F : Nat) (E1_0 : M Value) (k1 : Nat) (x1 x24 x25 x26 : Value) : graph_May_l1 F E1_0 (k1 + 1) x1 x24 x25 x26 = graph_May_b1 F E1_0 (graph_May_l1 F E1_0 k1) x1 x24 x25 x26 := rfl

def graph_May_r3 (F : Nat) (x1 : Value) (K : Value → Value → Value → Value → M Value) : M Value :=
  bnd (opFieldAddr 1 x1) fun v23 => bnd (opLoad v23) fun v24 => bnd (opLen v24) fun v25 => K x1 v24 v25 (.int .i64 (0))

theorem graph_May_r3_ok (F : Nat) (x1 : Value) (K : Value → Value → Value → Value → M Value) : graph_May_r3 F x1 K = graph_May_R F 3 [(1, x1)] [1, 24, 25, 26] K := by kernel_rfl

def graph_May_r2 (F : Nat) (K : Value → M Value) : M Value :=
  K (.bool false)

theorem graph_May_r2_ok (F : Nat) (K : Value → M Value) : graph_May_r2 F K = graph_May_R F 2 [] [2] K := by kernel_rfl

def graph_May_r1 (F : Nat) (x1 : Value) (K : Value → Value → M Value) : M Value :=
  bnd (opFieldAddr 0 x1) fun v7 => bnd (opLoad v7) fun v8 => bnd (opBin .lss v8 (.int .i64 (0))) fun v9 => onB v9 (K x1 (.bool true)) (bnd (opFieldAddr 0 x1) fun v11 => bnd (opLoad v11) fun v12 => bnd (opBin .gtr v12 (.int .i64 (600))) fun v13 => onB v13 (K x1 (.bool true)) (bnd (opFieldAddr 1 x1) fun v16 => bnd (opLoad v16) fun v17 => bnd (opLen v17) fun v18 => bnd (opFieldAddr 0 x1) fun v19 => bnd (opLoad v19) fun v20 => bnd (opBin .neq v18 v20) fun v21 => K x1 v21))

theorem graph_May_r1_ok (F : Nat) (x1 : Value) (K : Value → Value → M Value) : graph_May_r1 F x1 K = graph_May_R F 1 [(1, x1)] [1, 22] K := by kernel_rfl

def graph_May_r0 (F : Nat) (x0 : Value) (K : Value → M Value) : M Value :=
  bnd (opBoxN x0) fun v1 => K v1

theorem graph_May_r0_ok (F : Nat) (x0 : Value) (K : Value → M Value) : graph_May_r0 F x0 K = graph_May_R F 0 [(0, x0)] [1] K := by kernel_rfl

def graph_May (F : Nat) (x0 : Value) : M Value :=
  graph_May_r0 F x0 (fun x1 => graph_May_r1 F x1 (fun x1 x22 => onB x22 (graph_May_r2 F (fun x2 => ret x2)) (graph_May_r3 F x1 (fun x1 x24 x25 x26 => graph_May_l1 F (graph_May_k0 F ) F x1 x24 x25 x26))))

def graph_May_m (F : Nat) : List Value → M Value
  | [x0] => graph_May F x0
  | _ => fail

theorem graph_May_body : Tryd.f33.body = some (.seq (.region 0 (opsOf Tryd.f33 0) false) (.seq (.seq (.region 1 (opsOf Tryd.f33 1) false) (.cond (.tmp 22) (.seq (.region 2 (opsOf Tryd.f33 2) false) .ret) .skip)) (.seq (.seq (.region 3 (opsOf Tryd.f33 3) false) (.block 0 (.loop (.seq (.region 4 (opsOf Tryd.f33 4) false) (.seq (.cond (.tmp 27) .skip (.exit 0)) (.seq (.block 1 (.seq (.region 5 (opsOf Tryd.f33 5) false) (.seq (.region 6 (opsOf Tryd.f33 6) false) (.block 2 (.loop (.seq (.region 7 (opsOf Tryd.f33 7) false) (.seq (.cond (.tmp 33) .skip (.exit 2)) (.seq (.block 3 (.seq (.region 8 (opsOf Tryd.f33 8) false) (.seq (.region 9 (opsOf Tryd.f33 9) false) (.cond (.tmp 43) (.seq (.region 10 (opsOf Tryd.f33 10) false) .ret) .skip)))) (.region 11 (opsOf Tryd.f33 11) false))))))))) (.region 12 (opsOf Tryd.f33 12) false))))))) (.seq (.region 13 (opsOf Tryd.f33 13) false) .ret)))) := by kernel_rfl

theorem graph_May_ok (F : Nat) : Sim Tryd.prog TrydG 33 (graph_May_m F) := by
 have hE : EnvOK Tryd.prog TrydG (graph_May_env F) := EnvOK.nil
 refine Sim.of_body (E := graph_May_env F) Tryd.func33 graph_May_body Tryd.call33 ?_ ?_
 · intro args hl; unfold graph_May_m; split
   · exact absurd hl (Nat.not_lt.2 (Nat.le_of_ble_eq_true rfl))
   · rfl
 · intro args ρ h w z; unfold graph_May_m; split
   · rename_i x0; show OKc _ _ [(0, x0)] _ _
     refine rSeq ?_
     refine cLess [0] ?_
     refine xR hE [1] rfl (graph_May_r0_ok F _ _) ?_
     intro x1
     show OKq _ _ _ [(1, x1)] _
     refine rThen ?_
     refine rSeq ?_
     refine rSeq ?_
     refine cLess [1] ?_
     refine xR hE [1, 22] rfl (graph_May_r1_ok F _ _) ?_
     intro x1 x22
     show OKq _ _ _ [(22, x22), (1, x1)] _
     refine rThen ?_
     refine xCond rfl rfl ?_ ?_
     · refine rSeq ?_
       refine cLess [] ?_
       refine xR hE [2] rfl (graph_May_r2_ok F _) ?_
       intro x2
       show OKq _ _ _ [(2, x2)] _
       refine rThen ?_
       refine rRet ?_
       refine xThenR ?_
       exact rDone (.inr rfl) rfl
     · refine rSkip ?_
       refine rThen ?_
       refine xSeq [] (graph_May_k0 F ) ?_ fun hj0 => ?_
       · show OKc _ _ [] _ _
         refine rSeq ?_
         refine cLess [] ?_
         refine xR hE [2] rfl (graph_May_r13_ok F _) ?_
         intro x2
         show OKq _ _ _ [(2, x2)] _
         refine rThen ?_
         refine rRet ?_
         exact rDone (.inr rfl) rfl
       · refine rSeq ?_
         refine cLess [1] ?_
         refine xR hE [1, 24, 25, 26] rfl (graph_May_r3_ok F _ _) ?_
         intro x1 x24 x25 x26
         show OKq _ _ _ [(26, x26), (25, x25), (24, x24), (1, x1)] _
         refine rThen ?_
         refine rBlock ?_
         refine cLess [26, 25, 24, 1] ?_
         refine xLoopAt [1, 24, 25, 26] [] (fun k1 => graph_May_l1 F (graph_May_k0 F ) k1) F [x1, x24, x25, x26] rfl rfl (fun _ _ _ _ => rfl) fun I hI1 k1 => ?_
         intro x1 x24 x25 x26
         show OKc _ _ [(26, x26), (25, x25), (24, x24), (1, x1)] _ _
         refine cAs (graph_May_l1_s F _ _ _ _ _ _) ?_
         refine rSeq ?_
         refine cLess [26, 25, 24, 1] ?_
         refine xR hE [1, 24, 25, 26, 27] rfl (graph_May_r4_ok F _ _ _ _ _) ?_
         intro x1 x24 x25 x26 x27
         show OKq _ _ _ [(27, x27), (26, x26), (25, x25), (24, x24), (1, x1)] _
         refine rThen ?_
         refine rSeq ?_
         refine xCond rfl rfl ?_ ?_
         · refine rSkip ?_
           refine rThen ?_
           refine xSeq [1, 24, 25, 26] (graph_May_k2 F (graph_May_l1 F (graph_May_k0 F ) k1) ) ?_ fun hj2 => ?_
           · intro x1 x24 x25 x26
             show OKc _ _ [(26, x26), (25, x25), (24, x24), (1, x1)] _ _
             refine cLess [26, 25, 24, 1] ?_
             refine xR hE [1, 24, 25, 26] rfl (graph_May_r12_ok F _ _ _ _ _) ?_
             intro x1 x24 x25 x26
             show OKq _ _ _ [(26, x26), (25, x25), (24, x24), (1, x1)] _
             exact qLess [26, 25, 24, 1] (hI1 k1 x1 x24 x25 x26)
           · refine rBlock ?_
             refine rSeq ?_
             refine cLess [26, 25, 24, 1] ?_
             refine xR hE [1, 4, 24, 25, 26] rfl (graph_May_r5_ok F _ _ _ _ _) ?_
             intro x1 x4 x24 x25 x26
             show OKq _ _ _ [(26, x26), (25, x25), (24, x24), (4, x4), (1, x1)] _
             refine rThen ?_
             refine rSeq ?_
             refine cLess [26, 25, 24, 4, 1] ?_
             refine xR hE [1, 24, 25, 26, 30, 31, 32] rfl (graph_May_r6_ok F _ _ _ _ _ _) ?_
             intro x1 x24 x25 x26 x30 x31 x32
             show OKq _ _ _ [(32, x32), (31, x31), (30, x30), (26, x26), (25, x25), (24, x24), (1, x1)] _
             refine rThen ?_
             refine rBlock ?_
             refine cLess [32, 31, 30, 26, 25, 24, 1] ?_
             refine xLoopAt [1, 24, 25, 26, 30, 31, 32] [] (fun k3 => graph_May_l3 F (fun x1 x24 x25 x26 => graph_May_k2 F (graph_May_l1 F (graph_May_k0 F ) k1) x1 x24 x25 x26) k3) F [x1, x24, x25, x26, x30, x31, x32] rfl rfl (fun _ _ _ _ _ _ _ => rfl) fun I hI3 k3 => ?_
             intro x1 x24 x25 x26 x30 x31 x32
             show OKc _ _ [(32, x32), (31, x31), (30, x30), (26, x26), (25, x25), (24, x24), (1, x1)] _ _
             refine cAs (graph_May_l3_s F _ _ _ _ _ _ _ _ _) ?_
             refine rSeq ?_
             refine cLess [32, 31, 30, 26, 25, 24, 1] ?_
             refine xR hE [1, 24, 25, 26, 30, 31, 32, 33] rfl (graph_May_r7_ok F _ _ _ _ _ _ _ _) ?_
             intro x1 x24 x25 x26 x30 x31 x32 x33
             show OKq _ _ _ [(33, x33), (32, x32), (31, x31), (30, x30), (26, x26), (25, x25), (24, x24), (1, x1)] _
             refine rThen ?_
             refine rSeq ?_
             refine xCond rfl rfl ?_ ?_
             · refine rSkip ?_
               refine rThen ?_
               refine rSeq ?_
               refine rBlock ?_
               refine rSeq ?_
               refine cLess [32, 31, 30, 26, 25, 24, 1] ?_
               refine xR hE [1, 6, 24, 25, 26, 30, 31, 32] rfl (graph_May_r8_ok F _ _ _ _ _ _ _ _) ?_
               intro x1 x6 x24 x25 x26 x30 x31 x32
               show OKq _ _ _ [(32, x32), (31, x31), (30, x30), (26, x26), (25, x25), (24, x24), (6, x6), (1, x1)] _
               refine rThen ?_
               refine rSeq ?_
               refine cLess [32, 31, 30, 26, 25, 24, 6, 1] ?_
               refine xR hE [1, 24, 25, 26, 30, 31, 32, 43] rfl (graph_May_r9_ok F _ _ _ _ _ _ _ _ _) ?_
               intro x1 x24 x25 x26 x30 x31 x32 x43
               show OKq _ _ _ [(43, x43), (32, x32), (31, x31), (30, x30), (26, x26), (25, x25), (24, x24), (1, x1)] _
               refine rThen ?_
               refine xCond rfl rfl ?_ ?_
               · refine rSeq ?_
                 refine cLess [] ?_
                 refine xR hE [2] rfl (graph_May_r10_ok F _) ?_
                 intro x2
                 show OKq _ _ _ [(2, x2)] _
                 refine rThen ?_
                 refine rRet ?_
                 refine xBlockR ?_
                 refine xThenR ?_
                 refine xThenR ?_
                 refine xBlockR ?_
                 refine xBlockR ?_
                 refine xThenR ?_
                 refine xThenR ?_
                 refine xBlockR ?_
                 refine xThenR ?_
                 exact rDone (.inr rfl) rfl
               · refine rSkip ?_
                 refine xBlockN ?_
                 refine rThen ?_
                 refine cLess [32, 31, 30, 26, 25, 24, 1] ?_
                 refine xR hE [1, 24, 25, 26, 30, 31, 32] rfl (graph_May_r11_ok F _ _ _ _ _ _ _ _) ?_
                 intro x1 x24 x25 x26 x30 x31 x32
                 show OKq _ _ _ [(32, x32), (31, x31), (30, x30), (26, x26), (25, x25), (24, x24), (1, x1)] _
                 exact qLess [32, 31, 30, 26, 25, 24, 1] (hI3 k3 x1 x24 x25 x26 x30 x31 x32)
             · refine rExit ?_
               refine xThenX ?_
               refine xThenX ?_
               refine rOut ?_
               refine xBlockN ?_
               exact qLess [26, 25, 24, 1] (hj2 x1 x24 x25 x26)
         · refine rExit ?_
           refine xThenX ?_
           refine xThenX ?_
           refine rOut ?_
           exact qLess [] (hj0 )
   · exact rFail


/-! ### haruspex/dom.in -/

def dom_in_env (F : Nat) : Env := envOf []

noncomputable def dom_in_R (F : Nat) := rK Tryd.prog TrydG (dom_in_env F) Tryd.f34
noncomputable def dom_in_D (F : Nat) := dK Tryd.prog TrydG (dom_in_env F) Tryd.f34

def dom_in_r1 (F : Nat) (x0 x1 : Value) (K : Value → M Value) : M Value :=
  bnd (opBin .geq x1 (.int .i64 (0))) fun v6 => onB v6 (bnd (opLen x0) fun v10 => bnd (opBin .lss x1 v10) fun v11 => onB v11 (bnd (opIndexAddr 1 x0 x1) fun v16 => bnd (opLoad v16) fun v17 => bnd (opBin .geq v17 (.int .i64 (0))) fun v18 => K v18) (K (.bool false))) (K (.bool false))

theorem dom_in_r1_ok (F : Nat) (x0 x1 : Value) (K : Value → M Value) : dom_in_r1 F x0 x1 K = dom_in_R F 1 [(1, x1), (0, x0)] [4] K := by kernel_rfl

def dom_in_r0 (F : Nat) (x0 x1 : Value) (K : Value → Value → M Value) : M Value :=
  K x0 x1

theorem dom_in_r0_ok (F : Nat) (x0 x1 : Value) (K : Value → Value → M Value) : dom_in_r0 F x0 x1 K = dom_in_R F 0 [(1, x1), (0, x0)] [0, 1] K := by kernel_rfl

def dom_in (F : Nat) (x0 x1 : Value) : M Value :=
  dom_in_r0 F x0 x1 (fun x0 x1 => dom_in_r1 F x0 x1 (fun x4 => ret x4))

def dom_in_m (F : Nat) : List Value → M Value
  | [x0, x1] => dom_in F x0 x1
  | _ => fail

theorem dom_in_body : Tryd.f34.body = some (.seq (.region 0 (opsOf Tryd.f34 0) false) (.seq (.region 1 (opsOf Tryd.f34 1) false) .ret)) := by kernel_rfl

theorem dom_in_ok (F : Nat) : Sim Tryd.prog TrydG 34 (dom_in_m F) := by
 have hE : EnvOK Tryd.prog TrydG (dom_in_env F) := EnvOK.nil
 refine Sim.of_body (E := dom_in_env F) Tryd.func34 dom_in_body Tryd.call34 ?_ ?_
 · intro args hl; unfold dom_in_m; split
   · exact absurd hl (Nat.not_lt.2 (Nat.le_of_ble_eq_true rfl))
   · rfl
 · intro args ρ h w z; unfold dom_in_m; split
   · rename_i x0 x1; show OKc _ _ [(0, x0), (1, x1)] _ _
     refine rSeq ?_
     refine cLess [1, 0] ?_
     refine xR hE [0, 1] rfl (dom_in_r0_ok F _ _ _) ?_
     intro x0 x1
     show OKq _ _ _ [(1, x1), (0, x0)] _
     refine rThen ?_
     refine rSeq ?_
     refine cLess [1, 0] ?_
     refine xR hE [4] rfl (dom_in_r1_ok F _ _ _) ?_
     intro x4
     show OKq _ _ _ [(4, x4)] _
     refine rThen ?_
     refine rRet ?_
     exact rDone (.inr rfl) rfl
   · exact rFail


/-! ### math/bits.OnesCount64 -/

def bits_OnesCount64_env (F : Nat) : Env := envOf []

noncomputable def bits_OnesCount64_R (F : Nat) := rK Tryd.prog TrydG (bits_OnesCount64_env F) Tryd.f35
noncomputable def bits_OnesCount64_D (F : Nat) := dK Tryd.prog TrydG (bits_OnesCount64_env F) Tryd.f35

def bits_OnesCount64_r7 (F : Nat) (x0 : Value) (K : Value → M Value) : M Value :=
  bnd (opConv .i64 x0) fun v33 => bnd (opBin .and v33 (.int .i64 (127))) fun v34 => K v34

theorem bits_OnesCount64_r7_ok (F : Nat) (x0 : Value) (K : Value → M Value) : bits_OnesCount64_r7 F x0 K = bits_OnesCount64_R F 7 [(0, x0)] [2] K := by kernel_rfl

def bits_OnesCount64_r6 (F : Nat) (x0 : Value) (K : Value → M Value) : M Value :=
  bnd (opBin .shr x0 (.int .u64 (32))) fun v30 => bnd (opBin .add x0 v30) fun v31 => K v31

theorem bits_OnesCount64_r6_ok (F : Nat) (x0 : Value) (K : Value → M Value) : bits_OnesCount64_r6 F x0 K = bits_OnesCount64_R F 6 [(0, x0)] [0] K := by kernel_rfl

def bits_OnesCount64_r5 (F : Nat) (x0 : Value) (K : Value → M Value) : M Value :=
  bnd (opBin .shr x0 (.int .u64 (16))) fun v26 => bnd (opBin .add x0 v26) fun v27 => K v27

theorem bits_OnesCount64_r5_ok (F : Nat) (x0 : Value) (K : Value → M Value) : bits_OnesCount64_r5 F x0 K = bits_OnesCount64_R F 5 [(0, x0)] [0] K := by kernel_rfl

def bits_OnesCount64_r4 (F : Nat) (x0 : Value) (K : Value → M Value) : M Value :=
  bnd (opBin .shr x0 (.int .u64 (8))) fun v22 => bnd (opBin .add x0 v22) fun v23 => K v23

theorem bits_OnesCount64_r4_ok (F : Nat) (x0 : Value) (K : Value → M Value) : bits_OnesCount64_r4 F x0 K = bits_OnesCount64_R F 4 [(0, x0)] [0] K := by kernel_rfl

def bits_OnesCount64_r3 (F : Nat) (x0 : Value) (K : Value → M Value) : M Value :=
  bnd (opBin .shr x0 (.int .u64 (4))) fun v16 => bnd (opBin .add v16 x0) fun v18 => bnd (opBin .and v18 (.int .u64 (1085102592571150095))) fun v19 => K v19

theorem bits_OnesCount64_r3_ok (F : Nat) (x0 : Value) (K : Value → M Value) : bits_OnesCount64_r3 F x0 K = bits_OnesCount64_R F 3 [(0, x0)] [0] K := by kernel_rfl

def bits_OnesCount64_r2 (F : Nat) (x0 : Value) (K : Value → M Value) : M Value :=
  bnd (opBin .shr x0 (.int .u64 (2))) fun v10 => bnd (opBin .and v10 (.int .u64 (3689348814741910323))) fun v11 => bnd (opBin .and x0 (.int .u64 (3689348814741910323))) fun v13 => bnd (opBin .add v11 v13) fun v14 => K v14

theorem bits_OnesCount64_r2_ok (F : Nat) (x0 : Value) (K : Value → M Value) : bits_OnesCount64_r2 F x0 K = bits_OnesCount64_R F 2 [(0, x0)] [0] K := by kernel_rfl

def bits_OnesCount64_r1 (F : Nat) (x0 : Value) (K : Value → M Value) : M Value :=
  bnd (opBin .shr x0 (.int .u64 (1))) fun v4 => bnd (opBin .and v4 (.int .u64 (6148914691236517205))) fun v5 => bnd (opBin .and x0 (.int .u64 (6148914691236517205))) fun v7 => bnd (opBin .add v5 v7) fun v8 => K v8

theorem bits_OnesCount64_r1_ok (F : Nat) (x0 : Value) (K : Value → M Value) : bits_OnesCount64_r1 F x0 K = bits_OnesCount64_R F 1 [(0, x0)] [0] K := by kernel_rfl

def bits_OnesCount64_r0 (F : Nat) (x0 : Value) (K : Value → M Value) : M Value :=
  K x0

theorem bits_OnesCount64_r0_ok (F : Nat) (x0 : Value) (K : Value → M Value) : bits_OnesCount64_r0 F x0 K = bits_OnesCount64_R F 0 [(0, x0)] [0] K := by kernel_rfl

def bits_OnesCount64 (F : Nat) (x0 : Value) : M Value :=
  bits_OnesCount64_r0 F x0 (fun x0 => bits_OnesCount64_r1 F x0 (fun x0 => bits_OnesCount64_r2 F x0 (fun x0 => bits_OnesCount64_r3 F x0 (fun x0 => bits_OnesCount64_r4 F x0 (fun x0 => bits_OnesCount64_r5 F x0 (fun x0 => bits_OnesCount64_r6 F x0 (fun x0 => bits_OnesCount64_r7 F x0 (fun x2 => ret x2))))))))

def bits_OnesCount64_m (F : Nat) : List Value → M Value
  | [x0] => bits_OnesCount64 F x0
  | _ => fail

theorem bits_OnesCount64_body : Tryd.f35.body = some (.seq (.region 0 (opsOf Tryd.f35 0) false) (.seq (.region 1 (opsOf Tryd.f35 1) false) (.seq (.region 2 (opsOf Tryd.f35 2) false) (.seq (.region 3 (opsOf Tryd.f35 3) false) (.seq (.region 4 (opsOf Tryd.f35 4) false) (.seq (.region 5 (opsOf Tryd.f35 5) false) (.seq (.region 6 (opsOf Tryd.f35 6) false) (.seq (.region 7 (opsOf Tryd.f35 7) false) .ret)))))))) := by kernel_rfl

theorem bits_OnesCount64_ok (F : Nat) : Sim Tryd.prog TrydG 35 (bits_OnesCount64_m F) := by
 have hE : EnvOK Tryd.prog TrydG (bits_OnesCount64_env F) := EnvOK.nil
 refine Sim.of_body (E := bits_OnesCount64_env F) Tryd.func35 bits_OnesCount64_body Tryd.call35 ?_ ?_
 · intro args hl; unfold bits_OnesCount64_m; split
   · exact absurd hl (Nat.not_lt.2 (Nat.le_of_ble_eq_true rfl))
   · rfl
 · intro args ρ h w z; unfold bits_OnesCount64_m; split
   · rename_i x0; show OKc _ _ [(0, x0)] _ _
     refine rSeq ?_
     refine cLess [0] ?_
     refine xR hE [0] rfl (bits_OnesCount64_r0_ok F _ _) ?_
     intro x0
     show OKq _ _ _ [(0, x0)] _
     refine rThen ?_
     refine rSeq ?_
     refine cLess [0] ?_
     refine xR hE [0] rfl (bits_OnesCount64_r1_ok F _ _) ?_
     intro x0
     show OKq _ _ _ [(0, x0)] _
     refine rThen ?_
     refine rSeq ?_
     refine cLess [0] ?_
     refine xR hE [0] rfl (bits_OnesCount64_r2_ok F _ _) ?_
     intro x0
     show OKq _ _ _ [(0, x0)] _
     refine rThen ?_
     refine rSeq ?_
     refine cLess [0] ?_
     refine xR hE [0] rfl (bits_OnesCount64_r3_ok F _ _) ?_
     intro x0
     show OKq _ _ _ [(0, x0)] _
     refine rThen ?_
     refine rSeq ?_
     refine cLess [0] ?_
     refine xR hE [0] rfl (bits_OnesCount64_r4_ok F _ _) ?_
     intro x0
     show OKq _ _ _ [(0, x0)] _
     refine rThen ?_
     refine rSeq ?_
     refine cLess [0] ?_
     refine xR hE [0] rfl (bits_OnesCount64_r5_ok F _ _) ?_
     intro x0
     show OKq _ _ _ [(0, x0)] _
     refine rThen ?_
     refine rSeq ?_
     refine cLess [0] ?_
     refine xR hE [0] rfl (bits_OnesCount64_r6_ok F _ _) ?_
     intro x0
     show OKq _ _ _ [(0, x0)] _
     refine rThen ?_
     refine rSeq ?_
     refine cLess [0] ?_
     refine xR hE [2] rfl (bits_OnesCount64_r7_ok F _ _) ?_
     intro x2
     show OKq _ _ _ [(2, x2)] _
     refine rThen ?_
     refine rRet ?_
     exact rDone (.inr rfl) rfl
   · exact rFail


/-! ### slices.Reverse[[]int,int] -/

def slices_Reverse_env (F : Nat) : Env := envOf []

noncomputable def slices_Reverse_R (F : Nat) := rK Tryd.prog TrydG (slices_Reverse_env F) Tryd.f37
noncomputable def slices_Reverse_D (F : Nat) := dK Tryd.prog TrydG (slices_Reverse_env F) Tryd.f37

def slices_Reverse_r2 (F : Nat) (x0 x2 x3 : Value) (K : Value → Value → Value → M Value) : M Value :=
  bnd (opBin .add x2 (.int .i64 (1))) fun v11 => bnd (opBin .sub x3 (.int .i64 (1))) fun v13 => K x0 v11 v13

theorem slices_Reverse_r2_ok (F : Nat) (x0 x2 x3 : Value) (K : Value → Value → Value → M Value) : slices_Reverse_r2 F x0 x2 x3 K = slices_Reverse_R F 2 [(3, x3), (2, x2), (0, x0)] [0, 2, 3] K := by kernel_rfl

def slices_Reverse_r3 (F : Nat) (x0 x2 x3 : Value) (K : Value → Value → Value → M Value) : M Value :=
  bnd (opIndexAddr 1 x0 x3) fun v20 => bnd (opLoad v20) fun v21 => bnd (opIndexAddr 1 x0 x2) fun v24 => bnd (opLoad v24) fun v25 => bnd (opIndexAddr 1 x0 x2) fun v26 => bnd (opStore v26 v21) fun _ => bnd (opIndexAddr 1 x0 x3) fun v27 => bnd (opStore v27 v25) fun _ => K x0 x2 x3

theorem slices_Reverse_r3_ok (F : Nat) (x0 x2 x3 : Value) (K : Value → Value → Value → M Value) : slices_Reverse_r3 F x0 x2 x3 K = slices_Reverse_D F 3 [0, 1, 2, 3, 4, 5, 6, 7, 8, 9, 10, 11, 12, 13, 14, 15] [(3, x3), (2, x2), (0, x0)] [0, 2, 3] K := by kernel_rfl

theorem slices_Reverse_r3_good : goodOrder (opsOf Tryd.f37 3) [0, 1, 2, 3, 4, 5, 6, 7, 8, 9, 10, 11, 12, 13, 14, 15] = true := by kernel_rfl

def slices_Reverse_r1 (F : Nat) (x0 x2 x3 : Value) (K : Value → Value → Value → Value → M Value) : M Value :=
  bnd (opBin .lss x2 x3) fun v9 => K x0 x2 x3 v9

theorem slices_Reverse_r1_ok (F : Nat) (x0 x2 x3 : Value) (K : Value → Value → Value → Value → M Value) : slices_Reverse_r1 F x0 x2 x3 K = slices_Reverse_R F 1 [(3, x3), (2, x2), (0, x0)] [0, 2, 3, 9] K := by kernel_rfl

def slices_Reverse_b0 (F : Nat) (E0_0 : M Value) (A0 : Value → Value → Value → M Value) (x0 x2 x3 : Value) : M Value :=
  slices_Reverse_r1 F x0 x2 x3 (fun x0 x2 x3 x9 => onB x9 (slices_Reverse_r3 F x0 x2 x3 (fun x0 x2 x3 => slices_Reverse_r2 F x0 x2 x3 (fun x0 x2 x3 => A0 x0 x2 x3))) (E0_0 ))

def slices_Reverse_l0 (F : Nat) (E0_0 : M Value) : Nat → Value → Value → Value → M Value
  | 0, _, _, _ => fail
  | k0 + 1, x0, x2, x3 => slices_Reverse_b0 F E0_0 (slices_Reverse_l0 F E0_0 k0) x0 x2 x3

theorem slices_Reverse_l0_s (F : Nat) (E0_0 : M Value) (k0 : Nat) (x0 x2 x3 : Value) : slices_Reverse_l0 F E0_0 (k0 + 1) x0 x2 x3 = slices_Reverse_b0 F E0_0 (slices_Reverse_l0 F E0_0 k0) x0 x2 x3 := rfl

def slices_Reverse_r0 (F : Nat) (x0 : Value) (K : Value → Value → Value → M Value) : M Value :=
  bnd (opLen x0) fun v5 => bnd (opBin .sub v5 (.int .i64 (1))) fun v6 => K x0 (.int .i64 (0)) v6

theorem slices_Reverse_r0_ok (F : Nat) (x0 : Value) (K : Value → Value → Value → M Value) : slices_Reverse_r0 F x0 K = slices_Reverse_R F 0 [(0, x0)] [0, 2, 3] K := by kernel_rfl

def slices_Reverse (F : Nat) (x0 : Value) : M Value :=
  slices_Reverse_r0 F x0 (fun x0 x2 x3 => slices_Reverse_l0 F (tupK []) F x0 x2 x3)

def slices_Reverse_m (F : Nat) : List Value → M Value
  | [x0] => slices_Reverse F x0
  | _ => fail

theorem slices_Reverse_body : Tryd.f37.body = some (.seq (.region 0 (opsOf Tryd.f37 0) false) (.block 0 (.loop (.seq (.seq (.region 1 (opsOf Tryd.f37 1) false) (.cond (.tmp 9) .skip (.exit 0))) (.seq (.block 1 (.region 3 (opsOf Tryd.f37 3) true)) (.region 2 (opsOf Tryd.f37 2) false)))))) := by kernel_rfl

theorem slices_Reverse_ok (F : Nat) : Sim Tryd.prog TrydG 37 (slices_Reverse_m F) := by
 have hE : EnvOK Tryd.prog TrydG (slices_Reverse_env F) := EnvOK.nil
 refine Sim.of_body (E := slices_Reverse_env F) Tryd.func37 slices_Reverse_body Tryd.call37 ?_ ?_
 · intro args hl; unfold slices_Reverse_m; split
   · exact absurd hl (Nat.not_lt.2 (Nat.le_of_ble_eq_true rfl))
   · rfl
 · intro args ρ h w z; unfold slices_Reverse_m; split
   · rename_i x0; show OKc _ _ [(0, x0)] _ _
     refine rSeq ?_
     refine cLess [0] ?_
     refine xR hE [0, 2, 3] rfl (slices_Reverse_r0_ok F _ _) ?_
     intro x0 x2 x3
     show OKq _ _ _ [(3, x3), (2, x2), (0, x0)] _
     refine rThen ?_
     refine rBlock ?_
     refine cLess [3, 2, 0] ?_
     refine xLoopAt [0, 2, 3] [] (fun k0 => slices_Reverse_l0 F (tupK []) k0) F [x0, x2, x3] rfl rfl (fun _ _ _ => rfl) fun I hI0 k0 => ?_
     intro x0 x2 x3
     show OKc _ _ [(3, x3), (2, x2), (0, x0)] _ _
     refine cAs (slices_Reverse_l0_s F _ _ _ _ _) ?_
     refine rSeq ?_
     refine rSeq ?_
     refine cLess [3, 2, 0] ?_
     refine xR hE [0, 2, 3, 9] rfl (slices_Reverse_r1_ok F _ _ _ _) ?_
     intro x0 x2 x3 x9
     show OKq _ _ _ [(9, x9), (3, x3), (2, x2), (0, x0)] _
     refine rThen ?_
     refine xCond rfl rfl ?_ ?_
     · refine rSkip ?_
       refine rThen ?_
       refine rSeq ?_
       refine rBlock ?_
       refine cLess [3, 2, 0] ?_
       refine xD Trydmix hE [0, 2, 3] rfl slices_Reverse_r3_good (slices_Reverse_r3_ok F _ _ _ _) ?_
       intro x0 x2 x3
       show OKq _ _ _ [(3, x3), (2, x2), (0, x0)] _
       refine xBlockN ?_
       refine rThen ?_
       refine cLess [3, 2, 0] ?_
       refine xR hE [0, 2, 3] rfl (slices_Reverse_r2_ok F _ _ _ _) ?_
       intro x0 x2 x3
       show OKq _ _ _ [(3, x3), (2, x2), (0, x0)] _
       exact qLess [3, 2, 0] (hI0 k0 x0 x2 x3)
     · refine rExit ?_
       refine xThenX ?_
       refine xThenX ?_
       refine rOut ?_
       exact rDone (.inl rfl) rfl
   · exact rFail


/-! ### (*haruspex/bitset.Set).All -/

def bitset_Set_All_env (F : Nat) : Env := envOf [(28, bitset_Set_words_m F), (29, bits_TrailingZeros64_m F)]

noncomputable def bitset_Set_All_R (F : Nat) := rK Tryd.prog TrydG (bitset_Set_All_env F) Tryd.f13
noncomputable def bitset_Set_All_D (F : Nat) := dK Tryd.prog TrydG (bitset_Set_All_env F) Tryd.f13

def bitset_Set_All_r9 (F : Nat) (x3 : Value) (K : Value → M Value) : M Value :=
  K x3

theorem bitset_Set_All_r9_ok (F : Nat) (x3 : Value) (K : Value → M Value) : bitset_Set_All_r9 F x3 K = bitset_Set_All_R F 9 [(3, x3)] [2] K := by kernel_rfl

def bitset_Set_All_k0 (F : Nat) (x3 : Value) : M Value :=
  bitset_Set_All_r9 F x3 (fun x2 => ret x2)

def bitset_Set_All_r8 (F : Nat) (x3 x7 x8 x9 : Value) (K : Value → Value → Value → Value → M Value) : M Value :=
  bnd (opBin .add x9 (.int .i64 (1))) fun v28 => K x3 x7 x8 v28

theorem bitset_Set_All_r8_ok (F : Nat) (x3 x7 x8 x9 : Value) (K : Value → Value → Value → Value → M Value) : bitset_Set_All_r8 F x3 x7 x8 x9 K = bitset_Set_All_R F 8 [(9, x9), (8, x8), (7, x7), (3, x3)] [3, 7, 8, 9] K := by kernel_rfl

def bitset_Set_All_k2 (F : Nat) (A1 : Value → Value → Value → Value → M Value) (x3 x7 x8 x9 : Value) : M Value :=
  bitset_Set_All_r8 F x3 x7 x8 x9 (fun x3 x7 x8 x9 => A1 x3 x7 x8 x9)

def bitset_Set_All_r6 (F : Nat) (x3 x4 x5 x7 x8 x9 : Value) (K : Value → Value → Value → Value → Value → Value → M Value) : M Value :=
  bnd (opBin .sub x5 (.int .u64 (1))) fun v18 => bnd (opBin .and x5 v18) fun v19 => K x3 x4 v19 x7 x8 x9

theorem bitset_Set_All_r6_ok (F : Nat) (x3 x4 x5 x7 x8 x9 : Value) (K : Value → Value → Value → Value → Value → Value → M Value) : bitset_Set_All_r6 F x3 x4 x5 x7 x8 x9 K = bitset_Set_All_R F 6 [(9, x9), (8, x8), (7, x7), (5, x5), (4, x4), (3, x3)] [3, 4, 5, 7, 8, 9] K := by kernel_rfl

def bitset_Set_All_r7 (F : Nat) (x3 x4 x5 x7 x8 x9 : Value) (K : Value → Value → Value → Value → Value → Value → M Value) : M Value :=
  bnd (opBin .mul x4 (.int .i64 (64))) fun v22 => bnd (bits_TrailingZeros64 F x5) fun v24 => bnd (opBin .add v22 v24) fun v25 => bnd (opBuildSlice 1 (rep 1 [(.int .i64 (0))]) [(0, 1, false, v25)]) fun v26 => bnd (opAppend 1 8 x3 v26) fun v27 => K v27 x4 x5 x7 x8 x9

theorem bitset_Set_All_r7_ok (F : Nat) (x3 x4 x5 x7 x8 x9 : Value) (K : Value → Value → Value → Value → Value → Value → M Value) : bitset_Set_All_r7 F x3 x4 x5 x7 x8 x9 K = bitset_Set_All_R F 7 [(9, x9), (8, x8), (7, x7), (5, x5), (4, x4), (3, x3)] [3, 4, 5, 7, 8, 9] K := by kernel_rfl

def bitset_Set_All_r5 (F : Nat) (x3 x4 x5 x7 x8 x9 : Value) (K : Value → Value → Value → Value → Value → Value → Value → M Value) : M Value :=
  bnd (opBin .gtr x5 (.int .u64 (0))) fun v15 => K x3 x4 x5 x7 x8 x9 v15

theorem bitset_Set_All_r5_ok (F : Nat) (x3 x4 x5 x7 x8 x9 : Value) (K : Value → Value → Value → Value → Value → Value → Value → M Value) : bitset_Set_All_r5 F x3 x4 x5 x7 x8 x9 K = bitset_Set_All_R F 5 [(9, x9), (8, x8), (7, x7), (5, x5), (4, x4), (3, x3)] [3, 4, 5, 7, 8, 9, 15] K := by kernel_rfl

def bitset_Set_All_b3 (F : Nat) (E3_2 : Value → Value → Value → Value → M Value) (A3 : Value → Value → Value → Value → Value → Value → M Value) (x3 x4 x5 x7 x8 x9 : Value) : M Value :=
  bitset_Set_All_r5 F x3 x4 x5 x7 x8 x9 (fun x3 x4 x5 x7 x8 x9 x15 => onB x15 (bitset_Set_All_r7 F x3 x4 x5 x7 x8 x9 (fun x3 x4 x5 x7 x8 x9 => bitset_Set_All_r6 F x3 x4 x5 x7 x8 x9 (fun x3 x4 x5 x7 x8 x9 => A3 x3 x4 x5 x7 x8 x9))) (E3_2 x3 x7 x8 x9))

def bitset_Set_All_l3 (F : Nat) (E3_2 : Value → Value → Value → Value → M Value) : Nat → Value → Value → Value → Value → Value → Value → M Value
  | 0, _, _, _, _, _, _ => fail
  | k3 + 1, x3, x4, x5, x7, x8, x9 => bitset_Set_All_b3 F E3_2 (bitset_Set_All_l3 F E3_2 k3) x3 x4 x5 x7 x8 x9

theorem bitset_Set_All_l3_s (F : Nat) (E3_2 : Value → Value → Value → Value → M Value) (k3 : Nat) (x3 x4 x5 x7 x8 x9 : Value) : bitset_Set_All_l3 F E3_2 (k3 + 1) x3 x4 x5 x7 x8 x9 = bitset_Set_All_b3 F E3_2 (bitset_Set_All_l3 F E3_2 k3) x3 x4 x5 x7 x8 x9 := rfl

def bitset_Set_All_r4 (F : Nat) (x3 x7 x8 x9 : Value) (K : Value → Value → Value → Value → Value → Value → M Value) : M Value :=
  bnd (opIndexAddr 1 x7 x9) fun v12 => bnd (opLoad v12) fun v13 => K x3 x9 v13 x7 x8 x9

theorem bitset_Set_All_r4_ok (F : Nat) (x3 x7 x8 x9 : Value) (K : Value → Value → Value → Value → Value → Value → M Value) : bitset_Set_All_r4 F x3 x7 x8 x9 K = bitset_Set_All_R F 4 [(9, x9), (8, x8), (7, x7), (3, x3)] [3, 4, 5, 7, 8, 9] K := by kernel_rfl

def bitset_Set_All_r3 (F : Nat) (x3 x7 x8 x9 : Value) (K : Value → Value → Value → Value → Value → M Value) : M Value :=
  bnd (opBin .lss x9 x8) fun v10 => K x3 x7 x8 x9 v10

theorem bitset_Set_All_r3_ok (F : Nat) (x3 x7 x8 x9 : Value) (K : Value → Value → Value → Value → Value → M Value) : bitset_Set_All_r3 F x3 x7 x8 x9 K = bitset_Set_All_R F 3 [(9, x9), (8, x8), (7, x7), (3, x3)] [3, 7, 8, 9, 10] K := by kernel_rfl

def bitset_Set_All_b1 (F : Nat) (E1_0 : Value → M Value) (A1 : Value → Value → Value → Value → M Value) (x3 x7 x8 x9 : Value) : M Value :=
  bitset_Set_All_r3 F x3 x7 x8 x9 (fun x3 x7 x8 x9 x10 => onB x10 (bitset_Set_All_r4 F x3 x7 x8 x9 (fun x3 x4 x5 x7 x8 x9 => bitset_Set_All_l3 F (fun x3 x7 x8 x9 => bitset_Set_All_k2 F A1 x3 x7 x8 x9) F x3 x4 x5 x7 x8 x9)) (E1_0 x3))

def bitset_Set_All_l1 (F : Nat) (E1_0 : Value → M Value) : Nat → Value → Value → Value → Value → M Value
  | 0, _, _, _, _ => fail
  | k1 + 1, x3, x7, x8, x9 => bitset_Set_All_b1 F E1_0 (bitset_Set_All_l1 F E1_0 k1) x3 x7 x8 x9

theorem bitset_Set_All_l1_s (F : Nat) (E1_0 : Value → M Value) (k1 : Nat) (x3 x7 x8 x9 : Value) : bitset_Set_All_l1 F E1_0 (k1 + 1) x3 x7 x8 x9 = bitset_Set_All_b1 F E1_0 (bitset_Set_All_l1 F E1_0 k1) x3 x7 x8 x9 := rfl

def bitset_Set_All_r2 (F : Nat) (x0 x3 : Value) (K : Value → Value → Value → Value → M Value) : M Value :=
  bnd (bitset_Set_words F x0) fun v7 => bnd (opLen v7) fun v8 => K x3 v7 v8 (.int .i64 (0))

theorem bitset_Set_All_r2_ok (F : Nat) (x0 x3 : Value) (K : Value → Value → Value → Value → M Value) : bitset_Set_All_r2 F x0 x3 K = bitset_Set_All_R F 2 [(3, x3), (0, x0)] [3, 7, 8, 9] K := by kernel_rfl

def bitset_Set_All_r1 (F : Nat) (x0 : Value) (K : Value → Value → M Value) : M Value :=
  K x0 (.slice none 0 0)

theorem bitset_Set_All_r1_ok (F : Nat) (x0 : Value) (K : Value → Value → M Value) : bitset_Set_All_r1 F x0 K = bitset_Set_All_R F 1 [(0, x0)] [0, 3] K := by kernel_rfl

def bitset_Set_All_r0 (F : Nat) (x0 : Value) (K : Value → M Value) : M Value :=
  K x0

theorem bitset_Set_All_r0_ok (F : Nat) (x0 : Value) (K : Value → M Value) : bitset_Set_All_r0 F x0 K = bitset_Set_All_R F 0 [(0, x0)] [0] K := by kernel_rfl

def bitset_Set_All (F : Nat) (x0 : Value) : M Value :=
  bitset_Set_All_r0 F x0 (fun x0 => bitset_Set_All_r1 F x0 (fun x0 x3 => bitset_Set_All_r2 F x0 x3 (fun x3 x7 x8 x9 => bitset_Set_All_l1 F (fun x3 => bitset_Set_All_k0 F x3) F x3 x7 x8 x9)))

def bitset_Set_All_m (F : Nat) : List Value → M Value
  | [x0] => bitset_Set_All F x0
  | _ => fail

theorem bitset_Set_All_body : Tryd.f13.body = some (.seq (.region 0 (opsOf Tryd.f13 0) false) (.seq (.region 1 (opsOf Tryd.f13 1) false) (.seq (.seq (.region 2 (opsOf Tryd.f13 2) false) (.block 0 (.loop (.seq (.region 3 (opsOf Tryd.f13 3) false) (.seq (.cond (.tmp 10) .skip (.exit 0)) (.seq (.block 1 (.seq (.region 4 (opsOf Tryd.f13 4) false) (.block 2 (.loop (.seq (.seq (.region 5 (opsOf Tryd.f13 5) false) (.cond (.tmp 15) .skip (.exit 2))) (.seq (.block 3 (.region 7 (opsOf Tryd.f13 7) false)) (.region 6 (opsOf Tryd.f13 6) false))))))) (.region 8 (opsOf Tryd.f13 8) false))))))) (.seq (.region 9 (opsOf Tryd.f13 9) false) .ret)))) := by kernel_rfl

theorem bitset_Set_All_ok (F : Nat) : Sim Tryd.prog TrydG 13 (bitset_Set_All_m F) := by
 have hE : EnvOK Tryd.prog TrydG (bitset_Set_All_env F) := (EnvOK.cons (bitset_Set_words_ok F) (EnvOK.cons (bits_TrailingZeros64_ok F) EnvOK.nil))
 refine Sim.of_body (E := bitset_Set_All_env F) Tryd.func13 bitset_Set_All_body Tryd.call13 ?_ ?_
 · intro args hl; unfold bitset_Set_All_m; split
   · exact absurd hl (Nat.not_lt.2 (Nat.le_of_ble_eq_true rfl))
   · rfl
 · intro args ρ h w z; unfold bitset_Set_All_m; split
   · rename_i x0; show OKc _ _ [(0, x0)] _ _
     refine rSeq ?_
     refine cLess [0] ?_
     refine xR hE [0] rfl (bitset_Set_All_r0_ok F _ _) ?_
     intro x0
     show OKq _ _ _ [(0, x0)] _
     refine rThen ?_
     refine rSeq ?_
     refine cLess [0] ?_
     refine xR hE [0, 3] rfl (bitset_Set_All_r1_ok F _ _) ?_
     intro x0 x3
     show OKq _ _ _ [(3, x3), (0, x0)] _
     refine rThen ?_
     refine xSeq [3] (bitset_Set_All_k0 F ) ?_ fun hj0 => ?_
     · intro x3
       show OKc _ _ [(3, x3)] _ _
       refine rSeq ?_
       refine cLess [3] ?_
       refine xR hE [2] rfl (bitset_Set_All_r9_ok F _ _) ?_
       intro x2
       show OKq _ _ _ [(2, x2)] _
       refine rThen ?_
       refine rRet ?_
       exact rDone (.inr rfl) rfl
     · refine rSeq ?_
       refine cLess [3, 0] ?_
       refine xR hE [3, 7, 8, 9] rfl (bitset_Set_All_r2_ok F _ _ _) ?_
       intro x3 x7 x8 x9
       show OKq _ _ _ [(9, x9), (8, x8), (7, x7), (3, x3)] _
       refine rThen ?_
       refine rBlock ?_
       refine cLess [9, 8, 7, 3] ?_
       refine xLoopAt [3, 7, 8, 9] [] (fun k1 => bitset_Set_All_l1 F (fun x3 => bitset_Set_All_k0 F x3) k1) F [x3, x7, x8, x9] rfl rfl (fun _ _ _ _ => rfl) fun I hI1 k1 => ?_
       intro x3 x7 x8 x9
       show OKc _ _ [(9, x9), (8, x8), (7, x7), (3, x3)] _ _
       refine cAs (bitset_Set_All_l1_s F _ _ _ _ _ _) ?_
       refine rSeq ?_
       refine cLess [9, 8, 7, 3] ?_
       refine xR hE [3, 7, 8, 9, 10] rfl (bitset_Set_All_r3_ok F _ _ _ _ _) ?_
       intro x3 x7 x8 x9 x10
       show OKq _ _ _ [(10, x10), (9, x9), (8, x8), (7, x7), (3, x3)] _
       refine rThen ?_
       refine rSeq ?_
       refine xCond rfl rfl ?_ ?_
       · refine rSkip ?_
         refine rThen ?_
         refine xSeq [3, 7, 8, 9] (bitset_Set_All_k2 F (bitset_Set_All_l1 F (fun x3 => bitset_Set_All_k0 F x3) k1) ) ?_ fun hj2 => ?_
         · intro x3 x7 x8 x9
           show OKc _ _ [(9, x9), (8, x8), (7, x7), (3, x3)] _ _
           refine cLess [9, 8, 7, 3] ?_
           refine xR hE [3, 7, 8, 9] rfl (bitset_Set_All_r8_ok F _ _ _ _ _) ?_
           intro x3 x7 x8 x9
           show OKq _ _ _ [(9, x9), (8, x8), (7, x7), (3, x3)] _
           exact qLess [9, 8, 7, 3] (hI1 k1 x3 x7 x8 x9)
         · refine rBlock ?_
           refine rSeq ?_
           refine cLess [9, 8, 7, 3] ?_
           refine xR hE [3, 4, 5, 7, 8, 9] rfl (bitset_Set_All_r4_ok F _ _ _ _ _) ?_
           intro x3 x4 x5 x7 x8 x9
           show OKq _ _ _ [(9, x9), (8, x8), (7, x7), (5, x5), (4, x4), (3, x3)] _
           refine rThen ?_
           refine rBlock ?_
           refine cLess [9, 8, 7, 5, 4, 3] ?_
           refine xLoopAt [3, 4, 5, 7, 8, 9] [] (fun k3 => bitset_Set_All_l3 F (fun x3 x7 x8 x9 => bitset_Set_All_k2 F (bitset_Set_All_l1 F (fun x3 => bitset_Set_All_k0 F x3) k1) x3 x7 x8 x9) k3) F [x3, x4, x5, x7, x8, x9] rfl rfl (fun _ _ _ _ _ _ => rfl) fun I hI3 k3 => ?_
           intro x3 x4 x5 x7 x8 x9
           show OKc _ _ [(9, x9), (8, x8), (7, x7), (5, x5), (4, x4), (3, x3)] _ _
           refine cAs (bitset_Set_All_l3_s F _ _ _ _ _ _ _ _) ?_
           refine rSeq ?_
           refine rSeq ?_
           refine cLess [9, 8, 7, 5, 4, 3] ?_
           refine xR hE [3, 4, 5, 7, 8, 9, 15] rfl (bitset_Set_All_r5_ok F _ _ _ _ _ _ _) ?_
           intro x3 x4 x5 x7 x8 x9 x15
           show OKq _ _ _ [(15, x15), (9, x9), (8, x8), (7, x7), (5, x5), (4, x4), (3, x3)] _
           refine rThen ?_
           refine xCond rfl rfl ?_ ?_
           · refine rSkip ?_
             refine rThen ?_
             refine rSeq ?_
             refine rBlock ?_
             refine cLess [9, 8, 7, 5, 4, 3] ?_
             refine xR hE [3, 4, 5, 7, 8, 9] rfl (bitset_Set_All_r7_ok F _ _ _ _ _ _ _) ?_
             intro x3 x4 x5 x7 x8 x9
             show OKq _ _ _ [(9, x9), (8, x8), (7, x7), (5, x5), (4, x4), (3, x3)] _
             refine xBlockN ?_
             refine rThen ?_
             refine cLess [9, 8, 7, 5, 4, 3] ?_
             refine xR hE [3, 4, 5, 7, 8, 9] rfl (bitset_Set_All_r6_ok F _ _ _ _ _ _ _) ?_
             intro x3 x4 x5 x7 x8 x9
             show OKq _ _ _ [(9, x9), (8, x8), (7, x7), (5, x5), (4, x4), (3, x3)] _
             exact qLess [9, 8, 7, 5, 4, 3] (hI3 k3 x3 x4 x5 x7 x8 x9)
           · refine rExit ?_
             refine xThenX ?_
             refine xThenX ?_
             refine rOut ?_
             refine xBlockN ?_
             exact qLess [9, 8, 7, 3] (hj2 x3 x7 x8 x9)
       · refine rExit ?_
         refine xThenX ?_
         refine xThenX ?_
         refine rOut ?_
         exact qLess [3] (hj0 x3)
   · exact rFail


/-! ### haruspex/haruspexref1.Put -/

def R1_Put_env (F : Nat) : Env := envOf [(14, R1_In_m F)]

noncomputable def R1_Put_R (F : Nat) := rK Tryd.prog TrydG (R1_Put_env F) Tryd.f15
noncomputable def R1_Put_D (F : Nat) := dK Tryd.prog TrydG (R1_Put_env F) Tryd.f15

def R1_Put_r6 (F : Nat) (x0 x1 x5 : Value) (K : Value → M Value) : M Value :=
  bnd (opSlice 1 x0 none (some x5) (some x5)) fun v27 => bnd (opSlice 1 x0 (some x5) none none) fun v32 => bnd (opBuildSlice 1 (rep 1 [(.int .i64 (0))]) [(0, 1, false, x1)]) fun v29 => bnd (opAppend 1 8 v29 v32) fun v33 => bnd (opAppend 1 8 v27 v33) fun v34 => K v34

theorem R1_Put_r6_ok (F : Nat) (x0 x1 x5 : Value) (K : Value → M Value) : R1_Put_r6 F x0 x1 x5 K = R1_Put_D F 6 [0, 1, 2, 3, 4, 6, 7, 8, 5, 9, 10, 11] [(5, x5), (1, x1), (0, x0)] [4] K := by kernel_rfl

theorem R1_Put_r6_good : goodOrder (opsOf Tryd.f15 6) [0, 1, 2, 3, 4, 6, 7, 8, 5, 9, 10, 11] = true := by kernel_rfl

def R1_Put_k0 (F : Nat) (x0 x1 x5 : Value) : M Value :=
  R1_Put_r6 F x0 x1 x5 (fun x4 => ret x4)

def R1_Put_r5 (F : Nat) (x0 x1 x5 : Value) (K : Value → Value → Value → M Value) : M Value :=
  bnd (opBin .add x5 (.int .i64 (1))) fun v23 => K x0 x1 v23

theorem R1_Put_r5_ok (F : Nat) (x0 x1 x5 : Value) (K : Value → Value → Value → M Value) : R1_Put_r5 F x0 x1 x5 K = R1_Put_R F 5 [(5, x5), (1, x1), (0, x0)] [0, 1, 5] K := by kernel_rfl

def R1_Put_r4 (F : Nat) (x0 x1 x5 : Value) (K : Value → Value → Value → Value → M Value) : M Value :=
  bnd (opLen x0) fun v12 => bnd (opBin .lss x5 v12) fun v13 => onB v13 (bnd (opIndexAddr 1 x0 x5) fun v17 => bnd (opLoad v17) fun v18 => bnd (opBin .lss v18 x1) fun v20 => K x0 x1 x5 v20) (K x0 x1 x5 (.bool false))

theorem R1_Put_r4_ok (F : Nat) (x0 x1 x5 : Value) (K : Value → Value → Value → Value → M Value) : R1_Put_r4 F x0 x1 x5 K = R1_Put_R F 4 [(5, x5), (1, x1), (0, x0)] [0, 1, 5, 21] K := by kernel_rfl

def R1_Put_b1 (F : Nat) (E1_0 : Value → Value → Value → M Value) (A1 : Value → Value → Value → M Value) (x0 x1 x5 : Value) : M Value :=
  R1_Put_r4 F x0 x1 x5 (fun x0 x1 x5 x21 => onB x21 (R1_Put_r5 F x0 x1 x5 (fun x0 x1 x5 => A1 x0 x1 x5)) (E1_0 x0 x1 x5))

def R1_Put_l1 (F : Nat) (E1_0 : Value → Value → Value → M Value) : Nat → Value → Value → Value → M Value
  | 0, _, _, _ => fail
  | k1 + 1, x0, x1, x5 => R1_Put_b1 F E1_0 (R1_Put_l1 F E1_0 k1) x0 x1 x5

theorem R1_Put_l1_s (F : Nat) (E1_0 : Value → Value → Value → M Value) (k1 : Nat) (x0 x1 x5 : Value) : R1_Put_l1 F E1_0 (k1 + 1) x0 x1 x5 = R1_Put_b1 F E1_0 (R1_Put_l1 F E1_0 k1) x0 x1 x5 := rfl

def R1_Put_r3 (F : Nat) (x0 x1 : Value) (K : Value → Value → Value → M Value) : M Value :=
  K x0 x1 (.int .i64 (0))

theorem R1_Put_r3_ok (F : Nat) (x0 x1 : Value) (K : Value → Value → Value → M Value) : R1_Put_r3 F x0 x1 K = R1_Put_R F 3 [(1, x1), (0, x0)] [0, 1, 5] K := by kernel_rfl

def R1_Put_r2 (F : Nat) (x0 : Value) (K : Value → M Value) : M Value :=
  K x0

theorem R1_Put_r2_ok (F : Nat) (x0 : Value) (K : Value → M Value) : R1_Put_r2 F x0 K = R1_Put_R F 2 [(0, x0)] [4] K := by kernel_rfl

def R1_Put_r1 (F : Nat) (x0 x1 : Value) (K : Value → Value → Value → M Value) : M Value :=
  bnd (R1_In F x0 x1) fun v8 => K x0 x1 v8

theorem R1_Put_r1_ok (F : Nat) (x0 x1 : Value) (K : Value → Value → Value → M Value) : R1_Put_r1 F x0 x1 K = R1_Put_R F 1 [(1, x1), (0, x0)] [0, 1, 8] K := by kernel_rfl

def R1_Put_r0 (F : Nat) (x0 x1 : Value) (K : Value → Value → M Value) : M Value :=
  K x0 x1

theorem R1_Put_r0_ok (F : Nat) (x0 x1 : Value) (K : Value → Value → M Value) : R1_Put_r0 F x0 x1 K = R1_Put_R F 0 [(1, x1), (0, x0)] [0, 1] K := by kernel_rfl

def R1_Put (F : Nat) (x0 x1 : Value) : M Value :=
  R1_Put_r0 F x0 x1 (fun x0 x1 => R1_Put_r1 F x0 x1 (fun x0 x1 x8 => onB x8 (R1_Put_r2 F x0 (fun x4 => ret x4)) (R1_Put_r3 F x0 x1 (fun x0 x1 x5 => R1_Put_l1 F (fun x0 x1 x5 => R1_Put_k0 F x0 x1 x5) F x0 x1 x5))))

def R1_Put_m (F : Nat) : List Value → M Value
  | [x0, x1] => R1_Put F x0 x1
  | _ => fail

theorem R1_Put_body : Tryd.f15.body = some (.seq (.region 0 (opsOf Tryd.f15 0) false) (.seq (.seq (.region 1 (opsOf Tryd.f15 1) false) (.cond (.tmp 8) (.seq (.region 2 (opsOf Tryd.f15 2) false) .ret) .skip)) (.seq (.region 3 (opsOf Tryd.f15 3) false) (.seq (.block 0 (.loop (.seq (.seq (.region 4 (opsOf Tryd.f15 4) false) (.cond (.tmp 21) .skip (.exit 0))) (.block 1 (.region 5 (opsOf Tryd.f15 5) false))))) (.seq (.region 6 (opsOf Tryd.f15 6) true) .ret))))) := by kernel_rfl

theorem R1_Put_ok (F : Nat) : Sim Tryd.prog TrydG 15 (R1_Put_m F) := by
 have hE : EnvOK Tryd.prog TrydG (R1_Put_env F) := (EnvOK.cons (R1_In_ok F) EnvOK.nil)
 refine Sim.of_body (E := R1_Put_env F) Tryd.func15 R1_Put_body Tryd.call15 ?_ ?_
 · intro args hl; unfold R1_Put_m; split
   · exact absurd hl (Nat.not_lt.2 (Nat.le_of_ble_eq_true rfl))
   · rfl
 · intro args ρ h w z; unfold R1_Put_m; split
   · rename_i x0 x1; show OKc _ _ [(0, x0), (1, x1)] _ _
     refine rSeq ?_
     refine cLess [1, 0] ?_
     refine xR hE [0, 1] rfl (R1_Put_r0_ok F _ _ _) ?_
     intro x0 x1
     show OKq _ _ _ [(1, x1), (0, x0)] _
     refine rThen ?_
     refine rSeq ?_
     refine rSeq ?_
     refine cLess [1, 0] ?_
     refine xR hE [0, 1, 8] rfl (R1_Put_r1_ok F _ _ _) ?_
     intro x0 x1 x8
     show OKq _ _ _ [(8, x8), (1, x1), (0, x0)] _
     refine rThen ?_
     refine xCond rfl rfl ?_ ?_
     · refine rSeq ?_
       refine cLess [0] ?_
       refine xR hE [4] rfl (R1_Put_r2_ok F _ _) ?_
       intro x4
       show OKq _ _ _ [(4, x4)] _
       refine rThen ?_
       refine rRet ?_
       refine xThenR ?_
       exact rDone (.inr rfl) rfl
     · refine rSkip ?_
       refine rThen ?_
       refine rSeq ?_
       refine cLess [1, 0] ?_
       refine xR hE [0, 1, 5] rfl (R1_Put_r3_ok F _ _ _) ?_
       intro x0 x1 x5
       show OKq _ _ _ [(5, x5), (1, x1), (0, x0)] _
       refine rThen ?_
       refine xSeq [0, 1, 5] (R1_Put_k0 F ) ?_ fun hj0 => ?_
       · intro x0 x1 x5
         show OKc _ _ [(5, x5), (1, x1), (0, x0)] _ _
         refine rSeq ?_
         refine cLess [5, 1, 0] ?_
         refine xD Trydmix hE [4] rfl R1_Put_r6_good (R1_Put_r6_ok F _ _ _ _) ?_
         intro x4
         show OKq _ _ _ [(4, x4)] _
         refine rThen ?_
         refine rRet ?_
         exact rDone (.inr rfl) rfl
       · refine rBlock ?_
         refine cLess [5, 1, 0] ?_
         refine xLoopAt [0, 1, 5] [] (fun k1 => R1_Put_l1 F (fun x0 x1 x5 => R1_Put_k0 F x0 x1 x5) k1) F [x0, x1, x5] rfl rfl (fun _ _ _ => rfl) fun I hI1 k1 => ?_
         intro x0 x1 x5
         show OKc _ _ [(5, x5), (1, x1), (0, x0)] _ _
         refine cAs (R1_Put_l1_s F _ _ _ _ _) ?_
         refine rSeq ?_
         refine rSeq ?_
         refine cLess [5, 1, 0] ?_
         refine xR hE [0, 1, 5, 21] rfl (R1_Put_r4_ok F _ _ _ _) ?_
         intro x0 x1 x5 x21
         show OKq _ _ _ [(21, x21), (5, x5), (1, x1), (0, x0)] _
         refine rThen ?_
         refine xCond rfl rfl ?_ ?_
         · refine rSkip ?_
           refine rThen ?_
           refine rBlock ?_
           refine cLess [5, 1, 0] ?_
           refine xR hE [0, 1, 5] rfl (R1_Put_r5_ok F _ _ _ _) ?_
           intro x0 x1 x5
           show OKq _ _ _ [(5, x5), (1, x1), (0, x0)] _
           refine xBlockN ?_
           exact qLess [5, 1, 0] (hI1 k1 x0 x1 x5)
         · refine rExit ?_
           refine xThenX ?_
           refine xThenX ?_
           refine rOut ?_
           exact qLess [5, 1, 0] (hj0 x0 x1 x5)
   · exact rFail


/-! ### haruspex/haruspexref1.Above -/

def R1_Above_env (F : Nat) : Env := envOf [(18, R1_Reach_m F)]

noncomputable def R1_Above_R (F : Nat) := rK Tryd.prog TrydG (R1_Above_env F) Tryd.f19
noncomputable def R1_Above_D (F : Nat) := dK Tryd.prog TrydG (R1_Above_env F) Tryd.f19

def R1_Above_r4 (F : Nat) (x0 x1 x2 x3 : Value) (K : Value → M Value) : M Value :=
  bnd (opBin .eql x2 x3) fun v28 => onB v28 (K (.bool true)) (bnd (opBuildSlice 1 (rep 1 [(.int .i64 (0))]) [(0, 1, false, x1)]) fun v32 => bnd (R1_Reach F x0 v32 x2) fun v34 => bnd (opIndexAddr 1 v34 x3) fun v36 => bnd (opLoad v36) fun v37 => bnd (opNot v37) fun v38 => K v38)

theorem R1_Above_r4_ok (F : Nat) (x0 x1 x2 x3 : Value) (K : Value → M Value) : R1_Above_r4 F x0 x1 x2 x3 K = R1_Above_R F 4 [(3, x3), (2, x2), (1, x1), (0, x0)] [8] K := by kernel_rfl

def R1_Above_r3 (F : Nat) (K : Value → M Value) : M Value :=
  K (.bool false)

theorem R1_Above_r3_ok (F : Nat) (K : Value → M Value) : R1_Above_r3 F K = R1_Above_R F 3 [] [8] K := by kernel_rfl

def R1_Above_r2 (F : Nat) (x0 x1 x2 x3 x9 : Value) (K : Value → Value → Value → Value → Value → M Value) : M Value :=
  bnd (opIndexAddr 1 x9 x2) fun v16 => bnd (opLoad v16) fun v17 => bnd (opNot v17) fun v18 => onB v18 (K x0 x1 x2 x3 (.bool true)) (bnd (opIndexAddr 1 x9 x3) fun v22 => bnd (opLoad v22) fun v23 => bnd (opNot v23) fun v24 => K x0 x1 x2 x3 v24)

theorem R1_Above_r2_ok (F : Nat) (x0 x1 x2 x3 x9 : Value) (K : Value → Value → Value → Value → Value → M Value) : R1_Above_r2 F x0 x1 x2 x3 x9 K = R1_Above_R F 2 [(9, x9), (3, x3), (2, x2), (1, x1), (0, x0)] [0, 1, 2, 3, 25] K := by kernel_rfl

def R1_Above_r1 (F : Nat) (x0 x1 x2 x3 : Value) (K : Value → Value → Value → Value → Value → M Value) : M Value :=
  bnd (opBuildSlice 1 (rep 1 [(.int .i64 (0))]) [(0, 1, false, x1)]) fun v12 => bnd (R1_Reach F x0 v12 (.int .i64 (-1))) fun v13 => K x0 x1 x2 x3 v13

theorem R1_Above_r1_ok (F : Nat) (x0 x1 x2 x3 : Value) (K : Value → Value → Value → Value → Value → M Value) : R1_Above_r1 F x0 x1 x2 x3 K = R1_Above_R F 1 [(3, x3), (2, x2), (1, x1), (0, x0)] [0, 1, 2, 3, 9] K := by kernel_rfl

def R1_Above_r0 (F : Nat) (x0 x1 x2 x3 : Value) (K : Value → Value → Value → Value → M Value) : M Value :=
  K x0 x1 x2 x3

theorem R1_Above_r0_ok (F : Nat) (x0 x1 x2 x3 : Value) (K : Value → Value → Value → Value → M Value) : R1_Above_r0 F x0 x1 x2 x3 K = R1_Above_R F 0 [(3, x3), (2, x2), (1, x1), (0, x0)] [0, 1, 2, 3] K := by kernel_rfl

def R1_Above (F : Nat) (x0 x1 x2 x3 : Value) : M Value :=
  R1_Above_r0 F x0 x1 x2 x3 (fun x0 x1 x2 x3 => R1_Above_r1 F x0 x1 x2 x3 (fun x0 x1 x2 x3 x9 => R1_Above_r2 F x0 x1 x2 x3 x9 (fun x0 x1 x2 x3 x25 => onB x25 (R1_Above_r3 F (fun x8 => ret x8)) (R1_Above_r4 F x0 x1 x2 x3 (fun x8 => ret x8)))))

def R1_Above_m (F : Nat) : List Value → M Value
  | [x0, x1, x2, x3] => R1_Above F x0 x1 x2 x3
  | _ => fail

theorem R1_Above_body : Tryd.f19.body = some (.seq (.region 0 (opsOf Tryd.f19 0) false) (.seq (.region 1 (opsOf Tryd.f19 1) false) (.seq (.seq (.region 2 (opsOf Tryd.f19 2) false) (.cond (.tmp 25) (.seq (.region 3 (opsOf Tryd.f19 3) false) .ret) .skip)) (.seq (.region 4 (opsOf Tryd.f19 4) false) .ret)))) := by kernel_rfl

theorem R1_Above_ok (F : Nat) : Sim Tryd.prog TrydG 19 (R1_Above_m F) := by
 have hE : EnvOK Tryd.prog TrydG (R1_Above_env F) := (EnvOK.cons (R1_Reach_ok F) EnvOK.nil)
 refine Sim.of_body (E := R1_Above_env F) Tryd.func19 R1_Above_body Tryd.call19 ?_ ?_
 · intro args hl; unfold R1_Above_m; split
   · exact absurd hl (Nat.not_lt.2 (Nat.le_of_ble_eq_true rfl))
   · rfl
 · intro args ρ h w z; unfold R1_Above_m; split
   · rename_i x0 x1 x2 x3; show OKc _ _ [(0, x0), (1, x1), (2, x2), (3, x3)] _ _
     refine rSeq ?_
     refine cLess [3, 2, 1, 0] ?_
     refine xR hE [0, 1, 2, 3] rfl (R1_Above_r0_ok F _ _ _ _ _) ?_
     intro x0 x1 x2 x3
     show OKq _ _ _ [(3, x3), (2, x2), (1, x1), (0, x0)] _
     refine rThen ?_
     refine rSeq ?_
     refine cLess [3, 2, 1, 0] ?_
     refine xR hE [0, 1, 2, 3, 9] rfl (R1_Above_r1_ok F _ _ _ _ _) ?_
     intro x0 x1 x2 x3 x9
     show OKq _ _ _ [(9, x9), (3, x3), (2, x2), (1, x1), (0, x0)] _
     refine rThen ?_
     refine rSeq ?_
     refine rSeq ?_
     refine cLess [9, 3, 2, 1, 0] ?_
     refine xR hE [0, 1, 2, 3, 25] rfl (R1_Above_r2_ok F _ _ _ _ _ _) ?_
     intro x0 x1 x2 x3 x25
     show OKq _ _ _ [(25, x25), (3, x3), (2, x2), (1, x1), (0, x0)] _
     refine rThen ?_
     refine xCond rfl rfl ?_ ?_
     · refine rSeq ?_
       refine cLess [] ?_
       refine xR hE [8] rfl (R1_Above_r3_ok F _) ?_
       intro x8
       show OKq _ _ _ [(8, x8)] _
       refine rThen ?_
       refine rRet ?_
       refine xThenR ?_
       exact rDone (.inr rfl) rfl
     · refine rSkip ?_
       refine rThen ?_
       refine rSeq ?_
       refine cLess [3, 2, 1, 0] ?_
       refine xR hE [8] rfl (R1_Above_r4_ok F _ _ _ _ _) ?_
       intro x8
       show OKq _ _ _ [(8, x8)] _
       refine rThen ?_
       refine rRet ?_
       exact rDone (.inr rfl) rfl
   · exact rFail


/-! ### haruspex/graph.Turn -/

def graph_Turn_env (F : Nat) : Env := envOf [(33, graph_May_m F)]

noncomputable def graph_Turn_R (F : Nat) := rK Tryd.prog TrydG (graph_Turn_env F) Tryd.f22
noncomputable def graph_Turn_D (F : Nat) := dK Tryd.prog TrydG (graph_Turn_env F) Tryd.f22

def graph_Turn_r13 (F : Nat) (x2 x3 : Value) (K : Value → M Value) : M Value :=
  bnd (opLoadN 2 x3) fun v46 => bnd (opStoreN 2 x2 v46) fun _ => K x2

theorem graph_Turn_r13_ok (F : Nat) (x2 x3 : Value) (K : Value → M Value) : graph_Turn_r13 F x2 x3 K = graph_Turn_R F 13 [(3, x3), (2, x2)] [2] K := by kernel_rfl

def graph_Turn_k0 (F : Nat) (x2 x3 : Value) : M Value :=
  graph_Turn_r13 F x2 x3 (fun x2 => bnd (opLoadN 2 x2) fun r0 => ret r0)

def graph_Turn_r12 (F : Nat) (x2 x3 x19 x20 x21 : Value) (K : Value → Value → Value → Value → Value → M Value) : M Value :=
  bnd (opBin .add x21 (.int .i64 (1))) fun v45 => K x2 x3 x19 x20 v45

theorem graph_Turn_r12_ok (F : Nat) (x2 x3 x19 x20 x21 : Value) (K : Value → Value → Value → Value → Value → M Value) : graph_Turn_r12 F x2 x3 x19 x20 x21 K = graph_Turn_R F 12 [(21, x21), (20, x20), (19, x19), (3, x3), (2, x2)] [2, 3, 19, 20, 21] K := by kernel_rfl

def graph_Turn_k2 (F : Nat) (A1 : Value → Value → Value → Value → Value → M Value) (x2 x3 x19 x20 x21 : Value) : M Value :=
  graph_Turn_r12 F x2 x3 x19 x20 x21 (fun x2 x3 x19 x20 x21 => A1 x2 x3 x19 x20 x21)

def graph_Turn_r11 (F : Nat) (x2 x3 x4 x19 x20 x21 x26 x27 x28 : Value) (K : Value → Value → Value → Value → Value → Value → Value → Value → Value → M Value) : M Value :=
  bnd (opBin .add x28 (.int .i64 (1))) fun v44 => K x2 x3 x4 x19 x20 x21 x26 x27 v44

theorem graph_Turn_r11_ok (F : Nat) (x2 x3 x4 x19 x20 x21 x26 x27 x28 : Value) (K : Value → Value → Value → Value → Value → Value → Value → Value → Value → M Value) : graph_Turn_r11 F x2 x3 x4 x19 x20 x21 x26 x27 x28 K = graph_Turn_R F 11 [(28, x28), (27, x27), (26, x26), (21, x21), (20, x20), (19, x19), (4, x4), (3, x3), (2, x2)] [2, 3, 4, 19, 20, 21, 26, 27, 28] K := by kernel_rfl

def graph_Turn_r10 (F : Nat) (x2 x3 x4 x7 x19 x20 x21 x26 x27 x28 : Value) (K : Value → Value → Value → Value → Value → Value → Value → Value → Value → M Value) : M Value :=
  bnd (opFieldAddr 1 x3) fun v32 => bnd (opLoad v32) fun v33 => bnd (opFieldAddr 1 x3) fun v35 => bnd (opLoad v35) fun v36 => bnd (opIndexAddr 1 v36 x7) fun v38 => bnd (opLoad v38) fun v39 => bnd (opBuildSlice 1 (rep 1 [(.int .i64 (0))]) [(0, 1, false, x4)]) fun v41 => bnd (opAppend 1 8 v39 v41) fun v42 => bnd (opChk false v32 v33) fun _ => bnd (opIndexAddr 1 v33 x7) fun v43 => bnd (opStore v43 v42) fun _ => K x2 x3 x4 x19 x20 x21 x26 x27 x28

theorem graph_Turn_r10_ok (F : Nat) (x2 x3 x4 x7 x19 x20 x21 x26 x27 x28 : Value) (K : Value → Value → Value → Value → Value → Value → Value → Value → Value → M Value) : graph_Turn_r10 F x2 x3 x4 x7 x19 x20 x21 x26 x27 x28 K = graph_Turn_D F 10 [0, 1, 2, 3, 4, 5, 6, 7, 8, 9, 10, 11, 12] [(28, x28), (27, x27), (26, x26), (21, x21), (20, x20), (19, x19), (7, x7), (4, x4), (3, x3), (2, x2)] [2, 3, 4, 19, 20, 21, 26, 27, 28] K := by kernel_rfl

theorem graph_Turn_r10_good : goodOrder (opsOf Tryd.f22 10) [0, 1, 2, 3, 4, 5, 6, 7, 8, 9, 10, 11, 12] = true := by kernel_rfl

def graph_Turn_r9 (F : Nat) (x2 x3 x4 x19 x20 x21 x26 x27 x28 : Value) (K : Value → Value → Value → Value → Value → Value → Value → Value → Value → Value → M Value) : M Value :=
  bnd (opIndexAddr 1 x26 x28) fun v30 => bnd (opLoad v30) fun v31 => K x2 x3 x4 v31 x19 x20 x21 x26 x27 x28

theorem graph_Turn_r9_ok (F : Nat) (x2 x3 x4 x19 x20 x21 x26 x27 x28 : Value) (K : Value → Value → Value → Value → Value → Value → Value → Value → Value → Value → M Value) : graph_Turn_r9 F x2 x3 x4 x19 x20 x21 x26 x27 x28 K = graph_Turn_R F 9 [(28, x28), (27, x27), (26, x26), (21, x21), (20, x20), (19, x19), (4, x4), (3, x3), (2, x2)] [2, 3, 4, 7, 19, 20, 21, 26, 27, 28] K := by kernel_rfl

def graph_Turn_r8 (F : Nat) (x2 x3 x4 x19 x20 x21 x26 x27 x28 : Value) (K : Value → Value → Value → Value → Value → Value → Value → Value → Value → Value → M Value) : M Value :=
  bnd (opBin .lss x28 x27) fun v29 => K x2 x3 x4 x19 x20 x21 x26 x27 x28 v29

theorem graph_Turn_r8_ok (F : Nat) (x2 x3 x4 x19 x20 x21 x26 x27 x28 : Value) (K : Value → Value → Value → Value → Value → Value → Value → Value → Value → Value → M Value) : graph_Turn_r8 F x2 x3 x4 x19 x20 x21 x26 x27 x28 K = graph_Turn_R F 8 [(28, x28), (27, x27), (26, x26), (21, x21), (20, x20), (19, x19), (4, x4), (3, x3), (2, x2)] [2, 3, 4, 19, 20, 21, 26, 27, 28, 29] K := by kernel_rfl

def graph_Turn_b3 (F : Nat) (E3_2 : Value → Value → Value → Value → Value → M Value) (A3 : Value → Value → Value → Value → Value → Value → Value → Value → Value → M Value) (x2 x3 x4 x19 x20 x21 x26 x27 x28 : Value) : M Value :=
  graph_Turn_r8 F x2 x3 x4 x19 x20 x21 x26 x27 x28 (fun x2 x3 x4 x19 x20 x21 x26 x27 x28 x29 => onB x29 (graph_Turn_r9 F x2 x3 x4 x19 x20 x21 x26 x27 x28 (fun x2 x3 x4 x7 x19 x20 x21 x26 x27 x28 => graph_Turn_r10 F x2 x3 x4 x7 x19 x20 x21 x26 x27 x28 (fun x2 x3 x4 x19 x20 x21 x26 x27 x28 => graph_Turn_r11 F x2 x3 x4 x19 x20 x21 x26 x27 x28 (fun x2 x3 x4 x19 x20 x21 x26 x27 x28 => A3 x2 x3 x4 x19 x20 x21 x26 x27 x28)))) (E3_2 x2 x3 x19 x20 x21))

def graph_Turn_l3 (F : Nat) (E3_2 : Value → Value → Value → Value → Value → M Value) : Nat → Value → Value → Value → Value → Value → Value → Value → Value → Value → M Value
  | 0, _, _, _, _, _, _, _, _, _ => fail
  | k3 + 1, x2, x3, x4, x19, x20, x21, x26, x27, x28 => graph_Turn_b3 F E3_2 (graph_Turn_l3 F E3_2 k3) x2 x3 x4 x19 x20 x21 x26 x27 x28

theorem graph_Turn_l3_s (F : Nat) (E3_2 : Value → Value → Value → Value → Value → M Value) (k3 : Nat) (x2 x3 x4 x19 x20 x21 x26 x27 x28 : Value) : graph_Turn_l3 F E3_2 (k3 + 1) x2 x3 x4 x19 x20 x21 x26 x27 x28 = graph_Turn_b3 F E3_2 (graph_Turn_l3 F E3_2 k3) x2 x3 x4 x19 x20 x21 x26 x27 x28 := rfl

def graph_Turn_r7 (F : Nat) (x2 x3 x4 x5 x19 x20 x21 : Value) (K : Value → Value → Value → Value → Value → Value → Value → Value → Value → M Value) : M Value :=
  bnd (opLen x5) fun v27 => K x2 x3 x4 x19 x20 x21 x5 v27 (.int .i64 (0))

theorem graph_Turn_r7_ok (F : Nat) (x2 x3 x4 x5 x19 x20 x21 : Value) (K : Value → Value → Value → Value → Value → Value → Value → Value → Value → M Value) : graph_Turn_r7 F x2 x3 x4 x5 x19 x20 x21 K = graph_Turn_R F 7 [(21, x21), (20, x20), (19, x19), (5, x5), (4, x4), (3, x3), (2, x2)] [2, 3, 4, 19, 20, 21, 26, 27, 28] K := by kernel_rfl

def graph_Turn_r6 (F : Nat) (x2 x3 x19 x20 x21 : Value) (K : Value → Value → Value → Value → Value → Value → Value → M Value) : M Value :=
  bnd (opIndexAddr 1 x19 x21) fun v24 => bnd (opLoad v24) fun v25 => K x2 x3 x21 v25 x19 x20 x21

theorem graph_Turn_r6_ok (F : Nat) (x2 x3 x19 x20 x21 : Value) (K : Value → Value → Value → Value → Value → Value → Value → M Value) : graph_Turn_r6 F x2 x3 x19 x20 x21 K = graph_Turn_R F 6 [(21, x21), (20, x20), (19, x19), (3, x3), (2, x2)] [2, 3, 4, 5, 19, 20, 21] K := by kernel_rfl

def graph_Turn_r5 (F : Nat) (x2 x3 x19 x20 x21 : Value) (K : Value → Value → Value → Value → Value → Value → M Value) : M Value :=
  bnd (opBin .lss x21 x20) fun v22 => K x2 x3 x19 x20 x21 v22

theorem graph_Turn_r5_ok (F : Nat) (x2 x3 x19 x20 x21 : Value) (K : Value → Value → Value → Value → Value → Value → M Value) : graph_Turn_r5 F x2 x3 x19 x20 x21 K = graph_Turn_R F 5 [(21, x21), (20, x20), (19, x19), (3, x3), (2, x2)] [2, 3, 19, 20, 21, 22] K := by kernel_rfl

def graph_Turn_b1 (F : Nat) (E1_0 : Value → Value → M Value) (A1 : Value → Value → Value → Value → Value → M Value) (x2 x3 x19 x20 x21 : Value) : M Value :=
  graph_Turn_r5 F x2 x3 x19 x20 x21 (fun x2 x3 x19 x20 x21 x22 => onB x22 (graph_Turn_r6 F x2 x3 x19 x20 x21 (fun x2 x3 x4 x5 x19 x20 x21 => graph_Turn_r7 F x2 x3 x4 x5 x19 x20 x21 (fun x2 x3 x4 x19 x20 x21 x26 x27 x28 => graph_Turn_l3 F (fun x2 x3 x19 x20 x21 => graph_Turn_k2 F A1 x2 x3 x19 x20 x21) F x2 x3 x4 x19 x20 x21 x26 x27 x28))) (E1_0 x2 x3))

def graph_Turn_l1 (F : Nat) (E1_0 : Value → Value → M Value) : Nat → Value → Value → Value → Value → Value → M Value
  | 0, _, _, _, _, _ => fail
  | k1 + 1, x2, x3, x19, x20, x21 => graph_Turn_b1 F E1_0 (graph_Turn_l1 F E1_0 k1) x2 x3 x19 x20 x21

theorem graph_Turn_l1_s (F : Nat) (E1_0 : Value → Value → M Value) (k1 : Nat) (x2 x3 x19 x20 x21 : Value) : graph_Turn_l1 F E1_0 (k1 + 1) x2 x3 x19 x20 x21 = graph_Turn_b1 F E1_0 (graph_Turn_l1 F E1_0 k1) x2 x3 x19 x20 x21 := rfl

def graph_Turn_r4 (F : Nat) (x1 x2 x3 : Value) (K : Value → Value → Value → Value → Value → M Value) : M Value :=
  bnd (opFieldAddr 1 x1) fun v18 => bnd (opLoad v18) fun v19 => bnd (opLen v19) fun v20 => K x2 x3 v19 v20 (.int .i64 (0))

theorem graph_Turn_r4_ok (F : Nat) (x1 x2 x3 : Value) (K : Value → Value → Value → Value → Value → M Value) : graph_Turn_r4 F x1 x2 x3 K = graph_Turn_R F 4 [(3, x3), (2, x2), (1, x1)] [2, 3, 19, 20, 21] K := by kernel_rfl

def graph_Turn_r3 (F : Nat) (x1 x2 : Value) (K : Value → Value → Value → M Value) : M Value :=
  bnd (opFieldAddr 0 x1) fun v12 => bnd (opLoad v12) fun v13 => bnd (opFieldAddr 0 x1) fun v14 => bnd (opLoad v14) fun v15 => bnd (opMake 24 [(.slice none 0 0)] v15 v15) fun v16 => bnd (opBuild [(.int .i64 (0)), (.slice none 0 0)] [(0, 1, false, v13), (1, 1, false, v16)]) fun v17 => bnd (opPtr [(.int .i64 (0)), (.slice none 0 0)]) fun v3 => bnd (opStoreN 2 v3 v17) fun _ => K x1 x2 v3

theorem graph_Turn_r3_ok (F : Nat) (x1 x2 : Value) (K : Value → Value → Value → M Value) : graph_Turn_r3 F x1 x2 K = graph_Turn_D F 3 [0, 1, 2, 3, 4, 5, 6, 7] [(2, x2), (1, x1)] [1, 2, 3] K := by kernel_rfl

theorem graph_Turn_r3_good : goodOrder (opsOf Tryd.f22 3) [0, 1, 2, 3, 4, 5, 6, 7] = true := by kernel_rfl

def graph_Turn_r2 (F : Nat) (x2 : Value) (K : Value → M Value) : M Value :=
  bnd (opBuild [(.int .i64 (0)), (.slice none 0 0)] []) fun v11 => bnd (opStoreN 2 x2 v11) fun _ => K x2

theorem graph_Turn_r2_ok (F : Nat) (x2 : Value) (K : Value → M Value) : graph_Turn_r2 F x2 K = graph_Turn_R F 2 [(2, x2)] [2] K := by kernel_rfl

def graph_Turn_r1 (F : Nat) (x1 x2 : Value) (K : Value → Value → Value → M Value) : M Value :=
  bnd (opLoadN 2 x1) fun v8 => bnd (graph_May F v8) fun v9 => bnd (opNot v9) fun v10 => K x1 x2 v10

theorem graph_Turn_r1_ok (F : Nat) (x1 x2 : Value) (K : Value → Value → Value → M Value) : graph_Turn_r1 F x1 x2 K = graph_Turn_R F 1 [(2, x2), (1, x1)] [1, 2, 10] K := by kernel_rfl

def graph_Turn_r0 (F : Nat) (x0 : Value) (K : Value → Value → M Value) : M Value :=
  bnd (opBoxN x0) fun v1 => bnd (opPtr [(.int .i64 (0)), (.slice none 0 0)]) fun v2 => K v1 v2

theorem graph_Turn_r0_ok (F : Nat) (x0 : Value) (K : Value → Value → M Value) : graph_Turn_r0 F x0 K = graph_Turn_R F 0 [(0, x0)] [1, 2] K := by kernel_rfl

def graph_Turn (F : Nat) (x0 : Value) : M Value :=
  graph_Turn_r0 F x0 (fun x1 x2 => graph_Turn_r1 F x1 x2 (fun x1 x2 x10 => onB x10 (graph_Turn_r2 F x2 (fun x2 => bnd (opLoadN 2 x2) fun r0 => ret r0)) (graph_Turn_r3 F x1 x2 (fun x1 x2 x3 => graph_Turn_r4 F x1 x2 x3 (fun x2 x3 x19 x20 x21 => graph_Turn_l1 F (fun x2 x3 => graph_Turn_k0 F x2 x3) F x2 x3 x19 x20 x21)))))

def graph_Turn_m (F : Nat) : List Value → M Value
  | [x0] => graph_Turn F x0
  | _ => fail

theorem graph_Turn_body : Tryd.f22.body = some (.seq (.region 0 (opsOf Tryd.f22 0) false) (.seq (.seq (.region 1 (opsOf Tryd.f22 1) false) (.cond (.tmp 10) (.seq (.region 2 (opsOf Tryd.f22 2) false) .ret) .skip)) (.seq (.region 3 (opsOf Tryd.f22 3) true) (.seq (.seq (.region 4 (opsOf Tryd.f22 4) false) (.block 0 (.loop (.seq (.region 5 (opsOf Tryd.f22 5) false) (.seq (.cond (.tmp 22) .skip (.exit 0)) (.seq (.block 1 (.seq (.region 6 (opsOf Tryd.f22 6) false) (.seq (.region 7 (opsOf Tryd.f22 7) false) (.block 2 (.loop (.seq (.region 8 (opsOf Tryd.f22 8) false) (.seq (.cond (.tmp 29) .skip (.exit 2)) (.seq (.block 3 (.seq (.region 9 (opsOf Tryd.f22 9) false) (.region 10 (opsOf Tryd.f22 10) true))) (.region 11 (opsOf Tryd.f22 11) false))))))))) (.region 12 (opsOf Tryd.f22 12) false))))))) (.seq (.region 13 (opsOf Tryd.f22 13) false) .ret))))) := by kernel_rfl

theorem graph_Turn_ok (F : Nat) : Sim Tryd.prog TrydG 22 (graph_Turn_m F) := by
 have hE : EnvOK Tryd.prog TrydG (graph_Turn_env F) := (EnvOK.cons (graph_May_ok F) EnvOK.nil)
 refine Sim.of_body (E := graph_Turn_env F) Tryd.func22 graph_Turn_body Tryd.call22 ?_ ?_
 · intro args hl; unfold graph_Turn_m; split
   · exact absurd hl (Nat.not_lt.2 (Nat.le_of_ble_eq_true rfl))
   · rfl
 · intro args ρ h w z; unfold graph_Turn_m; split
   · rename_i x0; show OKc _ _ [(0, x0)] _ _
     refine rSeq ?_
     refine cLess [0] ?_
     refine xR hE [1, 2] rfl (graph_Turn_r0_ok F _ _) ?_
     intro x1 x2
     show OKq _ _ _ [(2, x2), (1, x1)] _
     refine rThen ?_
     refine rSeq ?_
     refine rSeq ?_
     refine cLess [2, 1] ?_
     refine xR hE [1, 2, 10] rfl (graph_Turn_r1_ok F _ _ _) ?_
     intro x1 x2 x10
     show OKq _ _ _ [(10, x10), (2, x2), (1, x1)] _
     refine rThen ?_
     refine xCond rfl rfl ?_ ?_
     · refine rSeq ?_
       refine cLess [2] ?_
       refine xR hE [2] rfl (graph_Turn_r2_ok F _ _) ?_
       intro x2
       show OKq _ _ _ [(2, x2)] _
       refine rThen ?_
       refine rRet ?_
       refine xThenR ?_
       exact rDone (.inr rfl) rfl
     · refine rSkip ?_
       refine rThen ?_
       refine rSeq ?_
       refine cLess [2, 1] ?_
       refine xD Trydmix hE [1, 2, 3] rfl graph_Turn_r3_good (graph_Turn_r3_ok F _ _ _) ?_
       intro x1 x2 x3
       show OKq _ _ _ [(3, x3), (2, x2), (1, x1)] _
       refine rThen ?_
       refine xSeq [2, 3] (graph_Turn_k0 F ) ?_ fun hj0 => ?_
       · intro x2 x3
         show OKc _ _ [(3, x3), (2, x2)] _ _
         refine rSeq ?_
         refine cLess [3, 2] ?_
         refine xR hE [2] rfl (graph_Turn_r13_ok F _ _ _) ?_
         intro x2
         show OKq _ _ _ [(2, x2)] _
         refine rThen ?_
         refine rRet ?_
         exact rDone (.inr rfl) rfl
       · refine rSeq ?_
         refine cLess [3, 2, 1] ?_
         refine xR hE [2, 3, 19, 20, 21] rfl (graph_Turn_r4_ok F _ _ _ _) ?_
         intro x2 x3 x19 x20 x21
         show OKq _ _ _ [(21, x21), (20, x20), (19, x19), (3, x3), (2, x2)] _
         refine rThen ?_
         refine rBlock ?_
         refine cLess [21, 20, 19, 3, 2] ?_
         refine xLoopAt [2, 3, 19, 20, 21] [] (fun k1 => graph_Turn_l1 F (fun x2 x3 => graph_Turn_k0 F x2 x3) k1) F [x2, x3, x19, x20, x21] rfl rfl (fun _ _ _ _ _ => rfl) fun I hI1 k1 => ?_
         intro x2 x3 x19 x20 x21
         show OKc _ _ [(21, x21), (20, x20), (19, x19), (3, x3), (2, x2)] _ _
         refine cAs (graph_Turn_l1_s F _ _ _ _ _ _ _) ?_
         refine rSeq ?_
         refine cLess [21, 20, 19, 3, 2] ?_
         refine xR hE [2, 3, 19, 20, 21, 22] rfl (graph_Turn_r5_ok F _ _ _ _ _ _) ?_
         intro x2 x3 x19 x20 x21 x22
         show OKq _ _ _ [(22, x22), (21, x21), (20, x20), (19, x19), (3, x3), (2, x2)] _
         refine rThen ?_
         refine rSeq ?_
         refine xCond rfl rfl ?_ ?_
         · refine rSkip ?_
           refine rThen ?_
           refine xSeq [2, 3, 19, 20, 21] (graph_Turn_k2 F (graph_Turn_l1 F (fun x2 x3 => graph_Turn_k0 F x2 x3) k1) ) ?_ fun hj2 => ?_
           · intro x2 x3 x19 x20 x21
             show OKc _ _ [(21, x21), (20, x20), (19, x19), (3, x3), (2, x2)] _ _
             refine cLess [21, 20, 19, 3, 2] ?_
             refine xR hE [2, 3, 19, 20, 21] rfl (graph_Turn_r12_ok F _ _ _ _ _ _) ?_
             intro x2 x3 x19 x20 x21
             show OKq _ _ _ [(21, x21), (20, x20), (19, x19), (3, x3), (2, x2)] _
             exact qLess [21, 20, 19, 3, 2] (hI1 k1 x2 x3 x19 x20 x21)
           · refine rBlock ?_
             refine rSeq ?_
             refine cLess [21, 20, 19, 3, 2] ?_
             refine xR hE [2, 3, 4, 5, 19, 20, 21] rfl (graph_Turn_r6_ok F _ _ _ _ _ _) ?_
             intro x2 x3 x4 x5 x19 x20 x21
             show OKq _ _ _ [(21, x21), (20, x20), (19, x19), (5, x5), (4, x4), (3, x3), (2, x2)] _
             refine rThen ?_
             refine rSeq ?_
             refine cLess [21, 20, 19, 5, 4, 3, 2] ?_
             refine xR hE [2, 3, 4, 19, 20, 21, 26, 27, 28] rfl (graph_Turn_r7_ok F _ _ _ _ _ _ _ _) ?_
             intro x2 x3 x4 x19 x20 x21 x26 x27 x28
             show OKq _ _ _ [(28, x28), (27, x27), (26, x26), (21, x21), (20, x20), (19, x19), (4, x4), (3, x3), (2, x2)] _
             refine rThen ?_
             refine rBlock ?_
             refine cLess [28, 27, 26, 21, 20, 19, 4, 3, 2] ?_
             refine xLoopAt [2, 3, 4, 19, 20, 21, 26, 27, 28] [] (fun k3 => graph_Turn_l3 F (fun x2 x3 x19 x20 x21 => graph_Turn_k2 F (graph_Turn_l1 F (fun x2 x3 => graph_Turn_k0 F x2 x3) k1) x2 x3 x19 x20 x21) k3) F [x2, x3, x4, x19, x20, x21, x26, x27, x28] rfl rfl (fun _ _ _ _ _ _ _ _ _ => rfl) fun I hI3 k3 => ?_
             intro x2 x3 x4 x19 x20 x21 x26 x27 x28
             show OKc _ _ [(28, x28), (27, x27), (26, x26), (21, x21), (20, x20), (19, x19), (4, x4), (3, x3), (2, x2)] _ _
             refine cAs (graph_Turn_l3_s F _ _ _ _ _ _ _ _ _ _ _) ?_
             refine rSeq ?_
             refine cLess [28, 27, 26, 21, 20, 19, 4, 3, 2] ?_
             refine xR hE [2, 3, 4, 19, 20, 21, 26, 27, 28, 29] rfl (graph_Turn_r8_ok F _ _ _ _ _ _ _ _ _ _) ?_
             intro x2 x3 x4 x19 x20 x21 x26 x27 x28 x29
             show OKq _ _ _ [(29, x29), (28, x28), (27, x27), (26, x26), (21, x21), (20, x20), (19, x19), (4, x4), (3, x3), (2, x2)] _
             refine rThen ?_
             refine rSeq ?_
             refine xCond rfl rfl ?_ ?_
             · refine rSkip ?_
               refine rThen ?_
               refine rSeq ?_
               refine rBlock ?_
               refine rSeq ?_
               refine cLess [28, 27, 26, 21, 20, 19, 4, 3, 2] ?_
               refine xR hE [2, 3, 4, 7, 19, 20, 21, 26, 27, 28] rfl (graph_Turn_r9_ok F _ _ _ _ _ _ _ _ _ _) ?_
               intro x2 x3 x4 x7 x19 x20 x21 x26 x27 x28
               show OKq _ _ _ [(28, x28), (27, x27), (26, x26), (21, x21), (20, x20), (19, x19), (7, x7), (4, x4), (3, x3), (2, x2)] _
               refine rThen ?_
               refine cLess [28, 27, 26, 21, 20, 19, 7, 4, 3, 2] ?_
               refine xD Trydmix hE [2, 3, 4, 19, 20, 21, 26, 27, 28] rfl graph_Turn_r10_good (graph_Turn_r10_ok F _ _ _ _ _ _ _ _ _ _ _) ?_
               intro x2 x3 x4 x19 x20 x21 x26 x27 x28
               show OKq _ _ _ [(28, x28), (27, x27), (26, x26), (21, x21), (20, x20), (19, x19), (4, x4), (3, x3), (2, x2)] _
               refine xBlockN ?_
               refine rThen ?_
               refine cLess [28, 27, 26, 21, 20, 19, 4, 3, 2] ?_
               refine xR hE [2, 3, 4, 19, 20, 21, 26, 27, 28] rfl (graph_Turn_r11_ok F _ _ _ _ _ _ _ _ _ _) ?_
               intro x2 x3 x4 x19 x20 x21 x26 x27 x28
               show OKq _ _ _ [(28, x28), (27, x27), (26, x26), (21, x21), (20, x20), (19, x19), (4, x4), (3, x3), (2, x2)] _
               exact qLess [28, 27, 26, 21, 20, 19, 4, 3, 2] (hI3 k3 x2 x3 x4 x19 x20 x21 x26 x27 x28)
             · refine rExit ?_
               refine xThenX ?_
               refine xThenX ?_
               refine rOut ?_
               refine xBlockN ?_
               exact qLess [21, 20, 19, 3, 2] (hj2 x2 x3 x19 x20 x21)
         · refine rExit ?_
           refine xThenX ?_
           refine xThenX ?_
           refine rOut ?_
           exact qLess [3, 2] (hj0 x2 x3)
   · exact rFail


/-! ### haruspex/dom.Above -/

def dom_Above_env (F : Nat) : Env := envOf [(34, dom_in_m F)]

noncomputable def dom_Above_R (F : Nat) := rK Tryd.prog TrydG (dom_Above_env F) Tryd.f23
noncomputable def dom_Above_D (F : Nat) := dK Tryd.prog TrydG (dom_Above_env F) Tryd.f23

def dom_Above_r11 (F : Nat) (K : Value → M Value) : M Value :=
  K (.bool false)

theorem dom_Above_r11_ok (F : Nat) (K : Value → M Value) : dom_Above_r11 F K = dom_Above_R F 11 [] [6] K := by kernel_rfl

def dom_Above_k0 (F : Nat) : M Value :=
  dom_Above_r11 F (fun x6 => ret x6)

def dom_Above_r10 (F : Nat) (x0 x1 x2 x12 x13 : Value) (K : Value → Value → Value → Value → Value → M Value) : M Value :=
  bnd (opBin .add x13 (.int .i64 (1))) fun v26 => K x0 x1 x2 x12 v26

theorem dom_Above_r10_ok (F : Nat) (x0 x1 x2 x12 x13 : Value) (K : Value → Value → Value → Value → Value → M Value) : dom_Above_r10 F x0 x1 x2 x12 x13 K = dom_Above_R F 10 [(13, x13), (12, x12), (2, x2), (1, x1), (0, x0)] [0, 1, 2, 12, 13] K := by kernel_rfl

def dom_Above_r9 (F : Nat) (x0 x1 x2 x12 x13 : Value) (K : Value → Value → Value → Value → Value → M Value) : M Value :=
  bnd (opIndexAddr 1 x0 x2) fun v24 => bnd (opLoad v24) fun v25 => K x0 x1 v25 x12 x13

theorem dom_Above_r9_ok (F : Nat) (x0 x1 x2 x12 x13 : Value) (K : Value → Value → Value → Value → Value → M Value) : dom_Above_r9 F x0 x1 x2 x12 x13 K = dom_Above_R F 9 [(13, x13), (12, x12), (2, x2), (1, x1), (0, x0)] [0, 1, 2, 12, 13] K := by kernel_rfl

def dom_Above_r8 (F : Nat) (K : Value → M Value) : M Value :=
  K (.bool true)

theorem dom_Above_r8_ok (F : Nat) (K : Value → M Value) : dom_Above_r8 F K = dom_Above_R F 8 [] [6] K := by kernel_rfl

def dom_Above_r7 (F : Nat) (x0 x1 x2 x12 x13 : Value) (K : Value → Value → Value → Value → Value → Value → M Value) : M Value :=
  bnd (opBin .eql x2 x1) fun v21 => K x0 x1 x2 x12 x13 v21

theorem dom_Above_r7_ok (F : Nat) (x0 x1 x2 x12 x13 : Value) (K : Value → Value → Value → Value → Value → Value → M Value) : dom_Above_r7 F x0 x1 x2 x12 x13 K = dom_Above_R F 7 [(13, x13), (12, x12), (2, x2), (1, x1), (0, x0)] [0, 1, 2, 12, 13, 21] K := by kernel_rfl

def dom_Above_r6 (F : Nat) (K : Value → M Value) : M Value :=
  K (.bool false)

theorem dom_Above_r6_ok (F : Nat) (K : Value → M Value) : dom_Above_r6 F K = dom_Above_R F 6 [] [6] K := by kernel_rfl

def dom_Above_r5 (F : Nat) (x0 x1 x2 x12 x13 : Value) (K : Value → Value → Value → Value → Value → Value → M Value) : M Value :=
  bnd (dom_in F x0 x2) fun v17 => bnd (opNot v17) fun v18 => K x0 x1 x2 x12 x13 v18

theorem dom_Above_r5_ok (F : Nat) (x0 x1 x2 x12 x13 : Value) (K : Value → Value → Value → Value → Value → Value → M Value) : dom_Above_r5 F x0 x1 x2 x12 x13 K = dom_Above_R F 5 [(13, x13), (12, x12), (2, x2), (1, x1), (0, x0)] [0, 1, 2, 12, 13, 18] K := by kernel_rfl

def dom_Above_r4 (F : Nat) (x0 x1 x2 x12 x13 : Value) (K : Value → Value → Value → Value → Value → Value → M Value) : M Value :=
  bnd (opBin .lss x13 x12) fun v14 => K x0 x1 x2 x12 x13 v14

theorem dom_Above_r4_ok (F : Nat) (x0 x1 x2 x12 x13 : Value) (K : Value → Value → Value → Value → Value → Value → M Value) : dom_Above_r4 F x0 x1 x2 x12 x13 K = dom_Above_R F 4 [(13, x13), (12, x12), (2, x2), (1, x1), (0, x0)] [0, 1, 2, 12, 13, 14] K := by kernel_rfl

def dom_Above_b1 (F : Nat) (E1_0 : M Value) (A1 : Value → Value → Value → Value → Value → M Value) (x0 x1 x2 x12 x13 : Value) : M Value :=
  dom_Above_r4 F x0 x1 x2 x12 x13 (fun x0 x1 x2 x12 x13 x14 => onB x14 (dom_Above_r5 F x0 x1 x2 x12 x13 (fun x0 x1 x2 x12 x13 x18 => onB x18 (dom_Above_r6 F (fun x6 => ret x6)) (dom_Above_r7 F x0 x1 x2 x12 x13 (fun x0 x1 x2 x12 x13 x21 => onB x21 (dom_Above_r8 F (fun x6 => ret x6)) (dom_Above_r9 F x0 x1 x2 x12 x13 (fun x0 x1 x2 x12 x13 => dom_Above_r10 F x0 x1 x2 x12 x13 (fun x0 x1 x2 x12 x13 => A1 x0 x1 x2 x12 x13))))))) (E1_0 ))

def dom_Above_l1 (F : Nat) (E1_0 : M Value) : Nat → Value → Value → Value → Value → Value → M Value
  | 0, _, _, _, _, _ => fail
  | k1 + 1, x0, x1, x2, x12, x13 => dom_Above_b1 F E1_0 (dom_Above_l1 F E1_0 k1) x0 x1 x2 x12 x13

theorem dom_Above_l1_s (F : Nat) (E1_0 : M Value) (k1 : Nat) (x0 x1 x2 x12 x13 : Value) : dom_Above_l1 F E1_0 (k1 + 1) x0 x1 x2 x12 x13 = dom_Above_b1 F E1_0 (dom_Above_l1 F E1_0 k1) x0 x1 x2 x12 x13 := rfl

def dom_Above_r3 (F : Nat) (x0 x1 x2 : Value) (K : Value → Value → Value → Value → Value → M Value) : M Value :=
  bnd (opLen x0) fun v12 => K x0 x1 x2 v12 (.int .i64 (0))

theorem dom_Above_r3_ok (F : Nat) (x0 x1 x2 : Value) (K : Value → Value → Value → Value → Value → M Value) : dom_Above_r3 F x0 x1 x2 K = dom_Above_R F 3 [(2, x2), (1, x1), (0, x0)] [0, 1, 2, 12, 13] K := by kernel_rfl

def dom_Above_r2 (F : Nat) (K : Value → M Value) : M Value :=
  K (.bool false)

theorem dom_Above_r2_ok (F : Nat) (K : Value → M Value) : dom_Above_r2 F K = dom_Above_R F 2 [] [6] K := by kernel_rfl

def dom_Above_r1 (F : Nat) (x0 x1 x2 : Value) (K : Value → Value → Value → Value → M Value) : M Value :=
  bnd (dom_in F x0 x1) fun v9 => bnd (opNot v9) fun v10 => K x0 x1 x2 v10

theorem dom_Above_r1_ok (F : Nat) (x0 x1 x2 : Value) (K : Value → Value → Value → Value → M Value) : dom_Above_r1 F x0 x1 x2 K = dom_Above_R F 1 [(2, x2), (1, x1), (0, x0)] [0, 1, 2, 10] K := by kernel_rfl

def dom_Above_r0 (F : Nat) (x0 x1 x2 : Value) (K : Value → Value → Value → M Value) : M Value :=
  K x0 x1 x2

theorem dom_Above_r0_ok (F : Nat) (x0 x1 x2 : Value) (K : Value → Value → Value → M Value) : dom_Above_r0 F x0 x1 x2 K = dom_Above_R F 0 [(2, x2), (1, x1), (0, x0)] [0, 1, 2] K := by kernel_rfl

def dom_Above (F : Nat) (x0 x1 x2 : Value) : M Value :=
  dom_Above_r0 F x0 x1 x2 (fun x0 x1 x2 => dom_Above_r1 F x0 x1 x2 (fun x0 x1 x2 x10 => onB x10 (dom_Above_r2 F (fun x6 => ret x6)) (dom_Above_r3 F x0 x1 x2 (fun x0 x1 x2 x12 x13 => dom_Above_l1 F (dom_Above_k0 F ) F x0 x1 x2 x12 x13))))

def dom_Above_m (F : Nat) : List Value → M Value
  | [x0, x1, x2] => dom_Above F x0 x1 x2
  | _ => fail

theorem dom_Above_body : Tryd.f23.body = some (.seq (.region 0 (opsOf Tryd.f23 0) false) (.seq (.seq (.region 1 (opsOf Tryd.f23 1) false) (.cond (.tmp 10) (.seq (.region 2 (opsOf Tryd.f23 2) false) .ret) .skip)) (.seq (.seq (.region 3 (opsOf Tryd.f23 3) false) (.block 0 (.loop (.seq (.region 4 (opsOf Tryd.f23 4) false) (.seq (.cond (.tmp 14) .skip (.exit 0)) (.seq (.block 1 (.seq (.seq (.region 5 (opsOf Tryd.f23 5) false) (.cond (.tmp 18) (.seq (.region 6 (opsOf Tryd.f23 6) false) .ret) .skip)) (.seq (.seq (.region 7 (opsOf Tryd.f23 7) false) (.cond (.tmp 21) (.seq (.region 8 (opsOf Tryd.f23 8) false) .ret) .skip)) (.region 9 (opsOf Tryd.f23 9) false)))) (.region 10 (opsOf Tryd.f23 10) false))))))) (.seq (.region 11 (opsOf Tryd.f23 11) false) .ret)))) := by kernel_rfl

theorem dom_Above_ok (F : Nat) : Sim Tryd.prog TrydG 23 (dom_Above_m F) := by
 have hE : EnvOK Tryd.prog TrydG (dom_Above_env F) := (EnvOK.cons (dom_in_ok F) EnvOK.nil)
 refine Sim.of_body (E := dom_Above_env F) Tryd.func23 dom_Above_body Tryd.call23 ?_ ?_
 · intro args hl; unfold dom_Above_m; split
   · exact absurd hl (Nat.not_lt.2 (Nat.le_of_ble_eq_true rfl))
   · rfl
 · intro args ρ h w z; unfold dom_Above_m; split
   · rename_i x0 x1 x2; show OKc _ _ [(0, x0), (1, x1), (2, x2)] _ _
     refine rSeq ?_
     refine cLess [2, 1, 0] ?_
     refine xR hE [0, 1, 2] rfl (dom_Above_r0_ok F _ _ _ _) ?_
     intro x0 x1 x2
     show OKq _ _ _ [(2, x2), (1, x1), (0, x0)] _
     refine rThen ?_
     refine rSeq ?_
     refine rSeq ?_
     refine cLess [2, 1, 0] ?_
     refine xR hE [0, 1, 2, 10] rfl (dom_Above_r1_ok F _ _ _ _) ?_
     intro x0 x1 x2 x10
     show OKq _ _ _ [(10, x10), (2, x2), (1, x1), (0, x0)] _
     refine rThen ?_
     refine xCond rfl rfl ?_ ?_
     · refine rSeq ?_
       refine cLess [] ?_
       refine xR hE [6] rfl (dom_Above_r2_ok F _) ?_
       intro x6
       show OKq _ _ _ [(6, x6)] _
       refine rThen ?_
       refine rRet ?_
       refine xThenR ?_
       exact rDone (.inr rfl) rfl
     · refine rSkip ?_
       refine rThen ?_
       refine xSeq [] (dom_Above_k0 F ) ?_ fun hj0 => ?_
       · show OKc _ _ [] _ _
         refine rSeq ?_
         refine cLess [] ?_
         refine xR hE [6] rfl (dom_Above_r11_ok F _) ?_
         intro x6
         show OKq _ _ _ [(6, x6)] _
         refine rThen ?_
         refine rRet ?_
         exact rDone (.inr rfl) rfl
       · refine rSeq ?_
         refine cLess [2, 1, 0] ?_
         refine xR hE [0, 1, 2, 12, 13] rfl (dom_Above_r3_ok F _ _ _ _) ?_
         intro x0 x1 x2 x12 x13
         show OKq _ _ _ [(13, x13), (12, x12), (2, x2), (1, x1), (0, x0)] _
         refine rThen ?_
         refine rBlock ?_
         refine cLess [13, 12, 2, 1, 0] ?_
         refine xLoopAt [0, 1, 2, 12, 13] [] (fun k1 => dom_Above_l1 F (dom_Above_k0 F ) k1) F [x0, x1, x2, x12, x13] rfl rfl (fun _ _ _ _ _ => rfl) fun I hI1 k1 => ?_
         intro x0 x1 x2 x12 x13
         show OKc _ _ [(13, x13), (12, x12), (2, x2), (1, x1), (0, x0)] _ _
         refine cAs (dom_Above_l1_s F _ _ _ _ _ _ _) ?_
         refine rSeq ?_
         refine cLess [13, 12, 2, 1, 0] ?_
         refine xR hE [0, 1, 2, 12, 13, 14] rfl (dom_Above_r4_ok F _ _ _ _ _ _) ?_
         intro x0 x1 x2 x12 x13 x14
         show OKq _ _ _ [(14, x14), (13, x13), (12, x12), (2, x2), (1, x1), (0, x0)] _
         refine rThen ?_
         refine rSeq ?_
         refine xCond rfl rfl ?_ ?_
         · refine rSkip ?_
           refine rThen ?_
           refine rSeq ?_
           refine rBlock ?_
           refine rSeq ?_
           refine rSeq ?_
           refine cLess [13, 12, 2, 1, 0] ?_
           refine xR hE [0, 1, 2, 12, 13, 18] rfl (dom_Above_r5_ok F _ _ _ _ _ _) ?_
           intro x0 x1 x2 x12 x13 x18
           show OKq _ _ _ [(18, x18), (13, x13), (12, x12), (2, x2), (1, x1), (0, x0)] _
           refine rThen ?_
           refine xCond rfl rfl ?_ ?_
           · refine rSeq ?_
             refine cLess [] ?_
             refine xR hE [6] rfl (dom_Above_r6_ok F _) ?_
             intro x6
             show OKq _ _ _ [(6, x6)] _
             refine rThen ?_
             refine rRet ?_
             refine xThenR ?_
             refine xBlockR ?_
             refine xThenR ?_
             refine xThenR ?_
             refine xBlockR ?_
             refine xThenR ?_
             exact rDone (.inr rfl) rfl
           · refine rSkip ?_
             refine rThen ?_
             refine rSeq ?_
             refine rSeq ?_
             refine cLess [13, 12, 2, 1, 0] ?_
             refine xR hE [0, 1, 2, 12, 13, 21] rfl (dom_Above_r7_ok F _ _ _ _ _ _) ?_
             intro x0 x1 x2 x12 x13 x21
             show OKq _ _ _ [(21, x21), (13, x13), (12, x12), (2, x2), (1, x1), (0, x0)] _
             refine rThen ?_
             refine xCond rfl rfl ?_ ?_
             · refine rSeq ?_
               refine cLess [] ?_
               refine xR hE [6] rfl (dom_Above_r8_ok F _) ?_
               intro x6
               show OKq _ _ _ [(6, x6)] _
               refine rThen ?_
               refine rRet ?_
               refine xThenR ?_
               refine xBlockR ?_
               refine xThenR ?_
               refine xThenR ?_
               refine xBlockR ?_
               refine xThenR ?_
               exact rDone (.inr rfl) rfl
             · refine rSkip ?_
               refine rThen ?_
               refine cLess [13, 12, 2, 1, 0] ?_
               refine xR hE [0, 1, 2, 12, 13] rfl (dom_Above_r9_ok F _ _ _ _ _ _) ?_
               intro x0 x1 x2 x12 x13
               show OKq _ _ _ [(13, x13), (12, x12), (2, x2), (1, x1), (0, x0)] _
               refine xBlockN ?_
               refine rThen ?_
               refine cLess [13, 12, 2, 1, 0] ?_
               refine xR hE [0, 1, 2, 12, 13] rfl (dom_Above_r10_ok F _ _ _ _ _ _) ?_
               intro x0 x1 x2 x12 x13
               show OKq _ _ _ [(13, x13), (12, x12), (2, x2), (1, x1), (0, x0)] _
               exact qLess [13, 12, 2, 1, 0] (hI1 k1 x0 x1 x2 x12 x13)
         · refine rExit ?_
           refine xThenX ?_
           refine xThenX ?_
           refine rOut ?_
           exact qLess [] (hj0 )
   · exact rFail


/-! ### (*haruspex/bitset.Set).Len -/

def bitset_Set_Len_env (F : Nat) : Env := envOf [(28, bitset_Set_words_m F), (35, bits_OnesCount64_m F)]

noncomputable def bitset_Set_Len_R (F : Nat) := rK Tryd.prog TrydG (bitset_Set_Len_env F) Tryd.f26
noncomputable def bitset_Set_Len_D (F : Nat) := dK Tryd.prog TrydG (bitset_Set_Len_env F) Tryd.f26

def bitset_Set_Len_r7 (F : Nat) (x3 : Value) (K : Value → M Value) : M Value :=
  K x3

theorem bitset_Set_Len_r7_ok (F : Nat) (x3 : Value) (K : Value → M Value) : bitset_Set_Len_r7 F x3 K = bitset_Set_Len_R F 7 [(3, x3)] [2] K := by kernel_rfl

def bitset_Set_Len_k0 (F : Nat) (x3 : Value) : M Value :=
  bitset_Set_Len_r7 F x3 (fun x2 => ret x2)

def bitset_Set_Len_r6 (F : Nat) (x3 x7 x8 x9 : Value) (K : Value → Value → Value → Value → M Value) : M Value :=
  bnd (opBin .add x9 (.int .i64 (1))) fun v17 => K x3 x7 x8 v17

theorem bitset_Set_Len_r6_ok (F : Nat) (x3 x7 x8 x9 : Value) (K : Value → Value → Value → Value → M Value) : bitset_Set_Len_r6 F x3 x7 x8 x9 K = bitset_Set_Len_R F 6 [(9, x9), (8, x8), (7, x7), (3, x3)] [3, 7, 8, 9] K := by kernel_rfl

def bitset_Set_Len_r5 (F : Nat) (x3 x5 x7 x8 x9 : Value) (K : Value → Value → Value → Value → M Value) : M Value :=
  bnd (bits_OnesCount64 F x5) fun v15 => bnd (opBin .add x3 v15) fun v16 => K v16 x7 x8 x9

theorem bitset_Set_Len_r5_ok (F : Nat) (x3 x5 x7 x8 x9 : Value) (K : Value → Value → Value → Value → M Value) : bitset_Set_Len_r5 F x3 x5 x7 x8 x9 K = bitset_Set_Len_R F 5 [(9, x9), (8, x8), (7, x7), (5, x5), (3, x3)] [3, 7, 8, 9] K := by kernel_rfl

def bitset_Set_Len_r4 (F : Nat) (x3 x7 x8 x9 : Value) (K : Value → Value → Value → Value → Value → M Value) : M Value :=
  bnd (opIndexAddr 1 x7 x9) fun v11 => bnd (opLoad v11) fun v12 => K x3 v12 x7 x8 x9

theorem bitset_Set_Len_r4_ok (F : Nat) (x3 x7 x8 x9 : Value) (K : Value → Value → Value → Value → Value → M Value) : bitset_Set_Len_r4 F x3 x7 x8 x9 K = bitset_Set_Len_R F 4 [(9, x9), (8, x8), (7, x7), (3, x3)] [3, 5, 7, 8, 9] K := by kernel_rfl

def bitset_Set_Len_r3 (F : Nat) (x3 x7 x8 x9 : Value) (K : Value → Value → Value → Value → Value → M Value) : M Value :=
  bnd (opBin .lss x9 x8) fun v10 => K x3 x7 x8 x9 v10

theorem bitset_Set_Len_r3_ok (F : Nat) (x3 x7 x8 x9 : Value) (K : Value → Value → Value → Value → Value → M Value) : bitset_Set_Len_r3 F x3 x7 x8 x9 K = bitset_Set_Len_R F 3 [(9, x9), (8, x8), (7, x7), (3, x3)] [3, 7, 8, 9, 10] K := by kernel_rfl

def bitset_Set_Len_b1 (F : Nat) (E1_0 : Value → M Value) (A1 : Value → Value → Value → Value → M Value) (x3 x7 x8 x9 : Value) : M Value :=
  bitset_Set_Len_r3 F x3 x7 x8 x9 (fun x3 x7 x8 x9 x10 => onB x10 (bitset_Set_Len_r4 F x3 x7 x8 x9 (fun x3 x5 x7 x8 x9 => bitset_Set_Len_r5 F x3 x5 x7 x8 x9 (fun x3 x7 x8 x9 => bitset_Set_Len_r6 F x3 x7 x8 x9 (fun x3 x7 x8 x9 => A1 x3 x7 x8 x9)))) (E1_0 x3))

def bitset_Set_Len_l1 (F : Nat) (E1_0 : Value → M Value) : Nat → Value → Value → Value → Value → M Value
  | 0, _, _, _, _ => fail
  | k1 + 1, x3, x7, x8, x9 => bitset_Set_Len_b1 F E1_0 (bitset_Set_Len_l1 F E1_0 k1) x3 x7 x8 x9

theorem bitset_Set_Len_l1_s (F : Nat) (E1_0 : Value → M Value) (k1 : Nat) (x3 x7 x8 x9 : Value) : bitset_Set_Len_l1 F E1_0 (k1 + 1) x3 x7 x8 x9 = bitset_Set_Len_b1 F E1_0 (bitset_Set_Len_l1 F E1_0 k1) x3 x7 x8 x9 := rfl

def bitset_Set_Len_r2 (F : Nat) (x0 x3 : Value) (K : Value → Value → Value → Value → M Value) : M Value :=
  bnd (bitset_Set_words F x0) fun v7 => bnd (opLen v7) fun v8 => K x3 v7 v8 (.int .i64 (0))

theorem bitset_Set_Len_r2_ok (F : Nat) (x0 x3 : Value) (K : Value → Value → Value → Value → M Value) : bitset_Set_Len_r2 F x0 x3 K = bitset_Set_Len_R F 2 [(3, x3), (0, x0)] [3, 7, 8, 9] K := by kernel_rfl

def bitset_Set_Len_r1 (F : Nat) (x0 : Value) (K : Value → Value → M Value) : M Value :=
  K x0 (.int .i64 (0))

theorem bitset_Set_Len_r1_ok (F : Nat) (x0 : Value) (K : Value → Value → M Value) : bitset_Set_Len_r1 F x0 K = bitset_Set_Len_R F 1 [(0, x0)] [0, 3] K := by kernel_rfl

def bitset_Set_Len_r0 (F : Nat) (x0 : Value) (K : Value → M Value) : M Value :=
  K x0

theorem bitset_Set_Len_r0_ok (F : Nat) (x0 : Value) (K : Value → M Value) : bitset_Set_Len_r0 F x0 K = bitset_Set_Len_R F 0 [(0, x0)] [0] K := by kernel_rfl

def bitset_Set_Len (F : Nat) (x0 : Value) : M Value :=
  bitset_Set_Len_r0 F x0 (fun x0 => bitset_Set_Len_r1 F x0 (fun x0 x3 => bitset_Set_Len_r2 F x0 x3 (fun x3 x7 x8 x9 => bitset_Set_Len_l1 F (fun x3 => bitset_Set_Len_k0 F x3) F x3 x7 x8 x9)))

def bitset_Set_Len_m (F : Nat) : List Value → M Value
  | [x0] => bitset_Set_Len F x0
  | _ => fail

theorem bitset_Set_Len_body : Tryd.f26.body = some (.seq (.region 0 (opsOf Tryd.f26 0) false) (.seq (.region 1 (opsOf Tryd.f26 1) false) (.seq (.seq (.region 2 (opsOf Tryd.f26 2) false) (.block 0 (.loop (.seq (.region 3 (opsOf Tryd.f26 3) false) (.seq (.cond (.tmp 10) .skip (.exit 0)) (.seq (.block 1 (.seq (.region 4 (opsOf Tryd.f26 4) false) (.region 5 (opsOf Tryd.f26 5) false))) (.region 6 (opsOf Tryd.f26 6) false))))))) (.seq (.region 7 (opsOf Tryd.f26 7) false) .ret)))) := by kernel_rfl

theorem bitset_Set_Len_ok (F : Nat) : Sim Tryd.prog TrydG 26 (bitset_Set_Len_m F) := by
 have hE : EnvOK Tryd.prog TrydG (bitset_Set_Len_env F) := (EnvOK.cons (bitset_Set_words_ok F) (EnvOK.cons (bits_OnesCount64_ok F) EnvOK.nil))
 refine Sim.of_body (E := bitset_Set_Len_env F) Tryd.func26 bitset_Set_Len_body Tryd.call26 ?_ ?_
 · intro args hl; unfold bitset_Set_Len_m; split
   · exact absurd hl (Nat.not_lt.2 (Nat.le_of_ble_eq_true rfl))
   · rfl
 · intro args ρ h w z; unfold bitset_Set_Len_m; split
   · rename_i x0; show OKc _ _ [(0, x0)] _ _
     refine rSeq ?_
     refine cLess [0] ?_
     refine xR hE [0] rfl (bitset_Set_Len_r0_ok F _ _) ?_
     intro x0
     show OKq _ _ _ [(0, x0)] _
     refine rThen ?_
     refine rSeq ?_
     refine cLess [0] ?_
     refine xR hE [0, 3] rfl (bitset_Set_Len_r1_ok F _ _) ?_
     intro x0 x3
     show OKq _ _ _ [(3, x3), (0, x0)] _
     refine rThen ?_
     refine xSeq [3] (bitset_Set_Len_k0 F ) ?_ fun hj0 => ?_
     · intro x3
       show OKc _ _ [(3, x3)] _ _
       refine rSeq ?_
       refine cLess [3] ?_
       refine xR hE [2] rfl (bitset_Set_Len_r7_ok F _ _) ?_
       intro x2
       show OKq _ _ _ [(2, x2)] _
       refine rThen ?_
       refine rRet ?_
       exact rDone (.inr rfl) rfl
     · refine rSeq ?_
       refine cLess [3, 0] ?_
       refine xR hE [3, 7, 8, 9] rfl (bitset_Set_Len_r2_ok F _ _ _) ?_
       intro x3 x7 x8 x9
       show OKq _ _ _ [(9, x9), (8, x8), (7, x7), (3, x3)] _
       refine rThen ?_
       refine rBlock ?_
       refine cLess [9, 8, 7, 3] ?_
       refine xLoopAt [3, 7, 8, 9] [] (fun k1 => bitset_Set_Len_l1 F (fun x3 => bitset_Set_Len_k0 F x3) k1) F [x3, x7, x8, x9] rfl rfl (fun _ _ _ _ => rfl) fun I hI1 k1 => ?_
       intro x3 x7 x8 x9
       show OKc _ _ [(9, x9), (8, x8), (7, x7), (3, x3)] _ _
       refine cAs (bitset_Set_Len_l1_s F _ _ _ _ _ _) ?_
       refine rSeq ?_
       refine cLess [9, 8, 7, 3] ?_
       refine xR hE [3, 7, 8, 9, 10] rfl (bitset_Set_Len_r3_ok F _ _ _ _ _) ?_
       intro x3 x7 x8 x9 x10
       show OKq _ _ _ [(10, x10), (9, x9), (8, x8), (7, x7), (3, x3)] _
       refine rThen ?_
       refine rSeq ?_
       refine xCond rfl rfl ?_ ?_
       · refine rSkip ?_
         refine rThen ?_
         refine rSeq ?_
         refine rBlock ?_
         refine rSeq ?_
         refine cLess [9, 8, 7, 3] ?_
         refine xR hE [3, 5, 7, 8, 9] rfl (bitset_Set_Len_r4_ok F _ _ _ _ _) ?_
         intro x3 x5 x7 x8 x9
         show OKq _ _ _ [(9, x9), (8, x8), (7, x7), (5, x5), (3, x3)] _
         refine rThen ?_
         refine cLess [9, 8, 7, 5, 3] ?_
         refine xR hE [3, 7, 8, 9] rfl (bitset_Set_Len_r5_ok F _ _ _ _ _ _) ?_
         intro x3 x7 x8 x9
         show OKq _ _ _ [(9, x9), (8, x8), (7, x7), (3, x3)] _
         refine xBlockN ?_
         refine rThen ?_
         refine cLess [9, 8, 7, 3] ?_
         refine xR hE [3, 7, 8, 9] rfl (bitset_Set_Len_r6_ok F _ _ _ _ _) ?_
         intro x3 x7 x8 x9
         show OKq _ _ _ [(9, x9), (8, x8), (7, x7), (3, x3)] _
         exact qLess [9, 8, 7, 3] (hI1 k1 x3 x7 x8 x9)
       · refine rExit ?_
         refine xThenX ?_
         refine xThenX ?_
         refine rOut ?_
         exact qLess [3] (hj0 x3)
   · exact rFail


/-! ### (*haruspex/bitset.Set).at -/

def bitset_Set_at_env (F : Nat) : Env := envOf [(28, bitset_Set_words_m F)]

noncomputable def bitset_Set_at_R (F : Nat) := rK Tryd.prog TrydG (bitset_Set_at_env F) Tryd.f30
noncomputable def bitset_Set_at_D (F : Nat) := dK Tryd.prog TrydG (bitset_Set_at_env F) Tryd.f30

def bitset_Set_at_r4 (F : Nat) (K : Value → M Value) : M Value :=
  K (.int .u64 (0))

theorem bitset_Set_at_r4_ok (F : Nat) (K : Value → M Value) : bitset_Set_at_r4 F K = bitset_Set_at_R F 4 [] [4] K := by kernel_rfl

def bitset_Set_at_r3 (F : Nat) (x1 x5 : Value) (K : Value → M Value) : M Value :=
  bnd (opIndexAddr 1 x5 x1) fun v14 => bnd (opLoad v14) fun v15 => K v15

theorem bitset_Set_at_r3_ok (F : Nat) (x1 x5 : Value) (K : Value → M Value) : bitset_Set_at_r3 F x1 x5 K = bitset_Set_at_R F 3 [(5, x5), (1, x1)] [4] K := by kernel_rfl

def bitset_Set_at_r2 (F : Nat) (x1 x5 : Value) (K : Value → Value → Value → M Value) : M Value :=
  bnd (opLen x5) fun v10 => bnd (opBin .lss x1 v10) fun v11 => K x1 x5 v11

theorem bitset_Set_at_r2_ok (F : Nat) (x1 x5 : Value) (K : Value → Value → Value → M Value) : bitset_Set_at_r2 F x1 x5 K = bitset_Set_at_R F 2 [(5, x5), (1, x1)] [1, 5, 11] K := by kernel_rfl

def bitset_Set_at_r1 (F : Nat) (x0 x1 : Value) (K : Value → Value → M Value) : M Value :=
  bnd (bitset_Set_words F x0) fun v7 => K x1 v7

theorem bitset_Set_at_r1_ok (F : Nat) (x0 x1 : Value) (K : Value → Value → M Value) : bitset_Set_at_r1 F x0 x1 K = bitset_Set_at_R F 1 [(1, x1), (0, x0)] [1, 5] K := by kernel_rfl

def bitset_Set_at_r0 (F : Nat) (x0 x1 : Value) (K : Value → Value → M Value) : M Value :=
  K x0 x1

theorem bitset_Set_at_r0_ok (F : Nat) (x0 x1 : Value) (K : Value → Value → M Value) : bitset_Set_at_r0 F x0 x1 K = bitset_Set_at_R F 0 [(1, x1), (0, x0)] [0, 1] K := by kernel_rfl

def bitset_Set_at (F : Nat) (x0 x1 : Value) : M Value :=
  bitset_Set_at_r0 F x0 x1 (fun x0 x1 => bitset_Set_at_r1 F x0 x1 (fun x1 x5 => bitset_Set_at_r2 F x1 x5 (fun x1 x5 x11 => onB x11 (bitset_Set_at_r3 F x1 x5 (fun x4 => ret x4)) (bitset_Set_at_r4 F (fun x4 => ret x4)))))

def bitset_Set_at_m (F : Nat) : List Value → M Value
  | [x0, x1] => bitset_Set_at F x0 x1
  | _ => fail

theorem bitset_Set_at_body : Tryd.f30.body = some (.seq (.region 0 (opsOf Tryd.f30 0) false) (.seq (.seq (.region 1 (opsOf Tryd.f30 1) false) (.seq (.region 2 (opsOf Tryd.f30 2) false) (.cond (.tmp 11) (.seq (.region 3 (opsOf Tryd.f30 3) false) .ret) .skip))) (.seq (.region 4 (opsOf Tryd.f30 4) false) .ret))) := by kernel_rfl

theorem bitset_Set_at_ok (F : Nat) : Sim Tryd.prog TrydG 30 (bitset_Set_at_m F) := by
 have hE : EnvOK Tryd.prog TrydG (bitset_Set_at_env F) := (EnvOK.cons (bitset_Set_words_ok F) EnvOK.nil)
 refine Sim.of_body (E := bitset_Set_at_env F) Tryd.func30 bitset_Set_at_body Tryd.call30 ?_ ?_
 · intro args hl; unfold bitset_Set_at_m; split
   · exact absurd hl (Nat.not_lt.2 (Nat.le_of_ble_eq_true rfl))
   · rfl
 · intro args ρ h w z; unfold bitset_Set_at_m; split
   · rename_i x0 x1; show OKc _ _ [(0, x0), (1, x1)] _ _
     refine rSeq ?_
     refine cLess [1, 0] ?_
     refine xR hE [0, 1] rfl (bitset_Set_at_r0_ok F _ _ _) ?_
     intro x0 x1
     show OKq _ _ _ [(1, x1), (0, x0)] _
     refine rThen ?_
     refine rSeq ?_
     refine rSeq ?_
     refine cLess [1, 0] ?_
     refine xR hE [1, 5] rfl (bitset_Set_at_r1_ok F _ _ _) ?_
     intro x1 x5
     show OKq _ _ _ [(5, x5), (1, x1)] _
     refine rThen ?_
     refine rSeq ?_
     refine cLess [5, 1] ?_
     refine xR hE [1, 5, 11] rfl (bitset_Set_at_r2_ok F _ _ _) ?_
     intro x1 x5 x11
     show OKq _ _ _ [(11, x11), (5, x5), (1, x1)] _
     refine rThen ?_
     refine xCond rfl rfl ?_ ?_
     · refine rSeq ?_
       refine cLess [5, 1] ?_
       refine xR hE [4] rfl (bitset_Set_at_r3_ok F _ _ _) ?_
       intro x4
       show OKq _ _ _ [(4, x4)] _
       refine rThen ?_
       refine rRet ?_
       refine xThenR ?_
       exact rDone (.inr rfl) rfl
     · refine rSkip ?_
       refine rThen ?_
       refine rSeq ?_
       refine cLess [] ?_
       refine xR hE [4] rfl (bitset_Set_at_r4_ok F _) ?_
       intro x4
       show OKq _ _ _ [(4, x4)] _
       refine rThen ?_
       refine rRet ?_
       exact rDone (.inr rfl) rfl
   · exact rFail


/-! ### haruspex/haruspexref1.Front -/

def R1_Front_env (F : Nat) : Env := envOf [(15, R1_Put_m F), (18, R1_Reach_m F), (19, R1_Above_m F)]

noncomputable def R1_Front_R (F : Nat) := rK Tryd.prog TrydG (R1_Front_env F) Tryd.f11
noncomputable def R1_Front_D (F : Nat) := dK Tryd.prog TrydG (R1_Front_env F) Tryd.f11

def R1_Front_r19 (F : Nat) (x6 : Value) (K : Value → M Value) : M Value :=
  K x6

theorem R1_Front_r19_ok (F : Nat) (x6 : Value) (K : Value → M Value) : R1_Front_r19 F x6 K = R1_Front_R F 19 [(6, x6)] [4] K := by kernel_rfl

def R1_Front_k0 (F : Nat) (x6 : Value) : M Value :=
  R1_Front_r19 F x6 (fun x4 => ret x4)

def R1_Front_r6 (F : Nat) (x0 x1 x5 x6 x7 x8 : Value) (K : Value → Value → Value → Value → Value → Value → M Value) : M Value :=
  bnd (opBin .add x8 (.int .i64 (1))) fun v23 => K x0 x1 x5 x6 x7 v23

theorem R1_Front_r6_ok (F : Nat) (x0 x1 x5 x6 x7 x8 : Value) (K : Value → Value → Value → Value → Value → Value → M Value) : R1_Front_r6 F x0 x1 x5 x6 x7 x8 K = R1_Front_R F 6 [(8, x8), (7, x7), (6, x6), (5, x5), (1, x1), (0, x0)] [0, 1, 5, 6, 7, 8] K := by kernel_rfl

def R1_Front_k2 (F : Nat) (A1 : Value → Value → Value → Value → Value → Value → M Value) (x0 x1 x5 x6 x7 x8 : Value) : M Value :=
  R1_Front_r6 F x0 x1 x5 x6 x7 x8 (fun x0 x1 x5 x6 x7 x8 => A1 x0 x1 x5 x6 x7 x8)

def R1_Front_r18 (F : Nat) (x0 x1 x5 x6 x7 x8 x9 : Value) (K : Value → Value → Value → Value → Value → Value → M Value) : M Value :=
  bnd (opBuildSlice 1 (rep 1 [(.slice none 0 0)]) [(0, 1, false, x9)]) fun v81 => bnd (opAppend 1 24 x6 v81) fun v82 => K x0 x1 x5 v82 x7 x8

theorem R1_Front_r18_ok (F : Nat) (x0 x1 x5 x6 x7 x8 x9 : Value) (K : Value → Value → Value → Value → Value → Value → M Value) : R1_Front_r18 F x0 x1 x5 x6 x7 x8 x9 K = R1_Front_R F 18 [(9, x9), (8, x8), (7, x7), (6, x6), (5, x5), (1, x1), (0, x0)] [0, 1, 5, 6, 7, 8] K := by kernel_rfl

def R1_Front_k3 (F : Nat) (A1 : Value → Value → Value → Value → Value → Value → M Value) (x0 x1 x5 x6 x7 x8 x9 : Value) : M Value :=
  R1_Front_r18 F x0 x1 x5 x6 x7 x8 x9 (fun x0 x1 x5 x6 x7 x8 => R1_Front_k2 F A1 x0 x1 x5 x6 x7 x8)

def R1_Front_r10 (F : Nat) (x0 x1 x5 x6 x7 x8 x9 x10 : Value) (K : Value → Value → Value → Value → Value → Value → Value → Value → M Value) : M Value :=
  bnd (opBin .add x10 (.int .i64 (1))) fun v28 => K x0 x1 x5 x6 x7 x8 x9 v28

theorem R1_Front_r10_ok (F : Nat) (x0 x1 x5 x6 x7 x8 x9 x10 : Value) (K : Value → Value → Value → Value → Value → Value → Value → Value → M Value) : R1_Front_r10 F x0 x1 x5 x6 x7 x8 x9 x10 K = R1_Front_R F 10 [(10, x10), (9, x9), (8, x8), (7, x7), (6, x6), (5, x5), (1, x1), (0, x0)] [0, 1, 5, 6, 7, 8, 9, 10] K := by kernel_rfl

def R1_Front_k5 (F : Nat) (A4 : Value → Value → Value → Value → Value → Value → Value → Value → M Value) (x0 x1 x5 x6 x7 x8 x9 x10 : Value) : M Value :=
  R1_Front_r10 F x0 x1 x5 x6 x7 x8 x9 x10 (fun x0 x1 x5 x6 x7 x8 x9 x10 => A4 x0 x1 x5 x6 x7 x8 x9 x10)

def R1_Front_r14 (F : Nat) (x0 x1 x5 x6 x7 x8 x9 x10 x11 : Value) (K : Value → Value → Value → Value → Value → Value → Value → Value → Value → M Value) : M Value :=
  bnd (opBin .add x11 (.int .i64 (1))) fun v57 => K x0 x1 x5 x6 x7 x8 x9 x10 v57

theorem R1_Front_r14_ok (F : Nat) (x0 x1 x5 x6 x7 x8 x9 x10 x11 : Value) (K : Value → Value → Value → Value → Value → Value → Value → Value → Value → M Value) : R1_Front_r14 F x0 x1 x5 x6 x7 x8 x9 x10 x11 K = R1_Front_R F 14 [(11, x11), (10, x10), (9, x9), (8, x8), (7, x7), (6, x6), (5, x5), (1, x1), (0, x0)] [0, 1, 5, 6, 7, 8, 9, 10, 11] K := by kernel_rfl

def R1_Front_k7 (F : Nat) (A6 : Value → Value → Value → Value → Value → Value → Value → Value → Value → M Value) (x0 x1 x5 x6 x7 x8 x9 x10 x11 : Value) : M Value :=
  R1_Front_r14 F x0 x1 x5 x6 x7 x8 x9 x10 x11 (fun x0 x1 x5 x6 x7 x8 x9 x10 x11 => A6 x0 x1 x5 x6 x7 x8 x9 x10 x11)

def R1_Front_r17 (F : Nat) (x0 x1 x5 x6 x7 x8 x9 x10 x11 x12 : Value) (K : Value → Value → Value → Value → Value → Value → Value → Value → Value → M Value) : M Value :=
  bnd (R1_Put F x9 x12) fun v78 => K x0 x1 x5 x6 x7 x8 v78 x10 x11

theorem R1_Front_r17_ok (F : Nat) (x0 x1 x5 x6 x7 x8 x9 x10 x11 x12 : Value) (K : Value → Value → Value → Value → Value → Value → Value → Value → Value → M Value) : R1_Front_r17 F x0 x1 x5 x6 x7 x8 x9 x10 x11 x12 K = R1_Front_R F 17 [(12, x12), (11, x11), (10, x10), (9, x9), (8, x8), (7, x7), (6, x6), (5, x5), (1, x1), (0, x0)] [0, 1, 5, 6, 7, 8, 9, 10, 11] K := by kernel_rfl

def R1_Front_r16 (F : Nat) (x0 x1 x5 x6 x7 x8 x9 x10 x11 x12 : Value) (K : Value → Value → Value → Value → Value → Value → Value → Value → Value → Value → Value → M Value) : M Value :=
  bnd (opBin .eql x8 x12) fun v67 => onB v67 (K x0 x1 x5 x6 x7 x8 x9 x10 x11 x12 (.bool true)) (bnd (R1_Above F x0 x1 x8 x12) fun v73 => bnd (opNot v73) fun v74 => K x0 x1 x5 x6 x7 x8 x9 x10 x11 x12 v74)

theorem R1_Front_r16_ok (F : Nat) (x0 x1 x5 x6 x7 x8 x9 x10 x11 x12 : Value) (K : Value → Value → Value → Value → Value → Value → Value → Value → Value → Value → Value → M Value) : R1_Front_r16 F x0 x1 x5 x6 x7 x8 x9 x10 x11 x12 K = R1_Front_R F 16 [(12, x12), (11, x11), (10, x10), (9, x9), (8, x8), (7, x7), (6, x6), (5, x5), (1, x1), (0, x0)] [0, 1, 5, 6, 7, 8, 9, 10, 11, 12, 75] K := by kernel_rfl

def R1_Front_r15 (F : Nat) (x0 x1 x5 x6 x7 x8 x9 x10 x11 : Value) (K : Value → Value → Value → Value → Value → Value → Value → Value → Value → Value → M Value) : M Value :=
  bnd (opIndexAddr 1 x0 x10) fun v60 => bnd (opLoad v60) fun v61 => bnd (opIndexAddr 1 v61 x11) fun v63 => bnd (opLoad v63) fun v64 => K x0 x1 x5 x6 x7 x8 x9 x10 x11 v64

theorem R1_Front_r15_ok (F : Nat) (x0 x1 x5 x6 x7 x8 x9 x10 x11 : Value) (K : Value → Value → Value → Value → Value → Value → Value → Value → Value → Value → M Value) : R1_Front_r15 F x0 x1 x5 x6 x7 x8 x9 x10 x11 K = R1_Front_R F 15 [(11, x11), (10, x10), (9, x9), (8, x8), (7, x7), (6, x6), (5, x5), (1, x1), (0, x0)] [0, 1, 5, 6, 7, 8, 9, 10, 11, 12] K := by kernel_rfl

def R1_Front_r13 (F : Nat) (x0 x1 x5 x6 x7 x8 x9 x10 x11 : Value) (K : Value → Value → Value → Value → Value → Value → Value → Value → Value → Value → M Value) : M Value :=
  bnd (opIndexAddr 1 x0 x10) fun v52 => bnd (opLoad v52) fun v53 => bnd (opLen v53) fun v54 => bnd (opBin .lss x11 v54) fun v55 => K x0 x1 x5 x6 x7 x8 x9 x10 x11 v55

theorem R1_Front_r13_ok (F : Nat) (x0 x1 x5 x6 x7 x8 x9 x10 x11 : Value) (K : Value → Value → Value → Value → Value → Value → Value → Value → Value → Value → M Value) : R1_Front_r13 F x0 x1 x5 x6 x7 x8 x9 x10 x11 K = R1_Front_R F 13 [(11, x11), (10, x10), (9, x9), (8, x8), (7, x7), (6, x6), (5, x5), (1, x1), (0, x0)] [0, 1, 5, 6, 7, 8, 9, 10, 11, 55] K := by kernel_rfl

def R1_Front_b6 (F : Nat) (E6_4 : Value → Value → Value → Value → Value → Value → Value → Value → M Value) (A6 : Value → Value → Value → Value → Value → Value → Value → Value → Value → M Value) (x0 x1 x5 x6 x7 x8 x9 x10 x11 : Value) : M Value :=
  R1_Front_r13 F x0 x1 x5 x6 x7 x8 x9 x10 x11 (fun x0 x1 x5 x6 x7 x8 x9 x10 x11 x55 => onB x55 (R1_Front_r15 F x0 x1 x5 x6 x7 x8 x9 x10 x11 (fun x0 x1 x5 x6 x7 x8 x9 x10 x11 x12 => R1_Front_r16 F x0 x1 x5 x6 x7 x8 x9 x10 x11 x12 (fun x0 x1 x5 x6 x7 x8 x9 x10 x11 x12 x75 => onB x75 (R1_Front_r17 F x0 x1 x5 x6 x7 x8 x9 x10 x11 x12 (fun x0 x1 x5 x6 x7 x8 x9 x10 x11 => R1_Front_k7 F A6 x0 x1 x5 x6 x7 x8 x9 x10 x11)) (R1_Front_k7 F A6 x0 x1 x5 x6 x7 x8 x9 x10 x11)))) (E6_4 x0 x1 x5 x6 x7 x8 x9 x10))

def R1_Front_l6 (F : Nat) (E6_4 : Value → Value → Value → Value → Value → Value → Value → Value → M Value) : Nat → Value → Value → Value → Value → Value → Value → Value → Value → Value → M Value
  | 0, _, _, _, _, _, _, _, _, _ => fail
  | k6 + 1, x0, x1, x5, x6, x7, x8, x9, x10, x11 => R1_Front_b6 F E6_4 (R1_Front_l6 F E6_4 k6) x0 x1 x5 x6 x7 x8 x9 x10 x11

theorem R1_Front_l6_s (F : Nat) (E6_4 : Value → Value → Value → Value → Value → Value → Value → Value → M Value) (k6 : Nat) (x0 x1 x5 x6 x7 x8 x9 x10 x11 : Value) : R1_Front_l6 F E6_4 (k6 + 1) x0 x1 x5 x6 x7 x8 x9 x10 x11 = R1_Front_b6 F E6_4 (R1_Front_l6 F E6_4 k6) x0 x1 x5 x6 x7 x8 x9 x10 x11 := rfl

def R1_Front_r12 (F : Nat) (x0 x1 x5 x6 x7 x8 x9 x10 : Value) (K : Value → Value → Value → Value → Value → Value → Value → Value → Value → M Value) : M Value :=
  K x0 x1 x5 x6 x7 x8 x9 x10 (.int .i64 (0))

theorem R1_Front_r12_ok (F : Nat) (x0 x1 x5 x6 x7 x8 x9 x10 : Value) (K : Value → Value → Value → Value → Value → Value → Value → Value → Value → M Value) : R1_Front_r12 F x0 x1 x5 x6 x7 x8 x9 x10 K = R1_Front_R F 12 [(10, x10), (9, x9), (8, x8), (7, x7), (6, x6), (5, x5), (1, x1), (0, x0)] [0, 1, 5, 6, 7, 8, 9, 10, 11] K := by kernel_rfl

def R1_Front_r11 (F : Nat) (x0 x1 x5 x6 x7 x8 x9 x10 : Value) (K : Value → Value → Value → Value → Value → Value → Value → Value → Value → M Value) : M Value :=
  bnd (opIndexAddr 1 x7 x8) fun v31 => bnd (opLoad v31) fun v32 => bnd (opNot v32) fun v33 => onB v33 (K x0 x1 x5 x6 x7 x8 x9 x10 (.bool true)) (bnd (opIndexAddr 1 x7 x10) fun v37 => bnd (opLoad v37) fun v38 => bnd (opNot v38) fun v39 => onB v39 (K x0 x1 x5 x6 x7 x8 x9 x10 (.bool true)) (bnd (R1_Above F x0 x1 x8 x10) fun v46 => bnd (opNot v46) fun v47 => K x0 x1 x5 x6 x7 x8 x9 x10 v47))

theorem R1_Front_r11_ok (F : Nat) (x0 x1 x5 x6 x7 x8 x9 x10 : Value) (K : Value → Value → Value → Value → Value → Value → Value → Value → Value → M Value) : R1_Front_r11 F x0 x1 x5 x6 x7 x8 x9 x10 K = R1_Front_R F 11 [(10, x10), (9, x9), (8, x8), (7, x7), (6, x6), (5, x5), (1, x1), (0, x0)] [0, 1, 5, 6, 7, 8, 9, 10, 48] K := by kernel_rfl

def R1_Front_r9 (F : Nat) (x0 x1 x5 x6 x7 x8 x9 x10 : Value) (K : Value → Value → Value → Value → Value → Value → Value → Value → Value → M Value) : M Value :=
  bnd (opBin .lss x10 x5) fun v26 => K x0 x1 x5 x6 x7 x8 x9 x10 v26

theorem R1_Front_r9_ok (F : Nat) (x0 x1 x5 x6 x7 x8 x9 x10 : Value) (K : Value → Value → Value → Value → Value → Value → Value → Value → Value → M Value) : R1_Front_r9 F x0 x1 x5 x6 x7 x8 x9 x10 K = R1_Front_R F 9 [(10, x10), (9, x9), (8, x8), (7, x7), (6, x6), (5, x5), (1, x1), (0, x0)] [0, 1, 5, 6, 7, 8, 9, 10, 26] K := by kernel_rfl

def R1_Front_b4 (F : Nat) (E4_2 : Value → Value → Value → Value → Value → Value → Value → M Value) (A4 : Value → Value → Value → Value → Value → Value → Value → Value → M Value) (x0 x1 x5 x6 x7 x8 x9 x10 : Value) : M Value :=
  R1_Front_r9 F x0 x1 x5 x6 x7 x8 x9 x10 (fun x0 x1 x5 x6 x7 x8 x9 x10 x26 => onB x26 (R1_Front_r11 F x0 x1 x5 x6 x7 x8 x9 x10 (fun x0 x1 x5 x6 x7 x8 x9 x10 x48 => onB x48 (R1_Front_k5 F A4 x0 x1 x5 x6 x7 x8 x9 x10) (R1_Front_r12 F x0 x1 x5 x6 x7 x8 x9 x10 (fun x0 x1 x5 x6 x7 x8 x9 x10 x11 => R1_Front_l6 F (fun x0 x1 x5 x6 x7 x8 x9 x10 => R1_Front_k5 F A4 x0 x1 x5 x6 x7 x8 x9 x10) F x0 x1 x5 x6 x7 x8 x9 x10 x11)))) (E4_2 x0 x1 x5 x6 x7 x8 x9))

def R1_Front_l4 (F : Nat) (E4_2 : Value → Value → Value → Value → Value → Value → Value → M Value) : Nat → Value → Value → Value → Value → Value → Value → Value → Value → M Value
  | 0, _, _, _, _, _, _, _, _ => fail
  | k4 + 1, x0, x1, x5, x6, x7, x8, x9, x10 => R1_Front_b4 F E4_2 (R1_Front_l4 F E4_2 k4) x0 x1 x5 x6 x7 x8 x9 x10

theorem R1_Front_l4_s (F : Nat) (E4_2 : Value → Value → Value → Value → Value → Value → Value → M Value) (k4 : Nat) (x0 x1 x5 x6 x7 x8 x9 x10 : Value) : R1_Front_l4 F E4_2 (k4 + 1) x0 x1 x5 x6 x7 x8 x9 x10 = R1_Front_b4 F E4_2 (R1_Front_l4 F E4_2 k4) x0 x1 x5 x6 x7 x8 x9 x10 := rfl

def R1_Front_r8 (F : Nat) (x0 x1 x5 x6 x7 x8 x9 : Value) (K : Value → Value → Value → Value → Value → Value → Value → Value → M Value) : M Value :=
  K x0 x1 x5 x6 x7 x8 x9 (.int .i64 (0))

theorem R1_Front_r8_ok (F : Nat) (x0 x1 x5 x6 x7 x8 x9 : Value) (K : Value → Value → Value → Value → Value → Value → Value → Value → M Value) : R1_Front_r8 F x0 x1 x5 x6 x7 x8 x9 K = R1_Front_R F 8 [(9, x9), (8, x8), (7, x7), (6, x6), (5, x5), (1, x1), (0, x0)] [0, 1, 5, 6, 7, 8, 9, 10] K := by kernel_rfl

def R1_Front_r7 (F : Nat) (x0 x1 x5 x6 x7 x8 : Value) (K : Value → Value → Value → Value → Value → Value → Value → M Value) : M Value :=
  K x0 x1 x5 x6 x7 x8 (.slice none 0 0)

theorem R1_Front_r7_ok (F : Nat) (x0 x1 x5 x6 x7 x8 : Value) (K : Value → Value → Value → Value → Value → Value → Value → M Value) : R1_Front_r7 F x0 x1 x5 x6 x7 x8 K = R1_Front_R F 7 [(8, x8), (7, x7), (6, x6), (5, x5), (1, x1), (0, x0)] [0, 1, 5, 6, 7, 8, 9] K := by kernel_rfl

def R1_Front_r5 (F : Nat) (x0 x1 x5 x6 x7 x8 : Value) (K : Value → Value → Value → Value → Value → Value → Value → M Value) : M Value :=
  bnd (opBin .lss x8 x5) fun v21 => K x0 x1 x5 x6 x7 x8 v21

theorem R1_Front_r5_ok (F : Nat) (x0 x1 x5 x6 x7 x8 : Value) (K : Value → Value → Value → Value → Value → Value → Value → M Value) : R1_Front_r5 F x0 x1 x5 x6 x7 x8 K = R1_Front_R F 5 [(8, x8), (7, x7), (6, x6), (5, x5), (1, x1), (0, x0)] [0, 1, 5, 6, 7, 8, 21] K := by kernel_rfl

def R1_Front_b1 (F : Nat) (E1_0 : Value → M Value) (A1 : Value → Value → Value → Value → Value → Value → M Value) (x0 x1 x5 x6 x7 x8 : Value) : M Value :=
  R1_Front_r5 F x0 x1 x5 x6 x7 x8 (fun x0 x1 x5 x6 x7 x8 x21 => onB x21 (R1_Front_r7 F x0 x1 x5 x6 x7 x8 (fun x0 x1 x5 x6 x7 x8 x9 => R1_Front_r8 F x0 x1 x5 x6 x7 x8 x9 (fun x0 x1 x5 x6 x7 x8 x9 x10 => R1_Front_l4 F (fun x0 x1 x5 x6 x7 x8 x9 => R1_Front_k3 F A1 x0 x1 x5 x6 x7 x8 x9) F x0 x1 x5 x6 x7 x8 x9 x10))) (E1_0 x6))

def R1_Front_l1 (F : Nat) (E1_0 : Value → M Value) : Nat → Value → Value → Value → Value → Value → Value → M Value
  | 0, _, _, _, _, _, _ => fail
  | k1 + 1, x0, x1, x5, x6, x7, x8 => R1_Front_b1 F E1_0 (R1_Front_l1 F E1_0 k1) x0 x1 x5 x6 x7 x8

theorem R1_Front_l1_s (F : Nat) (E1_0 : Value → M Value) (k1 : Nat) (x0 x1 x5 x6 x7 x8 : Value) : R1_Front_l1 F E1_0 (k1 + 1) x0 x1 x5 x6 x7 x8 = R1_Front_b1 F E1_0 (R1_Front_l1 F E1_0 k1) x0 x1 x5 x6 x7 x8 := rfl

def R1_Front_r4 (F : Nat) (x0 x1 x5 x6 x7 : Value) (K : Value → Value → Value → Value → Value → Value → M Value) : M Value :=
  K x0 x1 x5 x6 x7 (.int .i64 (0))

theorem R1_Front_r4_ok (F : Nat) (x0 x1 x5 x6 x7 : Value) (K : Value → Value → Value → Value → Value → Value → M Value) : R1_Front_r4 F x0 x1 x5 x6 x7 K = R1_Front_R F 4 [(7, x7), (6, x6), (5, x5), (1, x1), (0, x0)] [0, 1, 5, 6, 7, 8] K := by kernel_rfl

def R1_Front_r3 (F : Nat) (x0 x1 x5 x6 : Value) (K : Value → Value → Value → Value → Value → M Value) : M Value :=
  bnd (opBuildSlice 1 (rep 1 [(.int .i64 (0))]) [(0, 1, false, x1)]) fun v17 => bnd (R1_Reach F x0 v17 (.int .i64 (-1))) fun v18 => K x0 x1 x5 x6 v18

theorem R1_Front_r3_ok (F : Nat) (x0 x1 x5 x6 : Value) (K : Value → Value → Value → Value → Value → M Value) : R1_Front_r3 F x0 x1 x5 x6 K = R1_Front_R F 3 [(6, x6), (5, x5), (1, x1), (0, x0)] [0, 1, 5, 6, 7] K := by kernel_rfl

def R1_Front_r2 (F : Nat) (x0 x1 x5 : Value) (K : Value → Value → Value → Value → M Value) : M Value :=
  K x0 x1 x5 (.slice none 0 0)

theorem R1_Front_r2_ok (F : Nat) (x0 x1 x5 : Value) (K : Value → Value → Value → Value → M Value) : R1_Front_r2 F x0 x1 x5 K = R1_Front_R F 2 [(5, x5), (1, x1), (0, x0)] [0, 1, 5, 6] K := by kernel_rfl

def R1_Front_r1 (F : Nat) (x0 x1 : Value) (K : Value → Value → Value → M Value) : M Value :=
  bnd (opLen x0) fun v14 => K x0 x1 v14

theorem R1_Front_r1_ok (F : Nat) (x0 x1 : Value) (K : Value → Value → Value → M Value) : R1_Front_r1 F x0 x1 K = R1_Front_R F 1 [(1, x1), (0, x0)] [0, 1, 5] K := by kernel_rfl

def R1_Front_r0 (F : Nat) (x0 x1 : Value) (K : Value → Value → M Value) : M Value :=
  K x0 x1

theorem R1_Front_r0_ok (F : Nat) (x0 x1 : Value) (K : Value → Value → M Value) : R1_Front_r0 F x0 x1 K = R1_Front_R F 0 [(1, x1), (0, x0)] [0, 1] K := by kernel_rfl

def R1_Front (F : Nat) (x0 x1 : Value) : M Value :=
  R1_Front_r0 F x0 x1 (fun x0 x1 => R1_Front_r1 F x0 x1 (fun x0 x1 x5 => R1_Front_r2 F x0 x1 x5 (fun x0 x1 x5 x6 => R1_Front_r3 F x0 x1 x5 x6 (fun x0 x1 x5 x6 x7 => R1_Front_r4 F x0 x1 x5 x6 x7 (fun x0 x1 x5 x6 x7 x8 => R1_Front_l1 F (fun x6 => R1_Front_k0 F x6) F x0 x1 x5 x6 x7 x8)))))

def R1_Front_m (F : Nat) : List Value → M Value
  | [x0, x1] => R1_Front F x0 x1
  | _ => fail

theorem R1_Front_body : Tryd.f11.body = some (.seq (.region 0 (opsOf Tryd.f11 0) false) (.seq (.region 1 (opsOf Tryd.f11 1) false) (.seq (.region 2 (opsOf Tryd.f11 2) false) (.seq (.region 3 (opsOf Tryd.f11 3) false) (.seq (.seq (.region 4 (opsOf Tryd.f11 4) false) (.block 0 (.loop (.seq (.seq (.region 5 (opsOf Tryd.f11 5) false) (.cond (.tmp 21) .skip (.exit 0))) (.seq (.block 1 (.seq (.region 7 (opsOf Tryd.f11 7) false) (.seq (.seq (.region 8 (opsOf Tryd.f11 8) false) (.block 2 (.loop (.seq (.seq (.region 9 (opsOf Tryd.f11 9) false) (.cond (.tmp 26) .skip (.exit 2))) (.seq (.block 3 (.seq (.seq (.region 11 (opsOf Tryd.f11 11) false) (.cond (.tmp 48) (.exit 3) .skip)) (.seq (.region 12 (opsOf Tryd.f11 12) false) (.block 4 (.loop (.seq (.seq (.region 13 (opsOf Tryd.f11 13) false) (.cond (.tmp 55) .skip (.exit 4))) (.seq (.block 5 (.seq (.region 15 (opsOf Tryd.f11 15) false) (.seq (.region 16 (opsOf Tryd.f11 16) false) (.cond (.tmp 75) (.region 17 (opsOf Tryd.f11 17) false) .skip)))) (.region 14 (opsOf Tryd.f11 14) false)))))))) (.region 10 (opsOf Tryd.f11 10) false)))))) (.region 18 (opsOf Tryd.f11 18) false)))) (.region 6 (opsOf Tryd.f11 6) false)))))) (.seq (.region 19 (opsOf Tryd.f11 19) false) .ret)))))) := by kernel_rfl

theorem R1_Front_ok (F : Nat) : Sim Tryd.prog TrydG 11 (R1_Front_m F) := by
 have hE : EnvOK Tryd.prog TrydG (R1_Front_env F) := (EnvOK.cons (R1_Put_ok F) (EnvOK.cons (R1_Reach_ok F) (EnvOK.cons (R1_Above_ok F) EnvOK.nil)))
 refine Sim.of_body (E := R1_Front_env F) Tryd.func11 R1_Front_body Tryd.call11 ?_ ?_
 · intro args hl; unfold R1_Front_m; split
   · exact absurd hl (Nat.not_lt.2 (Nat.le_of_ble_eq_true rfl))
   · rfl
 · intro args ρ h w z; unfold R1_Front_m; split
   · rename_i x0 x1; show OKc _ _ [(0, x0), (1, x1)] _ _
     refine rSeq ?_
     refine cLess [1, 0] ?_
     refine xR hE [0, 1] rfl (R1_Front_r0_ok F _ _ _) ?_
     intro x0 x1
     show OKq _ _ _ [(1, x1), (0, x0)] _
     refine rThen ?_
     refine rSeq ?_
     refine cLess [1, 0] ?_
     refine xR hE [0, 1, 5] rfl (R1_Front_r1_ok F _ _ _) ?_
     intro x0 x1 x5
     show OKq _ _ _ [(5, x5), (1, x1), (0, x0)] _
     refine rThen ?_
     refine rSeq ?_
     refine cLess [5, 1, 0] ?_
     refine xR hE [0, 1, 5, 6] rfl (R1_Front_r2_ok F _ _ _ _) ?_
     intro x0 x1 x5 x6
     show OKq _ _ _ [(6, x6), (5, x5), (1, x1), (0, x0)] _
     refine rThen ?_
     refine rSeq ?_
     refine cLess [6, 5, 1, 0] ?_
     refine xR hE [0, 1, 5, 6, 7] rfl (R1_Front_r3_ok F _ _ _ _ _) ?_
     intro x0 x1 x5 x6 x7
     show OKq _ _ _ [(7, x7), (6, x6), (5, x5), (1, x1), (0, x0)] _
     refine rThen ?_
     refine xSeq [6] (R1_Front_k0 F ) ?_ fun hj0 => ?_
     · intro x6
       show OKc _ _ [(6, x6)] _ _
       refine rSeq ?_
       refine cLess [6] ?_
       refine xR hE [4] rfl (R1_Front_r19_ok F _ _) ?_
       intro x4
       show OKq _ _ _ [(4, x4)] _
       refine rThen ?_
       refine rRet ?_
       exact rDone (.inr rfl) rfl
     · refine rSeq ?_
       refine cLess [7, 6, 5, 1, 0] ?_
       refine xR hE [0, 1, 5, 6, 7, 8] rfl (R1_Front_r4_ok F _ _ _ _ _ _) ?_
       intro x0 x1 x5 x6 x7 x8
       show OKq _ _ _ [(8, x8), (7, x7), (6, x6), (5, x5), (1, x1), (0, x0)] _
       refine rThen ?_
       refine rBlock ?_
       refine cLess [8, 7, 6, 5, 1, 0] ?_
       refine xLoopAt [0, 1, 5, 6, 7, 8] [] (fun k1 => R1_Front_l1 F (fun x6 => R1_Front_k0 F x6) k1) F [x0, x1, x5, x6, x7, x8] rfl rfl (fun _ _ _ _ _ _ => rfl) fun I hI1 k1 => ?_
       intro x0 x1 x5 x6 x7 x8
       show OKc _ _ [(8, x8), (7, x7), (6, x6), (5, x5), (1, x1), (0, x0)] _ _
       refine cAs (R1_Front_l1_s F _ _ _ _ _ _ _ _) ?_
       refine rSeq ?_
       refine rSeq ?_
       refine cLess [8, 7, 6, 5, 1, 0] ?_
       refine xR hE [0, 1, 5, 6, 7, 8, 21] rfl (R1_Front_r5_ok F _ _ _ _ _ _ _) ?_
       intro x0 x1 x5 x6 x7 x8 x21
       show OKq _ _ _ [(21, x21), (8, x8), (7, x7), (6, x6), (5, x5), (1, x1), (0, x0)] _
       refine rThen ?_
       refine xCond rfl rfl ?_ ?_
       · refine rSkip ?_
         refine rThen ?_
         refine xSeq [0, 1, 5, 6, 7, 8] (R1_Front_k2 F (R1_Front_l1 F (fun x6 => R1_Front_k0 F x6) k1) ) ?_ fun hj2 => ?_
         · intro x0 x1 x5 x6 x7 x8
           show OKc _ _ [(8, x8), (7, x7), (6, x6), (5, x5), (1, x1), (0, x0)] _ _
           refine cLess [8, 7, 6, 5, 1, 0] ?_
           refine xR hE [0, 1, 5, 6, 7, 8] rfl (R1_Front_r6_ok F _ _ _ _ _ _ _) ?_
           intro x0 x1 x5 x6 x7 x8
           show OKq _ _ _ [(8, x8), (7, x7), (6, x6), (5, x5), (1, x1), (0, x0)] _
           exact qLess [8, 7, 6, 5, 1, 0] (hI1 k1 x0 x1 x5 x6 x7 x8)
         · refine rBlock ?_
           refine rSeq ?_
           refine cLess [8, 7, 6, 5, 1, 0] ?_
           refine xR hE [0, 1, 5, 6, 7, 8, 9] rfl (R1_Front_r7_ok F _ _ _ _ _ _ _) ?_
           intro x0 x1 x5 x6 x7 x8 x9
           show OKq _ _ _ [(9, x9), (8, x8), (7, x7), (6, x6), (5, x5), (1, x1), (0, x0)] _
           refine rThen ?_
           refine xSeq [0, 1, 5, 6, 7, 8, 9] (R1_Front_k3 F (R1_Front_l1 F (fun x6 => R1_Front_k0 F x6) k1) ) ?_ fun hj3 => ?_
           · intro x0 x1 x5 x6 x7 x8 x9
             show OKc _ _ [(9, x9), (8, x8), (7, x7), (6, x6), (5, x5), (1, x1), (0, x0)] _ _
             refine cLess [9, 8, 7, 6, 5, 1, 0] ?_
             refine xR hE [0, 1, 5, 6, 7, 8] rfl (R1_Front_r18_ok F _ _ _ _ _ _ _ _) ?_
             intro x0 x1 x5 x6 x7 x8
             show OKq _ _ _ [(8, x8), (7, x7), (6, x6), (5, x5), (1, x1), (0, x0)] _
             refine xBlockN ?_
             exact qLess [8, 7, 6, 5, 1, 0] (hj2 x0 x1 x5 x6 x7 x8)
           · refine rSeq ?_
             refine cLess [9, 8, 7, 6, 5, 1, 0] ?_
             refine xR hE [0, 1, 5, 6, 7, 8, 9, 10] rfl (R1_Front_r8_ok F _ _ _ _ _ _ _ _) ?_
             intro x0 x1 x5 x6 x7 x8 x9 x10
             show OKq _ _ _ [(10, x10), (9, x9), (8, x8), (7, x7), (6, x6), (5, x5), (1, x1), (0, x0)] _
             refine rThen ?_
             refine rBlock ?_
             refine cLess [10, 9, 8, 7, 6, 5, 1, 0] ?_
             refine xLoopAt [0, 1, 5, 6, 7, 8, 9, 10] [] (fun k4 => R1_Front_l4 F (fun x0 x1 x5 x6 x7 x8 x9 => R1_Front_k3 F (R1_Front_l1 F (fun x6 => R1_Front_k0 F x6) k1) x0 x1 x5 x6 x7 x8 x9) k4) F [x0, x1, x5, x6, x7, x8, x9, x10] rfl rfl (fun _ _ _ _ _ _ _ _ => rfl) fun I hI4 k4 => ?_
             intro x0 x1 x5 x6 x7 x8 x9 x10
             show OKc _ _ [(10, x10), (9, x9), (8, x8), (7, x7), (6, x6), (5, x5), (1, x1), (0, x0)] _ _
             refine cAs (R1_Front_l4_s F _ _ _ _ _ _ _ _ _ _) ?_
             refine rSeq ?_
             refine rSeq ?_
             refine cLess [10, 9, 8, 7, 6, 5, 1, 0] ?_
             refine xR hE [0, 1, 5, 6, 7, 8, 9, 10, 26] rfl (R1_Front_r9_ok F _ _ _ _ _ _ _ _ _) ?_
             intro x0 x1 x5 x6 x7 x8 x9 x10 x26
             show OKq _ _ _ [(26, x26), (10, x10), (9, x9), (8, x8), (7, x7), (6, x6), (5, x5), (1, x1), (0, x0)] _
             refine rThen ?_
             refine xCond rfl rfl ?_ ?_
             · refine rSkip ?_
               refine rThen ?_
               refine xSeq [0, 1, 5, 6, 7, 8, 9, 10] (R1_Front_k5 F (R1_Front_l4 F (fun x0 x1 x5 x6 x7 x8 x9 => R1_Front_k3 F (R1_Front_l1 F (fun x6 => R1_Front_k0 F x6) k1) x0 x1 x5 x6 x7 x8 x9) k4) ) ?_ fun hj5 => ?_
               · intro x0 x1 x5 x6 x7 x8 x9 x10
                 show OKc _ _ [(10, x10), (9, x9), (8, x8), (7, x7), (6, x6), (5, x5), (1, x1), (0, x0)] _ _
                 refine cLess [10, 9, 8, 7, 6, 5, 1, 0] ?_
                 refine xR hE [0, 1, 5, 6, 7, 8, 9, 10] rfl (R1_Front_r10_ok F _ _ _ _ _ _ _ _ _) ?_
                 intro x0 x1 x5 x6 x7 x8 x9 x10
                 show OKq _ _ _ [(10, x10), (9, x9), (8, x8), (7, x7), (6, x6), (5, x5), (1, x1), (0, x0)] _
                 exact qLess [10, 9, 8, 7, 6, 5, 1, 0] (hI4 k4 x0 x1 x5 x6 x7 x8 x9 x10)
               · refine rBlock ?_
                 refine rSeq ?_
                 refine rSeq ?_
                 refine cLess [10, 9, 8, 7, 6, 5, 1, 0] ?_
                 refine xR hE [0, 1, 5, 6, 7, 8, 9, 10, 48] rfl (R1_Front_r11_ok F _ _ _ _ _ _ _ _ _) ?_
                 intro x0 x1 x5 x6 x7 x8 x9 x10 x48
                 show OKq _ _ _ [(48, x48), (10, x10), (9, x9), (8, x8), (7, x7), (6, x6), (5, x5), (1, x1), (0, x0)] _
                 refine rThen ?_
                 refine xCond rfl rfl ?_ ?_
                 · refine rExit ?_
                   refine xThenX ?_
                   refine rOut ?_
                   exact qLess [10, 9, 8, 7, 6, 5, 1, 0] (hj5 x0 x1 x5 x6 x7 x8 x9 x10)
                 · refine rSkip ?_
                   refine rThen ?_
                   refine rSeq ?_
                   refine cLess [10, 9, 8, 7, 6, 5, 1, 0] ?_
                   refine xR hE [0, 1, 5, 6, 7, 8, 9, 10, 11] rfl (R1_Front_r12_ok F _ _ _ _ _ _ _ _ _) ?_
                   intro x0 x1 x5 x6 x7 x8 x9 x10 x11
                   show OKq _ _ _ [(11, x11), (10, x10), (9, x9), (8, x8), (7, x7), (6, x6), (5, x5), (1, x1), (0, x0)] _
                   refine rThen ?_
                   refine rBlock ?_
                   refine cLess [11, 10, 9, 8, 7, 6, 5, 1, 0] ?_
                   refine xLoopAt [0, 1, 5, 6, 7, 8, 9, 10, 11] [] (fun k6 => R1_Front_l6 F (fun x0 x1 x5 x6 x7 x8 x9 x10 => R1_Front_k5 F (R1_Front_l4 F (fun x0 x1 x5 x6 x7 x8 x9 => R1_Front_k3 F (R1_Front_l1 F (fun x6 => R1_Front_k0 F x6) k1) x0 x1 x5 x6 x7 x8 x9) k4) x0 x1 x5 x6 x7 x8 x9 x10) k6) F [x0, x1, x5, x6, x7, x8, x9, x10, x11] rfl rfl (fun _ _ _ _ _ _ _ _ _ => rfl) fun I hI6 k6 => ?_
                   intro x0 x1 x5 x6 x7 x8 x9 x10 x11
                   show OKc _ _ [(11, x11), (10, x10), (9, x9), (8, x8), (7, x7), (6, x6), (5, x5), (1, x1), (0, x0)] _ _
                   refine cAs (R1_Front_l6_s F _ _ _ _ _ _ _ _ _ _ _) ?_
                   refine rSeq ?_
                   refine rSeq ?_
                   refine cLess [11, 10, 9, 8, 7, 6, 5, 1, 0] ?_
                   refine xR hE [0, 1, 5, 6, 7, 8, 9, 10, 11, 55] rfl (R1_Front_r13_ok F _ _ _ _ _ _ _ _ _ _) ?_
                   intro x0 x1 x5 x6 x7 x8 x9 x10 x11 x55
                   show OKq _ _ _ [(55, x55), (11, x11), (10, x10), (9, x9), (8, x8), (7, x7), (6, x6), (5, x5), (1, x1), (0, x0)] _
                   refine rThen ?_
                   refine xCond rfl rfl ?_ ?_
                   · refine rSkip ?_
                     refine rThen ?_
                     refine xSeq [0, 1, 5, 6, 7, 8, 9, 10, 11] (R1_Front_k7 F (R1_Front_l6 F (fun x0 x1 x5 x6 x7 x8 x9 x10 => R1_Front_k5 F (R1_Front_l4 F (fun x0 x1 x5 x6 x7 x8 x9 => R1_Front_k3 F (R1_Front_l1 F (fun x6 => R1_Front_k0 F x6) k1) x0 x1 x5 x6 x7 x8 x9) k4) x0 x1 x5 x6 x7 x8 x9 x10) k6) ) ?_ fun hj7 => ?_
                     · intro x0 x1 x5 x6 x7 x8 x9 x10 x11
                       show OKc _ _ [(11, x11), (10, x10), (9, x9), (8, x8), (7, x7), (6, x6), (5, x5), (1, x1), (0, x0)] _ _
                       refine cLess [11, 10, 9, 8, 7, 6, 5, 1, 0] ?_
                       refine xR hE [0, 1, 5, 6, 7, 8, 9, 10, 11] rfl (R1_Front_r14_ok F _ _ _ _ _ _ _ _ _ _) ?_
                       intro x0 x1 x5 x6 x7 x8 x9 x10 x11
                       show OKq _ _ _ [(11, x11), (10, x10), (9, x9), (8, x8), (7, x7), (6, x6), (5, x5), (1, x1), (0, x0)] _
                       exact qLess [11, 10, 9, 8, 7, 6, 5, 1, 0] (hI6 k6 x0 x1 x5 x6 x7 x8 x9 x10 x11)
                     · refine rBlock ?_
                       refine rSeq ?_
                       refine cLess [11, 10, 9, 8, 7, 6, 5, 1, 0] ?_
                       refine xR hE [0, 1, 5, 6, 7, 8, 9, 10, 11, 12] rfl (R1_Front_r15_ok F _ _ _ _ _ _ _ _ _ _) ?_
                       intro x0 x1 x5 x6 x7 x8 x9 x10 x11 x12
                       show OKq _ _ _ [(12, x12), (11, x11), (10, x10), (9, x9), (8, x8), (7, x7), (6, x6), (5, x5), (1, x1), (0, x0)] _
                       refine rThen ?_
                       refine rSeq ?_
                       refine cLess [12, 11, 10, 9, 8, 7, 6, 5, 1, 0] ?_
                       refine xR hE [0, 1, 5, 6, 7, 8, 9, 10, 11, 12, 75] rfl (R1_Front_r16_ok F _ _ _ _ _ _ _ _ _ _ _) ?_
                       intro x0 x1 x5 x6 x7 x8 x9 x10 x11 x12 x75
                       show OKq _ _ _ [(75, x75), (12, x12), (11, x11), (10, x10), (9, x9), (8, x8), (7, x7), (6, x6), (5, x5), (1, x1), (0, x0)] _
                       refine rThen ?_
                       refine xCond rfl rfl ?_ ?_
                       · refine cLess [12, 11, 10, 9, 8, 7, 6, 5, 1, 0] ?_
                         refine xR hE [0, 1, 5, 6, 7, 8, 9, 10, 11] rfl (R1_Front_r17_ok F _ _ _ _ _ _ _ _ _ _ _) ?_
                         intro x0 x1 x5 x6 x7 x8 x9 x10 x11
                         show OKq _ _ _ [(11, x11), (10, x10), (9, x9), (8, x8), (7, x7), (6, x6), (5, x5), (1, x1), (0, x0)] _
                         refine xBlockN ?_
                         exact qLess [11, 10, 9, 8, 7, 6, 5, 1, 0] (hj7 x0 x1 x5 x6 x7 x8 x9 x10 x11)
                       · refine rSkip ?_
                         refine xBlockN ?_
                         exact qLess [11, 10, 9, 8, 7, 6, 5, 1, 0] (hj7 x0 x1 x5 x6 x7 x8 x9 x10 x11)
                   · refine rExit ?_
                     refine xThenX ?_
                     refine xThenX ?_
                     refine rOut ?_
                     refine xBlockN ?_
                     exact qLess [10, 9, 8, 7, 6, 5, 1, 0] (hj5 x0 x1 x5 x6 x7 x8 x9 x10)
             · refine rExit ?_
               refine xThenX ?_
               refine xThenX ?_
               refine rOut ?_
               exact qLess [9, 8, 7, 6, 5, 1, 0] (hj3 x0 x1 x5 x6 x7 x8 x9)
       · refine rExit ?_
         refine xThenX ?_
         refine xThenX ?_
         refine rOut ?_
         exact qLess [6] (hj0 x6)
   · exact rFail


/-! ### (*haruspex/bitset.Set).Has -/

def bitset_Set_Has_env (F : Nat) : Env := envOf [(30, bitset_Set_at_m F)]

noncomputable def bitset_Set_Has_R (F : Nat) := rK Tryd.prog TrydG (bitset_Set_Has_env F) Tryd.f20
noncomputable def bitset_Set_Has_D (F : Nat) := dK Tryd.prog TrydG (bitset_Set_Has_env F) Tryd.f20

def bitset_Set_Has_r1 (F : Nat) (x0 x1 : Value) (K : Value → M Value) : M Value :=
  bnd (opBin .geq x1 (.int .i64 (0))) fun v6 => onB v6 (bnd (opBin .lss x1 (.int .i64 (5000))) fun v9 => onB v9 (bnd (opBin .quo x1 (.int .i64 (64))) fun v14 => bnd (bitset_Set_at F x0 v14) fun v15 => bnd (opBin .rem x1 (.int .i64 (64))) fun v17 => bnd (opBin .shr v15 v17) fun v18 => bnd (opBin .and v18 (.int .u64 (1))) fun v19 => bnd (opBin .eql v19 (.int .u64 (1))) fun v20 => K v20) (K (.bool false))) (K (.bool false))

theorem bitset_Set_Has_r1_ok (F : Nat) (x0 x1 : Value) (K : Value → M Value) : bitset_Set_Has_r1 F x0 x1 K = bitset_Set_Has_R F 1 [(1, x1), (0, x0)] [4] K := by kernel_rfl

def bitset_Set_Has_r0 (F : Nat) (x0 x1 : Value) (K : Value → Value → M Value) : M Value :=
  K x0 x1

theorem bitset_Set_Has_r0_ok (F : Nat) (x0 x1 : Value) (K : Value → Value → M Value) : bitset_Set_Has_r0 F x0 x1 K = bitset_Set_Has_R F 0 [(1, x1), (0, x0)] [0, 1] K := by kernel_rfl

def bitset_Set_Has (F : Nat) (x0 x1 : Value) : M Value :=
  bitset_Set_Has_r0 F x0 x1 (fun x0 x1 => bitset_Set_Has_r1 F x0 x1 (fun x4 => ret x4))

def bitset_Set_Has_m (F : Nat) : List Value → M Value
  | [x0, x1] => bitset_Set_Has F x0 x1
  | _ => fail

theorem bitset_Set_Has_body : Tryd.f20.body = some (.seq (.region 0 (opsOf Tryd.f20 0) false) (.seq (.region 1 (opsOf Tryd.f20 1) false) .ret)) := by kernel_rfl

theorem bitset_Set_Has_ok (F : Nat) : Sim Tryd.prog TrydG 20 (bitset_Set_Has_m F) := by
 have hE : EnvOK Tryd.prog TrydG (bitset_Set_Has_env F) := (EnvOK.cons (bitset_Set_at_ok F) EnvOK.nil)
 refine Sim.of_body (E := bitset_Set_Has_env F) Tryd.func20 bitset_Set_Has_body Tryd.call20 ?_ ?_
 · intro args hl; unfold bitset_Set_Has_m; split
   · exact absurd hl (Nat.not_lt.2 (Nat.le_of_ble_eq_true rfl))
   · rfl
 · intro args ρ h w z; unfold bitset_Set_Has_m; split
   · rename_i x0 x1; show OKc _ _ [(0, x0), (1, x1)] _ _
     refine rSeq ?_
     refine cLess [1, 0] ?_
     refine xR hE [0, 1] rfl (bitset_Set_Has_r0_ok F _ _ _) ?_
     intro x0 x1
     show OKq _ _ _ [(1, x1), (0, x0)] _
     refine rThen ?_
     refine rSeq ?_
     refine cLess [1, 0] ?_
     refine xR hE [4] rfl (bitset_Set_Has_r1_ok F _ _ _) ?_
     intro x4
     show OKq _ _ _ [(4, x4)] _
     refine rThen ?_
     refine rRet ?_
     exact rDone (.inr rfl) rfl
   · exact rFail


/-! ### (*haruspex/bitset.Set).In -/

def bitset_Set_In_env (F : Nat) : Env := envOf [(28, bitset_Set_words_m F), (30, bitset_Set_at_m F)]

noncomputable def bitset_Set_In_R (F : Nat) := rK Tryd.prog TrydG (bitset_Set_In_env F) Tryd.f24
noncomputable def bitset_Set_In_D (F : Nat) := dK Tryd.prog TrydG (bitset_Set_In_env F) Tryd.f24

def bitset_Set_In_r7 (F : Nat) (K : Value → M Value) : M Value :=
  K (.bool true)

theorem bitset_Set_In_r7_ok (F : Nat) (K : Value → M Value) : bitset_Set_In_r7 F K = bitset_Set_In_R F 7 [] [4] K := by kernel_rfl

def bitset_Set_In_k0 (F : Nat) : M Value :=
  bitset_Set_In_r7 F (fun x4 => ret x4)

def bitset_Set_In_r6 (F : Nat) (x1 x8 x9 x10 : Value) (K : Value → Value → Value → Value → M Value) : M Value :=
  bnd (opBin .add x10 (.int .i64 (1))) fun v21 => K x1 x8 x9 v21

theorem bitset_Set_In_r6_ok (F : Nat) (x1 x8 x9 x10 : Value) (K : Value → Value → Value → Value → M Value) : bitset_Set_In_r6 F x1 x8 x9 x10 K = bitset_Set_In_R F 6 [(10, x10), (9, x9), (8, x8), (1, x1)] [1, 8, 9, 10] K := by kernel_rfl

def bitset_Set_In_r5 (F : Nat) (K : Value → M Value) : M Value :=
  K (.bool false)

theorem bitset_Set_In_r5_ok (F : Nat) (K : Value → M Value) : bitset_Set_In_r5 F K = bitset_Set_In_R F 5 [] [4] K := by kernel_rfl

def bitset_Set_In_r4 (F : Nat) (x1 x5 x6 x8 x9 x10 : Value) (K : Value → Value → Value → Value → Value → M Value) : M Value :=
  bnd (bitset_Set_at F x1 x5) fun v18 => bnd (opBin .andNot x6 v18) fun v19 => bnd (opBin .neq v19 (.int .u64 (0))) fun v20 => K x1 x8 x9 x10 v20

theorem bitset_Set_In_r4_ok (F : Nat) (x1 x5 x6 x8 x9 x10 : Value) (K : Value → Value → Value → Value → Value → M Value) : bitset_Set_In_r4 F x1 x5 x6 x8 x9 x10 K = bitset_Set_In_R F 4 [(10, x10), (9, x9), (8, x8), (6, x6), (5, x5), (1, x1)] [1, 8, 9, 10, 20] K := by kernel_rfl

def bitset_Set_In_r3 (F : Nat) (x1 x8 x9 x10 : Value) (K : Value → Value → Value → Value → Value → Value → M Value) : M Value :=
  bnd (opIndexAddr 1 x8 x10) fun v13 => bnd (opLoad v13) fun v14 => K x1 x10 v14 x8 x9 x10

theorem bitset_Set_In_r3_ok (F : Nat) (x1 x8 x9 x10 : Value) (K : Value → Value → Value → Value → Value → Value → M Value) : bitset_Set_In_r3 F x1 x8 x9 x10 K = bitset_Set_In_R F 3 [(10, x10), (9, x9), (8, x8), (1, x1)] [1, 5, 6, 8, 9, 10] K := by kernel_rfl

def bitset_Set_In_r2 (F : Nat) (x1 x8 x9 x10 : Value) (K : Value → Value → Value → Value → Value → M Value) : M Value :=
  bnd (opBin .lss x10 x9) fun v11 => K x1 x8 x9 x10 v11

theorem bitset_Set_In_r2_ok (F : Nat) (x1 x8 x9 x10 : Value) (K : Value → Value → Value → Value → Value → M Value) : bitset_Set_In_r2 F x1 x8 x9 x10 K = bitset_Set_In_R F 2 [(10, x10), (9, x9), (8, x8), (1, x1)] [1, 8, 9, 10, 11] K := by kernel_rfl

def bitset_Set_In_b1 (F : Nat) (E1_0 : M Value) (A1 : Value → Value → Value → Value → M Value) (x1 x8 x9 x10 : Value) : M Value :=
  bitset_Set_In_r2 F x1 x8 x9 x10 (fun x1 x8 x9 x10 x11 => onB x11 (bitset_Set_In_r3 F x1 x8 x9 x10 (fun x1 x5 x6 x8 x9 x10 => bitset_Set_In_r4 F x1 x5 x6 x8 x9 x10 (fun x1 x8 x9 x10 x20 => onB x20 (bitset_Set_In_r5 F (fun x4 => ret x4)) (bitset_Set_In_r6 F x1 x8 x9 x10 (fun x1 x8 x9 x10 => A1 x1 x8 x9 x10))))) (E1_0 ))

def bitset_Set_In_l1 (F : Nat) (E1_0 : M Value) : Nat → Value → Value → Value → Value → M Value
  | 0, _, _, _, _ => fail
  | k1 + 1, x1, x8, x9, x10 => bitset_Set_In_b1 F E1_0 (bitset_Set_In_l1 F E1_0 k1) x1 x8 x9 x10

theorem bitset_Set_In_l1_s (F : Nat) (E1_0 : M Value) (k1 : Nat) (x1 x8 x9 x10 : Value) : bitset_Set_In_l1 F E1_0 (k1 + 1) x1 x8 x9 x10 = bitset_Set_In_b1 F E1_0 (bitset_Set_In_l1 F E1_0 k1) x1 x8 x9 x10 := rfl

def bitset_Set_In_r1 (F : Nat) (x0 x1 : Value) (K : Value → Value → Value → Value → M Value) : M Value :=
  bnd (bitset_Set_words F x0) fun v8 => bnd (opLen v8) fun v9 => K x1 v8 v9 (.int .i64 (0))

theorem bitset_Set_In_r1_ok (F : Nat) (x0 x1 : Value) (K : Value → Value → Value → Value → M Value) : bitset_Set_In_r1 F x0 x1 K = bitset_Set_In_R F 1 [(1, x1), (0, x0)] [1, 8, 9, 10] K := by kernel_rfl

def bitset_Set_In_r0 (F : Nat) (x0 x1 : Value) (K : Value → Value → M Value) : M Value :=
  K x0 x1

theorem bitset_Set_In_r0_ok (F : Nat) (x0 x1 : Value) (K : Value → Value → M Value) : bitset_Set_In_r0 F x0 x1 K = bitset_Set_In_R F 0 [(1, x1), (0, x0)] [0, 1] K := by kernel_rfl

def bitset_Set_In (F : Nat) (x0 x1 : Value) : M Value :=
  bitset_Set_In_r0 F x0 x1 (fun x0 x1 => bitset_Set_In_r1 F x0 x1 (fun x1 x8 x9 x10 => bitset_Set_In_l1 F (bitset_Set_In_k0 F ) F x1 x8 x9 x10))

def bitset_Set_In_m (F : Nat) : List Value → M Value
  | [x0, x1] => bitset_Set_In F x0 x1
  | _ => fail

theorem bitset_Set_In_body : Tryd.f24.body = some (.seq (.region 0 (opsOf Tryd.f24 0) false) (.seq (.seq (.region 1 (opsOf Tryd.f24 1) false) (.block 0 (.loop (.seq (.region 2 (opsOf Tryd.f24 2) false) (.seq (.cond (.tmp 11) .skip (.exit 0)) (.seq (.block 1 (.seq (.region 3 (opsOf Tryd.f24 3) false) (.seq (.region 4 (opsOf Tryd.f24 4) false) (.cond (.tmp 20) (.seq (.region 5 (opsOf Tryd.f24 5) false) .ret) .skip)))) (.region 6 (opsOf Tryd.f24 6) false))))))) (.seq (.region 7 (opsOf Tryd.f24 7) false) .ret))) := by kernel_rfl

theorem bitset_Set_In_ok (F : Nat) : Sim Tryd.prog TrydG 24 (bitset_Set_In_m F) := by
 have hE : EnvOK Tryd.prog TrydG (bitset_Set_In_env F) := (EnvOK.cons (bitset_Set_words_ok F) (EnvOK.cons (bitset_Set_at_ok F) EnvOK.nil))
 refine Sim.of_body (E := bitset_Set_In_env F) Tryd.func24 bitset_Set_In_body Tryd.call24 ?_ ?_
 · intro args hl; unfold bitset_Set_In_m; split
   · exact absurd hl (Nat.not_lt.2 (Nat.le_of_ble_eq_true rfl))
   · rfl
 · intro args ρ h w z; unfold bitset_Set_In_m; split
   · rename_i x0 x1; show OKc _ _ [(0, x0), (1, x1)] _ _
     refine rSeq ?_
     refine cLess [1, 0] ?_
     refine xR hE [0, 1] rfl (bitset_Set_In_r0_ok F _ _ _) ?_
     intro x0 x1
     show OKq _ _ _ [(1, x1), (0, x0)] _
     refine rThen ?_
     refine xSeq [] (bitset_Set_In_k0 F ) ?_ fun hj0 => ?_
     · show OKc _ _ [] _ _
       refine rSeq ?_
       refine cLess [] ?_
       refine xR hE [4] rfl (bitset_Set_In_r7_ok F _) ?_
       intro x4
       show OKq _ _ _ [(4, x4)] _
       refine rThen ?_
       refine rRet ?_
       exact rDone (.inr rfl) rfl
     · refine rSeq ?_
       refine cLess [1, 0] ?_
       refine xR hE [1, 8, 9, 10] rfl (bitset_Set_In_r1_ok F _ _ _) ?_
       intro x1 x8 x9 x10
       show OKq _ _ _ [(10, x10), (9, x9), (8, x8), (1, x1)] _
       refine rThen ?_
       refine rBlock ?_
       refine cLess [10, 9, 8, 1] ?_
       refine xLoopAt [1, 8, 9, 10] [] (fun k1 => bitset_Set_In_l1 F (bitset_Set_In_k0 F ) k1) F [x1, x8, x9, x10] rfl rfl (fun _ _ _ _ => rfl) fun I hI1 k1 => ?_
       intro x1 x8 x9 x10
       show OKc _ _ [(10, x10), (9, x9), (8, x8), (1, x1)] _ _
       refine cAs (bitset_Set_In_l1_s F _ _ _ _ _ _) ?_
       refine rSeq ?_
       refine cLess [10, 9, 8, 1] ?_
       refine xR hE [1, 8, 9, 10, 11] rfl (bitset_Set_In_r2_ok F _ _ _ _ _) ?_
       intro x1 x8 x9 x10 x11
       show OKq _ _ _ [(11, x11), (10, x10), (9, x9), (8, x8), (1, x1)] _
       refine rThen ?_
       refine rSeq ?_
       refine xCond rfl rfl ?_ ?_
       · refine rSkip ?_
         refine rThen ?_
         refine rSeq ?_
         refine rBlock ?_
         refine rSeq ?_
         refine cLess [10, 9, 8, 1] ?_
         refine xR hE [1, 5, 6, 8, 9, 10] rfl (bitset_Set_In_r3_ok F _ _ _ _ _) ?_
         intro x1 x5 x6 x8 x9 x10
         show OKq _ _ _ [(10, x10), (9, x9), (8, x8), (6, x6), (5, x5), (1, x1)] _
         refine rThen ?_
         refine rSeq ?_
         refine cLess [10, 9, 8, 6, 5, 1] ?_
         refine xR hE [1, 8, 9, 10, 20] rfl (bitset_Set_In_r4_ok F _ _ _ _ _ _ _) ?_
         intro x1 x8 x9 x10 x20
         show OKq _ _ _ [(20, x20), (10, x10), (9, x9), (8, x8), (1, x1)] _
         refine rThen ?_
         refine xCond rfl rfl ?_ ?_
         · refine rSeq ?_
           refine cLess [] ?_
           refine xR hE [4] rfl (bitset_Set_In_r5_ok F _) ?_
           intro x4
           show OKq _ _ _ [(4, x4)] _
           refine rThen ?_
           refine rRet ?_
           refine xBlockR ?_
           refine xThenR ?_
           refine xThenR ?_
           refine xBlockR ?_
           refine xThenR ?_
           exact rDone (.inr rfl) rfl
         · refine rSkip ?_
           refine xBlockN ?_
           refine rThen ?_
           refine cLess [10, 9, 8, 1] ?_
           refine xR hE [1, 8, 9, 10] rfl (bitset_Set_In_r6_ok F _ _ _ _ _) ?_
           intro x1 x8 x9 x10
           show OKq _ _ _ [(10, x10), (9, x9), (8, x8), (1, x1)] _
           exact qLess [10, 9, 8, 1] (hI1 k1 x1 x8 x9 x10)
       · refine rExit ?_
         refine xThenX ?_
         refine xThenX ?_
         refine rOut ?_
         exact qLess [] (hj0 )
   · exact rFail


/-! ### (*haruspex/bitset.Set).Join -/

def bitset_Set_Join_env (F : Nat) : Env := envOf [(28, bitset_Set_words_m F), (30, bitset_Set_at_m F)]

noncomputable def bitset_Set_Join_R (F : Nat) := rK Tryd.prog TrydG (bitset_Set_Join_env F) Tryd.f25
noncomputable def bitset_Set_Join_D (F : Nat) := dK Tryd.prog TrydG (bitset_Set_Join_env F) Tryd.f25

def bitset_Set_Join_r13 (F : Nat) (x5 : Value) (K : Value → M Value) : M Value :=
  K x5

theorem bitset_Set_Join_r13_ok (F : Nat) (x5 : Value) (K : Value → M Value) : bitset_Set_Join_r13 F x5 K = bitset_Set_Join_R F 13 [(5, x5)] [4] K := by kernel_rfl

def bitset_Set_Join_k0 (F : Nat) (x5 : Value) : M Value :=
  bitset_Set_Join_r13 F x5 (fun x4 => ret x4)

def bitset_Set_Join_r12 (F : Nat) (x0 x5 x11 x12 x13 : Value) (K : Value → Value → Value → Value → Value → M Value) : M Value :=
  bnd (opBin .add x13 (.int .i64 (1))) fun v50 => K x0 x5 x11 x12 v50

theorem bitset_Set_Join_r12_ok (F : Nat) (x0 x5 x11 x12 x13 : Value) (K : Value → Value → Value → Value → Value → M Value) : bitset_Set_Join_r12 F x0 x5 x11 x12 x13 K = bitset_Set_Join_R F 12 [(13, x13), (12, x12), (11, x11), (5, x5), (0, x0)] [0, 5, 11, 12, 13] K := by kernel_rfl

def bitset_Set_Join_k2 (F : Nat) (A1 : Value → Value → Value → Value → Value → M Value) (x0 x5 x11 x12 x13 : Value) : M Value :=
  bitset_Set_Join_r12 F x0 x5 x11 x12 x13 (fun x0 x5 x11 x12 x13 => A1 x0 x5 x11 x12 x13)

def bitset_Set_Join_r11 (F : Nat) (x0 x11 x12 x13 : Value) (K : Value → Value → Value → Value → Value → M Value) : M Value :=
  K x0 (.bool true) x11 x12 x13

theorem bitset_Set_Join_r11_ok (F : Nat) (x0 x11 x12 x13 : Value) (K : Value → Value → Value → Value → Value → M Value) : bitset_Set_Join_r11 F x0 x11 x12 x13 K = bitset_Set_Join_R F 11 [(13, x13), (12, x12), (11, x11), (0, x0)] [0, 5, 11, 12, 13] K := by kernel_rfl

def bitset_Set_Join_r10 (F : Nat) (x0 x6 x7 x11 x12 x13 : Value) (K : Value → Value → Value → Value → M Value) : M Value :=
  bnd (opNil x0) fun v41 => bnd (opFieldAddr 0 v41) fun v42 => bnd (opLoad v42) fun v43 => bnd (opIndexAddr 1 v43 x6) fun v45 => bnd (opLoad v45) fun v46 => bnd (opBin .or v46 x7) fun v48 => bnd (opIndexAddr 1 v43 x6) fun v49 => bnd (opStore v49 v48) fun _ => K x0 x11 x12 x13

theorem bitset_Set_Join_r10_ok (F : Nat) (x0 x6 x7 x11 x12 x13 : Value) (K : Value → Value → Value → Value → M Value) : bitset_Set_Join_r10 F x0 x6 x7 x11 x12 x13 K = bitset_Set_Join_R F 10 [(13, x13), (12, x12), (11, x11), (7, x7), (6, x6), (0, x0)] [0, 11, 12, 13] K := by kernel_rfl

def bitset_Set_Join_k3 (F : Nat) (A1 : Value → Value → Value → Value → Value → M Value) (x0 x6 x7 x11 x12 x13 : Value) : M Value :=
  bitset_Set_Join_r10 F x0 x6 x7 x11 x12 x13 (fun x0 x11 x12 x13 => bitset_Set_Join_r11 F x0 x11 x12 x13 (fun x0 x5 x11 x12 x13 => bitset_Set_Join_k2 F A1 x0 x5 x11 x12 x13))

def bitset_Set_Join_r9 (F : Nat) (x0 x6 x7 x11 x12 x13 : Value) (K : Value → Value → Value → Value → Value → Value → M Value) : M Value :=
  bnd (opNil x0) fun v33 => bnd (opFieldAddr 0 v33) fun v34 => bnd (opLoad v34) fun v35 => bnd (opBuildSlice 1 (rep 1 [(.int .u64 (0))]) [(0, 1, false, (.int .u64 (0)))]) fun v36 => bnd (opAppend 1 8 v35 v36) fun v37 => bnd (opNil x0) fun v38 => bnd (opFieldAddr 0 v38) fun v39 => bnd (opStore v39 v37) fun _ => K x0 x6 x7 x11 x12 x13

theorem bitset_Set_Join_r9_ok (F : Nat) (x0 x6 x7 x11 x12 x13 : Value) (K : Value → Value → Value → Value → Value → Value → M Value) : bitset_Set_Join_r9 F x0 x6 x7 x11 x12 x13 K = bitset_Set_Join_R F 9 [(13, x13), (12, x12), (11, x11), (7, x7), (6, x6), (0, x0)] [0, 6, 7, 11, 12, 13] K := by kernel_rfl

def bitset_Set_Join_r8 (F : Nat) (x0 x6 x7 x11 x12 x13 : Value) (K : Value → Value → Value → Value → Value → Value → Value → M Value) : M Value :=
  bnd (opNil x0) fun v25 => bnd (opFieldAddr 0 v25) fun v26 => bnd (opLoad v26) fun v27 => bnd (opLen v27) fun v28 => bnd (opBin .leq v28 x6) fun v30 => K x0 x6 x7 x11 x12 x13 v30

theorem bitset_Set_Join_r8_ok (F : Nat) (x0 x6 x7 x11 x12 x13 : Value) (K : Value → Value → Value → Value → Value → Value → Value → M Value) : bitset_Set_Join_r8 F x0 x6 x7 x11 x12 x13 K = bitset_Set_Join_R F 8 [(13, x13), (12, x12), (11, x11), (7, x7), (6, x6), (0, x0)] [0, 6, 7, 11, 12, 13, 30] K := by kernel_rfl

def bitset_Set_Join_b4 (F : Nat) (E4_2 : Value → Value → Value → Value → Value → Value → M Value) (A4 : Value → Value → Value → Value → Value → Value → M Value) (x0 x6 x7 x11 x12 x13 : Value) : M Value :=
  bitset_Set_Join_r8 F x0 x6 x7 x11 x12 x13 (fun x0 x6 x7 x11 x12 x13 x30 => onB x30 (bitset_Set_Join_r9 F x0 x6 x7 x11 x12 x13 (fun x0 x6 x7 x11 x12 x13 => A4 x0 x6 x7 x11 x12 x13)) (E4_2 x0 x6 x7 x11 x12 x13))

def bitset_Set_Join_l4 (F : Nat) (E4_2 : Value → Value → Value → Value → Value → Value → M Value) : Nat → Value → Value → Value → Value → Value → Value → M Value
  | 0, _, _, _, _, _, _ => fail
  | k4 + 1, x0, x6, x7, x11, x12, x13 => bitset_Set_Join_b4 F E4_2 (bitset_Set_Join_l4 F E4_2 k4) x0 x6 x7 x11 x12 x13

theorem bitset_Set_Join_l4_s (F : Nat) (E4_2 : Value → Value → Value → Value → Value → Value → M Value) (k4 : Nat) (x0 x6 x7 x11 x12 x13 : Value) : bitset_Set_Join_l4 F E4_2 (k4 + 1) x0 x6 x7 x11 x12 x13 = bitset_Set_Join_b4 F E4_2 (bitset_Set_Join_l4 F E4_2 k4) x0 x6 x7 x11 x12 x13 := rfl

def bitset_Set_Join_r7 (F : Nat) (x0 x5 x6 x7 x11 x12 x13 : Value) (K : Value → Value → Value → Value → Value → Value → Value → Value → M Value) : M Value :=
  bnd (bitset_Set_at F x0 x6) fun v21 => bnd (opBin .andNot x7 v21) fun v22 => bnd (opBin .eql v22 (.int .u64 (0))) fun v23 => K x0 x5 x6 x7 x11 x12 x13 v23

theorem bitset_Set_Join_r7_ok (F : Nat) (x0 x5 x6 x7 x11 x12 x13 : Value) (K : Value → Value → Value → Value → Value → Value → Value → Value → M Value) : bitset_Set_Join_r7 F x0 x5 x6 x7 x11 x12 x13 K = bitset_Set_Join_R F 7 [(13, x13), (12, x12), (11, x11), (7, x7), (6, x6), (5, x5), (0, x0)] [0, 5, 6, 7, 11, 12, 13, 23] K := by kernel_rfl

def bitset_Set_Join_r6 (F : Nat) (x0 x5 x11 x12 x13 : Value) (K : Value → Value → Value → Value → Value → Value → Value → M Value) : M Value :=
  bnd (opIndexAddr 1 x11 x13) fun v16 => bnd (opLoad v16) fun v17 => K x0 x5 x13 v17 x11 x12 x13

theorem bitset_Set_Join_r6_ok (F : Nat) (x0 x5 x11 x12 x13 : Value) (K : Value → Value → Value → Value → Value → Value → Value → M Value) : bitset_Set_Join_r6 F x0 x5 x11 x12 x13 K = bitset_Set_Join_R F 6 [(13, x13), (12, x12), (11, x11), (5, x5), (0, x0)] [0, 5, 6, 7, 11, 12, 13] K := by kernel_rfl

def bitset_Set_Join_r5 (F : Nat) (x0 x5 x11 x12 x13 : Value) (K : Value → Value → Value → Value → Value → Value → M Value) : M Value :=
  bnd (opBin .lss x13 x12) fun v14 => K x0 x5 x11 x12 x13 v14

theorem bitset_Set_Join_r5_ok (F : Nat) (x0 x5 x11 x12 x13 : Value) (K : Value → Value → Value → Value → Value → Value → M Value) : bitset_Set_Join_r5 F x0 x5 x11 x12 x13 K = bitset_Set_Join_R F 5 [(13, x13), (12, x12), (11, x11), (5, x5), (0, x0)] [0, 5, 11, 12, 13, 14] K := by kernel_rfl

def bitset_Set_Join_b1 (F : Nat) (E1_0 : Value → M Value) (A1 : Value → Value → Value → Value → Value → M Value) (x0 x5 x11 x12 x13 : Value) : M Value :=
  bitset_Set_Join_r5 F x0 x5 x11 x12 x13 (fun x0 x5 x11 x12 x13 x14 => onB x14 (bitset_Set_Join_r6 F x0 x5 x11 x12 x13 (fun x0 x5 x6 x7 x11 x12 x13 => bitset_Set_Join_r7 F x0 x5 x6 x7 x11 x12 x13 (fun x0 x5 x6 x7 x11 x12 x13 x23 => onB x23 (bitset_Set_Join_k2 F A1 x0 x5 x11 x12 x13) (bitset_Set_Join_l4 F (fun x0 x6 x7 x11 x12 x13 => bitset_Set_Join_k3 F A1 x0 x6 x7 x11 x12 x13) F x0 x6 x7 x11 x12 x13)))) (E1_0 x5))

def bitset_Set_Join_l1 (F : Nat) (E1_0 : Value → M Value) : Nat → Value → Value → Value → Value → Value → M Value
  | 0, _, _, _, _, _ => fail
  | k1 + 1, x0, x5, x11, x12, x13 => bitset_Set_Join_b1 F E1_0 (bitset_Set_Join_l1 F E1_0 k1) x0 x5 x11 x12 x13

theorem bitset_Set_Join_l1_s (F : Nat) (E1_0 : Value → M Value) (k1 : Nat) (x0 x5 x11 x12 x13 : Value) : bitset_Set_Join_l1 F E1_0 (k1 + 1) x0 x5 x11 x12 x13 = bitset_Set_Join_b1 F E1_0 (bitset_Set_Join_l1 F E1_0 k1) x0 x5 x11 x12 x13 := rfl

def bitset_Set_Join_r4 (F : Nat) (x0 x1 x5 : Value) (K : Value → Value → Value → Value → Value → M Value) : M Value :=
  bnd (bitset_Set_words F x1) fun v11 => bnd (opLen v11) fun v12 => K x0 x5 v11 v12 (.int .i64 (0))

theorem bitset_Set_Join_r4_ok (F : Nat) (x0 x1 x5 : Value) (K : Value → Value → Value → Value → Value → M Value) : bitset_Set_Join_r4 F x0 x1 x5 K = bitset_Set_Join_R F 4 [(5, x5), (1, x1), (0, x0)] [0, 5, 11, 12, 13] K := by kernel_rfl

def bitset_Set_Join_r3 (F : Nat) (x0 x1 : Value) (K : Value → Value → Value → M Value) : M Value :=
  K x0 x1 (.bool false)

theorem bitset_Set_Join_r3_ok (F : Nat) (x0 x1 : Value) (K : Value → Value → Value → M Value) : bitset_Set_Join_r3 F x0 x1 K = bitset_Set_Join_R F 3 [(1, x1), (0, x0)] [0, 1, 5] K := by kernel_rfl

def bitset_Set_Join_r2 (F : Nat) (K : Value → M Value) : M Value :=
  K (.bool false)

theorem bitset_Set_Join_r2_ok (F : Nat) (K : Value → M Value) : bitset_Set_Join_r2 F K = bitset_Set_Join_R F 2 [] [4] K := by kernel_rfl

def bitset_Set_Join_r1 (F : Nat) (x0 x1 : Value) (K : Value → Value → Value → M Value) : M Value :=
  bnd (opEq eqP false x0 (.pointer none)) fun v9 => K x0 x1 v9

theorem bitset_Set_Join_r1_ok (F : Nat) (x0 x1 : Value) (K : Value → Value → Value → M Value) : bitset_Set_Join_r1 F x0 x1 K = bitset_Set_Join_R F 1 [(1, x1), (0, x0)] [0, 1, 9] K := by kernel_rfl

def bitset_Set_Join_r0 (F : Nat) (x0 x1 : Value) (K : Value → Value → M Value) : M Value :=
  K x0 x1

theorem bitset_Set_Join_r0_ok (F : Nat) (x0 x1 : Value) (K : Value → Value → M Value) : bitset_Set_Join_r0 F x0 x1 K = bitset_Set_Join_R F 0 [(1, x1), (0, x0)] [0, 1] K := by kernel_rfl

def bitset_Set_Join (F : Nat) (x0 x1 : Value) : M Value :=
  bitset_Set_Join_r0 F x0 x1 (fun x0 x1 => bitset_Set_Join_r1 F x0 x1 (fun x0 x1 x9 => onB x9 (bitset_Set_Join_r2 F (fun x4 => ret x4)) (bitset_Set_Join_r3 F x0 x1 (fun x0 x1 x5 => bitset_Set_Join_r4 F x0 x1 x5 (fun x0 x5 x11 x12 x13 => bitset_Set_Join_l1 F (fun x5 => bitset_Set_Join_k0 F x5) F x0 x5 x11 x12 x13)))))

def bitset_Set_Join_m (F : Nat) : List Value → M Value
  | [x0, x1] => bitset_Set_Join F x0 x1
  | _ => fail

theorem bitset_Set_Join_body : Tryd.f25.body = some (.seq (.region 0 (opsOf Tryd.f25 0) false) (.seq (.seq (.region 1 (opsOf Tryd.f25 1) false) (.cond (.tmp 9) (.seq (.region 2 (opsOf Tryd.f25 2) false) .ret) .skip)) (.seq (.region 3 (opsOf Tryd.f25 3) false) (.seq (.seq (.region 4 (opsOf Tryd.f25 4) false) (.block 0 (.loop (.seq (.region 5 (opsOf Tryd.f25 5) false) (.seq (.cond (.tmp 14) .skip (.exit 0)) (.seq (.block 1 (.seq (.region 6 (opsOf Tryd.f25 6) false) (.seq (.seq (.region 7 (opsOf Tryd.f25 7) false) (.cond (.tmp 23) (.exit 1) .skip)) (.seq (.block 2 (.loop (.seq (.seq (.region 8 (opsOf Tryd.f25 8) false) (.cond (.tmp 30) .skip (.exit 2))) (.block 3 (.region 9 (opsOf Tryd.f25 9) false))))) (.seq (.region 10 (opsOf Tryd.f25 10) false) (.region 11 (opsOf Tryd.f25 11) false)))))) (.region 12 (opsOf Tryd.f25 12) false))))))) (.seq (.region 13 (opsOf Tryd.f25 13) false) .ret))))) := by kernel_rfl

theorem bitset_Set_Join_ok (F : Nat) : Sim Tryd.prog TrydG 25 (bitset_Set_Join_m F) := by
 have hE : EnvOK Tryd.prog TrydG (bitset_Set_Join_env F) := (EnvOK.cons (bitset_Set_words_ok F) (EnvOK.cons (bitset_Set_at_ok F) EnvOK.nil))
 refine Sim.of_body (E := bitset_Set_Join_env F) Tryd.func25 bitset_Set_Join_body Tryd.call25 ?_ ?_
 · intro args hl; unfold bitset_Set_Join_m; split
   · exact absurd hl (Nat.not_lt.2 (Nat.le_of_ble_eq_true rfl))
   · rfl
 · intro args ρ h w z; unfold bitset_Set_Join_m; split
   · rename_i x0 x1; show OKc _ _ [(0, x0), (1, x1)] _ _
     refine rSeq ?_
     refine cLess [1, 0] ?_
     refine xR hE [0, 1] rfl (bitset_Set_Join_r0_ok F _ _ _) ?_
     intro x0 x1
     show OKq _ _ _ [(1, x1), (0, x0)] _
     refine rThen ?_
     refine rSeq ?_
     refine rSeq ?_
     refine cLess [1, 0] ?_
     refine xR hE [0, 1, 9] rfl (bitset_Set_Join_r1_ok F _ _ _) ?_
     intro x0 x1 x9
     show OKq _ _ _ [(9, x9), (1, x1), (0, x0)] _
     refine rThen ?_
     refine xCond rfl rfl ?_ ?_
     · refine rSeq ?_
       refine cLess [] ?_
       refine xR hE [4] rfl (bitset_Set_Join_r2_ok F _) ?_
       intro x4
       show OKq _ _ _ [(4, x4)] _
       refine rThen ?_
       refine rRet ?_
       refine xThenR ?_
       exact rDone (.inr rfl) rfl
     · refine rSkip ?_
       refine rThen ?_
       refine rSeq ?_
       refine cLess [1, 0] ?_
       refine xR hE [0, 1, 5] rfl (bitset_Set_Join_r3_ok F _ _ _) ?_
       intro x0 x1 x5
       show OKq _ _ _ [(5, x5), (1, x1), (0, x0)] _
       refine rThen ?_
       refine xSeq [5] (bitset_Set_Join_k0 F ) ?_ fun hj0 => ?_
       · intro x5
         show OKc _ _ [(5, x5)] _ _
         refine rSeq ?_
         refine cLess [5] ?_
         refine xR hE [4] rfl (bitset_Set_Join_r13_ok F _ _) ?_
         intro x4
         show OKq _ _ _ [(4, x4)] _
         refine rThen ?_
         refine rRet ?_
         exact rDone (.inr rfl) rfl
       · refine rSeq ?_
         refine cLess [5, 1, 0] ?_
         refine xR hE [0, 5, 11, 12, 13] rfl (bitset_Set_Join_r4_ok F _ _ _ _) ?_
         intro x0 x5 x11 x12 x13
         show OKq _ _ _ [(13, x13), (12, x12), (11, x11), (5, x5), (0, x0)] _
         refine rThen ?_
         refine rBlock ?_
         refine cLess [13, 12, 11, 5, 0] ?_
         refine xLoopAt [0, 5, 11, 12, 13] [] (fun k1 => bitset_Set_Join_l1 F (fun x5 => bitset_Set_Join_k0 F x5) k1) F [x0, x5, x11, x12, x13] rfl rfl (fun _ _ _ _ _ => rfl) fun I hI1 k1 => ?_
         intro x0 x5 x11 x12 x13
         show OKc _ _ [(13, x13), (12, x12), (11, x11), (5, x5), (0, x0)] _ _
         refine cAs (bitset_Set_Join_l1_s F _ _ _ _ _ _ _) ?_
         refine rSeq ?_
         refine cLess [13, 12, 11, 5, 0] ?_
         refine xR hE [0, 5, 11, 12, 13, 14] rfl (bitset_Set_Join_r5_ok F _ _ _ _ _ _) ?_
         intro x0 x5 x11 x12 x13 x14
         show OKq _ _ _ [(14, x14), (13, x13), (12, x12), (11, x11), (5, x5), (0, x0)] _
         refine rThen ?_
         refine rSeq ?_
         refine xCond rfl rfl ?_ ?_
         · refine rSkip ?_
           refine rThen ?_
           refine xSeq [0, 5, 11, 12, 13] (bitset_Set_Join_k2 F (bitset_Set_Join_l1 F (fun x5 => bitset_Set_Join_k0 F x5) k1) ) ?_ fun hj2 => ?_
           · intro x0 x5 x11 x12 x13
             show OKc _ _ [(13, x13), (12, x12), (11, x11), (5, x5), (0, x0)] _ _
             refine cLess [13, 12, 11, 5, 0] ?_
             refine xR hE [0, 5, 11, 12, 13] rfl (bitset_Set_Join_r12_ok F _ _ _ _ _ _) ?_
             intro x0 x5 x11 x12 x13
             show OKq _ _ _ [(13, x13), (12, x12), (11, x11), (5, x5), (0, x0)] _
             exact qLess [13, 12, 11, 5, 0] (hI1 k1 x0 x5 x11 x12 x13)
           · refine rBlock ?_
             refine rSeq ?_
             refine cLess [13, 12, 11, 5, 0] ?_
             refine xR hE [0, 5, 6, 7, 11, 12, 13] rfl (bitset_Set_Join_r6_ok F _ _ _ _ _ _) ?_
             intro x0 x5 x6 x7 x11 x12 x13
             show OKq _ _ _ [(13, x13), (12, x12), (11, x11), (7, x7), (6, x6), (5, x5), (0, x0)] _
             refine rThen ?_
             refine rSeq ?_
             refine rSeq ?_
             refine cLess [13, 12, 11, 7, 6, 5, 0] ?_
             refine xR hE [0, 5, 6, 7, 11, 12, 13, 23] rfl (bitset_Set_Join_r7_ok F _ _ _ _ _ _ _ _) ?_
             intro x0 x5 x6 x7 x11 x12 x13 x23
             show OKq _ _ _ [(23, x23), (13, x13), (12, x12), (11, x11), (7, x7), (6, x6), (5, x5), (0, x0)] _
             refine rThen ?_
             refine xCond rfl rfl ?_ ?_
             · refine rExit ?_
               refine xThenX ?_
               refine rOut ?_
               exact qLess [13, 12, 11, 5, 0] (hj2 x0 x5 x11 x12 x13)
             · refine rSkip ?_
               refine rThen ?_
               refine xSeq [0, 6, 7, 11, 12, 13] (bitset_Set_Join_k3 F (bitset_Set_Join_l1 F (fun x5 => bitset_Set_Join_k0 F x5) k1) ) ?_ fun hj3 => ?_
               · intro x0 x6 x7 x11 x12 x13
                 show OKc _ _ [(13, x13), (12, x12), (11, x11), (7, x7), (6, x6), (0, x0)] _ _
                 refine rSeq ?_
                 refine cLess [13, 12, 11, 7, 6, 0] ?_
                 refine xR hE [0, 11, 12, 13] rfl (bitset_Set_Join_r10_ok F _ _ _ _ _ _ _) ?_
                 intro x0 x11 x12 x13
                 show OKq _ _ _ [(13, x13), (12, x12), (11, x11), (0, x0)] _
                 refine rThen ?_
                 refine cLess [13, 12, 11, 0] ?_
                 refine xR hE [0, 5, 11, 12, 13] rfl (bitset_Set_Join_r11_ok F _ _ _ _ _) ?_
                 intro x0 x5 x11 x12 x13
                 show OKq _ _ _ [(13, x13), (12, x12), (11, x11), (5, x5), (0, x0)] _
                 refine xBlockN ?_
                 exact qLess [13, 12, 11, 5, 0] (hj2 x0 x5 x11 x12 x13)
               · refine rBlock ?_
                 refine cLess [13, 12, 11, 7, 6, 0] ?_
                 refine xLoopAt [0, 6, 7, 11, 12, 13] [] (fun k4 => bitset_Set_Join_l4 F (fun x0 x6 x7 x11 x12 x13 => bitset_Set_Join_k3 F (bitset_Set_Join_l1 F (fun x5 => bitset_Set_Join_k0 F x5) k1) x0 x6 x7 x11 x12 x13) k4) F [x0, x6, x7, x11, x12, x13] rfl rfl (fun _ _ _ _ _ _ => rfl) fun I hI4 k4 => ?_
                 intro x0 x6 x7 x11 x12 x13
                 show OKc _ _ [(13, x13), (12, x12), (11, x11), (7, x7), (6, x6), (0, x0)] _ _
                 refine cAs (bitset_Set_Join_l4_s F _ _ _ _ _ _ _ _) ?_
                 refine rSeq ?_
                 refine rSeq ?_
                 refine cLess [13, 12, 11, 7, 6, 0] ?_
                 refine xR hE [0, 6, 7, 11, 12, 13, 30] rfl (bitset_Set_Join_r8_ok F _ _ _ _ _ _ _) ?_
                 intro x0 x6 x7 x11 x12 x13 x30
                 show OKq _ _ _ [(30, x30), (13, x13), (12, x12), (11, x11), (7, x7), (6, x6), (0, x0)] _
                 refine rThen ?_
                 refine xCond rfl rfl ?_ ?_
                 · refine rSkip ?_
                   refine rThen ?_
                   refine rBlock ?_
                   refine cLess [13, 12, 11, 7, 6, 0] ?_
                   refine xR hE [0, 6, 7, 11, 12, 13] rfl (bitset_Set_Join_r9_ok F _ _ _ _ _ _ _) ?_
                   intro x0 x6 x7 x11 x12 x13
                   show OKq _ _ _ [(13, x13), (12, x12), (11, x11), (7, x7), (6, x6), (0, x0)] _
                   refine xBlockN ?_
                   exact qLess [13, 12, 11, 7, 6, 0] (hI4 k4 x0 x6 x7 x11 x12 x13)
                 · refine rExit ?_
                   refine xThenX ?_
                   refine xThenX ?_
                   refine rOut ?_
                   exact qLess [13, 12, 11, 7, 6, 0] (hj3 x0 x6 x7 x11 x12 x13)
         · refine rExit ?_
           refine xThenX ?_
           refine xThenX ?_
           refine rOut ?_
           exact qLess [5] (hj0 x5)
   · exact rFail


/-! ### (*haruspex/bitset.Set).Add -/

def bitset_Set_Add_env (F : Nat) : Env := envOf [(20, bitset_Set_Has_m F)]

noncomputable def bitset_Set_Add_R (F : Nat) := rK Tryd.prog TrydG (bitset_Set_Add_env F) Tryd.f27
noncomputable def bitset_Set_Add_D (F : Nat) := dK Tryd.prog TrydG (bitset_Set_Add_env F) Tryd.f27

def bitset_Set_Add_r6 (F : Nat) (K : Value → M Value) : M Value :=
  K (.bool true)

theorem bitset_Set_Add_r6_ok (F : Nat) (K : Value → M Value) : bitset_Set_Add_r6 F K = bitset_Set_Add_R F 6 [] [4] K := by kernel_rfl

def bitset_Set_Add_r5 (F : Nat) (x0 x1 : Value) (K : M Value) : M Value :=
  bnd (opNil x0) fun v38 => bnd (opFieldAddr 0 v38) fun v39 => bnd (opLoad v39) fun v40 => bnd (opBin .quo x1 (.int .i64 (64))) fun v42 => bnd (opIndexAddr 1 v40 v42) fun v43 => bnd (opLoad v43) fun v44 => bnd (opBin .rem x1 (.int .i64 (64))) fun v46 => bnd (opBin .shl (.int .u64 (1)) v46) fun v47 => bnd (opBin .or v44 v47) fun v48 => bnd (opIndexAddr 1 v40 v42) fun v49 => bnd (opStore v49 v48) fun _ => K

theorem bitset_Set_Add_r5_ok (F : Nat) (x0 x1 : Value) (K : M Value) : bitset_Set_Add_r5 F x0 x1 K = bitset_Set_Add_D F 5 [0, 1, 2, 3, 4, 5, 6, 7, 8, 9, 10, 11, 12, 13] [(1, x1), (0, x0)] [] K := by kernel_rfl

theorem bitset_Set_Add_r5_good : goodOrder (opsOf Tryd.f27 5) [0, 1, 2, 3, 4, 5, 6, 7, 8, 9, 10, 11, 12, 13] = true := by kernel_rfl

def bitset_Set_Add_k0 (F : Nat) (x0 x1 : Value) : M Value :=
  bitset_Set_Add_r5 F x0 x1 (bitset_Set_Add_r6 F (fun x4 => ret x4))

def bitset_Set_Add_r4 (F : Nat) (x0 x1 : Value) (K : Value → Value → M Value) : M Value :=
  bnd (opNil x0) fun v30 => bnd (opFieldAddr 0 v30) fun v31 => bnd (opLoad v31) fun v32 => bnd (opBuildSlice 1 (rep 1 [(.int .u64 (0))]) [(0, 1, false, (.int .u64 (0)))]) fun v33 => bnd (opAppend 1 8 v32 v33) fun v34 => bnd (opNil x0) fun v35 => bnd (opFieldAddr 0 v35) fun v36 => bnd (opStore v36 v34) fun _ => K x0 x1

theorem bitset_Set_Add_r4_ok (F : Nat) (x0 x1 : Value) (K : Value → Value → M Value) : bitset_Set_Add_r4 F x0 x1 K = bitset_Set_Add_R F 4 [(1, x1), (0, x0)] [0, 1] K := by kernel_rfl

def bitset_Set_Add_r3 (F : Nat) (x0 x1 : Value) (K : Value → Value → Value → M Value) : M Value :=
  bnd (opNil x0) fun v21 => bnd (opFieldAddr 0 v21) fun v22 => bnd (opLoad v22) fun v23 => bnd (opLen v23) fun v24 => bnd (opBin .quo x1 (.int .i64 (64))) fun v26 => bnd (opBin .leq v24 v26) fun v27 => K x0 x1 v27

theorem bitset_Set_Add_r3_ok (F : Nat) (x0 x1 : Value) (K : Value → Value → Value → M Value) : bitset_Set_Add_r3 F x0 x1 K = bitset_Set_Add_R F 3 [(1, x1), (0, x0)] [0, 1, 27] K := by kernel_rfl

def bitset_Set_Add_b1 (F : Nat) (E1_0 : Value → Value → M Value) (A1 : Value → Value → M Value) (x0 x1 : Value) : M Value :=
  bitset_Set_Add_r3 F x0 x1 (fun x0 x1 x27 => onB x27 (bitset_Set_Add_r4 F x0 x1 (fun x0 x1 => A1 x0 x1)) (E1_0 x0 x1))

def bitset_Set_Add_l1 (F : Nat) (E1_0 : Value → Value → M Value) : Nat → Value → Value → M Value
  | 0, _, _ => fail
  | k1 + 1, x0, x1 => bitset_Set_Add_b1 F E1_0 (bitset_Set_Add_l1 F E1_0 k1) x0 x1

theorem bitset_Set_Add_l1_s (F : Nat) (E1_0 : Value → Value → M Value) (k1 : Nat) (x0 x1 : Value) : bitset_Set_Add_l1 F E1_0 (k1 + 1) x0 x1 = bitset_Set_Add_b1 F E1_0 (bitset_Set_Add_l1 F E1_0 k1) x0 x1 := rfl

def bitset_Set_Add_r2 (F : Nat) (K : Value → M Value) : M Value :=
  K (.bool false)

theorem bitset_Set_Add_r2_ok (F : Nat) (K : Value → M Value) : bitset_Set_Add_r2 F K = bitset_Set_Add_R F 2 [] [4] K := by kernel_rfl

def bitset_Set_Add_r1 (F : Nat) (x0 x1 : Value) (K : Value → Value → Value → M Value) : M Value :=
  bnd (opEq eqP false x0 (.pointer none)) fun v6 => onB v6 (K x0 x1 (.bool true)) (bnd (opBin .lss x1 (.int .i64 (0))) fun v9 => onB v9 (K x0 x1 (.bool true)) (bnd (opBin .geq x1 (.int .i64 (5000))) fun v13 => onB v13 (K x0 x1 (.bool true)) (bnd (bitset_Set_Has F x0 x1) fun v18 => K x0 x1 v18)))

theorem bitset_Set_Add_r1_ok (F : Nat) (x0 x1 : Value) (K : Value → Value → Value → M Value) : bitset_Set_Add_r1 F x0 x1 K = bitset_Set_Add_R F 1 [(1, x1), (0, x0)] [0, 1, 19] K := by kernel_rfl

def bitset_Set_Add_r0 (F : Nat) (x0 x1 : Value) (K : Value → Value → M Value) : M Value :=
  K x0 x1

theorem bitset_Set_Add_r0_ok (F : Nat) (x0 x1 : Value) (K : Value → Value → M Value) : bitset_Set_Add_r0 F x0 x1 K = bitset_Set_Add_R F 0 [(1, x1), (0, x0)] [0, 1] K := by kernel_rfl

def bitset_Set_Add (F : Nat) (x0 x1 : Value) : M Value :=
  bitset_Set_Add_r0 F x0 x1 (fun x0 x1 => bitset_Set_Add_r1 F x0 x1 (fun x0 x1 x19 => onB x19 (bitset_Set_Add_r2 F (fun x4 => ret x4)) (bitset_Set_Add_l1 F (fun x0 x1 => bitset_Set_Add_k0 F x0 x1) F x0 x1)))

def bitset_Set_Add_m (F : Nat) : List Value → M Value
  | [x0, x1] => bitset_Set_Add F x0 x1
  | _ => fail

theorem bitset_Set_Add_body : Tryd.f27.body = some (.seq (.region 0 (opsOf Tryd.f27 0) false) (.seq (.seq (.region 1 (opsOf Tryd.f27 1) false) (.cond (.tmp 19) (.seq (.region 2 (opsOf Tryd.f27 2) false) .ret) .skip)) (.seq (.block 0 (.loop (.seq (.seq (.region 3 (opsOf Tryd.f27 3) false) (.cond (.tmp 27) .skip (.exit 0))) (.block 1 (.region 4 (opsOf Tryd.f27 4) false))))) (.seq (.region 5 (opsOf Tryd.f27 5) true) (.seq (.region 6 (opsOf Tryd.f27 6) false) .ret))))) := by kernel_rfl

theorem bitset_Set_Add_ok (F : Nat) : Sim Tryd.prog TrydG 27 (bitset_Set_Add_m F) := by
 have hE : EnvOK Tryd.prog TrydG (bitset_Set_Add_env F) := (EnvOK.cons (bitset_Set_Has_ok F) EnvOK.nil)
 refine Sim.of_body (E := bitset_Set_Add_env F) Tryd.func27 bitset_Set_Add_body Tryd.call27 ?_ ?_
 · intro args hl; unfold bitset_Set_Add_m; split
   · exact absurd hl (Nat.not_lt.2 (Nat.le_of_ble_eq_true rfl))
   · rfl
 · intro args ρ h w z; unfold bitset_Set_Add_m; split
   · rename_i x0 x1; show OKc _ _ [(0, x0), (1, x1)] _ _
     refine rSeq ?_
     refine cLess [1, 0] ?_
     refine xR hE [0, 1] rfl (bitset_Set_Add_r0_ok F _ _ _) ?_
     intro x0 x1
     show OKq _ _ _ [(1, x1), (0, x0)] _
     refine rThen ?_
     refine rSeq ?_
     refine rSeq ?_
     refine cLess [1, 0] ?_
     refine xR hE [0, 1, 19] rfl (bitset_Set_Add_r1_ok F _ _ _) ?_
     intro x0 x1 x19
     show OKq _ _ _ [(19, x19), (1, x1), (0, x0)] _
     refine rThen ?_
     refine xCond rfl rfl ?_ ?_
     · refine rSeq ?_
       refine cLess [] ?_
       refine xR hE [4] rfl (bitset_Set_Add_r2_ok F _) ?_
       intro x4
       show OKq _ _ _ [(4, x4)] _
       refine rThen ?_
       refine rRet ?_
       refine xThenR ?_
       exact rDone (.inr rfl) rfl
     · refine rSkip ?_
       refine rThen ?_
       refine xSeq [0, 1] (bitset_Set_Add_k0 F ) ?_ fun hj0 => ?_
       · intro x0 x1
         show OKc _ _ [(1, x1), (0, x0)] _ _
         refine rSeq ?_
         refine cLess [1, 0] ?_
         refine xD Trydmix hE [] rfl bitset_Set_Add_r5_good (bitset_Set_Add_r5_ok F _ _ _) ?_
         show OKq _ _ _ [] _
         refine rThen ?_
         refine rSeq ?_
         refine cLess [] ?_
         refine xR hE [4] rfl (bitset_Set_Add_r6_ok F _) ?_
         intro x4
         show OKq _ _ _ [(4, x4)] _
         refine rThen ?_
         refine rRet ?_
         exact rDone (.inr rfl) rfl
       · refine rBlock ?_
         refine cLess [1, 0] ?_
         refine xLoopAt [0, 1] [] (fun k1 => bitset_Set_Add_l1 F (fun x0 x1 => bitset_Set_Add_k0 F x0 x1) k1) F [x0, x1] rfl rfl (fun _ _ => rfl) fun I hI1 k1 => ?_
         intro x0 x1
         show OKc _ _ [(1, x1), (0, x0)] _ _
         refine cAs (bitset_Set_Add_l1_s F _ _ _ _) ?_
         refine rSeq ?_
         refine rSeq ?_
         refine cLess [1, 0] ?_
         refine xR hE [0, 1, 27] rfl (bitset_Set_Add_r3_ok F _ _ _) ?_
         intro x0 x1 x27
         show OKq _ _ _ [(27, x27), (1, x1), (0, x0)] _
         refine rThen ?_
         refine xCond rfl rfl ?_ ?_
         · refine rSkip ?_
           refine rThen ?_
           refine rBlock ?_
           refine cLess [1, 0] ?_
           refine xR hE [0, 1] rfl (bitset_Set_Add_r4_ok F _ _ _) ?_
           intro x0 x1
           show OKq _ _ _ [(1, x1), (0, x0)] _
           refine xBlockN ?_
           exact qLess [1, 0] (hI1 k1 x0 x1)
         · refine rExit ?_
           refine xThenX ?_
           refine xThenX ?_
           refine rOut ?_
           exact qLess [1, 0] (hj0 x0 x1)
   · exact rFail



end Go.Fw
