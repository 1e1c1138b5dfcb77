/-
  What functions of this seat come to, and that they do: part 1.
-/
import Derived.Test.YtdomcfoabnhlfaaProg
import Derived.Test.YtdomcfoabnhlfaaFwP
import Derived.KernelRfl
import Derived.Test.YtdomcfoabnhlfaaFwSc
set_option linter.unusedVariables false
set_option maxRecDepth 20000
namespace Go.Fw
open Go.Proofs

-- values: [45]
-- left: []
def TryG : Nat := 0
theorem Trymix : Try.prog.follows .mixedOrders = true := by kernel_rfl

/-! ### haruspex/haruspexref8.Code -/

def R8_Code_env (F : Nat) : Env := envOf []

noncomputable def R8_Code_R (F : Nat) := rK Try.prog TryG (R8_Code_env F) Try.f13
noncomputable def R8_Code_D (F : Nat) := dK Try.prog TryG (R8_Code_env F) Try.f13

def R8_Code_r3 (F : Nat) (x0 x3 x4 : Value) (K : Value → Value → M Value) : M Value :=
  bnd (opNil x0) fun v66 => bnd (opFieldAddr 4 v66) fun v67 => bnd (opLoad v67) fun v68 => bnd (opFieldAddr 0 x3) fun v69 => bnd (opLoad v69) fun v70 => bnd (opIndexAddr 3 v68 v70) fun v71 => bnd (opFieldAddr 2 v71) fun v72 => bnd (opLoad v72) fun v73 => bnd (opFieldAddr 1 x3) fun v74 => bnd (opLoad v74) fun v75 => bnd (opIndexAddr 5 v73 v75) fun v76 => bnd (opFieldAddr 0 v76) fun v77 => bnd (opLoad v77) fun v78 => bnd (opFieldAddr 2 x3) fun v79 => bnd (opLoad v79) fun v80 => bnd (opIndexAddr 6 v78 v80) fun v81 => bnd (opLoadN 6 v81) fun v82 => bnd (opStoreN 6 x4 v82) fun _ => K x4 (.bool true)

theorem R8_Code_r3_ok (F : Nat) (x0 x3 x4 : Value) (K : Value → Value → M Value) : R8_Code_r3 F x0 x3 x4 K = R8_Code_D F 3 [0, 1, 2, 3, 4, 5, 6, 7, 8, 9, 10, 11, 12, 13, 14, 15, 16, 17, 18, 19] [(4, x4), (3, x3), (0, x0)] [4, 5] K := by kernel_rfl

theorem R8_Code_r3_good : goodOrder (opsOf Try.f13 3) [0, 1, 2, 3, 4, 5, 6, 7, 8, 9, 10, 11, 12, 13, 14, 15, 16, 17, 18, 19] = true := by kernel_rfl

def R8_Code_r2 (F : Nat) (x4 : Value) (K : Value → Value → M Value) : M Value :=
  bnd (opBuild [(.int .i64 (0)), (.int .i64 (0)), (.int .i64 (0)), (.int .i64 (0)), (.int .i64 (0)), (.slice none 0 0)] []) fun v64 => bnd (opStoreN 6 x4 v64) fun _ => K x4 (.bool false)

theorem R8_Code_r2_ok (F : Nat) (x4 : Value) (K : Value → Value → M Value) : R8_Code_r2 F x4 K = R8_Code_R F 2 [(4, x4)] [4, 5] K := by kernel_rfl

def R8_Code_r1 (F : Nat) (x0 x3 x4 : Value) (K : Value → Value → Value → Value → M Value) : M Value :=
  bnd (opFieldAddr 0 x3) fun v6 => bnd (opLoad v6) fun v7 => bnd (opBin .lss v7 (.int .i64 (0))) fun v8 => onB v8 (K x0 x3 x4 (.bool true)) (bnd (opFieldAddr 0 x3) fun v10 => bnd (opLoad v10) fun v11 => bnd (opNil x0) fun v13 => bnd (opFieldAddr 4 v13) fun v14 => bnd (opLoad v14) fun v15 => bnd (opLen v15) fun v16 => bnd (opBin .geq v11 v16) fun v17 => onB v17 (K x0 x3 x4 (.bool true)) (bnd (opFieldAddr 1 x3) fun v20 => bnd (opLoad v20) fun v21 => bnd (opBin .lss v21 (.int .i64 (0))) fun v22 => onB v22 (K x0 x3 x4 (.bool true)) (bnd (opFieldAddr 1 x3) fun v25 => bnd (opLoad v25) fun v26 => bnd (opNil x0) fun v28 => bnd (opFieldAddr 4 v28) fun v29 => bnd (opLoad v29) fun v30 => bnd (opFieldAddr 0 x3) fun v31 => bnd (opLoad v31) fun v32 => bnd (opIndexAddr 3 v30 v32) fun v33 => bnd (opFieldAddr 2 v33) fun v34 => bnd (opLoad v34) fun v35 => bnd (opLen v35) fun v36 => bnd (opBin .geq v26 v36) fun v37 => onB v37 (K x0 x3 x4 (.bool true)) (bnd (opFieldAddr 2 x3) fun v40 => bnd (opLoad v40) fun v41 => bnd (opBin .lss v41 (.int .i64 (0))) fun v42 => onB v42 (K x0 x3 x4 (.bool true)) (bnd (opFieldAddr 2 x3) fun v45 => bnd (opLoad v45) fun v46 => bnd (opNil x0) fun v48 => bnd (opFieldAddr 4 v48) fun v49 => bnd (opLoad v49) fun v50 => bnd (opFieldAddr 0 x3) fun v51 => bnd (opLoad v51) fun v52 => bnd (opIndexAddr 3 v50 v52) fun v53 => bnd (opFieldAddr 2 v53) fun v54 => bnd (opLoad v54) fun v55 => bnd (opFieldAddr 1 x3) fun v56 => bnd (opLoad v56) fun v57 => bnd (opIndexAddr 5 v55 v57) fun v58 => bnd (opFieldAddr 0 v58) fun v59 => bnd (opLoad v59) fun v60 => bnd (opLen v60) fun v61 => bnd (opBin .geq v46 v61) fun v62 => K x0 x3 x4 v62)))))

theorem R8_Code_r1_ok (F : Nat) (x0 x3 x4 : Value) (K : Value → Value → Value → Value → M Value) : R8_Code_r1 F x0 x3 x4 K = R8_Code_D F 1 [0, 1, 2, 3, 4, 5, 6, 7, 8, 9, 10, 11, 12, 13, 14, 15, 16, 17, 18, 19, 20, 21, 22, 23, 24, 25, 26, 27, 28, 29, 30, 31, 32, 33, 34, 35, 36, 37, 38, 39, 40, 41, 42, 43, 44, 45, 46, 47, 48, 49, 50, 51, 52, 53, 54, 55, 56, 57] [(4, x4), (3, x3), (0, x0)] [0, 3, 4, 63] K := by kernel_rfl

theorem R8_Code_r1_good : goodOrder (opsOf Try.f13 1) [0, 1, 2, 3, 4, 5, 6, 7, 8, 9, 10, 11, 12, 13, 14, 15, 16, 17, 18, 19, 20, 21, 22, 23, 24, 25, 26, 27, 28, 29, 30, 31, 32, 33, 34, 35, 36, 37, 38, 39, 40, 41, 42, 43, 44, 45, 46, 47, 48, 49, 50, 51, 52, 53, 54, 55, 56, 57] = true := by kernel_rfl

def R8_Code_r0 (F : Nat) (x0 x1 : Value) (K : Value → Value → Value → M Value) : M Value :=
  bnd (opBoxN x1) fun v3 => bnd (opPtr [(.int .i64 (0)), (.int .i64 (0)), (.int .i64 (0)), (.int .i64 (0)), (.int .i64 (0)), (.slice none 0 0)]) fun v4 => K x0 v3 v4

theorem R8_Code_r0_ok (F : Nat) (x0 x1 : Value) (K : Value → Value → Value → M Value) : R8_Code_r0 F x0 x1 K = R8_Code_R F 0 [(1, x1), (0, x0)] [0, 3, 4] K := by kernel_rfl

def R8_Code (F : Nat) (x0 x1 : Value) : M Value :=
  R8_Code_r0 F x0 x1 (fun x0 x3 x4 => R8_Code_r1 F x0 x3 x4 (fun x0 x3 x4 x63 => onB x63 (R8_Code_r2 F x4 (fun x4 x5 => bnd (opLoadN 6 x4) fun r0 => tupK [r0, x5])) (R8_Code_r3 F x0 x3 x4 (fun x4 x5 => bnd (opLoadN 6 x4) fun r0 => tupK [r0, x5]))))

def R8_Code_m (F : Nat) : List Value → M Value
  | [x0, x1] => R8_Code F x0 x1
  | _ => fail

theorem R8_Code_body : Try.f13.body = some (.seq (.region 0 (opsOf Try.f13 0) false) (.seq (.seq (.region 1 (opsOf Try.f13 1) true) (.cond (.tmp 63) (.seq (.region 2 (opsOf Try.f13 2) false) .ret) .skip)) (.seq (.region 3 (opsOf Try.f13 3) true) .ret))) := by kernel_rfl

theorem R8_Code_ok (F : Nat) : Sim Try.prog TryG 13 (R8_Code_m F) := by
 have hE : EnvOK Try.prog TryG (R8_Code_env F) := EnvOK.nil
 refine Sim.of_body (E := R8_Code_env F) Try.func13 R8_Code_body Try.call13 ?_ ?_
 · intro args hl; unfold R8_Code_m; split
   · exact absurd hl (Nat.not_lt.2 (Nat.le_of_ble_eq_true rfl))
   · rfl
 · intro args ρ h w z; unfold R8_Code_m; split
   · rename_i x0 x1; show OKc _ _ [(0, x0), (1, x1)] _ _
     refine rSeq ?_
     refine cLess [1, 0] ?_
     refine xR hE [0, 3, 4] rfl (R8_Code_r0_ok F _ _ _) ?_
     intro x0 x3 x4
     show OKq _ _ _ [(4, x4), (3, x3), (0, x0)] _
     refine rThen ?_
     refine rSeq ?_
     refine rSeq ?_
     refine cLess [4, 3, 0] ?_
     refine xD Trymix hE [0, 3, 4, 63] rfl R8_Code_r1_good (R8_Code_r1_ok F _ _ _ _) ?_
     intro x0 x3 x4 x63
     show OKq _ _ _ [(63, x63), (4, x4), (3, x3), (0, x0)] _
     refine rThen ?_
     refine xCond rfl rfl ?_ ?_
     · refine rSeq ?_
       refine cLess [4] ?_
       refine xR hE [4, 5] rfl (R8_Code_r2_ok F _ _) ?_
       intro x4 x5
       show OKq _ _ _ [(5, x5), (4, x4)] _
       refine rThen ?_
       refine rRet ?_
       refine xThenR ?_
       exact rDone (.inr rfl) rfl
     · refine rSkip ?_
       refine rThen ?_
       refine rSeq ?_
       refine cLess [4, 3, 0] ?_
       refine xD Trymix hE [4, 5] rfl R8_Code_r3_good (R8_Code_r3_ok F _ _ _ _) ?_
       intro x4 x5
       show OKq _ _ _ [(5, x5), (4, x4)] _
       refine rThen ?_
       refine rRet ?_
       exact rDone (.inr rfl) rfl
   · exact rFail


/-! ### haruspex/haruspexref8.Def -/

def R8_Def_env (F : Nat) : Env := envOf []

noncomputable def R8_Def_R (F : Nat) := rK Try.prog TryG (R8_Def_env F) Try.f14
noncomputable def R8_Def_D (F : Nat) := dK Try.prog TryG (R8_Def_env F) Try.f14

def R8_Def_r3 (F : Nat) (x1 : Value) (K : Value → Value → M Value) : M Value :=
  bnd (opFieldAddr 1 x1) fun v27 => bnd (opLoad v27) fun v28 => K v28 (.bool true)

theorem R8_Def_r3_ok (F : Nat) (x1 : Value) (K : Value → Value → M Value) : R8_Def_r3 F x1 K = R8_Def_R F 3 [(1, x1)] [2, 3] K := by kernel_rfl

def R8_Def_r2 (F : Nat) (K : Value → Value → M Value) : M Value :=
  K (.int .i64 (0)) (.bool false)

theorem R8_Def_r2_ok (F : Nat) (K : Value → Value → M Value) : R8_Def_r2 F K = R8_Def_R F 2 [] [2, 3] K := by kernel_rfl

def R8_Def_r1 (F : Nat) (x1 : Value) (K : Value → Value → M Value) : M Value :=
  bnd (opFieldAddr 0 x1) fun v4 => bnd (opLoad v4) fun v5 => bnd (opBin .lss v5 (.int .i64 (1))) fun v6 => onB v6 (K x1 (.bool true)) (bnd (opFieldAddr 0 x1) fun v8 => bnd (opLoad v8) fun v9 => bnd (opBin .gtr v9 (.int .i64 (15))) fun v10 => onB v10 (K x1 (.bool true)) (bnd (opFieldAddr 0 x1) fun v13 => bnd (opLoad v13) fun v14 => bnd (opBin .eql v14 (.int .i64 (8))) fun v15 => onB v15 (K x1 (.bool true)) (bnd (opFieldAddr 0 x1) fun v18 => bnd (opLoad v18) fun v19 => bnd (opBin .eql v19 (.int .i64 (9))) fun v20 => onB v20 (K x1 (.bool true)) (bnd (opFieldAddr 0 x1) fun v23 => bnd (opLoad v23) fun v24 => bnd (opBin .eql v24 (.int .i64 (15))) fun v25 => K x1 v25))))

theorem R8_Def_r1_ok (F : Nat) (x1 : Value) (K : Value → Value → M Value) : R8_Def_r1 F x1 K = R8_Def_R F 1 [(1, x1)] [1, 26] K := by kernel_rfl

def R8_Def_r0 (F : Nat) (x0 : Value) (K : Value → M Value) : M Value :=
  bnd (opBoxN x0) fun v1 => K v1

theorem R8_Def_r0_ok (F : Nat) (x0 : Value) (K : Value → M Value) : R8_Def_r0 F x0 K = R8_Def_R F 0 [(0, x0)] [1] K := by kernel_rfl

def R8_Def (F : Nat) (x0 : Value) : M Value :=
  R8_Def_r0 F x0 (fun x1 => R8_Def_r1 F x1 (fun x1 x26 => onB x26 (R8_Def_r2 F (fun x2 x3 => tupK [x2, x3])) (R8_Def_r3 F x1 (fun x2 x3 => tupK [x2, x3]))))

def R8_Def_m (F : Nat) : List Value → M Value
  | [x0] => R8_Def F x0
  | _ => fail

theorem R8_Def_body : Try.f14.body = some (.seq (.region 0 (opsOf Try.f14 0) false) (.seq (.seq (.region 1 (opsOf Try.f14 1) false) (.cond (.tmp 26) (.seq (.region 2 (opsOf Try.f14 2) false) .ret) .skip)) (.seq (.region 3 (opsOf Try.f14 3) false) .ret))) := by kernel_rfl

theorem R8_Def_ok (F : Nat) : Sim Try.prog TryG 14 (R8_Def_m F) := by
 have hE : EnvOK Try.prog TryG (R8_Def_env F) := EnvOK.nil
 refine Sim.of_body (E := R8_Def_env F) Try.func14 R8_Def_body Try.call14 ?_ ?_
 · intro args hl; unfold R8_Def_m; split
   · exact absurd hl (Nat.not_lt.2 (Nat.le_of_ble_eq_true rfl))
   · rfl
 · intro args ρ h w z; unfold R8_Def_m; split
   · rename_i x0; show OKc _ _ [(0, x0)] _ _
     refine rSeq ?_
     refine cLess [0] ?_
     refine xR hE [1] rfl (R8_Def_r0_ok F _ _) ?_
     intro x1
     show OKq _ _ _ [(1, x1)] _
     refine rThen ?_
     refine rSeq ?_
     refine rSeq ?_
     refine cLess [1] ?_
     refine xR hE [1, 26] rfl (R8_Def_r1_ok F _ _) ?_
     intro x1 x26
     show OKq _ _ _ [(26, x26), (1, x1)] _
     refine rThen ?_
     refine xCond rfl rfl ?_ ?_
     · refine rSeq ?_
       refine cLess [] ?_
       refine xR hE [2, 3] rfl (R8_Def_r2_ok F _) ?_
       intro x2 x3
       show OKq _ _ _ [(3, x3), (2, x2)] _
       refine rThen ?_
       refine rRet ?_
       refine xThenR ?_
       exact rDone (.inr rfl) rfl
     · refine rSkip ?_
       refine rThen ?_
       refine rSeq ?_
       refine cLess [1] ?_
       refine xR hE [2, 3] rfl (R8_Def_r3_ok F _ _) ?_
       intro x2 x3
       show OKq _ _ _ [(3, x3), (2, x2)] _
       refine rThen ?_
       refine rRet ?_
       exact rDone (.inr rfl) rfl
   · exact rFail


/-! ### haruspex/haruspexlaw10.One -/

def L10_One_env (F : Nat) : Env := envOf []

noncomputable def L10_One_R (F : Nat) := rK Try.prog TryG (L10_One_env F) Try.f16
noncomputable def L10_One_D (F : Nat) := dK Try.prog TryG (L10_One_env F) Try.f16

def L10_One_r1 (F : Nat) (K : Value → M Value) : M Value :=
  bnd (opBuild [(.slice none 0 0), (.int .i64 (0)), (.int .i64 (0))] []) fun v1 => bnd (opBuildSlice 1 (rep 1 [(.slice none 0 0), (.int .i64 (0)), (.int .i64 (0))]) [(0, 3, true, v1)]) fun v2 => bnd (opBuild [(.int .i64 (0)), (.int .i64 (0))] []) fun v3 => bnd (opBuildSlice 1 (rep 1 [(.int .i64 (0)), (.int .i64 (0))]) [(0, 2, true, v3)]) fun v4 => bnd (opBuild [(.int .i64 (0)), (.int .i64 (0)), (.int .i64 (0)), (.int .i64 (0)), (.int .i64 (0)), (.slice none 0 0)] [(0, 1, false, (.int .i64 (1))), (4, 1, false, (.int .i64 (7)))]) fun v5 => bnd (opBuildSlice 1 (rep 1 [(.int .i64 (0)), (.int .i64 (0)), (.int .i64 (0)), (.int .i64 (0)), (.int .i64 (0)), (.slice none 0 0)]) [(0, 6, true, v5)]) fun v6 => bnd (opBuild [(.slice none 0 0), (.int .i64 (0)), (.int .i64 (0)), (.int .i64 (0)), (.int .i64 (0))] [(0, 1, false, v6), (1, 1, false, (.int .i64 (3)))]) fun v7 => bnd (opBuildSlice 1 (rep 1 [(.slice none 0 0), (.int .i64 (0)), (.int .i64 (0)), (.int .i64 (0)), (.int .i64 (0))]) [(0, 5, true, v7)]) fun v8 => bnd (opBuild [(.int .i64 (0)), (.slice none 0 0), (.slice none 0 0)] [(1, 1, false, v4), (2, 1, false, v8)]) fun v9 => bnd (opBuildSlice 1 (rep 1 [(.int .i64 (0)), (.slice none 0 0), (.slice none 0 0)]) [(0, 3, true, v9)]) fun v10 => bnd (opBuild [(.slice none 0 0), (.slice none 0 0), (.slice none 0 0), (.slice none 0 0), (.slice none 0 0), (.int .i64 (0))] [(1, 1, false, v2), (4, 1, false, v10)]) fun v11 => bnd (opBoxN v11) fun v12 => K v12

theorem L10_One_r1_ok (F : Nat) (K : Value → M Value) : L10_One_r1 F K = L10_One_R F 1 [] [0] K := by kernel_rfl

def L10_One_r0 (F : Nat) (K : M Value) : M Value :=
  K

theorem L10_One_r0_ok (F : Nat) (K : M Value) : L10_One_r0 F K = L10_One_R F 0 [] [] K := by kernel_rfl

def L10_One (F : Nat) : M Value :=
  L10_One_r0 F (L10_One_r1 F (fun x0 => ret x0))

def L10_One_m (F : Nat) : List Value → M Value
  | [] => L10_One F
  | _ => fail

theorem L10_One_body : Try.f16.body = some (.seq (.region 0 (opsOf Try.f16 0) false) (.seq (.region 1 (opsOf Try.f16 1) false) .ret)) := by kernel_rfl

theorem L10_One_ok (F : Nat) : Sim Try.prog TryG 16 (L10_One_m F) := by
 have hE : EnvOK Try.prog TryG (L10_One_env F) := EnvOK.nil
 refine Sim.of_body (E := L10_One_env F) Try.func16 L10_One_body Try.call16 ?_ ?_
 · intro args hl; unfold L10_One_m; split
   · exact absurd hl (Nat.not_lt.2 (Nat.le_of_ble_eq_true rfl))
   · rfl
 · intro args ρ h w z; unfold L10_One_m; split
   · show OKc _ _ [] _ _
     refine rSeq ?_
     refine cLess [] ?_
     refine xR hE [] rfl (L10_One_r0_ok F _) ?_
     show OKq _ _ _ [] _
     refine rThen ?_
     refine rSeq ?_
     refine cLess [] ?_
     refine xR hE [0] rfl (L10_One_r1_ok F _) ?_
     intro x0
     show OKq _ _ _ [(0, x0)] _
     refine rThen ?_
     refine rRet ?_
     exact rDone (.inr rfl) rfl
   · exact rFail


/-! ### haruspex/haruspexref1.Eq -/

def R1_Eq_env (F : Nat) : Env := envOf []

noncomputable def R1_Eq_R (F : Nat) := rK Try.prog TryG (R1_Eq_env F) Try.f18
noncomputable def R1_Eq_D (F : Nat) := dK Try.prog TryG (R1_Eq_env F) Try.f18

def R1_Eq_r8 (F : Nat) (K : Value → M Value) : M Value :=
  K (.bool true)

theorem R1_Eq_r8_ok (F : Nat) (K : Value → M Value) : R1_Eq_r8 F K = R1_Eq_R F 8 [] [4] K := by kernel_rfl

def R1_Eq_k0 (F : Nat) : M Value :=
  R1_Eq_r8 F (fun x4 => ret x4)

def R1_Eq_r5 (F : Nat) (x0 x1 x5 : Value) (K : Value → Value → Value → M Value) : M Value :=
  bnd (opBin .add x5 (.int .i64 (1))) fun v16 => K x0 x1 v16

theorem R1_Eq_r5_ok (F : Nat) (x0 x1 x5 : Value) (K : Value → Value → Value → M Value) : R1_Eq_r5 F x0 x1 x5 K = R1_Eq_R F 5 [(5, x5), (1, x1), (0, x0)] [0, 1, 5] K := by kernel_rfl

def R1_Eq_r7 (F : Nat) (K : Value → M Value) : M Value :=
  K (.bool false)

theorem R1_Eq_r7_ok (F : Nat) (K : Value → M Value) : R1_Eq_r7 F K = R1_Eq_R F 7 [] [4] K := by kernel_rfl

def R1_Eq_r6 (F : Nat) (x0 x1 x5 : Value) (K : Value → Value → Value → Value → M Value) : M Value :=
  bnd (opIndexAddr 1 x0 x5) fun v19 => bnd (opLoad v19) fun v20 => bnd (opIndexAddr 1 x1 x5) fun v23 => bnd (opLoad v23) fun v24 => bnd (opBin .neq v20 v24) fun v25 => K x0 x1 x5 v25

theorem R1_Eq_r6_ok (F : Nat) (x0 x1 x5 : Value) (K : Value → Value → Value → Value → M Value) : R1_Eq_r6 F x0 x1 x5 K = R1_Eq_D F 6 [0, 1, 2, 3, 4, 5, 6, 7, 8] [(5, x5), (1, x1), (0, x0)] [0, 1, 5, 25] K := by kernel_rfl

theorem R1_Eq_r6_good : goodOrder (opsOf Try.f18 6) [0, 1, 2, 3, 4, 5, 6, 7, 8] = true := by kernel_rfl

def R1_Eq_r4 (F : Nat) (x0 x1 x5 : Value) (K : Value → Value → Value → Value → M Value) : M Value :=
  bnd (opLen x0) fun v13 => bnd (opBin .lss x5 v13) fun v14 => K x0 x1 x5 v14

theorem R1_Eq_r4_ok (F : Nat) (x0 x1 x5 : Value) (K : Value → Value → Value → Value → M Value) : R1_Eq_r4 F x0 x1 x5 K = R1_Eq_R F 4 [(5, x5), (1, x1), (0, x0)] [0, 1, 5, 14] K := by kernel_rfl

def R1_Eq_b1 (F : Nat) (E1_0 : M Value) (A1 : Value → Value → Value → M Value) (x0 x1 x5 : Value) : M Value :=
  R1_Eq_r4 F x0 x1 x5 (fun x0 x1 x5 x14 => onB x14 (R1_Eq_r6 F x0 x1 x5 (fun x0 x1 x5 x25 => onB x25 (R1_Eq_r7 F (fun x4 => ret x4)) (R1_Eq_r5 F x0 x1 x5 (fun x0 x1 x5 => A1 x0 x1 x5)))) (E1_0 ))

def R1_Eq_l1 (F : Nat) (E1_0 : M Value) : Nat → Value → Value → Value → M Value
  | 0, _, _, _ => fail
  | k1 + 1, x0, x1, x5 => R1_Eq_b1 F E1_0 (R1_Eq_l1 F E1_0 k1) x0 x1 x5

theorem R1_Eq_l1_s (F : Nat) (E1_0 : M Value) (k1 : Nat) (x0 x1 x5 : Value) : R1_Eq_l1 F E1_0 (k1 + 1) x0 x1 x5 = R1_Eq_b1 F E1_0 (R1_Eq_l1 F E1_0 k1) x0 x1 x5 := rfl

def R1_Eq_r3 (F : Nat) (x0 x1 : Value) (K : Value → Value → Value → M Value) : M Value :=
  K x0 x1 (.int .i64 (0))

theorem R1_Eq_r3_ok (F : Nat) (x0 x1 : Value) (K : Value → Value → Value → M Value) : R1_Eq_r3 F x0 x1 K = R1_Eq_R F 3 [(1, x1), (0, x0)] [0, 1, 5] K := by kernel_rfl

def R1_Eq_r2 (F : Nat) (K : Value → M Value) : M Value :=
  K (.bool false)

theorem R1_Eq_r2_ok (F : Nat) (K : Value → M Value) : R1_Eq_r2 F K = R1_Eq_R F 2 [] [4] K := by kernel_rfl

def R1_Eq_r1 (F : Nat) (x0 x1 : Value) (K : Value → Value → Value → M Value) : M Value :=
  bnd (opLen x0) fun v7 => bnd (opLen x1) fun v9 => bnd (opBin .neq v7 v9) fun v10 => K x0 x1 v10

theorem R1_Eq_r1_ok (F : Nat) (x0 x1 : Value) (K : Value → Value → Value → M Value) : R1_Eq_r1 F x0 x1 K = R1_Eq_R F 1 [(1, x1), (0, x0)] [0, 1, 10] K := by kernel_rfl

def R1_Eq_r0 (F : Nat) (x0 x1 : Value) (K : Value → Value → M Value) : M Value :=
  K x0 x1

theorem R1_Eq_r0_ok (F : Nat) (x0 x1 : Value) (K : Value → Value → M Value) : R1_Eq_r0 F x0 x1 K = R1_Eq_R F 0 [(1, x1), (0, x0)] [0, 1] K := by kernel_rfl

def R1_Eq (F : Nat) (x0 x1 : Value) : M Value :=
  R1_Eq_r0 F x0 x1 (fun x0 x1 => R1_Eq_r1 F x0 x1 (fun x0 x1 x10 => onB x10 (R1_Eq_r2 F (fun x4 => ret x4)) (R1_Eq_r3 F x0 x1 (fun x0 x1 x5 => R1_Eq_l1 F (R1_Eq_k0 F ) F x0 x1 x5))))

def R1_Eq_m (F : Nat) : List Value → M Value
  | [x0, x1] => R1_Eq F x0 x1
  | _ => fail

theorem R1_Eq_body : Try.f18.body = some (.seq (.region 0 (opsOf Try.f18 0) false) (.seq (.seq (.region 1 (opsOf Try.f18 1) false) (.cond (.tmp 10) (.seq (.region 2 (opsOf Try.f18 2) false) .ret) .skip)) (.seq (.seq (.region 3 (opsOf Try.f18 3) false) (.block 0 (.loop (.seq (.seq (.region 4 (opsOf Try.f18 4) false) (.cond (.tmp 14) .skip (.exit 0))) (.seq (.block 1 (.seq (.region 6 (opsOf Try.f18 6) true) (.cond (.tmp 25) (.seq (.region 7 (opsOf Try.f18 7) false) .ret) .skip))) (.region 5 (opsOf Try.f18 5) false)))))) (.seq (.region 8 (opsOf Try.f18 8) false) .ret)))) := by kernel_rfl

theorem R1_Eq_ok (F : Nat) : Sim Try.prog TryG 18 (R1_Eq_m F) := by
 have hE : EnvOK Try.prog TryG (R1_Eq_env F) := EnvOK.nil
 refine Sim.of_body (E := R1_Eq_env F) Try.func18 R1_Eq_body Try.call18 ?_ ?_
 · intro args hl; unfold R1_Eq_m; split
   · exact absurd hl (Nat.not_lt.2 (Nat.le_of_ble_eq_true rfl))
   · rfl
 · intro args ρ h w z; unfold R1_Eq_m; split
   · rename_i x0 x1; show OKc _ _ [(0, x0), (1, x1)] _ _
     refine rSeq ?_
     refine cLess [1, 0] ?_
     refine xR hE [0, 1] rfl (R1_Eq_r0_ok F _ _ _) ?_
     intro x0 x1
     show OKq _ _ _ [(1, x1), (0, x0)] _
     refine rThen ?_
     refine rSeq ?_
     refine rSeq ?_
     refine cLess [1, 0] ?_
     refine xR hE [0, 1, 10] rfl (R1_Eq_r1_ok F _ _ _) ?_
     intro x0 x1 x10
     show OKq _ _ _ [(10, x10), (1, x1), (0, x0)] _
     refine rThen ?_
     refine xCond rfl rfl ?_ ?_
     · refine rSeq ?_
       refine cLess [] ?_
       refine xR hE [4] rfl (R1_Eq_r2_ok F _) ?_
       intro x4
       show OKq _ _ _ [(4, x4)] _
       refine rThen ?_
       refine rRet ?_
       refine xThenR ?_
       exact rDone (.inr rfl) rfl
     · refine rSkip ?_
       refine rThen ?_
       refine xSeq [] (R1_Eq_k0 F ) ?_ fun hj0 => ?_
       · show OKc _ _ [] _ _
         refine rSeq ?_
         refine cLess [] ?_
         refine xR hE [4] rfl (R1_Eq_r8_ok F _) ?_
         intro x4
         show OKq _ _ _ [(4, x4)] _
         refine rThen ?_
         refine rRet ?_
         exact rDone (.inr rfl) rfl
       · refine rSeq ?_
         refine cLess [1, 0] ?_
         refine xR hE [0, 1, 5] rfl (R1_Eq_r3_ok F _ _ _) ?_
         intro x0 x1 x5
         show OKq _ _ _ [(5, x5), (1, x1), (0, x0)] _
         refine rThen ?_
         refine rBlock ?_
         refine cLess [5, 1, 0] ?_
         refine xLoopAt [0, 1, 5] [] (fun k1 => R1_Eq_l1 F (R1_Eq_k0 F ) k1) F [x0, x1, x5] rfl rfl (fun _ _ _ => rfl) fun I hI1 k1 => ?_
         intro x0 x1 x5
         show OKc _ _ [(5, x5), (1, x1), (0, x0)] _ _
         refine cAs (R1_Eq_l1_s F _ _ _ _ _) ?_
         refine rSeq ?_
         refine rSeq ?_
         refine cLess [5, 1, 0] ?_
         refine xR hE [0, 1, 5, 14] rfl (R1_Eq_r4_ok F _ _ _ _) ?_
         intro x0 x1 x5 x14
         show OKq _ _ _ [(14, x14), (5, x5), (1, x1), (0, x0)] _
         refine rThen ?_
         refine xCond rfl rfl ?_ ?_
         · refine rSkip ?_
           refine rThen ?_
           refine rSeq ?_
           refine rBlock ?_
           refine rSeq ?_
           refine cLess [5, 1, 0] ?_
           refine xD Trymix hE [0, 1, 5, 25] rfl R1_Eq_r6_good (R1_Eq_r6_ok F _ _ _ _) ?_
           intro x0 x1 x5 x25
           show OKq _ _ _ [(25, x25), (5, x5), (1, x1), (0, x0)] _
           refine rThen ?_
           refine xCond rfl rfl ?_ ?_
           · refine rSeq ?_
             refine cLess [] ?_
             refine xR hE [4] rfl (R1_Eq_r7_ok F _) ?_
             intro x4
             show OKq _ _ _ [(4, x4)] _
             refine rThen ?_
             refine rRet ?_
             refine xBlockR ?_
             refine xThenR ?_
             refine xThenR ?_
             refine xBlockR ?_
             refine xThenR ?_
             exact rDone (.inr rfl) rfl
           · refine rSkip ?_
             refine xBlockN ?_
             refine rThen ?_
             refine cLess [5, 1, 0] ?_
             refine xR hE [0, 1, 5] rfl (R1_Eq_r5_ok F _ _ _ _) ?_
             intro x0 x1 x5
             show OKq _ _ _ [(5, x5), (1, x1), (0, x0)] _
             exact qLess [5, 1, 0] (hI1 k1 x0 x1 x5)
         · refine rExit ?_
           refine xThenX ?_
           refine xThenX ?_
           refine rOut ?_
           exact qLess [] (hj0 )
   · exact rFail


/-! ### haruspex/haruspexref8.Bounds -/

def R8_Bounds_env (F : Nat) : Env := envOf []

noncomputable def R8_Bounds_R (F : Nat) := rK Try.prog TryG (R8_Bounds_env F) Try.f20
noncomputable def R8_Bounds_D (F : Nat) := dK Try.prog TryG (R8_Bounds_env F) Try.f20

def R8_Bounds_r44 (F : Nat) (x7 x8 : Value) (K : Value → M Value) : M Value :=
  bnd (opBin .leq x7 (.int .i64 (600))) fun v226 => onB v226 (bnd (opBin .leq x8 (.int .i64 (40))) fun v229 => K v229) (K (.bool false))

theorem R8_Bounds_r44_ok (F : Nat) (x7 x8 : Value) (K : Value → M Value) : R8_Bounds_r44 F x7 x8 K = R8_Bounds_R F 44 [(8, x8), (7, x7)] [2] K := by kernel_rfl

def R8_Bounds_k0 (F : Nat) (x7 x8 : Value) : M Value :=
  R8_Bounds_r44 F x7 x8 (fun x2 => ret x2)

def R8_Bounds_r26 (F : Nat) (x0 x7 x8 x9 : Value) (K : Value → Value → Value → Value → M Value) : M Value :=
  bnd (opBin .add x9 (.int .i64 (1))) fun v146 => K x0 x7 x8 v146

theorem R8_Bounds_r26_ok (F : Nat) (x0 x7 x8 x9 : Value) (K : Value → Value → Value → Value → M Value) : R8_Bounds_r26 F x0 x7 x8 x9 K = R8_Bounds_R F 26 [(9, x9), (8, x8), (7, x7), (0, x0)] [0, 7, 8, 9] K := by kernel_rfl

def R8_Bounds_k2 (F : Nat) (A1 : Value → Value → Value → Value → M Value) (x0 x7 x8 x9 : Value) : M Value :=
  R8_Bounds_r26 F x0 x7 x8 x9 (fun x0 x7 x8 x9 => A1 x0 x7 x8 x9)

def R8_Bounds_r32 (F : Nat) (x0 x7 x8 x9 x10 x11 : Value) (K : Value → Value → Value → Value → Value → Value → M Value) : M Value :=
  bnd (opBin .add x11 (.int .i64 (1))) fun v176 => K x0 x7 x8 x9 x10 v176

theorem R8_Bounds_r32_ok (F : Nat) (x0 x7 x8 x9 x10 x11 : Value) (K : Value → Value → Value → Value → Value → Value → M Value) : R8_Bounds_r32 F x0 x7 x8 x9 x10 x11 K = R8_Bounds_R F 32 [(11, x11), (10, x10), (9, x9), (8, x8), (7, x7), (0, x0)] [0, 7, 8, 9, 10, 11] K := by kernel_rfl

def R8_Bounds_k4 (F : Nat) (A3 : Value → Value → Value → Value → Value → Value → M Value) (x0 x7 x8 x9 x10 x11 : Value) : M Value :=
  R8_Bounds_r32 F x0 x7 x8 x9 x10 x11 (fun x0 x7 x8 x9 x10 x11 => A3 x0 x7 x8 x9 x10 x11)

def R8_Bounds_r43 (F : Nat) (x0 x7 x8 x9 x10 x11 : Value) (K : Value → Value → Value → Value → Value → Value → M Value) : M Value :=
  bnd (opBin .add x7 (.int .i64 (1))) fun v224 => K x0 v224 x8 x9 x10 x11

theorem R8_Bounds_r43_ok (F : Nat) (x0 x7 x8 x9 x10 x11 : Value) (K : Value → Value → Value → Value → Value → Value → M Value) : R8_Bounds_r43 F x0 x7 x8 x9 x10 x11 K = R8_Bounds_R F 43 [(11, x11), (10, x10), (9, x9), (8, x8), (7, x7), (0, x0)] [0, 7, 8, 9, 10, 11] K := by kernel_rfl

def R8_Bounds_k5 (F : Nat) (A3 : Value → Value → Value → Value → Value → Value → M Value) (x0 x7 x8 x9 x10 x11 : Value) : M Value :=
  R8_Bounds_r43 F x0 x7 x8 x9 x10 x11 (fun x0 x7 x8 x9 x10 x11 => R8_Bounds_k4 F A3 x0 x7 x8 x9 x10 x11)

def R8_Bounds_r37 (F : Nat) (x0 x7 x8 x9 x10 x11 x12 : Value) (K : Value → Value → Value → Value → Value → Value → Value → M Value) : M Value :=
  bnd (opBin .add x12 (.int .i64 (1))) fun v195 => K x0 x7 x8 x9 x10 x11 v195

theorem R8_Bounds_r37_ok (F : Nat) (x0 x7 x8 x9 x10 x11 x12 : Value) (K : Value → Value → Value → Value → Value → Value → Value → M Value) : R8_Bounds_r37 F x0 x7 x8 x9 x10 x11 x12 K = R8_Bounds_R F 37 [(12, x12), (11, x11), (10, x10), (9, x9), (8, x8), (7, x7), (0, x0)] [0, 7, 8, 9, 10, 11, 12] K := by kernel_rfl

def R8_Bounds_k7 (F : Nat) (A6 : Value → Value → Value → Value → Value → Value → Value → M Value) (x0 x7 x8 x9 x10 x11 x12 : Value) : M Value :=
  R8_Bounds_r37 F x0 x7 x8 x9 x10 x11 x12 (fun x0 x7 x8 x9 x10 x11 x12 => A6 x0 x7 x8 x9 x10 x11 x12)

def R8_Bounds_r42 (F : Nat) (x0 x7 x8 x9 x10 x11 x12 : Value) (K : Value → Value → Value → Value → Value → Value → Value → M Value) : M Value :=
  bnd (opBin .add x8 (.int .i64 (1))) fun v222 => K x0 x7 v222 x9 x10 x11 x12

theorem R8_Bounds_r42_ok (F : Nat) (x0 x7 x8 x9 x10 x11 x12 : Value) (K : Value → Value → Value → Value → Value → Value → Value → M Value) : R8_Bounds_r42 F x0 x7 x8 x9 x10 x11 x12 K = R8_Bounds_R F 42 [(12, x12), (11, x11), (10, x10), (9, x9), (8, x8), (7, x7), (0, x0)] [0, 7, 8, 9, 10, 11, 12] K := by kernel_rfl

def R8_Bounds_r41 (F : Nat) (x0 x7 x8 x9 x10 x11 x12 : Value) (K : Value → Value → Value → Value → Value → Value → Value → Value → M Value) : M Value :=
  bnd (opFieldAddr 2 x10) fun v210 => bnd (opLoad v210) fun v211 => bnd (opIndexAddr 5 v211 x11) fun v213 => bnd (opFieldAddr 0 v213) fun v214 => bnd (opLoad v214) fun v215 => bnd (opIndexAddr 6 v215 x12) fun v217 => bnd (opFieldAddr 0 v217) fun v218 => bnd (opLoad v218) fun v219 => bnd (opBin .eql v219 (.int .i64 (5))) fun v220 => K x0 x7 x8 x9 x10 x11 x12 v220

theorem R8_Bounds_r41_ok (F : Nat) (x0 x7 x8 x9 x10 x11 x12 : Value) (K : Value → Value → Value → Value → Value → Value → Value → Value → M Value) : R8_Bounds_r41 F x0 x7 x8 x9 x10 x11 x12 K = R8_Bounds_R F 41 [(12, x12), (11, x11), (10, x10), (9, x9), (8, x8), (7, x7), (0, x0)] [0, 7, 8, 9, 10, 11, 12, 220] K := by kernel_rfl

def R8_Bounds_r40 (F : Nat) (x0 x7 x8 x9 x10 x11 x12 : Value) (K : Value → Value → Value → Value → Value → Value → Value → M Value) : M Value :=
  bnd (opBin .add x7 (.int .i64 (1))) fun v209 => K x0 v209 x8 x9 x10 x11 x12

theorem R8_Bounds_r40_ok (F : Nat) (x0 x7 x8 x9 x10 x11 x12 : Value) (K : Value → Value → Value → Value → Value → Value → Value → M Value) : R8_Bounds_r40 F x0 x7 x8 x9 x10 x11 x12 K = R8_Bounds_R F 40 [(12, x12), (11, x11), (10, x10), (9, x9), (8, x8), (7, x7), (0, x0)] [0, 7, 8, 9, 10, 11, 12] K := by kernel_rfl

def R8_Bounds_r39 (F : Nat) (K : Value → M Value) : M Value :=
  K (.bool false)

theorem R8_Bounds_r39_ok (F : Nat) (K : Value → M Value) : R8_Bounds_r39 F K = R8_Bounds_R F 39 [] [2] K := by kernel_rfl

def R8_Bounds_r38 (F : Nat) (x0 x7 x8 x9 x10 x11 x12 : Value) (K : Value → Value → Value → Value → Value → Value → Value → Value → M Value) : M Value :=
  bnd (opFieldAddr 2 x10) fun v196 => bnd (opLoad v196) fun v197 => bnd (opIndexAddr 5 v197 x11) fun v199 => bnd (opFieldAddr 0 v199) fun v200 => bnd (opLoad v200) fun v201 => bnd (opIndexAddr 6 v201 x12) fun v203 => bnd (opFieldAddr 5 v203) fun v204 => bnd (opLoad v204) fun v205 => bnd (opLen v205) fun v206 => bnd (opBin .gtr v206 (.int .i64 (4))) fun v207 => K x0 x7 x8 x9 x10 x11 x12 v207

theorem R8_Bounds_r38_ok (F : Nat) (x0 x7 x8 x9 x10 x11 x12 : Value) (K : Value → Value → Value → Value → Value → Value → Value → Value → M Value) : R8_Bounds_r38 F x0 x7 x8 x9 x10 x11 x12 K = R8_Bounds_R F 38 [(12, x12), (11, x11), (10, x10), (9, x9), (8, x8), (7, x7), (0, x0)] [0, 7, 8, 9, 10, 11, 12, 207] K := by kernel_rfl

def R8_Bounds_r36 (F : Nat) (x0 x7 x8 x9 x10 x11 x12 : Value) (K : Value → Value → Value → Value → Value → Value → Value → Value → M Value) : M Value :=
  bnd (opFieldAddr 2 x10) fun v186 => bnd (opLoad v186) fun v187 => bnd (opIndexAddr 5 v187 x11) fun v189 => bnd (opFieldAddr 0 v189) fun v190 => bnd (opLoad v190) fun v191 => bnd (opLen v191) fun v192 => bnd (opBin .lss x12 v192) fun v193 => K x0 x7 x8 x9 x10 x11 x12 v193

theorem R8_Bounds_r36_ok (F : Nat) (x0 x7 x8 x9 x10 x11 x12 : Value) (K : Value → Value → Value → Value → Value → Value → Value → Value → M Value) : R8_Bounds_r36 F x0 x7 x8 x9 x10 x11 x12 K = R8_Bounds_R F 36 [(12, x12), (11, x11), (10, x10), (9, x9), (8, x8), (7, x7), (0, x0)] [0, 7, 8, 9, 10, 11, 12, 193] K := by kernel_rfl

def R8_Bounds_b6 (F : Nat) (E6_12 : Value → Value → Value → Value → Value → Value → M Value) (A6 : Value → Value → Value → Value → Value → Value → Value → M Value) (x0 x7 x8 x9 x10 x11 x12 : Value) : M Value :=
  R8_Bounds_r36 F x0 x7 x8 x9 x10 x11 x12 (fun x0 x7 x8 x9 x10 x11 x12 x193 => onB x193 (R8_Bounds_r38 F x0 x7 x8 x9 x10 x11 x12 (fun x0 x7 x8 x9 x10 x11 x12 x207 => onB x207 (R8_Bounds_r39 F (fun x2 => ret x2)) (R8_Bounds_r40 F x0 x7 x8 x9 x10 x11 x12 (fun x0 x7 x8 x9 x10 x11 x12 => R8_Bounds_r41 F x0 x7 x8 x9 x10 x11 x12 (fun x0 x7 x8 x9 x10 x11 x12 x220 => onB x220 (R8_Bounds_r42 F x0 x7 x8 x9 x10 x11 x12 (fun x0 x7 x8 x9 x10 x11 x12 => R8_Bounds_k7 F A6 x0 x7 x8 x9 x10 x11 x12)) (R8_Bounds_k7 F A6 x0 x7 x8 x9 x10 x11 x12)))))) (E6_12 x0 x7 x8 x9 x10 x11))

def R8_Bounds_l6 (F : Nat) (E6_12 : Value → Value → Value → Value → Value → Value → M Value) : Nat → Value → Value → Value → Value → Value → Value → Value → M Value
  | 0, _, _, _, _, _, _, _ => fail
  | k6 + 1, x0, x7, x8, x9, x10, x11, x12 => R8_Bounds_b6 F E6_12 (R8_Bounds_l6 F E6_12 k6) x0 x7 x8 x9 x10 x11 x12

theorem R8_Bounds_l6_s (F : Nat) (E6_12 : Value → Value → Value → Value → Value → Value → M Value) (k6 : Nat) (x0 x7 x8 x9 x10 x11 x12 : Value) : R8_Bounds_l6 F E6_12 (k6 + 1) x0 x7 x8 x9 x10 x11 x12 = R8_Bounds_b6 F E6_12 (R8_Bounds_l6 F E6_12 k6) x0 x7 x8 x9 x10 x11 x12 := rfl

def R8_Bounds_r35 (F : Nat) (x0 x7 x8 x9 x10 x11 : Value) (K : Value → Value → Value → Value → Value → Value → Value → M Value) : M Value :=
  K x0 x7 x8 x9 x10 x11 (.int .i64 (0))

theorem R8_Bounds_r35_ok (F : Nat) (x0 x7 x8 x9 x10 x11 : Value) (K : Value → Value → Value → Value → Value → Value → Value → M Value) : R8_Bounds_r35 F x0 x7 x8 x9 x10 x11 K = R8_Bounds_R F 35 [(11, x11), (10, x10), (9, x9), (8, x8), (7, x7), (0, x0)] [0, 7, 8, 9, 10, 11, 12] K := by kernel_rfl

def R8_Bounds_r34 (F : Nat) (K : Value → M Value) : M Value :=
  K (.bool false)

theorem R8_Bounds_r34_ok (F : Nat) (K : Value → M Value) : R8_Bounds_r34 F K = R8_Bounds_R F 34 [] [2] K := by kernel_rfl

def R8_Bounds_r33 (F : Nat) (x0 x7 x8 x9 x10 x11 : Value) (K : Value → Value → Value → Value → Value → Value → Value → M Value) : M Value :=
  bnd (opFieldAddr 2 x10) fun v177 => bnd (opLoad v177) fun v178 => bnd (opIndexAddr 5 v178 x11) fun v180 => bnd (opFieldAddr 0 v180) fun v181 => bnd (opLoad v181) fun v182 => bnd (opLen v182) fun v183 => bnd (opBin .gtr v183 (.int .i64 (30))) fun v184 => K x0 x7 x8 x9 x10 x11 v184

theorem R8_Bounds_r33_ok (F : Nat) (x0 x7 x8 x9 x10 x11 : Value) (K : Value → Value → Value → Value → Value → Value → Value → M Value) : R8_Bounds_r33 F x0 x7 x8 x9 x10 x11 K = R8_Bounds_R F 33 [(11, x11), (10, x10), (9, x9), (8, x8), (7, x7), (0, x0)] [0, 7, 8, 9, 10, 11, 184] K := by kernel_rfl

def R8_Bounds_r31 (F : Nat) (x0 x7 x8 x9 x10 x11 : Value) (K : Value → Value → Value → Value → Value → Value → Value → M Value) : M Value :=
  bnd (opFieldAddr 2 x10) fun v171 => bnd (opLoad v171) fun v172 => bnd (opLen v172) fun v173 => bnd (opBin .lss x11 v173) fun v174 => K x0 x7 x8 x9 x10 x11 v174

theorem R8_Bounds_r31_ok (F : Nat) (x0 x7 x8 x9 x10 x11 : Value) (K : Value → Value → Value → Value → Value → Value → Value → M Value) : R8_Bounds_r31 F x0 x7 x8 x9 x10 x11 K = R8_Bounds_R F 31 [(11, x11), (10, x10), (9, x9), (8, x8), (7, x7), (0, x0)] [0, 7, 8, 9, 10, 11, 174] K := by kernel_rfl

def R8_Bounds_b3 (F : Nat) (E3_10 : Value → Value → Value → Value → M Value) (A3 : Value → Value → Value → Value → Value → Value → M Value) (x0 x7 x8 x9 x10 x11 : Value) : M Value :=
  R8_Bounds_r31 F x0 x7 x8 x9 x10 x11 (fun x0 x7 x8 x9 x10 x11 x174 => onB x174 (R8_Bounds_r33 F x0 x7 x8 x9 x10 x11 (fun x0 x7 x8 x9 x10 x11 x184 => onB x184 (R8_Bounds_r34 F (fun x2 => ret x2)) (R8_Bounds_r35 F x0 x7 x8 x9 x10 x11 (fun x0 x7 x8 x9 x10 x11 x12 => R8_Bounds_l6 F (fun x0 x7 x8 x9 x10 x11 => R8_Bounds_k5 F A3 x0 x7 x8 x9 x10 x11) F x0 x7 x8 x9 x10 x11 x12)))) (E3_10 x0 x7 x8 x9))

def R8_Bounds_l3 (F : Nat) (E3_10 : Value → Value → Value → Value → M Value) : Nat → Value → Value → Value → Value → Value → Value → M Value
  | 0, _, _, _, _, _, _ => fail
  | k3 + 1, x0, x7, x8, x9, x10, x11 => R8_Bounds_b3 F E3_10 (R8_Bounds_l3 F E3_10 k3) x0 x7 x8 x9 x10 x11

theorem R8_Bounds_l3_s (F : Nat) (E3_10 : Value → Value → Value → Value → M Value) (k3 : Nat) (x0 x7 x8 x9 x10 x11 : Value) : R8_Bounds_l3 F E3_10 (k3 + 1) x0 x7 x8 x9 x10 x11 = R8_Bounds_b3 F E3_10 (R8_Bounds_l3 F E3_10 k3) x0 x7 x8 x9 x10 x11 := rfl

def R8_Bounds_r30 (F : Nat) (x0 x7 x8 x9 x10 : Value) (K : Value → Value → Value → Value → Value → Value → M Value) : M Value :=
  K x0 x7 x8 x9 x10 (.int .i64 (0))

theorem R8_Bounds_r30_ok (F : Nat) (x0 x7 x8 x9 x10 : Value) (K : Value → Value → Value → Value → Value → Value → M Value) : R8_Bounds_r30 F x0 x7 x8 x9 x10 K = R8_Bounds_R F 30 [(10, x10), (9, x9), (8, x8), (7, x7), (0, x0)] [0, 7, 8, 9, 10, 11] K := by kernel_rfl

def R8_Bounds_r29 (F : Nat) (K : Value → M Value) : M Value :=
  K (.bool false)

theorem R8_Bounds_r29_ok (F : Nat) (K : Value → M Value) : R8_Bounds_r29 F K = R8_Bounds_R F 29 [] [2] K := by kernel_rfl

def R8_Bounds_r28 (F : Nat) (x0 x7 x8 x9 x10 : Value) (K : Value → Value → Value → Value → Value → Value → M Value) : M Value :=
  bnd (opFieldAddr 1 x10) fun v154 => bnd (opLoad v154) fun v155 => bnd (opLen v155) fun v156 => bnd (opBin .gtr v156 (.int .i64 (16))) fun v157 => onB v157 (K x0 x7 x8 x9 x10 (.bool true)) (bnd (opFieldAddr 2 x10) fun v159 => bnd (opLoad v159) fun v160 => bnd (opLen v160) fun v161 => bnd (opBin .gtr v161 (.int .i64 (12))) fun v162 => onB v162 (K x0 x7 x8 x9 x10 (.bool true)) (bnd (opFieldAddr 2 x10) fun v165 => bnd (opLoad v165) fun v166 => bnd (opLen v166) fun v167 => bnd (opBin .eql v167 (.int .i64 (0))) fun v168 => K x0 x7 x8 x9 x10 v168))

theorem R8_Bounds_r28_ok (F : Nat) (x0 x7 x8 x9 x10 : Value) (K : Value → Value → Value → Value → Value → Value → M Value) : R8_Bounds_r28 F x0 x7 x8 x9 x10 K = R8_Bounds_R F 28 [(10, x10), (9, x9), (8, x8), (7, x7), (0, x0)] [0, 7, 8, 9, 10, 169] K := by kernel_rfl

def R8_Bounds_r27 (F : Nat) (x0 x7 x8 x9 : Value) (K : Value → Value → Value → Value → Value → M Value) : M Value :=
  bnd (opNil x0) fun v148 => bnd (opFieldAddr 4 v148) fun v149 => bnd (opLoad v149) fun v150 => bnd (opIndexAddr 3 v150 x9) fun v152 => bnd (opLoadN 3 v152) fun v153 => bnd (opPtr [(.int .i64 (0)), (.slice none 0 0), (.slice none 0 0)]) fun v10 => bnd (opStoreN 3 v10 v153) fun _ => K x0 x7 x8 x9 v10

theorem R8_Bounds_r27_ok (F : Nat) (x0 x7 x8 x9 : Value) (K : Value → Value → Value → Value → Value → M Value) : R8_Bounds_r27 F x0 x7 x8 x9 K = R8_Bounds_R F 27 [(9, x9), (8, x8), (7, x7), (0, x0)] [0, 7, 8, 9, 10] K := by kernel_rfl

def R8_Bounds_r25 (F : Nat) (x0 x7 x8 x9 : Value) (K : Value → Value → Value → Value → Value → M Value) : M Value :=
  bnd (opNil x0) fun v140 => bnd (opFieldAddr 4 v140) fun v141 => bnd (opLoad v141) fun v142 => bnd (opLen v142) fun v143 => bnd (opBin .lss x9 v143) fun v144 => K x0 x7 x8 x9 v144

theorem R8_Bounds_r25_ok (F : Nat) (x0 x7 x8 x9 : Value) (K : Value → Value → Value → Value → Value → M Value) : R8_Bounds_r25 F x0 x7 x8 x9 K = R8_Bounds_R F 25 [(9, x9), (8, x8), (7, x7), (0, x0)] [0, 7, 8, 9, 144] K := by kernel_rfl

def R8_Bounds_b1 (F : Nat) (E1_8 : Value → Value → M Value) (A1 : Value → Value → Value → Value → M Value) (x0 x7 x8 x9 : Value) : M Value :=
  R8_Bounds_r25 F x0 x7 x8 x9 (fun x0 x7 x8 x9 x144 => onB x144 (R8_Bounds_r27 F x0 x7 x8 x9 (fun x0 x7 x8 x9 x10 => R8_Bounds_r28 F x0 x7 x8 x9 x10 (fun x0 x7 x8 x9 x10 x169 => onB x169 (R8_Bounds_r29 F (fun x2 => ret x2)) (R8_Bounds_r30 F x0 x7 x8 x9 x10 (fun x0 x7 x8 x9 x10 x11 => R8_Bounds_l3 F (fun x0 x7 x8 x9 => R8_Bounds_k2 F A1 x0 x7 x8 x9) F x0 x7 x8 x9 x10 x11))))) (E1_8 x7 x8))

def R8_Bounds_l1 (F : Nat) (E1_8 : Value → Value → M Value) : Nat → Value → Value → Value → Value → M Value
  | 0, _, _, _, _ => fail
  | k1 + 1, x0, x7, x8, x9 => R8_Bounds_b1 F E1_8 (R8_Bounds_l1 F E1_8 k1) x0 x7 x8 x9

theorem R8_Bounds_l1_s (F : Nat) (E1_8 : Value → Value → M Value) (k1 : Nat) (x0 x7 x8 x9 : Value) : R8_Bounds_l1 F E1_8 (k1 + 1) x0 x7 x8 x9 = R8_Bounds_b1 F E1_8 (R8_Bounds_l1 F E1_8 k1) x0 x7 x8 x9 := rfl

def R8_Bounds_r24 (F : Nat) (x0 x7 x8 : Value) (K : Value → Value → Value → Value → M Value) : M Value :=
  K x0 x7 x8 (.int .i64 (0))

theorem R8_Bounds_r24_ok (F : Nat) (x0 x7 x8 : Value) (K : Value → Value → Value → Value → M Value) : R8_Bounds_r24 F x0 x7 x8 K = R8_Bounds_R F 24 [(8, x8), (7, x7), (0, x0)] [0, 7, 8, 9] K := by kernel_rfl

def R8_Bounds_r23 (F : Nat) (x0 : Value) (K : Value → Value → Value → M Value) : M Value :=
  K x0 (.int .i64 (0)) (.int .i64 (0))

theorem R8_Bounds_r23_ok (F : Nat) (x0 : Value) (K : Value → Value → Value → M Value) : R8_Bounds_r23 F x0 K = R8_Bounds_R F 23 [(0, x0)] [0, 7, 8] K := by kernel_rfl

def R8_Bounds_k8 (F : Nat) (x0 : Value) : M Value :=
  R8_Bounds_r23 F x0 (fun x0 x7 x8 => R8_Bounds_r24 F x0 x7 x8 (fun x0 x7 x8 x9 => R8_Bounds_l1 F (fun x7 x8 => R8_Bounds_k0 F x7 x8) F x0 x7 x8 x9))

def R8_Bounds_r20 (F : Nat) (x0 x6 : Value) (K : Value → Value → M Value) : M Value :=
  bnd (opBin .add x6 (.int .i64 (1))) fun v127 => K x0 v127

theorem R8_Bounds_r20_ok (F : Nat) (x0 x6 : Value) (K : Value → Value → M Value) : R8_Bounds_r20 F x0 x6 K = R8_Bounds_R F 20 [(6, x6), (0, x0)] [0, 6] K := by kernel_rfl

def R8_Bounds_r22 (F : Nat) (K : Value → M Value) : M Value :=
  K (.bool false)

theorem R8_Bounds_r22_ok (F : Nat) (K : Value → M Value) : R8_Bounds_r22 F K = R8_Bounds_R F 22 [] [2] K := by kernel_rfl

def R8_Bounds_r21 (F : Nat) (x0 x6 : Value) (K : Value → Value → Value → M Value) : M Value :=
  bnd (opNil x0) fun v129 => bnd (opFieldAddr 3 v129) fun v130 => bnd (opLoad v130) fun v131 => bnd (opIndexAddr 3 v131 x6) fun v133 => bnd (opFieldAddr 2 v133) fun v134 => bnd (opLoad v134) fun v135 => bnd (opLen v135) fun v136 => bnd (opBin .gtr v136 (.int .i64 (3))) fun v137 => K x0 x6 v137

theorem R8_Bounds_r21_ok (F : Nat) (x0 x6 : Value) (K : Value → Value → Value → M Value) : R8_Bounds_r21 F x0 x6 K = R8_Bounds_R F 21 [(6, x6), (0, x0)] [0, 6, 137] K := by kernel_rfl

def R8_Bounds_r19 (F : Nat) (x0 x6 : Value) (K : Value → Value → Value → M Value) : M Value :=
  bnd (opNil x0) fun v121 => bnd (opFieldAddr 3 v121) fun v122 => bnd (opLoad v122) fun v123 => bnd (opLen v123) fun v124 => bnd (opBin .lss x6 v124) fun v125 => K x0 x6 v125

theorem R8_Bounds_r19_ok (F : Nat) (x0 x6 : Value) (K : Value → Value → Value → M Value) : R8_Bounds_r19 F x0 x6 K = R8_Bounds_R F 19 [(6, x6), (0, x0)] [0, 6, 125] K := by kernel_rfl

def R8_Bounds_b9 (F : Nat) (E9_6 : Value → M Value) (A9 : Value → Value → M Value) (x0 x6 : Value) : M Value :=
  R8_Bounds_r19 F x0 x6 (fun x0 x6 x125 => onB x125 (R8_Bounds_r21 F x0 x6 (fun x0 x6 x137 => onB x137 (R8_Bounds_r22 F (fun x2 => ret x2)) (R8_Bounds_r20 F x0 x6 (fun x0 x6 => A9 x0 x6)))) (E9_6 x0))

def R8_Bounds_l9 (F : Nat) (E9_6 : Value → M Value) : Nat → Value → Value → M Value
  | 0, _, _ => fail
  | k9 + 1, x0, x6 => R8_Bounds_b9 F E9_6 (R8_Bounds_l9 F E9_6 k9) x0 x6

theorem R8_Bounds_l9_s (F : Nat) (E9_6 : Value → M Value) (k9 : Nat) (x0 x6 : Value) : R8_Bounds_l9 F E9_6 (k9 + 1) x0 x6 = R8_Bounds_b9 F E9_6 (R8_Bounds_l9 F E9_6 k9) x0 x6 := rfl

def R8_Bounds_r18 (F : Nat) (x0 : Value) (K : Value → Value → M Value) : M Value :=
  K x0 (.int .i64 (0))

theorem R8_Bounds_r18_ok (F : Nat) (x0 : Value) (K : Value → Value → M Value) : R8_Bounds_r18 F x0 K = R8_Bounds_R F 18 [(0, x0)] [0, 6] K := by kernel_rfl

def R8_Bounds_k10 (F : Nat) (x0 : Value) : M Value :=
  R8_Bounds_r18 F x0 (fun x0 x6 => R8_Bounds_l9 F (fun x0 => R8_Bounds_k8 F x0) F x0 x6)

def R8_Bounds_r15 (F : Nat) (x0 x5 : Value) (K : Value → Value → M Value) : M Value :=
  bnd (opBin .add x5 (.int .i64 (1))) fun v108 => K x0 v108

theorem R8_Bounds_r15_ok (F : Nat) (x0 x5 : Value) (K : Value → Value → M Value) : R8_Bounds_r15 F x0 x5 K = R8_Bounds_R F 15 [(5, x5), (0, x0)] [0, 5] K := by kernel_rfl

def R8_Bounds_r17 (F : Nat) (K : Value → M Value) : M Value :=
  K (.bool false)

theorem R8_Bounds_r17_ok (F : Nat) (K : Value → M Value) : R8_Bounds_r17 F K = R8_Bounds_R F 17 [] [2] K := by kernel_rfl

def R8_Bounds_r16 (F : Nat) (x0 x5 : Value) (K : Value → Value → Value → M Value) : M Value :=
  bnd (opNil x0) fun v110 => bnd (opFieldAddr 2 v110) fun v111 => bnd (opLoad v111) fun v112 => bnd (opIndexAddr 1 v112 x5) fun v114 => bnd (opFieldAddr 0 v114) fun v115 => bnd (opLoad v115) fun v116 => bnd (opLen v116) fun v117 => bnd (opBin .gtr v117 (.int .i64 (3))) fun v118 => K x0 x5 v118

theorem R8_Bounds_r16_ok (F : Nat) (x0 x5 : Value) (K : Value → Value → Value → M Value) : R8_Bounds_r16 F x0 x5 K = R8_Bounds_R F 16 [(5, x5), (0, x0)] [0, 5, 118] K := by kernel_rfl

def R8_Bounds_r14 (F : Nat) (x0 x5 : Value) (K : Value → Value → Value → M Value) : M Value :=
  bnd (opNil x0) fun v102 => bnd (opFieldAddr 2 v102) fun v103 => bnd (opLoad v103) fun v104 => bnd (opLen v104) fun v105 => bnd (opBin .lss x5 v105) fun v106 => K x0 x5 v106

theorem R8_Bounds_r14_ok (F : Nat) (x0 x5 : Value) (K : Value → Value → Value → M Value) : R8_Bounds_r14 F x0 x5 K = R8_Bounds_R F 14 [(5, x5), (0, x0)] [0, 5, 106] K := by kernel_rfl

def R8_Bounds_b11 (F : Nat) (E11_4 : Value → M Value) (A11 : Value → Value → M Value) (x0 x5 : Value) : M Value :=
  R8_Bounds_r14 F x0 x5 (fun x0 x5 x106 => onB x106 (R8_Bounds_r16 F x0 x5 (fun x0 x5 x118 => onB x118 (R8_Bounds_r17 F (fun x2 => ret x2)) (R8_Bounds_r15 F x0 x5 (fun x0 x5 => A11 x0 x5)))) (E11_4 x0))

def R8_Bounds_l11 (F : Nat) (E11_4 : Value → M Value) : Nat → Value → Value → M Value
  | 0, _, _ => fail
  | k11 + 1, x0, x5 => R8_Bounds_b11 F E11_4 (R8_Bounds_l11 F E11_4 k11) x0 x5

theorem R8_Bounds_l11_s (F : Nat) (E11_4 : Value → M Value) (k11 : Nat) (x0 x5 : Value) : R8_Bounds_l11 F E11_4 (k11 + 1) x0 x5 = R8_Bounds_b11 F E11_4 (R8_Bounds_l11 F E11_4 k11) x0 x5 := rfl

def R8_Bounds_r13 (F : Nat) (x0 : Value) (K : Value → Value → M Value) : M Value :=
  K x0 (.int .i64 (0))

theorem R8_Bounds_r13_ok (F : Nat) (x0 : Value) (K : Value → Value → M Value) : R8_Bounds_r13 F x0 K = R8_Bounds_R F 13 [(0, x0)] [0, 5] K := by kernel_rfl

def R8_Bounds_k12 (F : Nat) (x0 : Value) : M Value :=
  R8_Bounds_r13 F x0 (fun x0 x5 => R8_Bounds_l11 F (fun x0 => R8_Bounds_k10 F x0) F x0 x5)

def R8_Bounds_r10 (F : Nat) (x0 x4 : Value) (K : Value → Value → M Value) : M Value :=
  bnd (opBin .add x4 (.int .i64 (1))) fun v89 => K x0 v89

theorem R8_Bounds_r10_ok (F : Nat) (x0 x4 : Value) (K : Value → Value → M Value) : R8_Bounds_r10 F x0 x4 K = R8_Bounds_R F 10 [(4, x4), (0, x0)] [0, 4] K := by kernel_rfl

def R8_Bounds_r12 (F : Nat) (K : Value → M Value) : M Value :=
  K (.bool false)

theorem R8_Bounds_r12_ok (F : Nat) (K : Value → M Value) : R8_Bounds_r12 F K = R8_Bounds_R F 12 [] [2] K := by kernel_rfl

def R8_Bounds_r11 (F : Nat) (x0 x4 : Value) (K : Value → Value → Value → M Value) : M Value :=
  bnd (opNil x0) fun v91 => bnd (opFieldAddr 1 v91) fun v92 => bnd (opLoad v92) fun v93 => bnd (opIndexAddr 3 v93 x4) fun v95 => bnd (opFieldAddr 0 v95) fun v96 => bnd (opLoad v96) fun v97 => bnd (opLen v97) fun v98 => bnd (opBin .gtr v98 (.int .i64 (4))) fun v99 => K x0 x4 v99

theorem R8_Bounds_r11_ok (F : Nat) (x0 x4 : Value) (K : Value → Value → Value → M Value) : R8_Bounds_r11 F x0 x4 K = R8_Bounds_R F 11 [(4, x4), (0, x0)] [0, 4, 99] K := by kernel_rfl

def R8_Bounds_r9 (F : Nat) (x0 x4 : Value) (K : Value → Value → Value → M Value) : M Value :=
  bnd (opNil x0) fun v83 => bnd (opFieldAddr 1 v83) fun v84 => bnd (opLoad v84) fun v85 => bnd (opLen v85) fun v86 => bnd (opBin .lss x4 v86) fun v87 => K x0 x4 v87

theorem R8_Bounds_r9_ok (F : Nat) (x0 x4 : Value) (K : Value → Value → Value → M Value) : R8_Bounds_r9 F x0 x4 K = R8_Bounds_R F 9 [(4, x4), (0, x0)] [0, 4, 87] K := by kernel_rfl

def R8_Bounds_b13 (F : Nat) (E13_2 : Value → M Value) (A13 : Value → Value → M Value) (x0 x4 : Value) : M Value :=
  R8_Bounds_r9 F x0 x4 (fun x0 x4 x87 => onB x87 (R8_Bounds_r11 F x0 x4 (fun x0 x4 x99 => onB x99 (R8_Bounds_r12 F (fun x2 => ret x2)) (R8_Bounds_r10 F x0 x4 (fun x0 x4 => A13 x0 x4)))) (E13_2 x0))

def R8_Bounds_l13 (F : Nat) (E13_2 : Value → M Value) : Nat → Value → Value → M Value
  | 0, _, _ => fail
  | k13 + 1, x0, x4 => R8_Bounds_b13 F E13_2 (R8_Bounds_l13 F E13_2 k13) x0 x4

theorem R8_Bounds_l13_s (F : Nat) (E13_2 : Value → M Value) (k13 : Nat) (x0 x4 : Value) : R8_Bounds_l13 F E13_2 (k13 + 1) x0 x4 = R8_Bounds_b13 F E13_2 (R8_Bounds_l13 F E13_2 k13) x0 x4 := rfl

def R8_Bounds_r8 (F : Nat) (x0 : Value) (K : Value → Value → M Value) : M Value :=
  K x0 (.int .i64 (0))

theorem R8_Bounds_r8_ok (F : Nat) (x0 : Value) (K : Value → Value → M Value) : R8_Bounds_r8 F x0 K = R8_Bounds_R F 8 [(0, x0)] [0, 4] K := by kernel_rfl

def R8_Bounds_k14 (F : Nat) (x0 : Value) : M Value :=
  R8_Bounds_r8 F x0 (fun x0 x4 => R8_Bounds_l13 F (fun x0 => R8_Bounds_k12 F x0) F x0 x4)

def R8_Bounds_r5 (F : Nat) (x0 x3 : Value) (K : Value → Value → M Value) : M Value :=
  bnd (opBin .add x3 (.int .i64 (1))) fun v71 => K x0 v71

theorem R8_Bounds_r5_ok (F : Nat) (x0 x3 : Value) (K : Value → Value → M Value) : R8_Bounds_r5 F x0 x3 K = R8_Bounds_R F 5 [(3, x3), (0, x0)] [0, 3] K := by kernel_rfl

def R8_Bounds_r7 (F : Nat) (K : Value → M Value) : M Value :=
  K (.bool false)

theorem R8_Bounds_r7_ok (F : Nat) (K : Value → M Value) : R8_Bounds_r7 F K = R8_Bounds_R F 7 [] [2] K := by kernel_rfl

def R8_Bounds_r6 (F : Nat) (x0 x3 : Value) (K : Value → Value → Value → M Value) : M Value :=
  bnd (opNil x0) fun v73 => bnd (opFieldAddr 0 v73) fun v74 => bnd (opLoad v74) fun v75 => bnd (opIndexAddr 1 v75 x3) fun v77 => bnd (opLoad v77) fun v78 => bnd (opLen v78) fun v79 => bnd (opBin .gtr v79 (.int .i64 (4))) fun v80 => K x0 x3 v80

theorem R8_Bounds_r6_ok (F : Nat) (x0 x3 : Value) (K : Value → Value → Value → M Value) : R8_Bounds_r6 F x0 x3 K = R8_Bounds_R F 6 [(3, x3), (0, x0)] [0, 3, 80] K := by kernel_rfl

def R8_Bounds_r4 (F : Nat) (x0 x3 : Value) (K : Value → Value → Value → M Value) : M Value :=
  bnd (opNil x0) fun v65 => bnd (opFieldAddr 0 v65) fun v66 => bnd (opLoad v66) fun v67 => bnd (opLen v67) fun v68 => bnd (opBin .lss x3 v68) fun v69 => K x0 x3 v69

theorem R8_Bounds_r4_ok (F : Nat) (x0 x3 : Value) (K : Value → Value → Value → M Value) : R8_Bounds_r4 F x0 x3 K = R8_Bounds_R F 4 [(3, x3), (0, x0)] [0, 3, 69] K := by kernel_rfl

def R8_Bounds_b15 (F : Nat) (E15_0 : Value → M Value) (A15 : Value → Value → M Value) (x0 x3 : Value) : M Value :=
  R8_Bounds_r4 F x0 x3 (fun x0 x3 x69 => onB x69 (R8_Bounds_r6 F x0 x3 (fun x0 x3 x80 => onB x80 (R8_Bounds_r7 F (fun x2 => ret x2)) (R8_Bounds_r5 F x0 x3 (fun x0 x3 => A15 x0 x3)))) (E15_0 x0))

def R8_Bounds_l15 (F : Nat) (E15_0 : Value → M Value) : Nat → Value → Value → M Value
  | 0, _, _ => fail
  | k15 + 1, x0, x3 => R8_Bounds_b15 F E15_0 (R8_Bounds_l15 F E15_0 k15) x0 x3

theorem R8_Bounds_l15_s (F : Nat) (E15_0 : Value → M Value) (k15 : Nat) (x0 x3 : Value) : R8_Bounds_l15 F E15_0 (k15 + 1) x0 x3 = R8_Bounds_b15 F E15_0 (R8_Bounds_l15 F E15_0 k15) x0 x3 := rfl

def R8_Bounds_r3 (F : Nat) (x0 : Value) (K : Value → Value → M Value) : M Value :=
  K x0 (.int .i64 (0))

theorem R8_Bounds_r3_ok (F : Nat) (x0 : Value) (K : Value → Value → M Value) : R8_Bounds_r3 F x0 K = R8_Bounds_R F 3 [(0, x0)] [0, 3] K := by kernel_rfl

def R8_Bounds_r2 (F : Nat) (K : Value → M Value) : M Value :=
  K (.bool false)

theorem R8_Bounds_r2_ok (F : Nat) (K : Value → M Value) : R8_Bounds_r2 F K = R8_Bounds_R F 2 [] [2] K := by kernel_rfl

def R8_Bounds_r1 (F : Nat) (x0 : Value) (K : Value → Value → M Value) : M Value :=
  bnd (opEq eqP false x0 (.pointer none)) fun v14 => onB v14 (K x0 (.bool true)) (bnd (opNil x0) fun v17 => bnd (opFieldAddr 0 v17) fun v18 => bnd (opLoad v18) fun v19 => bnd (opLen v19) fun v20 => bnd (opBin .gtr v20 (.int .i64 (6))) fun v21 => onB v21 (K x0 (.bool true)) (bnd (opNil x0) fun v25 => bnd (opFieldAddr 1 v25) fun v26 => bnd (opLoad v26) fun v27 => bnd (opLen v27) fun v28 => bnd (opBin .gtr v28 (.int .i64 (10))) fun v29 => onB v29 (K x0 (.bool true)) (bnd (opNil x0) fun v33 => bnd (opFieldAddr 2 v33) fun v34 => bnd (opLoad v34) fun v35 => bnd (opLen v35) fun v36 => bnd (opBin .gtr v36 (.int .i64 (4))) fun v37 => onB v37 (K x0 (.bool true)) (bnd (opNil x0) fun v41 => bnd (opFieldAddr 3 v41) fun v42 => bnd (opLoad v42) fun v43 => bnd (opLen v43) fun v44 => bnd (opBin .gtr v44 (.int .i64 (12))) fun v45 => onB v45 (K x0 (.bool true)) (bnd (opNil x0) fun v49 => bnd (opFieldAddr 4 v49) fun v50 => bnd (opLoad v50) fun v51 => bnd (opLen v51) fun v52 => bnd (opBin .gtr v52 (.int .i64 (12))) fun v53 => onB v53 (K x0 (.bool true)) (bnd (opNil x0) fun v57 => bnd (opFieldAddr 4 v57) fun v58 => bnd (opLoad v58) fun v59 => bnd (opLen v59) fun v60 => bnd (opBin .eql v60 (.int .i64 (0))) fun v61 => K x0 v61))))))

theorem R8_Bounds_r1_ok (F : Nat) (x0 : Value) (K : Value → Value → M Value) : R8_Bounds_r1 F x0 K = R8_Bounds_R F 1 [(0, x0)] [0, 62] K := by kernel_rfl

def R8_Bounds_r0 (F : Nat) (x0 : Value) (K : Value → M Value) : M Value :=
  K x0

theorem R8_Bounds_r0_ok (F : Nat) (x0 : Value) (K : Value → M Value) : R8_Bounds_r0 F x0 K = R8_Bounds_R F 0 [(0, x0)] [0] K := by kernel_rfl

def R8_Bounds (F : Nat) (x0 : Value) : M Value :=
  R8_Bounds_r0 F x0 (fun x0 => R8_Bounds_r1 F x0 (fun x0 x62 => onB x62 (R8_Bounds_r2 F (fun x2 => ret x2)) (R8_Bounds_r3 F x0 (fun x0 x3 => R8_Bounds_l15 F (fun x0 => R8_Bounds_k14 F x0) F x0 x3))))

def R8_Bounds_m (F : Nat) : List Value → M Value
  | [x0] => R8_Bounds F x0
  | _ => fail

theorem R8_Bounds_body : Try.f20.body = some (.seq (.region 0 (opsOf Try.f20 0) false) (.seq (.seq (.region 1 (opsOf Try.f20 1) false) (.cond (.tmp 62) (.seq (.region 2 (opsOf Try.f20 2) false) .ret) .skip)) (.seq (.seq (.region 3 (opsOf Try.f20 3) false) (.block 0 (.loop (.seq (.seq (.region 4 (opsOf Try.f20 4) false) (.cond (.tmp 69) .skip (.exit 0))) (.seq (.block 1 (.seq (.region 6 (opsOf Try.f20 6) false) (.cond (.tmp 80) (.seq (.region 7 (opsOf Try.f20 7) false) .ret) .skip))) (.region 5 (opsOf Try.f20 5) false)))))) (.seq (.seq (.region 8 (opsOf Try.f20 8) false) (.block 2 (.loop (.seq (.seq (.region 9 (opsOf Try.f20 9) false) (.cond (.tmp 87) .skip (.exit 2))) (.seq (.block 3 (.seq (.region 11 (opsOf Try.f20 11) false) (.cond (.tmp 99) (.seq (.region 12 (opsOf Try.f20 12) false) .ret) .skip))) (.region 10 (opsOf Try.f20 10) false)))))) (.seq (.seq (.region 13 (opsOf Try.f20 13) false) (.block 4 (.loop (.seq (.seq (.region 14 (opsOf Try.f20 14) false) (.cond (.tmp 106) .skip (.exit 4))) (.seq (.block 5 (.seq (.region 16 (opsOf Try.f20 16) false) (.cond (.tmp 118) (.seq (.region 17 (opsOf Try.f20 17) false) .ret) .skip))) (.region 15 (opsOf Try.f20 15) false)))))) (.seq (.seq (.region 18 (opsOf Try.f20 18) false) (.block 6 (.loop (.seq (.seq (.region 19 (opsOf Try.f20 19) false) (.cond (.tmp 125) .skip (.exit 6))) (.seq (.block 7 (.seq (.region 21 (opsOf Try.f20 21) false) (.cond (.tmp 137) (.seq (.region 22 (opsOf Try.f20 22) false) .ret) .skip))) (.region 20 (opsOf Try.f20 20) false)))))) (.seq (.region 23 (opsOf Try.f20 23) false) (.seq (.seq (.region 24 (opsOf Try.f20 24) false) (.block 8 (.loop (.seq (.seq (.region 25 (opsOf Try.f20 25) false) (.cond (.tmp 144) .skip (.exit 8))) (.seq (.block 9 (.seq (.region 27 (opsOf Try.f20 27) false) (.seq (.seq (.region 28 (opsOf Try.f20 28) false) (.cond (.tmp 169) (.seq (.region 29 (opsOf Try.f20 29) false) .ret) .skip)) (.seq (.region 30 (opsOf Try.f20 30) false) (.block 10 (.loop (.seq (.seq (.region 31 (opsOf Try.f20 31) false) (.cond (.tmp 174) .skip (.exit 10))) (.seq (.block 11 (.seq (.seq (.region 33 (opsOf Try.f20 33) false) (.cond (.tmp 184) (.seq (.region 34 (opsOf Try.f20 34) false) .ret) .skip)) (.seq (.seq (.region 35 (opsOf Try.f20 35) false) (.block 12 (.loop (.seq (.seq (.region 36 (opsOf Try.f20 36) false) (.cond (.tmp 193) .skip (.exit 12))) (.seq (.block 13 (.seq (.seq (.region 38 (opsOf Try.f20 38) false) (.cond (.tmp 207) (.seq (.region 39 (opsOf Try.f20 39) false) .ret) .skip)) (.seq (.region 40 (opsOf Try.f20 40) false) (.seq (.region 41 (opsOf Try.f20 41) false) (.cond (.tmp 220) (.region 42 (opsOf Try.f20 42) false) .skip))))) (.region 37 (opsOf Try.f20 37) false)))))) (.region 43 (opsOf Try.f20 43) false)))) (.region 32 (opsOf Try.f20 32) false))))))))) (.region 26 (opsOf Try.f20 26) false)))))) (.seq (.region 44 (opsOf Try.f20 44) false) .ret))))))))) := by kernel_rfl

theorem R8_Bounds_ok (F : Nat) : Sim Try.prog TryG 20 (R8_Bounds_m F) := by
 have hE : EnvOK Try.prog TryG (R8_Bounds_env F) := EnvOK.nil
 refine Sim.of_body (E := R8_Bounds_env F) Try.func20 R8_Bounds_body Try.call20 ?_ ?_
 · intro args hl; unfold R8_Bounds_m; split
   · exact absurd hl (Nat.not_lt.2 (Nat.le_of_ble_eq_true rfl))
   · rfl
 · intro args ρ h w z; unfold R8_Bounds_m; split
   · rename_i x0; show OKc _ _ [(0, x0)] _ _
     refine rSeq ?_
     refine cLess [0] ?_
     refine xR hE [0] rfl (R8_Bounds_r0_ok F _ _) ?_
     intro x0
     show OKq _ _ _ [(0, x0)] _
     refine rThen ?_
     refine rSeq ?_
     refine rSeq ?_
     refine cLess [0] ?_
     refine xR hE [0, 62] rfl (R8_Bounds_r1_ok F _ _) ?_
     intro x0 x62
     show OKq _ _ _ [(62, x62), (0, x0)] _
     refine rThen ?_
     refine xCond rfl rfl ?_ ?_
     · refine rSeq ?_
       refine cLess [] ?_
       refine xR hE [2] rfl (R8_Bounds_r2_ok F _) ?_
       intro x2
       show OKq _ _ _ [(2, x2)] _
       refine rThen ?_
       refine rRet ?_
       refine xThenR ?_
       exact rDone (.inr rfl) rfl
     · refine rSkip ?_
       refine rThen ?_
       refine xSeq [0] (R8_Bounds_k14 F ) ?_ fun hj14 => ?_
       · intro x0
         show OKc _ _ [(0, x0)] _ _
         refine xSeq [0] (R8_Bounds_k12 F ) ?_ fun hj12 => ?_
         · intro x0
           show OKc _ _ [(0, x0)] _ _
           refine xSeq [0] (R8_Bounds_k10 F ) ?_ fun hj10 => ?_
           · intro x0
             show OKc _ _ [(0, x0)] _ _
             refine xSeq [0] (R8_Bounds_k8 F ) ?_ fun hj8 => ?_
             · intro x0
               show OKc _ _ [(0, x0)] _ _
               refine rSeq ?_
               refine cLess [0] ?_
               refine xR hE [0, 7, 8] rfl (R8_Bounds_r23_ok F _ _) ?_
               intro x0 x7 x8
               show OKq _ _ _ [(8, x8), (7, x7), (0, x0)] _
               refine rThen ?_
               refine xSeq [7, 8] (R8_Bounds_k0 F ) ?_ fun hj0 => ?_
               · intro x7 x8
                 show OKc _ _ [(8, x8), (7, x7)] _ _
                 refine rSeq ?_
                 refine cLess [8, 7] ?_
                 refine xR hE [2] rfl (R8_Bounds_r44_ok F _ _ _) ?_
                 intro x2
                 show OKq _ _ _ [(2, x2)] _
                 refine rThen ?_
                 refine rRet ?_
                 exact rDone (.inr rfl) rfl
               · refine rSeq ?_
                 refine cLess [8, 7, 0] ?_
                 refine xR hE [0, 7, 8, 9] rfl (R8_Bounds_r24_ok F _ _ _ _) ?_
                 intro x0 x7 x8 x9
                 show OKq _ _ _ [(9, x9), (8, x8), (7, x7), (0, x0)] _
                 refine rThen ?_
                 refine rBlock ?_
                 refine cLess [9, 8, 7, 0] ?_
                 refine xLoopAt [0, 7, 8, 9] [] (fun k1 => R8_Bounds_l1 F (fun x7 x8 => R8_Bounds_k0 F x7 x8) k1) F [x0, x7, x8, x9] rfl rfl (fun _ _ _ _ => rfl) fun I hI1 k1 => ?_
                 intro x0 x7 x8 x9
                 show OKc _ _ [(9, x9), (8, x8), (7, x7), (0, x0)] _ _
                 refine cAs (R8_Bounds_l1_s F _ _ _ _ _ _) ?_
                 refine rSeq ?_
                 refine rSeq ?_
                 refine cLess [9, 8, 7, 0] ?_
                 refine xR hE [0, 7, 8, 9, 144] rfl (R8_Bounds_r25_ok F _ _ _ _ _) ?_
                 intro x0 x7 x8 x9 x144
                 show OKq _ _ _ [(144, x144), (9, x9), (8, x8), (7, x7), (0, x0)] _
                 refine rThen ?_
                 refine xCond rfl rfl ?_ ?_
                 · refine rSkip ?_
                   refine rThen ?_
                   refine xSeq [0, 7, 8, 9] (R8_Bounds_k2 F (R8_Bounds_l1 F (fun x7 x8 => R8_Bounds_k0 F x7 x8) k1) ) ?_ fun hj2 => ?_
                   · intro x0 x7 x8 x9
                     show OKc _ _ [(9, x9), (8, x8), (7, x7), (0, x0)] _ _
                     refine cLess [9, 8, 7, 0] ?_
                     refine xR hE [0, 7, 8, 9] rfl (R8_Bounds_r26_ok F _ _ _ _ _) ?_
                     intro x0 x7 x8 x9
                     show OKq _ _ _ [(9, x9), (8, x8), (7, x7), (0, x0)] _
                     exact qLess [9, 8, 7, 0] (hI1 k1 x0 x7 x8 x9)
                   · refine rBlock ?_
                     refine rSeq ?_
                     refine cLess [9, 8, 7, 0] ?_
                     refine xR hE [0, 7, 8, 9, 10] rfl (R8_Bounds_r27_ok F _ _ _ _ _) ?_
                     intro x0 x7 x8 x9 x10
                     show OKq _ _ _ [(10, x10), (9, x9), (8, x8), (7, x7), (0, x0)] _
                     refine rThen ?_
                     refine rSeq ?_
                     refine rSeq ?_
                     refine cLess [10, 9, 8, 7, 0] ?_
                     refine xR hE [0, 7, 8, 9, 10, 169] rfl (R8_Bounds_r28_ok F _ _ _ _ _ _) ?_
                     intro x0 x7 x8 x9 x10 x169
                     show OKq _ _ _ [(169, x169), (10, x10), (9, x9), (8, x8), (7, x7), (0, x0)] _
                     refine rThen ?_
                     refine xCond rfl rfl ?_ ?_
                     · refine rSeq ?_
                       refine cLess [] ?_
                       refine xR hE [2] rfl (R8_Bounds_r29_ok F _) ?_
                       intro x2
                       show OKq _ _ _ [(2, x2)] _
                       refine rThen ?_
                       refine rRet ?_
                       refine xThenR ?_
                       refine xBlockR ?_
                       refine xThenR ?_
                       refine xThenR ?_
                       refine xBlockR ?_
                       refine xThenR ?_
                       exact rDone (.inr rfl) rfl
                     · refine rSkip ?_
                       refine rThen ?_
                       refine rSeq ?_
                       refine cLess [10, 9, 8, 7, 0] ?_
                       refine xR hE [0, 7, 8, 9, 10, 11] rfl (R8_Bounds_r30_ok F _ _ _ _ _ _) ?_
                       intro x0 x7 x8 x9 x10 x11
                       show OKq _ _ _ [(11, x11), (10, x10), (9, x9), (8, x8), (7, x7), (0, x0)] _
                       refine rThen ?_
                       refine rBlock ?_
                       refine cLess [11, 10, 9, 8, 7, 0] ?_
                       refine xLoopAt [0, 7, 8, 9, 10, 11] [] (fun k3 => R8_Bounds_l3 F (fun x0 x7 x8 x9 => R8_Bounds_k2 F (R8_Bounds_l1 F (fun x7 x8 => R8_Bounds_k0 F x7 x8) k1) x0 x7 x8 x9) k3) F [x0, x7, x8, x9, x10, x11] rfl rfl (fun _ _ _ _ _ _ => rfl) fun I hI3 k3 => ?_
                       intro x0 x7 x8 x9 x10 x11
                       show OKc _ _ [(11, x11), (10, x10), (9, x9), (8, x8), (7, x7), (0, x0)] _ _
                       refine cAs (R8_Bounds_l3_s F _ _ _ _ _ _ _ _) ?_
                       refine rSeq ?_
                       refine rSeq ?_
                       refine cLess [11, 10, 9, 8, 7, 0] ?_
                       refine xR hE [0, 7, 8, 9, 10, 11, 174] rfl (R8_Bounds_r31_ok F _ _ _ _ _ _ _) ?_
                       intro x0 x7 x8 x9 x10 x11 x174
                       show OKq _ _ _ [(174, x174), (11, x11), (10, x10), (9, x9), (8, x8), (7, x7), (0, x0)] _
                       refine rThen ?_
                       refine xCond rfl rfl ?_ ?_
                       · refine rSkip ?_
                         refine rThen ?_
                         refine xSeq [0, 7, 8, 9, 10, 11] (R8_Bounds_k4 F (R8_Bounds_l3 F (fun x0 x7 x8 x9 => R8_Bounds_k2 F (R8_Bounds_l1 F (fun x7 x8 => R8_Bounds_k0 F x7 x8) k1) x0 x7 x8 x9) k3) ) ?_ fun hj4 => ?_
                         · intro x0 x7 x8 x9 x10 x11
                           show OKc _ _ [(11, x11), (10, x10), (9, x9), (8, x8), (7, x7), (0, x0)] _ _
                           refine cLess [11, 10, 9, 8, 7, 0] ?_
                           refine xR hE [0, 7, 8, 9, 10, 11] rfl (R8_Bounds_r32_ok F _ _ _ _ _ _ _) ?_
                           intro x0 x7 x8 x9 x10 x11
                           show OKq _ _ _ [(11, x11), (10, x10), (9, x9), (8, x8), (7, x7), (0, x0)] _
                           exact qLess [11, 10, 9, 8, 7, 0] (hI3 k3 x0 x7 x8 x9 x10 x11)
                         · refine rBlock ?_
                           refine rSeq ?_
                           refine rSeq ?_
                           refine cLess [11, 10, 9, 8, 7, 0] ?_
                           refine xR hE [0, 7, 8, 9, 10, 11, 184] rfl (R8_Bounds_r33_ok F _ _ _ _ _ _ _) ?_
                           intro x0 x7 x8 x9 x10 x11 x184
                           show OKq _ _ _ [(184, x184), (11, x11), (10, x10), (9, x9), (8, x8), (7, x7), (0, x0)] _
                           refine rThen ?_
                           refine xCond rfl rfl ?_ ?_
                           · refine rSeq ?_
                             refine cLess [] ?_
                             refine xR hE [2] rfl (R8_Bounds_r34_ok F _) ?_
                             intro x2
                             show OKq _ _ _ [(2, x2)] _
                             refine rThen ?_
                             refine rRet ?_
                             refine xThenR ?_
                             refine xBlockR ?_
                             refine xThenR ?_
                             refine xThenR ?_
                             refine xBlockR ?_
                             refine xBlockR ?_
                             refine xThenR ?_
                             refine xThenR ?_
                             refine xBlockR ?_
                             refine xThenR ?_
                             exact rDone (.inr rfl) rfl
                           · refine rSkip ?_
                             refine rThen ?_
                             refine xSeq [0, 7, 8, 9, 10, 11] (R8_Bounds_k5 F (R8_Bounds_l3 F (fun x0 x7 x8 x9 => R8_Bounds_k2 F (R8_Bounds_l1 F (fun x7 x8 => R8_Bounds_k0 F x7 x8) k1) x0 x7 x8 x9) k3) ) ?_ fun hj5 => ?_
                             · intro x0 x7 x8 x9 x10 x11
                               show OKc _ _ [(11, x11), (10, x10), (9, x9), (8, x8), (7, x7), (0, x0)] _ _
                               refine cLess [11, 10, 9, 8, 7, 0] ?_
                               refine xR hE [0, 7, 8, 9, 10, 11] rfl (R8_Bounds_r43_ok F _ _ _ _ _ _ _) ?_
                               intro x0 x7 x8 x9 x10 x11
                               show OKq _ _ _ [(11, x11), (10, x10), (9, x9), (8, x8), (7, x7), (0, x0)] _
                               refine xBlockN ?_
                               exact qLess [11, 10, 9, 8, 7, 0] (hj4 x0 x7 x8 x9 x10 x11)
                             · refine rSeq ?_
                               refine cLess [11, 10, 9, 8, 7, 0] ?_
                               refine xR hE [0, 7, 8, 9, 10, 11, 12] rfl (R8_Bounds_r35_ok F _ _ _ _ _ _ _) ?_
                               intro x0 x7 x8 x9 x10 x11 x12
                               show OKq _ _ _ [(12, x12), (11, x11), (10, x10), (9, x9), (8, x8), (7, x7), (0, x0)] _
                               refine rThen ?_
                               refine rBlock ?_
                               refine cLess [12, 11, 10, 9, 8, 7, 0] ?_
                               refine xLoopAt [0, 7, 8, 9, 10, 11, 12] [] (fun k6 => R8_Bounds_l6 F (fun x0 x7 x8 x9 x10 x11 => R8_Bounds_k5 F (R8_Bounds_l3 F (fun x0 x7 x8 x9 => R8_Bounds_k2 F (R8_Bounds_l1 F (fun x7 x8 => R8_Bounds_k0 F x7 x8) k1) x0 x7 x8 x9) k3) x0 x7 x8 x9 x10 x11) k6) F [x0, x7, x8, x9, x10, x11, x12] rfl rfl (fun _ _ _ _ _ _ _ => rfl) fun I hI6 k6 => ?_
                               intro x0 x7 x8 x9 x10 x11 x12
                               show OKc _ _ [(12, x12), (11, x11), (10, x10), (9, x9), (8, x8), (7, x7), (0, x0)] _ _
                               refine cAs (R8_Bounds_l6_s F _ _ _ _ _ _ _ _ _) ?_
                               refine rSeq ?_
                               refine rSeq ?_
                               refine cLess [12, 11, 10, 9, 8, 7, 0] ?_
                               refine xR hE [0, 7, 8, 9, 10, 11, 12, 193] rfl (R8_Bounds_r36_ok F _ _ _ _ _ _ _ _) ?_
                               intro x0 x7 x8 x9 x10 x11 x12 x193
                               show OKq _ _ _ [(193, x193), (12, x12), (11, x11), (10, x10), (9, x9), (8, x8), (7, x7), (0, x0)] _
                               refine rThen ?_
                               refine xCond rfl rfl ?_ ?_
                               · refine rSkip ?_
                                 refine rThen ?_
                                 refine xSeq [0, 7, 8, 9, 10, 11, 12] (R8_Bounds_k7 F (R8_Bounds_l6 F (fun x0 x7 x8 x9 x10 x11 => R8_Bounds_k5 F (R8_Bounds_l3 F (fun x0 x7 x8 x9 => R8_Bounds_k2 F (R8_Bounds_l1 F (fun x7 x8 => R8_Bounds_k0 F x7 x8) k1) x0 x7 x8 x9) k3) x0 x7 x8 x9 x10 x11) k6) ) ?_ fun hj7 => ?_
                                 · intro x0 x7 x8 x9 x10 x11 x12
                                   show OKc _ _ [(12, x12), (11, x11), (10, x10), (9, x9), (8, x8), (7, x7), (0, x0)] _ _
                                   refine cLess [12, 11, 10, 9, 8, 7, 0] ?_
                                   refine xR hE [0, 7, 8, 9, 10, 11, 12] rfl (R8_Bounds_r37_ok F _ _ _ _ _ _ _ _) ?_
                                   intro x0 x7 x8 x9 x10 x11 x12
                                   show OKq _ _ _ [(12, x12), (11, x11), (10, x10), (9, x9), (8, x8), (7, x7), (0, x0)] _
                                   exact qLess [12, 11, 10, 9, 8, 7, 0] (hI6 k6 x0 x7 x8 x9 x10 x11 x12)
                                 · refine rBlock ?_
                                   refine rSeq ?_
                                   refine rSeq ?_
                                   refine cLess [12, 11, 10, 9, 8, 7, 0] ?_
                                   refine xR hE [0, 7, 8, 9, 10, 11, 12, 207] rfl (R8_Bounds_r38_ok F _ _ _ _ _ _ _ _) ?_
                                   intro x0 x7 x8 x9 x10 x11 x12 x207
                                   show OKq _ _ _ [(207, x207), (12, x12), (11, x11), (10, x10), (9, x9), (8, x8), (7, x7), (0, x0)] _
                                   refine rThen ?_
                                   refine xCond rfl rfl ?_ ?_
                                   · refine rSeq ?_
                                     refine cLess [] ?_
                                     refine xR hE [2] rfl (R8_Bounds_r39_ok F _) ?_
                                     intro x2
                                     show OKq _ _ _ [(2, x2)] _
                                     refine rThen ?_
                                     refine rRet ?_
                                     refine xThenR ?_
                                     refine xBlockR ?_
                                     refine xThenR ?_
                                     refine xThenR ?_
                                     refine xBlockR ?_
                                     refine xThenR ?_
                                     refine xBlockR ?_
                                     refine xThenR ?_
                                     refine xThenR ?_
                                     refine xBlockR ?_
                                     refine xBlockR ?_
                                     refine xThenR ?_
                                     refine xThenR ?_
                                     refine xBlockR ?_
                                     refine xThenR ?_
                                     exact rDone (.inr rfl) rfl
                                   · refine rSkip ?_
                                     refine rThen ?_
                                     refine rSeq ?_
                                     refine cLess [12, 11, 10, 9, 8, 7, 0] ?_
                                     refine xR hE [0, 7, 8, 9, 10, 11, 12] rfl (R8_Bounds_r40_ok F _ _ _ _ _ _ _ _) ?_
                                     intro x0 x7 x8 x9 x10 x11 x12
                                     show OKq _ _ _ [(12, x12), (11, x11), (10, x10), (9, x9), (8, x8), (7, x7), (0, x0)] _
                                     refine rThen ?_
                                     refine rSeq ?_
                                     refine cLess [12, 11, 10, 9, 8, 7, 0] ?_
                                     refine xR hE [0, 7, 8, 9, 10, 11, 12, 220] rfl (R8_Bounds_r41_ok F _ _ _ _ _ _ _ _) ?_
                                     intro x0 x7 x8 x9 x10 x11 x12 x220
                                     show OKq _ _ _ [(220, x220), (12, x12), (11, x11), (10, x10), (9, x9), (8, x8), (7, x7), (0, x0)] _
                                     refine rThen ?_
                                     refine xCond rfl rfl ?_ ?_
                                     · refine cLess [12, 11, 10, 9, 8, 7, 0] ?_
                                       refine xR hE [0, 7, 8, 9, 10, 11, 12] rfl (R8_Bounds_r42_ok F _ _ _ _ _ _ _ _) ?_
                                       intro x0 x7 x8 x9 x10 x11 x12
                                       show OKq _ _ _ [(12, x12), (11, x11), (10, x10), (9, x9), (8, x8), (7, x7), (0, x0)] _
                                       refine xBlockN ?_
                                       exact qLess [12, 11, 10, 9, 8, 7, 0] (hj7 x0 x7 x8 x9 x10 x11 x12)
                                     · refine rSkip ?_
                                       refine xBlockN ?_
                                       exact qLess [12, 11, 10, 9, 8, 7, 0] (hj7 x0 x7 x8 x9 x10 x11 x12)
                               · refine rExit ?_
                                 refine xThenX ?_
                                 refine xThenX ?_
                                 refine rOut ?_
                                 exact qLess [11, 10, 9, 8, 7, 0] (hj5 x0 x7 x8 x9 x10 x11)
                       · refine rExit ?_
                         refine xThenX ?_
                         refine xThenX ?_
                         refine rOut ?_
                         refine xBlockN ?_
                         exact qLess [9, 8, 7, 0] (hj2 x0 x7 x8 x9)
                 · refine rExit ?_
                   refine xThenX ?_
                   refine xThenX ?_
                   refine rOut ?_
                   exact qLess [8, 7] (hj0 x7 x8)
             · refine rSeq ?_
               refine cLess [0] ?_
               refine xR hE [0, 6] rfl (R8_Bounds_r18_ok F _ _) ?_
               intro x0 x6
               show OKq _ _ _ [(6, x6), (0, x0)] _
               refine rThen ?_
               refine rBlock ?_
               refine cLess [6, 0] ?_
               refine xLoopAt [0, 6] [] (fun k9 => R8_Bounds_l9 F (fun x0 => R8_Bounds_k8 F x0) k9) F [x0, x6] rfl rfl (fun _ _ => rfl) fun I hI9 k9 => ?_
               intro x0 x6
               show OKc _ _ [(6, x6), (0, x0)] _ _
               refine cAs (R8_Bounds_l9_s F _ _ _ _) ?_
               refine rSeq ?_
               refine rSeq ?_
               refine cLess [6, 0] ?_
               refine xR hE [0, 6, 125] rfl (R8_Bounds_r19_ok F _ _ _) ?_
               intro x0 x6 x125
               show OKq _ _ _ [(125, x125), (6, x6), (0, x0)] _
               refine rThen ?_
               refine xCond rfl rfl ?_ ?_
               · refine rSkip ?_
                 refine rThen ?_
                 refine rSeq ?_
                 refine rBlock ?_
                 refine rSeq ?_
                 refine cLess [6, 0] ?_
                 refine xR hE [0, 6, 137] rfl (R8_Bounds_r21_ok F _ _ _) ?_
                 intro x0 x6 x137
                 show OKq _ _ _ [(137, x137), (6, x6), (0, x0)] _
                 refine rThen ?_
                 refine xCond rfl rfl ?_ ?_
                 · refine rSeq ?_
                   refine cLess [] ?_
                   refine xR hE [2] rfl (R8_Bounds_r22_ok F _) ?_
                   intro x2
                   show OKq _ _ _ [(2, x2)] _
                   refine rThen ?_
                   refine rRet ?_
                   refine xBlockR ?_
                   refine xThenR ?_
                   refine xThenR ?_
                   refine xBlockR ?_
                   refine xThenR ?_
                   exact rDone (.inr rfl) rfl
                 · refine rSkip ?_
                   refine xBlockN ?_
                   refine rThen ?_
                   refine cLess [6, 0] ?_
                   refine xR hE [0, 6] rfl (R8_Bounds_r20_ok F _ _ _) ?_
                   intro x0 x6
                   show OKq _ _ _ [(6, x6), (0, x0)] _
                   exact qLess [6, 0] (hI9 k9 x0 x6)
               · refine rExit ?_
                 refine xThenX ?_
                 refine xThenX ?_
                 refine rOut ?_
                 exact qLess [0] (hj8 x0)
           · refine rSeq ?_
             refine cLess [0] ?_
             refine xR hE [0, 5] rfl (R8_Bounds_r13_ok F _ _) ?_
             intro x0 x5
             show OKq _ _ _ [(5, x5), (0, x0)] _
             refine rThen ?_
             refine rBlock ?_
             refine cLess [5, 0] ?_
             refine xLoopAt [0, 5] [] (fun k11 => R8_Bounds_l11 F (fun x0 => R8_Bounds_k10 F x0) k11) F [x0, x5] rfl rfl (fun _ _ => rfl) fun I hI11 k11 => ?_
             intro x0 x5
             show OKc _ _ [(5, x5), (0, x0)] _ _
             refine cAs (R8_Bounds_l11_s F _ _ _ _) ?_
             refine rSeq ?_
             refine rSeq ?_
             refine cLess [5, 0] ?_
             refine xR hE [0, 5, 106] rfl (R8_Bounds_r14_ok F _ _ _) ?_
             intro x0 x5 x106
             show OKq _ _ _ [(106, x106), (5, x5), (0, x0)] _
             refine rThen ?_
             refine xCond rfl rfl ?_ ?_
             · refine rSkip ?_
               refine rThen ?_
               refine rSeq ?_
               refine rBlock ?_
               refine rSeq ?_
               refine cLess [5, 0] ?_
               refine xR hE [0, 5, 118] rfl (R8_Bounds_r16_ok F _ _ _) ?_
               intro x0 x5 x118
               show OKq _ _ _ [(118, x118), (5, x5), (0, x0)] _
               refine rThen ?_
               refine xCond rfl rfl ?_ ?_
               · refine rSeq ?_
                 refine cLess [] ?_
                 refine xR hE [2] rfl (R8_Bounds_r17_ok F _) ?_
                 intro x2
                 show OKq _ _ _ [(2, x2)] _
                 refine rThen ?_
                 refine rRet ?_
                 refine xBlockR ?_
                 refine xThenR ?_
                 refine xThenR ?_
                 refine xBlockR ?_
                 refine xThenR ?_
                 exact rDone (.inr rfl) rfl
               · refine rSkip ?_
                 refine xBlockN ?_
                 refine rThen ?_
                 refine cLess [5, 0] ?_
                 refine xR hE [0, 5] rfl (R8_Bounds_r15_ok F _ _ _) ?_
                 intro x0 x5
                 show OKq _ _ _ [(5, x5), (0, x0)] _
                 exact qLess [5, 0] (hI11 k11 x0 x5)
             · refine rExit ?_
               refine xThenX ?_
               refine xThenX ?_
               refine rOut ?_
               exact qLess [0] (hj10 x0)
         · refine rSeq ?_
           refine cLess [0] ?_
           refine xR hE [0, 4] rfl (R8_Bounds_r8_ok F _ _) ?_
           intro x0 x4
           show OKq _ _ _ [(4, x4), (0, x0)] _
           refine rThen ?_
           refine rBlock ?_
           refine cLess [4, 0] ?_
           refine xLoopAt [0, 4] [] (fun k13 => R8_Bounds_l13 F (fun x0 => R8_Bounds_k12 F x0) k13) F [x0, x4] rfl rfl (fun _ _ => rfl) fun I hI13 k13 => ?_
           intro x0 x4
           show OKc _ _ [(4, x4), (0, x0)] _ _
           refine cAs (R8_Bounds_l13_s F _ _ _ _) ?_
           refine rSeq ?_
           refine rSeq ?_
           refine cLess [4, 0] ?_
           refine xR hE [0, 4, 87] rfl (R8_Bounds_r9_ok F _ _ _) ?_
           intro x0 x4 x87
           show OKq _ _ _ [(87, x87), (4, x4), (0, x0)] _
           refine rThen ?_
           refine xCond rfl rfl ?_ ?_
           · refine rSkip ?_
             refine rThen ?_
             refine rSeq ?_
             refine rBlock ?_
             refine rSeq ?_
             refine cLess [4, 0] ?_
             refine xR hE [0, 4, 99] rfl (R8_Bounds_r11_ok F _ _ _) ?_
             intro x0 x4 x99
             show OKq _ _ _ [(99, x99), (4, x4), (0, x0)] _
             refine rThen ?_
             refine xCond rfl rfl ?_ ?_
             · refine rSeq ?_
               refine cLess [] ?_
               refine xR hE [2] rfl (R8_Bounds_r12_ok F _) ?_
               intro x2
               show OKq _ _ _ [(2, x2)] _
               refine rThen ?_
               refine rRet ?_
               refine xBlockR ?_
               refine xThenR ?_
               refine xThenR ?_
               refine xBlockR ?_
               refine xThenR ?_
               exact rDone (.inr rfl) rfl
             · refine rSkip ?_
               refine xBlockN ?_
               refine rThen ?_
               refine cLess [4, 0] ?_
               refine xR hE [0, 4] rfl (R8_Bounds_r10_ok F _ _ _) ?_
               intro x0 x4
               show OKq _ _ _ [(4, x4), (0, x0)] _
               exact qLess [4, 0] (hI13 k13 x0 x4)
           · refine rExit ?_
             refine xThenX ?_
             refine xThenX ?_
             refine rOut ?_
             exact qLess [0] (hj12 x0)
       · refine rSeq ?_
         refine cLess [0] ?_
         refine xR hE [0, 3] rfl (R8_Bounds_r3_ok F _ _) ?_
         intro x0 x3
         show OKq _ _ _ [(3, x3), (0, x0)] _
         refine rThen ?_
         refine rBlock ?_
         refine cLess [3, 0] ?_
         refine xLoopAt [0, 3] [] (fun k15 => R8_Bounds_l15 F (fun x0 => R8_Bounds_k14 F x0) k15) F [x0, x3] rfl rfl (fun _ _ => rfl) fun I hI15 k15 => ?_
         intro x0 x3
         show OKc _ _ [(3, x3), (0, x0)] _ _
         refine cAs (R8_Bounds_l15_s F _ _ _ _) ?_
         refine rSeq ?_
         refine rSeq ?_
         refine cLess [3, 0] ?_
         refine xR hE [0, 3, 69] rfl (R8_Bounds_r4_ok F _ _ _) ?_
         intro x0 x3 x69
         show OKq _ _ _ [(69, x69), (3, x3), (0, x0)] _
         refine rThen ?_
         refine xCond rfl rfl ?_ ?_
         · refine rSkip ?_
           refine rThen ?_
           refine rSeq ?_
           refine rBlock ?_
           refine rSeq ?_
           refine cLess [3, 0] ?_
           refine xR hE [0, 3, 80] rfl (R8_Bounds_r6_ok F _ _ _) ?_
           intro x0 x3 x80
           show OKq _ _ _ [(80, x80), (3, x3), (0, x0)] _
           refine rThen ?_
           refine xCond rfl rfl ?_ ?_
           · refine rSeq ?_
             refine cLess [] ?_
             refine xR hE [2] rfl (R8_Bounds_r7_ok F _) ?_
             intro x2
             show OKq _ _ _ [(2, x2)] _
             refine rThen ?_
             refine rRet ?_
             refine xBlockR ?_
             refine xThenR ?_
             refine xThenR ?_
             refine xBlockR ?_
             refine xThenR ?_
             exact rDone (.inr rfl) rfl
           · refine rSkip ?_
             refine xBlockN ?_
             refine rThen ?_
             refine cLess [3, 0] ?_
             refine xR hE [0, 3] rfl (R8_Bounds_r5_ok F _ _ _) ?_
             intro x0 x3
             show OKq _ _ _ [(3, x3), (0, x0)] _
             exact qLess [3, 0] (hI15 k15 x0 x3)
         · refine rExit ?_
           refine xThenX ?_
           refine xThenX ?_
           refine rOut ?_
           exact qLess [0] (hj14 x0)
   · exact rFail


/-! ### haruspex/haruspexlaw8.Small -/

def L8_Small_env (F : Nat) : Env := envOf []

noncomputable def L8_Small_R (F : Nat) := rK Try.prog TryG (L8_Small_env F) Try.f21
noncomputable def L8_Small_D (F : Nat) := dK Try.prog TryG (L8_Small_env F) Try.f21

def L8_Small_r13 (F : Nat) (x3 : Value) (K : Value → M Value) : M Value :=
  bnd (opBin .leq x3 (.int .i64 (150))) fun v110 => K v110

theorem L8_Small_r13_ok (F : Nat) (x3 : Value) (K : Value → M Value) : L8_Small_r13 F x3 K = L8_Small_R F 13 [(3, x3)] [2] K := by kernel_rfl

def L8_Small_k0 (F : Nat) (x3 : Value) : M Value :=
  L8_Small_r13 F x3 (fun x2 => ret x2)

def L8_Small_r6 (F : Nat) (x0 x3 x4 : Value) (K : Value → Value → Value → M Value) : M Value :=
  bnd (opBin .add x4 (.int .i64 (1))) fun v56 => K x0 x3 v56

theorem L8_Small_r6_ok (F : Nat) (x0 x3 x4 : Value) (K : Value → Value → Value → M Value) : L8_Small_r6 F x0 x3 x4 K = L8_Small_R F 6 [(4, x4), (3, x3), (0, x0)] [0, 3, 4] K := by kernel_rfl

def L8_Small_k2 (F : Nat) (A1 : Value → Value → Value → M Value) (x0 x3 x4 : Value) : M Value :=
  L8_Small_r6 F x0 x3 x4 (fun x0 x3 x4 => A1 x0 x3 x4)

def L8_Small_r11 (F : Nat) (x0 x3 x4 x5 : Value) (K : Value → Value → Value → Value → M Value) : M Value :=
  bnd (opBin .add x5 (.int .i64 (1))) fun v91 => K x0 x3 x4 v91

theorem L8_Small_r11_ok (F : Nat) (x0 x3 x4 x5 : Value) (K : Value → Value → Value → Value → M Value) : L8_Small_r11 F x0 x3 x4 x5 K = L8_Small_R F 11 [(5, x5), (4, x4), (3, x3), (0, x0)] [0, 3, 4, 5] K := by kernel_rfl

def L8_Small_r12 (F : Nat) (x0 x3 x4 x5 : Value) (K : Value → Value → Value → Value → M Value) : M Value :=
  bnd (opNil x0) fun v94 => bnd (opFieldAddr 4 v94) fun v95 => bnd (opLoad v95) fun v96 => bnd (opIndexAddr 3 v96 x4) fun v98 => bnd (opFieldAddr 2 v98) fun v99 => bnd (opLoad v99) fun v100 => bnd (opIndexAddr 5 v100 x5) fun v102 => bnd (opFieldAddr 0 v102) fun v103 => bnd (opLoad v103) fun v104 => bnd (opLen v104) fun v105 => bnd (opMin [(.int .i64 (1000)), v105]) fun v106 => bnd (opBin .add (.int .i64 (1)) v106) fun v107 => bnd (opBin .add x3 v107) fun v108 => K x0 v108 x4 x5

theorem L8_Small_r12_ok (F : Nat) (x0 x3 x4 x5 : Value) (K : Value → Value → Value → Value → M Value) : L8_Small_r12 F x0 x3 x4 x5 K = L8_Small_R F 12 [(5, x5), (4, x4), (3, x3), (0, x0)] [0, 3, 4, 5] K := by kernel_rfl

def L8_Small_r10 (F : Nat) (x0 x3 x4 x5 : Value) (K : Value → Value → Value → Value → Value → M Value) : M Value :=
  bnd (opNil x0) fun v81 => bnd (opFieldAddr 4 v81) fun v82 => bnd (opLoad v82) fun v83 => bnd (opIndexAddr 3 v83 x4) fun v85 => bnd (opFieldAddr 2 v85) fun v86 => bnd (opLoad v86) fun v87 => bnd (opLen v87) fun v88 => bnd (opBin .lss x5 v88) fun v89 => K x0 x3 x4 x5 v89

theorem L8_Small_r10_ok (F : Nat) (x0 x3 x4 x5 : Value) (K : Value → Value → Value → Value → Value → M Value) : L8_Small_r10 F x0 x3 x4 x5 K = L8_Small_R F 10 [(5, x5), (4, x4), (3, x3), (0, x0)] [0, 3, 4, 5, 89] K := by kernel_rfl

def L8_Small_b3 (F : Nat) (E3_2 : Value → Value → Value → M Value) (A3 : Value → Value → Value → Value → M Value) (x0 x3 x4 x5 : Value) : M Value :=
  L8_Small_r10 F x0 x3 x4 x5 (fun x0 x3 x4 x5 x89 => onB x89 (L8_Small_r12 F x0 x3 x4 x5 (fun x0 x3 x4 x5 => L8_Small_r11 F x0 x3 x4 x5 (fun x0 x3 x4 x5 => A3 x0 x3 x4 x5))) (E3_2 x0 x3 x4))

def L8_Small_l3 (F : Nat) (E3_2 : Value → Value → Value → M Value) : Nat → Value → Value → Value → Value → M Value
  | 0, _, _, _, _ => fail
  | k3 + 1, x0, x3, x4, x5 => L8_Small_b3 F E3_2 (L8_Small_l3 F E3_2 k3) x0 x3 x4 x5

theorem L8_Small_l3_s (F : Nat) (E3_2 : Value → Value → Value → M Value) (k3 : Nat) (x0 x3 x4 x5 : Value) : L8_Small_l3 F E3_2 (k3 + 1) x0 x3 x4 x5 = L8_Small_b3 F E3_2 (L8_Small_l3 F E3_2 k3) x0 x3 x4 x5 := rfl

def L8_Small_r9 (F : Nat) (x0 x3 x4 : Value) (K : Value → Value → Value → Value → M Value) : M Value :=
  K x0 x3 x4 (.int .i64 (0))

theorem L8_Small_r9_ok (F : Nat) (x0 x3 x4 : Value) (K : Value → Value → Value → Value → M Value) : L8_Small_r9 F x0 x3 x4 K = L8_Small_R F 9 [(4, x4), (3, x3), (0, x0)] [0, 3, 4, 5] K := by kernel_rfl

def L8_Small_r8 (F : Nat) (K : Value → M Value) : M Value :=
  K (.bool false)

theorem L8_Small_r8_ok (F : Nat) (K : Value → M Value) : L8_Small_r8 F K = L8_Small_R F 8 [] [2] K := by kernel_rfl

def L8_Small_r7 (F : Nat) (x0 x3 x4 : Value) (K : Value → Value → Value → Value → M Value) : M Value :=
  bnd (opNil x0) fun v58 => bnd (opFieldAddr 4 v58) fun v59 => bnd (opLoad v59) fun v60 => bnd (opIndexAddr 3 v60 x4) fun v62 => bnd (opFieldAddr 2 v62) fun v63 => bnd (opLoad v63) fun v64 => bnd (opLen v64) fun v65 => bnd (opBin .gtr v65 (.int .i64 (14))) fun v66 => onB v66 (K x0 x3 x4 (.bool true)) (bnd (opNil x0) fun v69 => bnd (opFieldAddr 4 v69) fun v70 => bnd (opLoad v70) fun v71 => bnd (opIndexAddr 3 v71 x4) fun v73 => bnd (opFieldAddr 1 v73) fun v74 => bnd (opLoad v74) fun v75 => bnd (opLen v75) fun v76 => bnd (opBin .gtr v76 (.int .i64 (20))) fun v77 => K x0 x3 x4 v77)

theorem L8_Small_r7_ok (F : Nat) (x0 x3 x4 : Value) (K : Value → Value → Value → Value → M Value) : L8_Small_r7 F x0 x3 x4 K = L8_Small_R F 7 [(4, x4), (3, x3), (0, x0)] [0, 3, 4, 78] K := by kernel_rfl

def L8_Small_r5 (F : Nat) (x0 x3 x4 : Value) (K : Value → Value → Value → Value → M Value) : M Value :=
  bnd (opNil x0) fun v50 => bnd (opFieldAddr 4 v50) fun v51 => bnd (opLoad v51) fun v52 => bnd (opLen v52) fun v53 => bnd (opBin .lss x4 v53) fun v54 => K x0 x3 x4 v54

theorem L8_Small_r5_ok (F : Nat) (x0 x3 x4 : Value) (K : Value → Value → Value → Value → M Value) : L8_Small_r5 F x0 x3 x4 K = L8_Small_R F 5 [(4, x4), (3, x3), (0, x0)] [0, 3, 4, 54] K := by kernel_rfl

def L8_Small_b1 (F : Nat) (E1_0 : Value → M Value) (A1 : Value → Value → Value → M Value) (x0 x3 x4 : Value) : M Value :=
  L8_Small_r5 F x0 x3 x4 (fun x0 x3 x4 x54 => onB x54 (L8_Small_r7 F x0 x3 x4 (fun x0 x3 x4 x78 => onB x78 (L8_Small_r8 F (fun x2 => ret x2)) (L8_Small_r9 F x0 x3 x4 (fun x0 x3 x4 x5 => L8_Small_l3 F (fun x0 x3 x4 => L8_Small_k2 F A1 x0 x3 x4) F x0 x3 x4 x5)))) (E1_0 x3))

def L8_Small_l1 (F : Nat) (E1_0 : Value → M Value) : Nat → Value → Value → Value → M Value
  | 0, _, _, _ => fail
  | k1 + 1, x0, x3, x4 => L8_Small_b1 F E1_0 (L8_Small_l1 F E1_0 k1) x0 x3 x4

theorem L8_Small_l1_s (F : Nat) (E1_0 : Value → M Value) (k1 : Nat) (x0 x3 x4 : Value) : L8_Small_l1 F E1_0 (k1 + 1) x0 x3 x4 = L8_Small_b1 F E1_0 (L8_Small_l1 F E1_0 k1) x0 x3 x4 := rfl

def L8_Small_r4 (F : Nat) (x0 x3 : Value) (K : Value → Value → Value → M Value) : M Value :=
  K x0 x3 (.int .i64 (0))

theorem L8_Small_r4_ok (F : Nat) (x0 x3 : Value) (K : Value → Value → Value → M Value) : L8_Small_r4 F x0 x3 K = L8_Small_R F 4 [(3, x3), (0, x0)] [0, 3, 4] K := by kernel_rfl

def L8_Small_r3 (F : Nat) (x0 : Value) (K : Value → Value → M Value) : M Value :=
  K x0 (.int .i64 (0))

theorem L8_Small_r3_ok (F : Nat) (x0 : Value) (K : Value → Value → M Value) : L8_Small_r3 F x0 K = L8_Small_R F 3 [(0, x0)] [0, 3] K := by kernel_rfl

def L8_Small_r2 (F : Nat) (K : Value → M Value) : M Value :=
  K (.bool false)

theorem L8_Small_r2_ok (F : Nat) (K : Value → M Value) : L8_Small_r2 F K = L8_Small_R F 2 [] [2] K := by kernel_rfl

def L8_Small_r1 (F : Nat) (x0 : Value) (K : Value → Value → M Value) : M Value :=
  bnd (opEq eqP false x0 (.pointer none)) fun v7 => onB v7 (K x0 (.bool true)) (bnd (opNil x0) fun v10 => bnd (opFieldAddr 4 v10) fun v11 => bnd (opLoad v11) fun v12 => bnd (opLen v12) fun v13 => bnd (opBin .gtr v13 (.int .i64 (12))) fun v14 => onB v14 (K x0 (.bool true)) (bnd (opNil x0) fun v18 => bnd (opFieldAddr 0 v18) fun v19 => bnd (opLoad v19) fun v20 => bnd (opLen v20) fun v21 => bnd (opBin .gtr v21 (.int .i64 (12))) fun v22 => onB v22 (K x0 (.bool true)) (bnd (opNil x0) fun v26 => bnd (opFieldAddr 1 v26) fun v27 => bnd (opLoad v27) fun v28 => bnd (opLen v28) fun v29 => bnd (opBin .gtr v29 (.int .i64 (12))) fun v30 => onB v30 (K x0 (.bool true)) (bnd (opNil x0) fun v34 => bnd (opFieldAddr 2 v34) fun v35 => bnd (opLoad v35) fun v36 => bnd (opLen v36) fun v37 => bnd (opBin .gtr v37 (.int .i64 (12))) fun v38 => onB v38 (K x0 (.bool true)) (bnd (opNil x0) fun v42 => bnd (opFieldAddr 3 v42) fun v43 => bnd (opLoad v43) fun v44 => bnd (opLen v44) fun v45 => bnd (opBin .gtr v45 (.int .i64 (14))) fun v46 => K x0 v46)))))

theorem L8_Small_r1_ok (F : Nat) (x0 : Value) (K : Value → Value → M Value) : L8_Small_r1 F x0 K = L8_Small_R F 1 [(0, x0)] [0, 47] K := by kernel_rfl

def L8_Small_r0 (F : Nat) (x0 : Value) (K : Value → M Value) : M Value :=
  K x0

theorem L8_Small_r0_ok (F : Nat) (x0 : Value) (K : Value → M Value) : L8_Small_r0 F x0 K = L8_Small_R F 0 [(0, x0)] [0] K := by kernel_rfl

def L8_Small (F : Nat) (x0 : Value) : M Value :=
  L8_Small_r0 F x0 (fun x0 => L8_Small_r1 F x0 (fun x0 x47 => onB x47 (L8_Small_r2 F (fun x2 => ret x2)) (L8_Small_r3 F x0 (fun x0 x3 => L8_Small_r4 F x0 x3 (fun x0 x3 x4 => L8_Small_l1 F (fun x3 => L8_Small_k0 F x3) F x0 x3 x4)))))

def L8_Small_m (F : Nat) : List Value → M Value
  | [x0] => L8_Small F x0
  | _ => fail

theorem L8_Small_body : Try.f21.body = some (.seq (.region 0 (opsOf Try.f21 0) false) (.seq (.seq (.region 1 (opsOf Try.f21 1) false) (.cond (.tmp 47) (.seq (.region 2 (opsOf Try.f21 2) false) .ret) .skip)) (.seq (.region 3 (opsOf Try.f21 3) false) (.seq (.seq (.region 4 (opsOf Try.f21 4) false) (.block 0 (.loop (.seq (.seq (.region 5 (opsOf Try.f21 5) false) (.cond (.tmp 54) .skip (.exit 0))) (.seq (.block 1 (.seq (.seq (.region 7 (opsOf Try.f21 7) false) (.cond (.tmp 78) (.seq (.region 8 (opsOf Try.f21 8) false) .ret) .skip)) (.seq (.region 9 (opsOf Try.f21 9) false) (.block 2 (.loop (.seq (.seq (.region 10 (opsOf Try.f21 10) false) (.cond (.tmp 89) .skip (.exit 2))) (.seq (.block 3 (.region 12 (opsOf Try.f21 12) false)) (.region 11 (opsOf Try.f21 11) false)))))))) (.region 6 (opsOf Try.f21 6) false)))))) (.seq (.region 13 (opsOf Try.f21 13) false) .ret))))) := by kernel_rfl

theorem L8_Small_ok (F : Nat) : Sim Try.prog TryG 21 (L8_Small_m F) := by
 have hE : EnvOK Try.prog TryG (L8_Small_env F) := EnvOK.nil
 refine Sim.of_body (E := L8_Small_env F) Try.func21 L8_Small_body Try.call21 ?_ ?_
 · intro args hl; unfold L8_Small_m; split
   · exact absurd hl (Nat.not_lt.2 (Nat.le_of_ble_eq_true rfl))
   · rfl
 · intro args ρ h w z; unfold L8_Small_m; split
   · rename_i x0; show OKc _ _ [(0, x0)] _ _
     refine rSeq ?_
     refine cLess [0] ?_
     refine xR hE [0] rfl (L8_Small_r0_ok F _ _) ?_
     intro x0
     show OKq _ _ _ [(0, x0)] _
     refine rThen ?_
     refine rSeq ?_
     refine rSeq ?_
     refine cLess [0] ?_
     refine xR hE [0, 47] rfl (L8_Small_r1_ok F _ _) ?_
     intro x0 x47
     show OKq _ _ _ [(47, x47), (0, x0)] _
     refine rThen ?_
     refine xCond rfl rfl ?_ ?_
     · refine rSeq ?_
       refine cLess [] ?_
       refine xR hE [2] rfl (L8_Small_r2_ok F _) ?_
       intro x2
       show OKq _ _ _ [(2, x2)] _
       refine rThen ?_
       refine rRet ?_
       refine xThenR ?_
       exact rDone (.inr rfl) rfl
     · refine rSkip ?_
       refine rThen ?_
       refine rSeq ?_
       refine cLess [0] ?_
       refine xR hE [0, 3] rfl (L8_Small_r3_ok F _ _) ?_
       intro x0 x3
       show OKq _ _ _ [(3, x3), (0, x0)] _
       refine rThen ?_
       refine xSeq [3] (L8_Small_k0 F ) ?_ fun hj0 => ?_
       · intro x3
         show OKc _ _ [(3, x3)] _ _
         refine rSeq ?_
         refine cLess [3] ?_
         refine xR hE [2] rfl (L8_Small_r13_ok F _ _) ?_
         intro x2
         show OKq _ _ _ [(2, x2)] _
         refine rThen ?_
         refine rRet ?_
         exact rDone (.inr rfl) rfl
       · refine rSeq ?_
         refine cLess [3, 0] ?_
         refine xR hE [0, 3, 4] rfl (L8_Small_r4_ok F _ _ _) ?_
         intro x0 x3 x4
         show OKq _ _ _ [(4, x4), (3, x3), (0, x0)] _
         refine rThen ?_
         refine rBlock ?_
         refine cLess [4, 3, 0] ?_
         refine xLoopAt [0, 3, 4] [] (fun k1 => L8_Small_l1 F (fun x3 => L8_Small_k0 F x3) k1) F [x0, x3, x4] rfl rfl (fun _ _ _ => rfl) fun I hI1 k1 => ?_
         intro x0 x3 x4
         show OKc _ _ [(4, x4), (3, x3), (0, x0)] _ _
         refine cAs (L8_Small_l1_s F _ _ _ _ _) ?_
         refine rSeq ?_
         refine rSeq ?_
         refine cLess [4, 3, 0] ?_
         refine xR hE [0, 3, 4, 54] rfl (L8_Small_r5_ok F _ _ _ _) ?_
         intro x0 x3 x4 x54
         show OKq _ _ _ [(54, x54), (4, x4), (3, x3), (0, x0)] _
         refine rThen ?_
         refine xCond rfl rfl ?_ ?_
         · refine rSkip ?_
           refine rThen ?_
           refine xSeq [0, 3, 4] (L8_Small_k2 F (L8_Small_l1 F (fun x3 => L8_Small_k0 F x3) k1) ) ?_ fun hj2 => ?_
           · intro x0 x3 x4
             show OKc _ _ [(4, x4), (3, x3), (0, x0)] _ _
             refine cLess [4, 3, 0] ?_
             refine xR hE [0, 3, 4] rfl (L8_Small_r6_ok F _ _ _ _) ?_
             intro x0 x3 x4
             show OKq _ _ _ [(4, x4), (3, x3), (0, x0)] _
             exact qLess [4, 3, 0] (hI1 k1 x0 x3 x4)
           · refine rBlock ?_
             refine rSeq ?_
             refine rSeq ?_
             refine cLess [4, 3, 0] ?_
             refine xR hE [0, 3, 4, 78] rfl (L8_Small_r7_ok F _ _ _ _) ?_
             intro x0 x3 x4 x78
             show OKq _ _ _ [(78, x78), (4, x4), (3, x3), (0, x0)] _
             refine rThen ?_
             refine xCond rfl rfl ?_ ?_
             · refine rSeq ?_
               refine cLess [] ?_
               refine xR hE [2] rfl (L8_Small_r8_ok F _) ?_
               intro x2
               show OKq _ _ _ [(2, x2)] _
               refine rThen ?_
               refine rRet ?_
               refine xThenR ?_
               refine xBlockR ?_
               refine xThenR ?_
               refine xThenR ?_
               refine xBlockR ?_
               refine xThenR ?_
               exact rDone (.inr rfl) rfl
             · refine rSkip ?_
               refine rThen ?_
               refine rSeq ?_
               refine cLess [4, 3, 0] ?_
               refine xR hE [0, 3, 4, 5] rfl (L8_Small_r9_ok F _ _ _ _) ?_
               intro x0 x3 x4 x5
               show OKq _ _ _ [(5, x5), (4, x4), (3, x3), (0, x0)] _
               refine rThen ?_
               refine rBlock ?_
               refine cLess [5, 4, 3, 0] ?_
               refine xLoopAt [0, 3, 4, 5] [] (fun k3 => L8_Small_l3 F (fun x0 x3 x4 => L8_Small_k2 F (L8_Small_l1 F (fun x3 => L8_Small_k0 F x3) k1) x0 x3 x4) k3) F [x0, x3, x4, x5] rfl rfl (fun _ _ _ _ => rfl) fun I hI3 k3 => ?_
               intro x0 x3 x4 x5
               show OKc _ _ [(5, x5), (4, x4), (3, x3), (0, x0)] _ _
               refine cAs (L8_Small_l3_s F _ _ _ _ _ _) ?_
               refine rSeq ?_
               refine rSeq ?_
               refine cLess [5, 4, 3, 0] ?_
               refine xR hE [0, 3, 4, 5, 89] rfl (L8_Small_r10_ok F _ _ _ _ _) ?_
               intro x0 x3 x4 x5 x89
               show OKq _ _ _ [(89, x89), (5, x5), (4, x4), (3, x3), (0, x0)] _
               refine rThen ?_
               refine xCond rfl rfl ?_ ?_
               · refine rSkip ?_
                 refine rThen ?_
                 refine rSeq ?_
                 refine rBlock ?_
                 refine cLess [5, 4, 3, 0] ?_
                 refine xR hE [0, 3, 4, 5] rfl (L8_Small_r12_ok F _ _ _ _ _) ?_
                 intro x0 x3 x4 x5
                 show OKq _ _ _ [(5, x5), (4, x4), (3, x3), (0, x0)] _
                 refine xBlockN ?_
                 refine rThen ?_
                 refine cLess [5, 4, 3, 0] ?_
                 refine xR hE [0, 3, 4, 5] rfl (L8_Small_r11_ok F _ _ _ _ _) ?_
                 intro x0 x3 x4 x5
                 show OKq _ _ _ [(5, x5), (4, x4), (3, x3), (0, x0)] _
                 exact qLess [5, 4, 3, 0] (hI3 k3 x0 x3 x4 x5)
               · refine rExit ?_
                 refine xThenX ?_
                 refine xThenX ?_
                 refine rOut ?_
                 refine xBlockN ?_
                 exact qLess [4, 3, 0] (hj2 x0 x3 x4)
         · refine rExit ?_
           refine xThenX ?_
           refine xThenX ?_
           refine rOut ?_
           exact qLess [3] (hj0 x3)
   · exact rFail


/-! ### haruspex/haruspexref8.Uses -/

def R8_Uses_env (F : Nat) : Env := envOf []

noncomputable def R8_Uses_R (F : Nat) := rK Try.prog TryG (R8_Uses_env F) Try.f26
noncomputable def R8_Uses_D (F : Nat) := dK Try.prog TryG (R8_Uses_env F) Try.f26

def R8_Uses_r16 (F : Nat) (K : Value → M Value) : M Value :=
  K (.slice none 0 0)

theorem R8_Uses_r16_ok (F : Nat) (K : Value → M Value) : R8_Uses_r16 F K = R8_Uses_R F 16 [] [2] K := by kernel_rfl

def R8_Uses_r4 (F : Nat) (x1 : Value) (K : Value → M Value) : M Value :=
  bnd (opFieldAddr 2 x1) fun v8 => bnd (opLoad v8) fun v9 => bnd (opFieldAddr 3 x1) fun v10 => bnd (opLoad v10) fun v11 => bnd (opBuildSlice 2 (rep 2 [(.int .i64 (0))]) [(0, 1, false, v9), (1, 1, false, v11)]) fun v12 => K v12

theorem R8_Uses_r4_ok (F : Nat) (x1 : Value) (K : Value → M Value) : R8_Uses_r4 F x1 K = R8_Uses_R F 4 [(1, x1)] [2] K := by kernel_rfl

def R8_Uses_r10 (F : Nat) (x1 : Value) (K : Value → M Value) : M Value :=
  bnd (opFieldAddr 2 x1) fun v19 => bnd (opLoad v19) fun v20 => bnd (opBuildSlice 1 (rep 1 [(.int .i64 (0))]) [(0, 1, false, v20)]) fun v21 => K v21

theorem R8_Uses_r10_ok (F : Nat) (x1 : Value) (K : Value → M Value) : R8_Uses_r10 F x1 K = R8_Uses_R F 10 [(1, x1)] [2] K := by kernel_rfl

def R8_Uses_r12 (F : Nat) (x1 : Value) (K : Value → M Value) : M Value :=
  bnd (opFieldAddr 5 x1) fun v24 => bnd (opLoad v24) fun v25 => bnd (opAppend 1 8 (.slice none 0 0) v25) fun v26 => K v26

theorem R8_Uses_r12_ok (F : Nat) (x1 : Value) (K : Value → M Value) : R8_Uses_r12 F x1 K = R8_Uses_R F 12 [(1, x1)] [2] K := by kernel_rfl

def R8_Uses_r15 (F : Nat) (x1 : Value) (K : Value → M Value) : M Value :=
  bnd (opFieldAddr 2 x1) fun v30 => bnd (opLoad v30) fun v31 => bnd (opBuildSlice 1 (rep 1 [(.int .i64 (0))]) [(0, 1, false, v31)]) fun v32 => bnd (opFieldAddr 5 x1) fun v33 => bnd (opLoad v33) fun v34 => bnd (opAppend 1 8 v32 v34) fun v35 => K v35

theorem R8_Uses_r15_ok (F : Nat) (x1 : Value) (K : Value → M Value) : R8_Uses_r15 F x1 K = R8_Uses_R F 15 [(1, x1)] [2] K := by kernel_rfl

def R8_Uses_k0 (F : Nat) (x1 x27 : Value) : M Value :=
  onB x27 (R8_Uses_r15 F x1 (fun x2 => ret x2)) (R8_Uses_r16 F (fun x2 => ret x2))

def R8_Uses_r14 (F : Nat) (x1 x4 : Value) (K : Value → Value → M Value) : M Value :=
  bnd (opBin .eql x4 (.int .i64 (14))) fun v29 => K x1 v29

theorem R8_Uses_r14_ok (F : Nat) (x1 x4 : Value) (K : Value → Value → M Value) : R8_Uses_r14 F x1 x4 K = R8_Uses_R F 14 [(4, x4), (1, x1)] [1, 27] K := by kernel_rfl

def R8_Uses_r13 (F : Nat) (x1 x4 : Value) (K : Value → Value → Value → M Value) : M Value :=
  bnd (opBin .eql x4 (.int .i64 (13))) fun v28 => K x1 x4 v28

theorem R8_Uses_r13_ok (F : Nat) (x1 x4 : Value) (K : Value → Value → Value → M Value) : R8_Uses_r13 F x1 x4 K = R8_Uses_R F 13 [(4, x4), (1, x1)] [1, 4, 27] K := by kernel_rfl

def R8_Uses_r11 (F : Nat) (x1 x4 : Value) (K : Value → Value → Value → M Value) : M Value :=
  bnd (opBin .eql x4 (.int .i64 (12))) fun v23 => K x1 x4 v23

theorem R8_Uses_r11_ok (F : Nat) (x1 x4 : Value) (K : Value → Value → Value → M Value) : R8_Uses_r11 F x1 x4 K = R8_Uses_R F 11 [(4, x4), (1, x1)] [1, 4, 22] K := by kernel_rfl

def R8_Uses_k1 (F : Nat) (x1 x4 x13 : Value) : M Value :=
  onB x13 (R8_Uses_r10 F x1 (fun x2 => ret x2)) (R8_Uses_r11 F x1 x4 (fun x1 x4 x22 => onB x22 (R8_Uses_r12 F x1 (fun x2 => ret x2)) (R8_Uses_r13 F x1 x4 (fun x1 x4 x27 => onB x27 (R8_Uses_k0 F x1 x27) (R8_Uses_r14 F x1 x4 (fun x1 x27 => R8_Uses_k0 F x1 x27))))))

def R8_Uses_r9 (F : Nat) (x1 x4 : Value) (K : Value → Value → Value → M Value) : M Value :=
  bnd (opBin .eql x4 (.int .i64 (15))) fun v18 => K x1 x4 v18

theorem R8_Uses_r9_ok (F : Nat) (x1 x4 : Value) (K : Value → Value → Value → M Value) : R8_Uses_r9 F x1 x4 K = R8_Uses_R F 9 [(4, x4), (1, x1)] [1, 4, 13] K := by kernel_rfl

def R8_Uses_r8 (F : Nat) (x1 x4 : Value) (K : Value → Value → Value → M Value) : M Value :=
  bnd (opBin .eql x4 (.int .i64 (11))) fun v17 => K x1 x4 v17

theorem R8_Uses_r8_ok (F : Nat) (x1 x4 : Value) (K : Value → Value → Value → M Value) : R8_Uses_r8 F x1 x4 K = R8_Uses_R F 8 [(4, x4), (1, x1)] [1, 4, 13] K := by kernel_rfl

def R8_Uses_r7 (F : Nat) (x1 x4 : Value) (K : Value → Value → Value → M Value) : M Value :=
  bnd (opBin .eql x4 (.int .i64 (9))) fun v16 => K x1 x4 v16

theorem R8_Uses_r7_ok (F : Nat) (x1 x4 : Value) (K : Value → Value → Value → M Value) : R8_Uses_r7 F x1 x4 K = R8_Uses_R F 7 [(4, x4), (1, x1)] [1, 4, 13] K := by kernel_rfl

def R8_Uses_r6 (F : Nat) (x1 x4 : Value) (K : Value → Value → Value → M Value) : M Value :=
  bnd (opBin .eql x4 (.int .i64 (7))) fun v15 => K x1 x4 v15

theorem R8_Uses_r6_ok (F : Nat) (x1 x4 : Value) (K : Value → Value → Value → M Value) : R8_Uses_r6 F x1 x4 K = R8_Uses_R F 6 [(4, x4), (1, x1)] [1, 4, 13] K := by kernel_rfl

def R8_Uses_r5 (F : Nat) (x1 x4 : Value) (K : Value → Value → Value → M Value) : M Value :=
  bnd (opBin .eql x4 (.int .i64 (6))) fun v14 => K x1 x4 v14

theorem R8_Uses_r5_ok (F : Nat) (x1 x4 : Value) (K : Value → Value → Value → M Value) : R8_Uses_r5 F x1 x4 K = R8_Uses_R F 5 [(4, x4), (1, x1)] [1, 4, 13] K := by kernel_rfl

def R8_Uses_k2 (F : Nat) (x1 x4 x5 : Value) : M Value :=
  onB x5 (R8_Uses_r4 F x1 (fun x2 => ret x2)) (R8_Uses_r5 F x1 x4 (fun x1 x4 x13 => onB x13 (R8_Uses_k1 F x1 x4 x13) (R8_Uses_r6 F x1 x4 (fun x1 x4 x13 => onB x13 (R8_Uses_k1 F x1 x4 x13) (R8_Uses_r7 F x1 x4 (fun x1 x4 x13 => onB x13 (R8_Uses_k1 F x1 x4 x13) (R8_Uses_r8 F x1 x4 (fun x1 x4 x13 => onB x13 (R8_Uses_k1 F x1 x4 x13) (R8_Uses_r9 F x1 x4 (fun x1 x4 x13 => R8_Uses_k1 F x1 x4 x13))))))))))

def R8_Uses_r3 (F : Nat) (x1 x4 : Value) (K : Value → Value → Value → M Value) : M Value :=
  bnd (opBin .eql x4 (.int .i64 (8))) fun v7 => K x1 x4 v7

theorem R8_Uses_r3_ok (F : Nat) (x1 x4 : Value) (K : Value → Value → Value → M Value) : R8_Uses_r3 F x1 x4 K = R8_Uses_R F 3 [(4, x4), (1, x1)] [1, 4, 5] K := by kernel_rfl

def R8_Uses_r2 (F : Nat) (x1 x4 : Value) (K : Value → Value → Value → M Value) : M Value :=
  bnd (opBin .eql x4 (.int .i64 (2))) fun v6 => K x1 x4 v6

theorem R8_Uses_r2_ok (F : Nat) (x1 x4 : Value) (K : Value → Value → Value → M Value) : R8_Uses_r2 F x1 x4 K = R8_Uses_R F 2 [(4, x4), (1, x1)] [1, 4, 5] K := by kernel_rfl

def R8_Uses_r1 (F : Nat) (x1 : Value) (K : Value → Value → M Value) : M Value :=
  bnd (opFieldAddr 0 x1) fun v3 => bnd (opLoad v3) fun v4 => K x1 v4

theorem R8_Uses_r1_ok (F : Nat) (x1 : Value) (K : Value → Value → M Value) : R8_Uses_r1 F x1 K = R8_Uses_R F 1 [(1, x1)] [1, 4] K := by kernel_rfl

def R8_Uses_r0 (F : Nat) (x0 : Value) (K : Value → M Value) : M Value :=
  bnd (opBoxN x0) fun v1 => K v1

theorem R8_Uses_r0_ok (F : Nat) (x0 : Value) (K : Value → M Value) : R8_Uses_r0 F x0 K = R8_Uses_R F 0 [(0, x0)] [1] K := by kernel_rfl

def R8_Uses (F : Nat) (x0 : Value) : M Value :=
  R8_Uses_r0 F x0 (fun x1 => R8_Uses_r1 F x1 (fun x1 x4 => R8_Uses_r2 F x1 x4 (fun x1 x4 x5 => onB x5 (R8_Uses_k2 F x1 x4 x5) (R8_Uses_r3 F x1 x4 (fun x1 x4 x5 => R8_Uses_k2 F x1 x4 x5)))))

def R8_Uses_m (F : Nat) : List Value → M Value
  | [x0] => R8_Uses F x0
  | _ => fail

theorem R8_Uses_body : Try.f26.body = some (.seq (.region 0 (opsOf Try.f26 0) false) (.seq (.seq (.region 1 (opsOf Try.f26 1) false) (.block 0 (.seq (.seq (.region 2 (opsOf Try.f26 2) false) (.cond (.tmp 5) .skip (.region 3 (opsOf Try.f26 3) false))) (.cond (.tmp 5) (.seq (.region 4 (opsOf Try.f26 4) false) .ret) (.seq (.seq (.region 5 (opsOf Try.f26 5) false) (.cond (.tmp 13) .skip (.seq (.region 6 (opsOf Try.f26 6) false) (.cond (.tmp 13) .skip (.seq (.region 7 (opsOf Try.f26 7) false) (.cond (.tmp 13) .skip (.seq (.region 8 (opsOf Try.f26 8) false) (.cond (.tmp 13) .skip (.region 9 (opsOf Try.f26 9) false))))))))) (.cond (.tmp 13) (.seq (.region 10 (opsOf Try.f26 10) false) .ret) (.seq (.region 11 (opsOf Try.f26 11) false) (.cond (.tmp 22) (.seq (.region 12 (opsOf Try.f26 12) false) .ret) (.seq (.seq (.region 13 (opsOf Try.f26 13) false) (.cond (.tmp 27) .skip (.region 14 (opsOf Try.f26 14) false))) (.cond (.tmp 27) (.seq (.region 15 (opsOf Try.f26 15) false) .ret) .skip)))))))))) (.seq (.region 16 (opsOf Try.f26 16) false) .ret))) := by kernel_rfl

theorem R8_Uses_ok (F : Nat) : Sim Try.prog TryG 26 (R8_Uses_m F) := by
 have hE : EnvOK Try.prog TryG (R8_Uses_env F) := EnvOK.nil
 refine Sim.of_body (E := R8_Uses_env F) Try.func26 R8_Uses_body Try.call26 ?_ ?_
 · intro args hl; unfold R8_Uses_m; split
   · exact absurd hl (Nat.not_lt.2 (Nat.le_of_ble_eq_true rfl))
   · rfl
 · intro args ρ h w z; unfold R8_Uses_m; split
   · rename_i x0; show OKc _ _ [(0, x0)] _ _
     refine rSeq ?_
     refine cLess [0] ?_
     refine xR hE [1] rfl (R8_Uses_r0_ok F _ _) ?_
     intro x1
     show OKq _ _ _ [(1, x1)] _
     refine rThen ?_
     refine rSeq ?_
     refine rSeq ?_
     refine cLess [1] ?_
     refine xR hE [1, 4] rfl (R8_Uses_r1_ok F _ _) ?_
     intro x1 x4
     show OKq _ _ _ [(4, x4), (1, x1)] _
     refine rThen ?_
     refine rBlock ?_
     refine xSeq [1, 4, 5] (R8_Uses_k2 F ) ?_ fun hj2 => ?_
     · intro x1 x4 x5
       show OKc _ _ [(5, x5), (4, x4), (1, x1)] _ _
       refine xCond rfl rfl ?_ ?_
       · refine rSeq ?_
         refine cLess [1] ?_
         refine xR hE [2] rfl (R8_Uses_r4_ok F _ _) ?_
         intro x2
         show OKq _ _ _ [(2, x2)] _
         refine rThen ?_
         refine rRet ?_
         refine xBlockR ?_
         refine xThenR ?_
         exact rDone (.inr rfl) rfl
       · refine xSeq [1, 4, 13] (R8_Uses_k1 F ) ?_ fun hj1 => ?_
         · intro x1 x4 x13
           show OKc _ _ [(13, x13), (4, x4), (1, x1)] _ _
           refine xCond rfl rfl ?_ ?_
           · refine rSeq ?_
             refine cLess [1] ?_
             refine xR hE [2] rfl (R8_Uses_r10_ok F _ _) ?_
             intro x2
             show OKq _ _ _ [(2, x2)] _
             refine rThen ?_
             refine rRet ?_
             refine xBlockR ?_
             refine xThenR ?_
             exact rDone (.inr rfl) rfl
           · refine rSeq ?_
             refine cLess [4, 1] ?_
             refine xR hE [1, 4, 22] rfl (R8_Uses_r11_ok F _ _ _) ?_
             intro x1 x4 x22
             show OKq _ _ _ [(22, x22), (4, x4), (1, x1)] _
             refine rThen ?_
             refine xCond rfl rfl ?_ ?_
             · refine rSeq ?_
               refine cLess [1] ?_
               refine xR hE [2] rfl (R8_Uses_r12_ok F _ _) ?_
               intro x2
               show OKq _ _ _ [(2, x2)] _
               refine rThen ?_
               refine rRet ?_
               refine xBlockR ?_
               refine xThenR ?_
               exact rDone (.inr rfl) rfl
             · refine xSeq [1, 27] (R8_Uses_k0 F ) ?_ fun hj0 => ?_
               · intro x1 x27
                 show OKc _ _ [(27, x27), (1, x1)] _ _
                 refine xCond rfl rfl ?_ ?_
                 · refine rSeq ?_
                   refine cLess [1] ?_
                   refine xR hE [2] rfl (R8_Uses_r15_ok F _ _) ?_
                   intro x2
                   show OKq _ _ _ [(2, x2)] _
                   refine rThen ?_
                   refine rRet ?_
                   refine xBlockR ?_
                   refine xThenR ?_
                   exact rDone (.inr rfl) rfl
                 · refine rSkip ?_
                   refine xBlockN ?_
                   refine rThen ?_
                   refine rSeq ?_
                   refine cLess [] ?_
                   refine xR hE [2] rfl (R8_Uses_r16_ok F _) ?_
                   intro x2
                   show OKq _ _ _ [(2, x2)] _
                   refine rThen ?_
                   refine rRet ?_
                   exact rDone (.inr rfl) rfl
               · refine rSeq ?_
                 refine cLess [4, 1] ?_
                 refine xR hE [1, 4, 27] rfl (R8_Uses_r13_ok F _ _ _) ?_
                 intro x1 x4 x27
                 show OKq _ _ _ [(27, x27), (4, x4), (1, x1)] _
                 refine rThen ?_
                 refine xCond rfl rfl ?_ ?_
                 · refine rSkip ?_
                   exact qLess [27, 1] (hj0 x1 x27)
                 · refine cLess [4, 1] ?_
                   refine xR hE [1, 27] rfl (R8_Uses_r14_ok F _ _ _) ?_
                   intro x1 x27
                   show OKq _ _ _ [(27, x27), (1, x1)] _
                   exact qLess [27, 1] (hj0 x1 x27)
         · refine rSeq ?_
           refine cLess [4, 1] ?_
           refine xR hE [1, 4, 13] rfl (R8_Uses_r5_ok F _ _ _) ?_
           intro x1 x4 x13
           show OKq _ _ _ [(13, x13), (4, x4), (1, x1)] _
           refine rThen ?_
           refine xCond rfl rfl ?_ ?_
           · refine rSkip ?_
             exact qLess [13, 4, 1] (hj1 x1 x4 x13)
           · refine rSeq ?_
             refine cLess [4, 1] ?_
             refine xR hE [1, 4, 13] rfl (R8_Uses_r6_ok F _ _ _) ?_
             intro x1 x4 x13
             show OKq _ _ _ [(13, x13), (4, x4), (1, x1)] _
             refine rThen ?_
             refine xCond rfl rfl ?_ ?_
             · refine rSkip ?_
               exact qLess [13, 4, 1] (hj1 x1 x4 x13)
             · refine rSeq ?_
               refine cLess [4, 1] ?_
               refine xR hE [1, 4, 13] rfl (R8_Uses_r7_ok F _ _ _) ?_
               intro x1 x4 x13
               show OKq _ _ _ [(13, x13), (4, x4), (1, x1)] _
               refine rThen ?_
               refine xCond rfl rfl ?_ ?_
               · refine rSkip ?_
                 exact qLess [13, 4, 1] (hj1 x1 x4 x13)
               · refine rSeq ?_
                 refine cLess [4, 1] ?_
                 refine xR hE [1, 4, 13] rfl (R8_Uses_r8_ok F _ _ _) ?_
                 intro x1 x4 x13
                 show OKq _ _ _ [(13, x13), (4, x4), (1, x1)] _
                 refine rThen ?_
                 refine xCond rfl rfl ?_ ?_
                 · refine rSkip ?_
                   exact qLess [13, 4, 1] (hj1 x1 x4 x13)
                 · refine cLess [4, 1] ?_
                   refine xR hE [1, 4, 13] rfl (R8_Uses_r9_ok F _ _ _) ?_
                   intro x1 x4 x13
                   show OKq _ _ _ [(13, x13), (4, x4), (1, x1)] _
                   exact qLess [13, 4, 1] (hj1 x1 x4 x13)
     · refine rSeq ?_
       refine cLess [4, 1] ?_
       refine xR hE [1, 4, 5] rfl (R8_Uses_r2_ok F _ _ _) ?_
       intro x1 x4 x5
       show OKq _ _ _ [(5, x5), (4, x4), (1, x1)] _
       refine rThen ?_
       refine xCond rfl rfl ?_ ?_
       · refine rSkip ?_
         exact qLess [5, 4, 1] (hj2 x1 x4 x5)
       · refine cLess [4, 1] ?_
         refine xR hE [1, 4, 5] rfl (R8_Uses_r3_ok F _ _ _) ?_
         intro x1 x4 x5
         show OKq _ _ _ [(5, x5), (4, x4), (1, x1)] _
         exact qLess [5, 4, 1] (hj2 x1 x4 x5)
   · exact rFail


/-! ### haruspex/ir.Point -/

def ir_Point_env (F : Nat) : Env := envOf []

noncomputable def ir_Point_R (F : Nat) := rK Try.prog TryG (ir_Point_env F) Try.f27
noncomputable def ir_Point_D (F : Nat) := dK Try.prog TryG (ir_Point_env F) Try.f27

def ir_Point_r15 (F : Nat) (x4 : Value) (K : Value → Value → M Value) : M Value :=
  bnd (opBuild [(.int .i64 (0)), (.int .i64 (0)), (.int .i64 (0))] []) fun v62 => bnd (opStoreN 3 x4 v62) fun _ => K x4 (.bool false)

theorem ir_Point_r15_ok (F : Nat) (x4 : Value) (K : Value → Value → M Value) : ir_Point_r15 F x4 K = ir_Point_R F 15 [(4, x4)] [4, 5] K := by kernel_rfl

def ir_Point_k0 (F : Nat) (x4 : Value) : M Value :=
  ir_Point_r15 F x4 (fun x4 x5 => bnd (opLoadN 3 x4) fun r0 => tupK [r0, x5])

def ir_Point_r14 (F : Nat) (x0 x1 x4 x20 x21 : Value) (K : Value → Value → Value → Value → Value → M Value) : M Value :=
  bnd (opBin .add x21 (.int .i64 (1))) fun v61 => K x0 x1 x4 x20 v61

theorem ir_Point_r14_ok (F : Nat) (x0 x1 x4 x20 x21 : Value) (K : Value → Value → Value → Value → Value → M Value) : ir_Point_r14 F x0 x1 x4 x20 x21 K = ir_Point_R F 14 [(21, x21), (20, x20), (4, x4), (1, x1), (0, x0)] [0, 1, 4, 20, 21] K := by kernel_rfl

def ir_Point_k2 (F : Nat) (A1 : Value → Value → Value → Value → Value → M Value) (x0 x1 x4 x20 x21 : Value) : M Value :=
  ir_Point_r14 F x0 x1 x4 x20 x21 (fun x0 x1 x4 x20 x21 => A1 x0 x1 x4 x20 x21)

def ir_Point_r13 (F : Nat) (x0 x1 x4 x6 x20 x21 x32 x33 : Value) (K : Value → Value → Value → Value → Value → Value → Value → Value → M Value) : M Value :=
  bnd (opBin .add x33 (.int .i64 (1))) fun v60 => K x0 x1 x4 x6 x20 x21 x32 v60

theorem ir_Point_r13_ok (F : Nat) (x0 x1 x4 x6 x20 x21 x32 x33 : Value) (K : Value → Value → Value → Value → Value → Value → Value → Value → M Value) : ir_Point_r13 F x0 x1 x4 x6 x20 x21 x32 x33 K = ir_Point_R F 13 [(33, x33), (32, x32), (21, x21), (20, x20), (6, x6), (4, x4), (1, x1), (0, x0)] [0, 1, 4, 6, 20, 21, 32, 33] K := by kernel_rfl

def ir_Point_r12 (F : Nat) (x0 x1 x4 x6 x8 x20 x21 x32 x33 : Value) (K : Value → Value → Value → Value → Value → Value → Value → Value → M Value) : M Value :=
  bnd (opBin .sub x1 x8) fun v59 => K x0 v59 x4 x6 x20 x21 x32 x33

theorem ir_Point_r12_ok (F : Nat) (x0 x1 x4 x6 x8 x20 x21 x32 x33 : Value) (K : Value → Value → Value → Value → Value → Value → Value → Value → M Value) : ir_Point_r12 F x0 x1 x4 x6 x8 x20 x21 x32 x33 K = ir_Point_R F 12 [(33, x33), (32, x32), (21, x21), (20, x20), (8, x8), (6, x6), (4, x4), (1, x1), (0, x0)] [0, 1, 4, 6, 20, 21, 32, 33] K := by kernel_rfl

def ir_Point_r11 (F : Nat) (x1 x4 x6 x7 : Value) (K : Value → Value → M Value) : M Value :=
  bnd (opBuild [(.int .i64 (0)), (.int .i64 (0)), (.int .i64 (0))] [(0, 1, false, x6), (1, 1, false, x7), (2, 1, false, x1)]) fun v56 => bnd (opStoreN 3 x4 v56) fun _ => K x4 (.bool true)

theorem ir_Point_r11_ok (F : Nat) (x1 x4 x6 x7 : Value) (K : Value → Value → M Value) : ir_Point_r11 F x1 x4 x6 x7 K = ir_Point_R F 11 [(7, x7), (6, x6), (4, x4), (1, x1)] [4, 5] K := by kernel_rfl

def ir_Point_r10 (F : Nat) (x0 x1 x4 x6 x7 x8 x20 x21 x32 x33 : Value) (K : Value → Value → Value → Value → Value → Value → Value → Value → Value → Value → Value → M Value) : M Value :=
  bnd (opBin .lss x1 x8) fun v52 => K x0 x1 x4 x6 x7 x8 x20 x21 x32 x33 v52

theorem ir_Point_r10_ok (F : Nat) (x0 x1 x4 x6 x7 x8 x20 x21 x32 x33 : Value) (K : Value → Value → Value → Value → Value → Value → Value → Value → Value → Value → Value → M Value) : ir_Point_r10 F x0 x1 x4 x6 x7 x8 x20 x21 x32 x33 K = ir_Point_R F 10 [(33, x33), (32, x32), (21, x21), (20, x20), (8, x8), (7, x7), (6, x6), (4, x4), (1, x1), (0, x0)] [0, 1, 4, 6, 7, 8, 20, 21, 32, 33, 52] K := by kernel_rfl

def ir_Point_r9 (F : Nat) (x0 x1 x4 x6 x7 x20 x21 x32 x33 : Value) (K : Value → Value → Value → Value → Value → Value → Value → Value → Value → Value → M Value) : M Value :=
  bnd (opNil x0) fun v37 => bnd (opFieldAddr 4 v37) fun v38 => bnd (opLoad v38) fun v39 => bnd (opIndexAddr 3 v39 x6) fun v41 => bnd (opFieldAddr 2 v41) fun v42 => bnd (opLoad v42) fun v43 => bnd (opIndexAddr 5 v43 x7) fun v45 => bnd (opFieldAddr 0 v45) fun v46 => bnd (opLoad v46) fun v47 => bnd (opLen v47) fun v48 => bnd (opBin .add v48 (.int .i64 (1))) fun v49 => K x0 x1 x4 x6 x7 v49 x20 x21 x32 x33

theorem ir_Point_r9_ok (F : Nat) (x0 x1 x4 x6 x7 x20 x21 x32 x33 : Value) (K : Value → Value → Value → Value → Value → Value → Value → Value → Value → Value → M Value) : ir_Point_r9 F x0 x1 x4 x6 x7 x20 x21 x32 x33 K = ir_Point_R F 9 [(33, x33), (32, x32), (21, x21), (20, x20), (7, x7), (6, x6), (4, x4), (1, x1), (0, x0)] [0, 1, 4, 6, 7, 8, 20, 21, 32, 33] K := by kernel_rfl

def ir_Point_r8 (F : Nat) (x0 x1 x4 x6 x20 x21 x32 x33 : Value) (K : Value → Value → Value → Value → Value → Value → Value → Value → Value → M Value) : M Value :=
  K x0 x1 x4 x6 x33 x20 x21 x32 x33

theorem ir_Point_r8_ok (F : Nat) (x0 x1 x4 x6 x20 x21 x32 x33 : Value) (K : Value → Value → Value → Value → Value → Value → Value → Value → Value → M Value) : ir_Point_r8 F x0 x1 x4 x6 x20 x21 x32 x33 K = ir_Point_R F 8 [(33, x33), (32, x32), (21, x21), (20, x20), (6, x6), (4, x4), (1, x1), (0, x0)] [0, 1, 4, 6, 7, 20, 21, 32, 33] K := by kernel_rfl

def ir_Point_r7 (F : Nat) (x0 x1 x4 x6 x20 x21 x32 x33 : Value) (K : Value → Value → Value → Value → Value → Value → Value → Value → Value → M Value) : M Value :=
  bnd (opBin .lss x33 x32) fun v34 => K x0 x1 x4 x6 x20 x21 x32 x33 v34

theorem ir_Point_r7_ok (F : Nat) (x0 x1 x4 x6 x20 x21 x32 x33 : Value) (K : Value → Value → Value → Value → Value → Value → Value → Value → Value → M Value) : ir_Point_r7 F x0 x1 x4 x6 x20 x21 x32 x33 K = ir_Point_R F 7 [(33, x33), (32, x32), (21, x21), (20, x20), (6, x6), (4, x4), (1, x1), (0, x0)] [0, 1, 4, 6, 20, 21, 32, 33, 34] K := by kernel_rfl

def ir_Point_b3 (F : Nat) (E3_2 : Value → Value → Value → Value → Value → M Value) (A3 : Value → Value → Value → Value → Value → Value → Value → Value → M Value) (x0 x1 x4 x6 x20 x21 x32 x33 : Value) : M Value :=
  ir_Point_r7 F x0 x1 x4 x6 x20 x21 x32 x33 (fun x0 x1 x4 x6 x20 x21 x32 x33 x34 => onB x34 (ir_Point_r8 F x0 x1 x4 x6 x20 x21 x32 x33 (fun x0 x1 x4 x6 x7 x20 x21 x32 x33 => ir_Point_r9 F x0 x1 x4 x6 x7 x20 x21 x32 x33 (fun x0 x1 x4 x6 x7 x8 x20 x21 x32 x33 => ir_Point_r10 F x0 x1 x4 x6 x7 x8 x20 x21 x32 x33 (fun x0 x1 x4 x6 x7 x8 x20 x21 x32 x33 x52 => onB x52 (ir_Point_r11 F x1 x4 x6 x7 (fun x4 x5 => bnd (opLoadN 3 x4) fun r0 => tupK [r0, x5])) (ir_Point_r12 F x0 x1 x4 x6 x8 x20 x21 x32 x33 (fun x0 x1 x4 x6 x20 x21 x32 x33 => ir_Point_r13 F x0 x1 x4 x6 x20 x21 x32 x33 (fun x0 x1 x4 x6 x20 x21 x32 x33 => A3 x0 x1 x4 x6 x20 x21 x32 x33))))))) (E3_2 x0 x1 x4 x20 x21))

def ir_Point_l3 (F : Nat) (E3_2 : Value → Value → Value → Value → Value → M Value) : Nat → Value → Value → Value → Value → Value → Value → Value → Value → M Value
  | 0, _, _, _, _, _, _, _, _ => fail
  | k3 + 1, x0, x1, x4, x6, x20, x21, x32, x33 => ir_Point_b3 F E3_2 (ir_Point_l3 F E3_2 k3) x0 x1 x4 x6 x20 x21 x32 x33

theorem ir_Point_l3_s (F : Nat) (E3_2 : Value → Value → Value → Value → Value → M Value) (k3 : Nat) (x0 x1 x4 x6 x20 x21 x32 x33 : Value) : ir_Point_l3 F E3_2 (k3 + 1) x0 x1 x4 x6 x20 x21 x32 x33 = ir_Point_b3 F E3_2 (ir_Point_l3 F E3_2 k3) x0 x1 x4 x6 x20 x21 x32 x33 := rfl

def ir_Point_r6 (F : Nat) (x0 x1 x4 x6 x20 x21 : Value) (K : Value → Value → Value → Value → Value → Value → Value → Value → M Value) : M Value :=
  bnd (opNil x0) fun v25 => bnd (opFieldAddr 4 v25) fun v26 => bnd (opLoad v26) fun v27 => bnd (opIndexAddr 3 v27 x6) fun v29 => bnd (opFieldAddr 2 v29) fun v30 => bnd (opLoad v30) fun v31 => bnd (opLen v31) fun v32 => K x0 x1 x4 x6 x20 x21 v32 (.int .i64 (0))

theorem ir_Point_r6_ok (F : Nat) (x0 x1 x4 x6 x20 x21 : Value) (K : Value → Value → Value → Value → Value → Value → Value → Value → M Value) : ir_Point_r6 F x0 x1 x4 x6 x20 x21 K = ir_Point_R F 6 [(21, x21), (20, x20), (6, x6), (4, x4), (1, x1), (0, x0)] [0, 1, 4, 6, 20, 21, 32, 33] K := by kernel_rfl

def ir_Point_r5 (F : Nat) (x0 x1 x4 x20 x21 : Value) (K : Value → Value → Value → Value → Value → Value → M Value) : M Value :=
  K x0 x1 x4 x21 x20 x21

theorem ir_Point_r5_ok (F : Nat) (x0 x1 x4 x20 x21 : Value) (K : Value → Value → Value → Value → Value → Value → M Value) : ir_Point_r5 F x0 x1 x4 x20 x21 K = ir_Point_R F 5 [(21, x21), (20, x20), (4, x4), (1, x1), (0, x0)] [0, 1, 4, 6, 20, 21] K := by kernel_rfl

def ir_Point_r4 (F : Nat) (x0 x1 x4 x20 x21 : Value) (K : Value → Value → Value → Value → Value → Value → M Value) : M Value :=
  bnd (opBin .lss x21 x20) fun v22 => K x0 x1 x4 x20 x21 v22

theorem ir_Point_r4_ok (F : Nat) (x0 x1 x4 x20 x21 : Value) (K : Value → Value → Value → Value → Value → Value → M Value) : ir_Point_r4 F x0 x1 x4 x20 x21 K = ir_Point_R F 4 [(21, x21), (20, x20), (4, x4), (1, x1), (0, x0)] [0, 1, 4, 20, 21, 22] K := by kernel_rfl

def ir_Point_b1 (F : Nat) (E1_0 : Value → M Value) (A1 : Value → Value → Value → Value → Value → M Value) (x0 x1 x4 x20 x21 : Value) : M Value :=
  ir_Point_r4 F x0 x1 x4 x20 x21 (fun x0 x1 x4 x20 x21 x22 => onB x22 (ir_Point_r5 F x0 x1 x4 x20 x21 (fun x0 x1 x4 x6 x20 x21 => ir_Point_r6 F x0 x1 x4 x6 x20 x21 (fun x0 x1 x4 x6 x20 x21 x32 x33 => ir_Point_l3 F (fun x0 x1 x4 x20 x21 => ir_Point_k2 F A1 x0 x1 x4 x20 x21) F x0 x1 x4 x6 x20 x21 x32 x33))) (E1_0 x4))

def ir_Point_l1 (F : Nat) (E1_0 : Value → M Value) : Nat → Value → Value → Value → Value → Value → M Value
  | 0, _, _, _, _, _ => fail
  | k1 + 1, x0, x1, x4, x20, x21 => ir_Point_b1 F E1_0 (ir_Point_l1 F E1_0 k1) x0 x1 x4 x20 x21

theorem ir_Point_l1_s (F : Nat) (E1_0 : Value → M Value) (k1 : Nat) (x0 x1 x4 x20 x21 : Value) : ir_Point_l1 F E1_0 (k1 + 1) x0 x1 x4 x20 x21 = ir_Point_b1 F E1_0 (ir_Point_l1 F E1_0 k1) x0 x1 x4 x20 x21 := rfl

def ir_Point_r3 (F : Nat) (x0 x1 x4 : Value) (K : Value → Value → Value → Value → Value → M Value) : M Value :=
  bnd (opNil x0) fun v17 => bnd (opFieldAddr 4 v17) fun v18 => bnd (opLoad v18) fun v19 => bnd (opLen v19) fun v20 => K x0 x1 x4 v20 (.int .i64 (0))

theorem ir_Point_r3_ok (F : Nat) (x0 x1 x4 : Value) (K : Value → Value → Value → Value → Value → M Value) : ir_Point_r3 F x0 x1 x4 K = ir_Point_R F 3 [(4, x4), (1, x1), (0, x0)] [0, 1, 4, 20, 21] K := by kernel_rfl

def ir_Point_r2 (F : Nat) (x4 : Value) (K : Value → Value → M Value) : M Value :=
  bnd (opBuild [(.int .i64 (0)), (.int .i64 (0)), (.int .i64 (0))] []) fun v15 => bnd (opStoreN 3 x4 v15) fun _ => K x4 (.bool false)

theorem ir_Point_r2_ok (F : Nat) (x4 : Value) (K : Value → Value → M Value) : ir_Point_r2 F x4 K = ir_Point_R F 2 [(4, x4)] [4, 5] K := by kernel_rfl

def ir_Point_r1 (F : Nat) (x0 x1 x4 : Value) (K : Value → Value → Value → Value → M Value) : M Value :=
  bnd (opEq eqP false x0 (.pointer none)) fun v10 => onB v10 (K x0 x1 x4 (.bool true)) (bnd (opBin .lss x1 (.int .i64 (0))) fun v13 => K x0 x1 x4 v13)

theorem ir_Point_r1_ok (F : Nat) (x0 x1 x4 : Value) (K : Value → Value → Value → Value → M Value) : ir_Point_r1 F x0 x1 x4 K = ir_Point_R F 1 [(4, x4), (1, x1), (0, x0)] [0, 1, 4, 14] K := by kernel_rfl

def ir_Point_r0 (F : Nat) (x0 x1 : Value) (K : Value → Value → Value → M Value) : M Value :=
  bnd (opPtr [(.int .i64 (0)), (.int .i64 (0)), (.int .i64 (0))]) fun v4 => K x0 x1 v4

theorem ir_Point_r0_ok (F : Nat) (x0 x1 : Value) (K : Value → Value → Value → M Value) : ir_Point_r0 F x0 x1 K = ir_Point_R F 0 [(1, x1), (0, x0)] [0, 1, 4] K := by kernel_rfl

def ir_Point (F : Nat) (x0 x1 : Value) : M Value :=
  ir_Point_r0 F x0 x1 (fun x0 x1 x4 => ir_Point_r1 F x0 x1 x4 (fun x0 x1 x4 x14 => onB x14 (ir_Point_r2 F x4 (fun x4 x5 => bnd (opLoadN 3 x4) fun r0 => tupK [r0, x5])) (ir_Point_r3 F x0 x1 x4 (fun x0 x1 x4 x20 x21 => ir_Point_l1 F (fun x4 => ir_Point_k0 F x4) F x0 x1 x4 x20 x21))))

def ir_Point_m (F : Nat) : List Value → M Value
  | [x0, x1] => ir_Point F x0 x1
  | _ => fail

theorem ir_Point_body : Try.f27.body = some (.seq (.region 0 (opsOf Try.f27 0) false) (.seq (.seq (.region 1 (opsOf Try.f27 1) false) (.cond (.tmp 14) (.seq (.region 2 (opsOf Try.f27 2) false) .ret) .skip)) (.seq (.seq (.region 3 (opsOf Try.f27 3) false) (.block 0 (.loop (.seq (.region 4 (opsOf Try.f27 4) false) (.seq (.cond (.tmp 22) .skip (.exit 0)) (.seq (.block 1 (.seq (.region 5 (opsOf Try.f27 5) false) (.seq (.region 6 (opsOf Try.f27 6) false) (.block 2 (.loop (.seq (.region 7 (opsOf Try.f27 7) false) (.seq (.cond (.tmp 34) .skip (.exit 2)) (.seq (.block 3 (.seq (.region 8 (opsOf Try.f27 8) false) (.seq (.region 9 (opsOf Try.f27 9) false) (.seq (.seq (.region 10 (opsOf Try.f27 10) false) (.cond (.tmp 52) (.seq (.region 11 (opsOf Try.f27 11) false) .ret) .skip)) (.region 12 (opsOf Try.f27 12) false))))) (.region 13 (opsOf Try.f27 13) false))))))))) (.region 14 (opsOf Try.f27 14) false))))))) (.seq (.region 15 (opsOf Try.f27 15) false) .ret)))) := by kernel_rfl

theorem ir_Point_ok (F : Nat) : Sim Try.prog TryG 27 (ir_Point_m F) := by
 have hE : EnvOK Try.prog TryG (ir_Point_env F) := EnvOK.nil
 refine Sim.of_body (E := ir_Point_env F) Try.func27 ir_Point_body Try.call27 ?_ ?_
 · intro args hl; unfold ir_Point_m; split
   · exact absurd hl (Nat.not_lt.2 (Nat.le_of_ble_eq_true rfl))
   · rfl
 · intro args ρ h w z; unfold ir_Point_m; split
   · rename_i x0 x1; show OKc _ _ [(0, x0), (1, x1)] _ _
     refine rSeq ?_
     refine cLess [1, 0] ?_
     refine xR hE [0, 1, 4] rfl (ir_Point_r0_ok F _ _ _) ?_
     intro x0 x1 x4
     show OKq _ _ _ [(4, x4), (1, x1), (0, x0)] _
     refine rThen ?_
     refine rSeq ?_
     refine rSeq ?_
     refine cLess [4, 1, 0] ?_
     refine xR hE [0, 1, 4, 14] rfl (ir_Point_r1_ok F _ _ _ _) ?_
     intro x0 x1 x4 x14
     show OKq _ _ _ [(14, x14), (4, x4), (1, x1), (0, x0)] _
     refine rThen ?_
     refine xCond rfl rfl ?_ ?_
     · refine rSeq ?_
       refine cLess [4] ?_
       refine xR hE [4, 5] rfl (ir_Point_r2_ok F _ _) ?_
       intro x4 x5
       show OKq _ _ _ [(5, x5), (4, x4)] _
       refine rThen ?_
       refine rRet ?_
       refine xThenR ?_
       exact rDone (.inr rfl) rfl
     · refine rSkip ?_
       refine rThen ?_
       refine xSeq [4] (ir_Point_k0 F ) ?_ fun hj0 => ?_
       · intro x4
         show OKc _ _ [(4, x4)] _ _
         refine rSeq ?_
         refine cLess [4] ?_
         refine xR hE [4, 5] rfl (ir_Point_r15_ok F _ _) ?_
         intro x4 x5
         show OKq _ _ _ [(5, x5), (4, x4)] _
         refine rThen ?_
         refine rRet ?_
         exact rDone (.inr rfl) rfl
       · refine rSeq ?_
         refine cLess [4, 1, 0] ?_
         refine xR hE [0, 1, 4, 20, 21] rfl (ir_Point_r3_ok F _ _ _ _) ?_
         intro x0 x1 x4 x20 x21
         show OKq _ _ _ [(21, x21), (20, x20), (4, x4), (1, x1), (0, x0)] _
         refine rThen ?_
         refine rBlock ?_
         refine cLess [21, 20, 4, 1, 0] ?_
         refine xLoopAt [0, 1, 4, 20, 21] [] (fun k1 => ir_Point_l1 F (fun x4 => ir_Point_k0 F x4) k1) F [x0, x1, x4, x20, x21] rfl rfl (fun _ _ _ _ _ => rfl) fun I hI1 k1 => ?_
         intro x0 x1 x4 x20 x21
         show OKc _ _ [(21, x21), (20, x20), (4, x4), (1, x1), (0, x0)] _ _
         refine cAs (ir_Point_l1_s F _ _ _ _ _ _ _) ?_
         refine rSeq ?_
         refine cLess [21, 20, 4, 1, 0] ?_
         refine xR hE [0, 1, 4, 20, 21, 22] rfl (ir_Point_r4_ok F _ _ _ _ _ _) ?_
         intro x0 x1 x4 x20 x21 x22
         show OKq _ _ _ [(22, x22), (21, x21), (20, x20), (4, x4), (1, x1), (0, x0)] _
         refine rThen ?_
         refine rSeq ?_
         refine xCond rfl rfl ?_ ?_
         · refine rSkip ?_
           refine rThen ?_
           refine xSeq [0, 1, 4, 20, 21] (ir_Point_k2 F (ir_Point_l1 F (fun x4 => ir_Point_k0 F x4) k1) ) ?_ fun hj2 => ?_
           · intro x0 x1 x4 x20 x21
             show OKc _ _ [(21, x21), (20, x20), (4, x4), (1, x1), (0, x0)] _ _
             refine cLess [21, 20, 4, 1, 0] ?_
             refine xR hE [0, 1, 4, 20, 21] rfl (ir_Point_r14_ok F _ _ _ _ _ _) ?_
             intro x0 x1 x4 x20 x21
             show OKq _ _ _ [(21, x21), (20, x20), (4, x4), (1, x1), (0, x0)] _
             exact qLess [21, 20, 4, 1, 0] (hI1 k1 x0 x1 x4 x20 x21)
           · refine rBlock ?_
             refine rSeq ?_
             refine cLess [21, 20, 4, 1, 0] ?_
             refine xR hE [0, 1, 4, 6, 20, 21] rfl (ir_Point_r5_ok F _ _ _ _ _ _) ?_
             intro x0 x1 x4 x6 x20 x21
             show OKq _ _ _ [(21, x21), (20, x20), (6, x6), (4, x4), (1, x1), (0, x0)] _
             refine rThen ?_
             refine rSeq ?_
             refine cLess [21, 20, 6, 4, 1, 0] ?_
             refine xR hE [0, 1, 4, 6, 20, 21, 32, 33] rfl (ir_Point_r6_ok F _ _ _ _ _ _ _) ?_
             intro x0 x1 x4 x6 x20 x21 x32 x33
             show OKq _ _ _ [(33, x33), (32, x32), (21, x21), (20, x20), (6, x6), (4, x4), (1, x1), (0, x0)] _
             refine rThen ?_
             refine rBlock ?_
             refine cLess [33, 32, 21, 20, 6, 4, 1, 0] ?_
             refine xLoopAt [0, 1, 4, 6, 20, 21, 32, 33] [] (fun k3 => ir_Point_l3 F (fun x0 x1 x4 x20 x21 => ir_Point_k2 F (ir_Point_l1 F (fun x4 => ir_Point_k0 F x4) k1) x0 x1 x4 x20 x21) k3) F [x0, x1, x4, x6, x20, x21, x32, x33] rfl rfl (fun _ _ _ _ _ _ _ _ => rfl) fun I hI3 k3 => ?_
             intro x0 x1 x4 x6 x20 x21 x32 x33
             show OKc _ _ [(33, x33), (32, x32), (21, x21), (20, x20), (6, x6), (4, x4), (1, x1), (0, x0)] _ _
             refine cAs (ir_Point_l3_s F _ _ _ _ _ _ _ _ _ _) ?_
             refine rSeq ?_
             refine cLess [33, 32, 21, 20, 6, 4, 1, 0] ?_
             refine xR hE [0, 1, 4, 6, 20, 21, 32, 33, 34] rfl (ir_Point_r7_ok F _ _ _ _ _ _ _ _ _) ?_
             intro x0 x1 x4 x6 x20 x21 x32 x33 x34
             show OKq _ _ _ [(34, x34), (33, x33), (32, x32), (21, x21), (20, x20), (6, x6), (4, x4), (1, x1), (0, x0)] _
             refine rThen ?_
             refine rSeq ?_
             refine xCond rfl rfl ?_ ?_
             · refine rSkip ?_
               refine rThen ?_
               refine rSeq ?_
               refine rBlock ?_
               refine rSeq ?_
               refine cLess [33, 32, 21, 20, 6, 4, 1, 0] ?_
               refine xR hE [0, 1, 4, 6, 7, 20, 21, 32, 33] rfl (ir_Point_r8_ok F _ _ _ _ _ _ _ _ _) ?_
               intro x0 x1 x4 x6 x7 x20 x21 x32 x33
               show OKq _ _ _ [(33, x33), (32, x32), (21, x21), (20, x20), (7, x7), (6, x6), (4, x4), (1, x1), (0, x0)] _
               refine rThen ?_
               refine rSeq ?_
               refine cLess [33, 32, 21, 20, 7, 6, 4, 1, 0] ?_
               refine xR hE [0, 1, 4, 6, 7, 8, 20, 21, 32, 33] rfl (ir_Point_r9_ok F _ _ _ _ _ _ _ _ _ _) ?_
               intro x0 x1 x4 x6 x7 x8 x20 x21 x32 x33
               show OKq _ _ _ [(33, x33), (32, x32), (21, x21), (20, x20), (8, x8), (7, x7), (6, x6), (4, x4), (1, x1), (0, x0)] _
               refine rThen ?_
               refine rSeq ?_
               refine rSeq ?_
               refine cLess [33, 32, 21, 20, 8, 7, 6, 4, 1, 0] ?_
               refine xR hE [0, 1, 4, 6, 7, 8, 20, 21, 32, 33, 52] rfl (ir_Point_r10_ok F _ _ _ _ _ _ _ _ _ _ _) ?_
               intro x0 x1 x4 x6 x7 x8 x20 x21 x32 x33 x52
               show OKq _ _ _ [(52, x52), (33, x33), (32, x32), (21, x21), (20, x20), (8, x8), (7, x7), (6, x6), (4, x4), (1, x1), (0, x0)] _
               refine rThen ?_
               refine xCond rfl rfl ?_ ?_
               · refine rSeq ?_
                 refine cLess [7, 6, 4, 1] ?_
                 refine xR hE [4, 5] rfl (ir_Point_r11_ok F _ _ _ _ _) ?_
                 intro x4 x5
                 show OKq _ _ _ [(5, x5), (4, x4)] _
                 refine rThen ?_
                 refine rRet ?_
                 refine xThenR ?_
                 refine xBlockR ?_
                 refine xThenR ?_
                 refine xThenR ?_
                 refine xBlockR ?_
                 refine xBlockR ?_
                 refine xThenR ?_
                 refine xThenR ?_
                 refine xBlockR ?_
                 refine xThenR ?_
                 exact rDone (.inr rfl) rfl
               · refine rSkip ?_
                 refine rThen ?_
                 refine cLess [33, 32, 21, 20, 8, 6, 4, 1, 0] ?_
                 refine xR hE [0, 1, 4, 6, 20, 21, 32, 33] rfl (ir_Point_r12_ok F _ _ _ _ _ _ _ _ _ _) ?_
                 intro x0 x1 x4 x6 x20 x21 x32 x33
                 show OKq _ _ _ [(33, x33), (32, x32), (21, x21), (20, x20), (6, x6), (4, x4), (1, x1), (0, x0)] _
                 refine xBlockN ?_
                 refine rThen ?_
                 refine cLess [33, 32, 21, 20, 6, 4, 1, 0] ?_
                 refine xR hE [0, 1, 4, 6, 20, 21, 32, 33] rfl (ir_Point_r13_ok F _ _ _ _ _ _ _ _ _) ?_
                 intro x0 x1 x4 x6 x20 x21 x32 x33
                 show OKq _ _ _ [(33, x33), (32, x32), (21, x21), (20, x20), (6, x6), (4, x4), (1, x1), (0, x0)] _
                 exact qLess [33, 32, 21, 20, 6, 4, 1, 0] (hI3 k3 x0 x1 x4 x6 x20 x21 x32 x33)
             · refine rExit ?_
               refine xThenX ?_
               refine xThenX ?_
               refine rOut ?_
               refine xBlockN ?_
               exact qLess [21, 20, 4, 1, 0] (hj2 x0 x1 x4 x20 x21)
         · refine rExit ?_
           refine xThenX ?_
           refine xThenX ?_
           refine rOut ?_
           exact qLess [4] (hj0 x4)
   · exact rFail


/-! ### haruspex/haruspexref8.Points -/

def R8_Points_env (F : Nat) : Env := envOf []

noncomputable def R8_Points_R (F : Nat) := rK Try.prog TryG (R8_Points_env F) Try.f32
noncomputable def R8_Points_D (F : Nat) := dK Try.prog TryG (R8_Points_env F) Try.f32

def R8_Points_r12 (F : Nat) (x3 : Value) (K : Value → M Value) : M Value :=
  K x3

theorem R8_Points_r12_ok (F : Nat) (x3 : Value) (K : Value → M Value) : R8_Points_r12 F x3 K = R8_Points_R F 12 [(3, x3)] [2] K := by kernel_rfl

def R8_Points_k0 (F : Nat) (x3 : Value) : M Value :=
  R8_Points_r12 F x3 (fun x2 => ret x2)

def R8_Points_r4 (F : Nat) (x0 x3 x4 : Value) (K : Value → Value → Value → M Value) : M Value :=
  bnd (opBin .add x4 (.int .i64 (1))) fun v15 => K x0 x3 v15

theorem R8_Points_r4_ok (F : Nat) (x0 x3 x4 : Value) (K : Value → Value → Value → M Value) : R8_Points_r4 F x0 x3 x4 K = R8_Points_R F 4 [(4, x4), (3, x3), (0, x0)] [0, 3, 4] K := by kernel_rfl

def R8_Points_k2 (F : Nat) (A1 : Value → Value → Value → M Value) (x0 x3 x4 : Value) : M Value :=
  R8_Points_r4 F x0 x3 x4 (fun x0 x3 x4 => A1 x0 x3 x4)

def R8_Points_r7 (F : Nat) (x0 x3 x4 x5 : Value) (K : Value → Value → Value → Value → M Value) : M Value :=
  bnd (opBin .add x5 (.int .i64 (1))) fun v28 => K x0 x3 x4 v28

theorem R8_Points_r7_ok (F : Nat) (x0 x3 x4 x5 : Value) (K : Value → Value → Value → Value → M Value) : R8_Points_r7 F x0 x3 x4 x5 K = R8_Points_R F 7 [(5, x5), (4, x4), (3, x3), (0, x0)] [0, 3, 4, 5] K := by kernel_rfl

def R8_Points_k4 (F : Nat) (A3 : Value → Value → Value → Value → M Value) (x0 x3 x4 x5 : Value) : M Value :=
  R8_Points_r7 F x0 x3 x4 x5 (fun x0 x3 x4 x5 => A3 x0 x3 x4 x5)

def R8_Points_r10 (F : Nat) (x0 x3 x4 x5 x6 : Value) (K : Value → Value → Value → Value → Value → M Value) : M Value :=
  bnd (opBin .add x6 (.int .i64 (1))) fun v45 => K x0 x3 x4 x5 v45

theorem R8_Points_r10_ok (F : Nat) (x0 x3 x4 x5 x6 : Value) (K : Value → Value → Value → Value → Value → M Value) : R8_Points_r10 F x0 x3 x4 x5 x6 K = R8_Points_R F 10 [(6, x6), (5, x5), (4, x4), (3, x3), (0, x0)] [0, 3, 4, 5, 6] K := by kernel_rfl

def R8_Points_r11 (F : Nat) (x0 x3 x4 x5 x6 : Value) (K : Value → Value → Value → Value → Value → M Value) : M Value :=
  bnd (opBuild [(.int .i64 (0)), (.int .i64 (0)), (.int .i64 (0))] [(0, 1, false, x4), (1, 1, false, x5), (2, 1, false, x6)]) fun v50 => bnd (opBuildSlice 1 (rep 1 [(.int .i64 (0)), (.int .i64 (0)), (.int .i64 (0))]) [(0, 3, true, v50)]) fun v51 => bnd (opAppend 3 24 x3 v51) fun v52 => K x0 v52 x4 x5 x6

theorem R8_Points_r11_ok (F : Nat) (x0 x3 x4 x5 x6 : Value) (K : Value → Value → Value → Value → Value → M Value) : R8_Points_r11 F x0 x3 x4 x5 x6 K = R8_Points_R F 11 [(6, x6), (5, x5), (4, x4), (3, x3), (0, x0)] [0, 3, 4, 5, 6] K := by kernel_rfl

def R8_Points_r9 (F : Nat) (x0 x3 x4 x5 x6 : Value) (K : Value → Value → Value → Value → Value → Value → M Value) : M Value :=
  bnd (opNil x0) fun v31 => bnd (opFieldAddr 4 v31) fun v32 => bnd (opLoad v32) fun v33 => bnd (opIndexAddr 3 v33 x4) fun v35 => bnd (opFieldAddr 2 v35) fun v36 => bnd (opLoad v36) fun v37 => bnd (opIndexAddr 5 v37 x5) fun v39 => bnd (opFieldAddr 0 v39) fun v40 => bnd (opLoad v40) fun v41 => bnd (opLen v41) fun v42 => bnd (opBin .leq x6 v42) fun v43 => K x0 x3 x4 x5 x6 v43

theorem R8_Points_r9_ok (F : Nat) (x0 x3 x4 x5 x6 : Value) (K : Value → Value → Value → Value → Value → Value → M Value) : R8_Points_r9 F x0 x3 x4 x5 x6 K = R8_Points_R F 9 [(6, x6), (5, x5), (4, x4), (3, x3), (0, x0)] [0, 3, 4, 5, 6, 43] K := by kernel_rfl

def R8_Points_b5 (F : Nat) (E5_4 : Value → Value → Value → Value → M Value) (A5 : Value → Value → Value → Value → Value → M Value) (x0 x3 x4 x5 x6 : Value) : M Value :=
  R8_Points_r9 F x0 x3 x4 x5 x6 (fun x0 x3 x4 x5 x6 x43 => onB x43 (R8_Points_r11 F x0 x3 x4 x5 x6 (fun x0 x3 x4 x5 x6 => R8_Points_r10 F x0 x3 x4 x5 x6 (fun x0 x3 x4 x5 x6 => A5 x0 x3 x4 x5 x6))) (E5_4 x0 x3 x4 x5))

def R8_Points_l5 (F : Nat) (E5_4 : Value → Value → Value → Value → M Value) : Nat → Value → Value → Value → Value → Value → M Value
  | 0, _, _, _, _, _ => fail
  | k5 + 1, x0, x3, x4, x5, x6 => R8_Points_b5 F E5_4 (R8_Points_l5 F E5_4 k5) x0 x3 x4 x5 x6

theorem R8_Points_l5_s (F : Nat) (E5_4 : Value → Value → Value → Value → M Value) (k5 : Nat) (x0 x3 x4 x5 x6 : Value) : R8_Points_l5 F E5_4 (k5 + 1) x0 x3 x4 x5 x6 = R8_Points_b5 F E5_4 (R8_Points_l5 F E5_4 k5) x0 x3 x4 x5 x6 := rfl

def R8_Points_r8 (F : Nat) (x0 x3 x4 x5 : Value) (K : Value → Value → Value → Value → Value → M Value) : M Value :=
  K x0 x3 x4 x5 (.int .i64 (0))

theorem R8_Points_r8_ok (F : Nat) (x0 x3 x4 x5 : Value) (K : Value → Value → Value → Value → Value → M Value) : R8_Points_r8 F x0 x3 x4 x5 K = R8_Points_R F 8 [(5, x5), (4, x4), (3, x3), (0, x0)] [0, 3, 4, 5, 6] K := by kernel_rfl

def R8_Points_r6 (F : Nat) (x0 x3 x4 x5 : Value) (K : Value → Value → Value → Value → Value → M Value) : M Value :=
  bnd (opNil x0) fun v18 => bnd (opFieldAddr 4 v18) fun v19 => bnd (opLoad v19) fun v20 => bnd (opIndexAddr 3 v20 x4) fun v22 => bnd (opFieldAddr 2 v22) fun v23 => bnd (opLoad v23) fun v24 => bnd (opLen v24) fun v25 => bnd (opBin .lss x5 v25) fun v26 => K x0 x3 x4 x5 v26

theorem R8_Points_r6_ok (F : Nat) (x0 x3 x4 x5 : Value) (K : Value → Value → Value → Value → Value → M Value) : R8_Points_r6 F x0 x3 x4 x5 K = R8_Points_R F 6 [(5, x5), (4, x4), (3, x3), (0, x0)] [0, 3, 4, 5, 26] K := by kernel_rfl

def R8_Points_b3 (F : Nat) (E3_2 : Value → Value → Value → M Value) (A3 : Value → Value → Value → Value → M Value) (x0 x3 x4 x5 : Value) : M Value :=
  R8_Points_r6 F x0 x3 x4 x5 (fun x0 x3 x4 x5 x26 => onB x26 (R8_Points_r8 F x0 x3 x4 x5 (fun x0 x3 x4 x5 x6 => R8_Points_l5 F (fun x0 x3 x4 x5 => R8_Points_k4 F A3 x0 x3 x4 x5) F x0 x3 x4 x5 x6)) (E3_2 x0 x3 x4))

def R8_Points_l3 (F : Nat) (E3_2 : Value → Value → Value → M Value) : Nat → Value → Value → Value → Value → M Value
  | 0, _, _, _, _ => fail
  | k3 + 1, x0, x3, x4, x5 => R8_Points_b3 F E3_2 (R8_Points_l3 F E3_2 k3) x0 x3 x4 x5

theorem R8_Points_l3_s (F : Nat) (E3_2 : Value → Value → Value → M Value) (k3 : Nat) (x0 x3 x4 x5 : Value) : R8_Points_l3 F E3_2 (k3 + 1) x0 x3 x4 x5 = R8_Points_b3 F E3_2 (R8_Points_l3 F E3_2 k3) x0 x3 x4 x5 := rfl

def R8_Points_r5 (F : Nat) (x0 x3 x4 : Value) (K : Value → Value → Value → Value → M Value) : M Value :=
  K x0 x3 x4 (.int .i64 (0))

theorem R8_Points_r5_ok (F : Nat) (x0 x3 x4 : Value) (K : Value → Value → Value → Value → M Value) : R8_Points_r5 F x0 x3 x4 K = R8_Points_R F 5 [(4, x4), (3, x3), (0, x0)] [0, 3, 4, 5] K := by kernel_rfl

def R8_Points_r3 (F : Nat) (x0 x3 x4 : Value) (K : Value → Value → Value → Value → M Value) : M Value :=
  bnd (opNil x0) fun v9 => bnd (opFieldAddr 4 v9) fun v10 => bnd (opLoad v10) fun v11 => bnd (opLen v11) fun v12 => bnd (opBin .lss x4 v12) fun v13 => K x0 x3 x4 v13

theorem R8_Points_r3_ok (F : Nat) (x0 x3 x4 : Value) (K : Value → Value → Value → Value → M Value) : R8_Points_r3 F x0 x3 x4 K = R8_Points_R F 3 [(4, x4), (3, x3), (0, x0)] [0, 3, 4, 13] K := by kernel_rfl

def R8_Points_b1 (F : Nat) (E1_0 : Value → M Value) (A1 : Value → Value → Value → M Value) (x0 x3 x4 : Value) : M Value :=
  R8_Points_r3 F x0 x3 x4 (fun x0 x3 x4 x13 => onB x13 (R8_Points_r5 F x0 x3 x4 (fun x0 x3 x4 x5 => R8_Points_l3 F (fun x0 x3 x4 => R8_Points_k2 F A1 x0 x3 x4) F x0 x3 x4 x5)) (E1_0 x3))

def R8_Points_l1 (F : Nat) (E1_0 : Value → M Value) : Nat → Value → Value → Value → M Value
  | 0, _, _, _ => fail
  | k1 + 1, x0, x3, x4 => R8_Points_b1 F E1_0 (R8_Points_l1 F E1_0 k1) x0 x3 x4

theorem R8_Points_l1_s (F : Nat) (E1_0 : Value → M Value) (k1 : Nat) (x0 x3 x4 : Value) : R8_Points_l1 F E1_0 (k1 + 1) x0 x3 x4 = R8_Points_b1 F E1_0 (R8_Points_l1 F E1_0 k1) x0 x3 x4 := rfl

def R8_Points_r2 (F : Nat) (x0 x3 : Value) (K : Value → Value → Value → M Value) : M Value :=
  K x0 x3 (.int .i64 (0))

theorem R8_Points_r2_ok (F : Nat) (x0 x3 : Value) (K : Value → Value → Value → M Value) : R8_Points_r2 F x0 x3 K = R8_Points_R F 2 [(3, x3), (0, x0)] [0, 3, 4] K := by kernel_rfl

def R8_Points_r1 (F : Nat) (x0 : Value) (K : Value → Value → M Value) : M Value :=
  K x0 (.slice none 0 0)

theorem R8_Points_r1_ok (F : Nat) (x0 : Value) (K : Value → Value → M Value) : R8_Points_r1 F x0 K = R8_Points_R F 1 [(0, x0)] [0, 3] K := by kernel_rfl

def R8_Points_r0 (F : Nat) (x0 : Value) (K : Value → M Value) : M Value :=
  K x0

theorem R8_Points_r0_ok (F : Nat) (x0 : Value) (K : Value → M Value) : R8_Points_r0 F x0 K = R8_Points_R F 0 [(0, x0)] [0] K := by kernel_rfl

def R8_Points (F : Nat) (x0 : Value) : M Value :=
  R8_Points_r0 F x0 (fun x0 => R8_Points_r1 F x0 (fun x0 x3 => R8_Points_r2 F x0 x3 (fun x0 x3 x4 => R8_Points_l1 F (fun x3 => R8_Points_k0 F x3) F x0 x3 x4)))

def R8_Points_m (F : Nat) : List Value → M Value
  | [x0] => R8_Points F x0
  | _ => fail

theorem R8_Points_body : Try.f32.body = some (.seq (.region 0 (opsOf Try.f32 0) false) (.seq (.region 1 (opsOf Try.f32 1) false) (.seq (.seq (.region 2 (opsOf Try.f32 2) false) (.block 0 (.loop (.seq (.seq (.region 3 (opsOf Try.f32 3) false) (.cond (.tmp 13) .skip (.exit 0))) (.seq (.block 1 (.seq (.region 5 (opsOf Try.f32 5) false) (.block 2 (.loop (.seq (.seq (.region 6 (opsOf Try.f32 6) false) (.cond (.tmp 26) .skip (.exit 2))) (.seq (.block 3 (.seq (.region 8 (opsOf Try.f32 8) false) (.block 4 (.loop (.seq (.seq (.region 9 (opsOf Try.f32 9) false) (.cond (.tmp 43) .skip (.exit 4))) (.seq (.block 5 (.region 11 (opsOf Try.f32 11) false)) (.region 10 (opsOf Try.f32 10) false))))))) (.region 7 (opsOf Try.f32 7) false))))))) (.region 4 (opsOf Try.f32 4) false)))))) (.seq (.region 12 (opsOf Try.f32 12) false) .ret)))) := by kernel_rfl

theorem R8_Points_ok (F : Nat) : Sim Try.prog TryG 32 (R8_Points_m F) := by
 have hE : EnvOK Try.prog TryG (R8_Points_env F) := EnvOK.nil
 refine Sim.of_body (E := R8_Points_env F) Try.func32 R8_Points_body Try.call32 ?_ ?_
 · intro args hl; unfold R8_Points_m; split
   · exact absurd hl (Nat.not_lt.2 (Nat.le_of_ble_eq_true rfl))
   · rfl
 · intro args ρ h w z; unfold R8_Points_m; split
   · rename_i x0; show OKc _ _ [(0, x0)] _ _
     refine rSeq ?_
     refine cLess [0] ?_
     refine xR hE [0] rfl (R8_Points_r0_ok F _ _) ?_
     intro x0
     show OKq _ _ _ [(0, x0)] _
     refine rThen ?_
     refine rSeq ?_
     refine cLess [0] ?_
     refine xR hE [0, 3] rfl (R8_Points_r1_ok F _ _) ?_
     intro x0 x3
     show OKq _ _ _ [(3, x3), (0, x0)] _
     refine rThen ?_
     refine xSeq [3] (R8_Points_k0 F ) ?_ fun hj0 => ?_
     · intro x3
       show OKc _ _ [(3, x3)] _ _
       refine rSeq ?_
       refine cLess [3] ?_
       refine xR hE [2] rfl (R8_Points_r12_ok F _ _) ?_
       intro x2
       show OKq _ _ _ [(2, x2)] _
       refine rThen ?_
       refine rRet ?_
       exact rDone (.inr rfl) rfl
     · refine rSeq ?_
       refine cLess [3, 0] ?_
       refine xR hE [0, 3, 4] rfl (R8_Points_r2_ok F _ _ _) ?_
       intro x0 x3 x4
       show OKq _ _ _ [(4, x4), (3, x3), (0, x0)] _
       refine rThen ?_
       refine rBlock ?_
       refine cLess [4, 3, 0] ?_
       refine xLoopAt [0, 3, 4] [] (fun k1 => R8_Points_l1 F (fun x3 => R8_Points_k0 F x3) k1) F [x0, x3, x4] rfl rfl (fun _ _ _ => rfl) fun I hI1 k1 => ?_
       intro x0 x3 x4
       show OKc _ _ [(4, x4), (3, x3), (0, x0)] _ _
       refine cAs (R8_Points_l1_s F _ _ _ _ _) ?_
       refine rSeq ?_
       refine rSeq ?_
       refine cLess [4, 3, 0] ?_
       refine xR hE [0, 3, 4, 13] rfl (R8_Points_r3_ok F _ _ _ _) ?_
       intro x0 x3 x4 x13
       show OKq _ _ _ [(13, x13), (4, x4), (3, x3), (0, x0)] _
       refine rThen ?_
       refine xCond rfl rfl ?_ ?_
       · refine rSkip ?_
         refine rThen ?_
         refine xSeq [0, 3, 4] (R8_Points_k2 F (R8_Points_l1 F (fun x3 => R8_Points_k0 F x3) k1) ) ?_ fun hj2 => ?_
         · intro x0 x3 x4
           show OKc _ _ [(4, x4), (3, x3), (0, x0)] _ _
           refine cLess [4, 3, 0] ?_
           refine xR hE [0, 3, 4] rfl (R8_Points_r4_ok F _ _ _ _) ?_
           intro x0 x3 x4
           show OKq _ _ _ [(4, x4), (3, x3), (0, x0)] _
           exact qLess [4, 3, 0] (hI1 k1 x0 x3 x4)
         · refine rBlock ?_
           refine rSeq ?_
           refine cLess [4, 3, 0] ?_
           refine xR hE [0, 3, 4, 5] rfl (R8_Points_r5_ok F _ _ _ _) ?_
           intro x0 x3 x4 x5
           show OKq _ _ _ [(5, x5), (4, x4), (3, x3), (0, x0)] _
           refine rThen ?_
           refine rBlock ?_
           refine cLess [5, 4, 3, 0] ?_
           refine xLoopAt [0, 3, 4, 5] [] (fun k3 => R8_Points_l3 F (fun x0 x3 x4 => R8_Points_k2 F (R8_Points_l1 F (fun x3 => R8_Points_k0 F x3) k1) x0 x3 x4) k3) F [x0, x3, x4, x5] rfl rfl (fun _ _ _ _ => rfl) fun I hI3 k3 => ?_
           intro x0 x3 x4 x5
           show OKc _ _ [(5, x5), (4, x4), (3, x3), (0, x0)] _ _
           refine cAs (R8_Points_l3_s F _ _ _ _ _ _) ?_
           refine rSeq ?_
           refine rSeq ?_
           refine cLess [5, 4, 3, 0] ?_
           refine xR hE [0, 3, 4, 5, 26] rfl (R8_Points_r6_ok F _ _ _ _ _) ?_
           intro x0 x3 x4 x5 x26
           show OKq _ _ _ [(26, x26), (5, x5), (4, x4), (3, x3), (0, x0)] _
           refine rThen ?_
           refine xCond rfl rfl ?_ ?_
           · refine rSkip ?_
             refine rThen ?_
             refine xSeq [0, 3, 4, 5] (R8_Points_k4 F (R8_Points_l3 F (fun x0 x3 x4 => R8_Points_k2 F (R8_Points_l1 F (fun x3 => R8_Points_k0 F x3) k1) x0 x3 x4) k3) ) ?_ fun hj4 => ?_
             · intro x0 x3 x4 x5
               show OKc _ _ [(5, x5), (4, x4), (3, x3), (0, x0)] _ _
               refine cLess [5, 4, 3, 0] ?_
               refine xR hE [0, 3, 4, 5] rfl (R8_Points_r7_ok F _ _ _ _ _) ?_
               intro x0 x3 x4 x5
               show OKq _ _ _ [(5, x5), (4, x4), (3, x3), (0, x0)] _
               exact qLess [5, 4, 3, 0] (hI3 k3 x0 x3 x4 x5)
             · refine rBlock ?_
               refine rSeq ?_
               refine cLess [5, 4, 3, 0] ?_
               refine xR hE [0, 3, 4, 5, 6] rfl (R8_Points_r8_ok F _ _ _ _ _) ?_
               intro x0 x3 x4 x5 x6
               show OKq _ _ _ [(6, x6), (5, x5), (4, x4), (3, x3), (0, x0)] _
               refine rThen ?_
               refine rBlock ?_
               refine cLess [6, 5, 4, 3, 0] ?_
               refine xLoopAt [0, 3, 4, 5, 6] [] (fun k5 => R8_Points_l5 F (fun x0 x3 x4 x5 => R8_Points_k4 F (R8_Points_l3 F (fun x0 x3 x4 => R8_Points_k2 F (R8_Points_l1 F (fun x3 => R8_Points_k0 F x3) k1) x0 x3 x4) k3) x0 x3 x4 x5) k5) F [x0, x3, x4, x5, x6] rfl rfl (fun _ _ _ _ _ => rfl) fun I hI5 k5 => ?_
               intro x0 x3 x4 x5 x6
               show OKc _ _ [(6, x6), (5, x5), (4, x4), (3, x3), (0, x0)] _ _
               refine cAs (R8_Points_l5_s F _ _ _ _ _ _ _) ?_
               refine rSeq ?_
               refine rSeq ?_
               refine cLess [6, 5, 4, 3, 0] ?_
               refine xR hE [0, 3, 4, 5, 6, 43] rfl (R8_Points_r9_ok F _ _ _ _ _ _) ?_
               intro x0 x3 x4 x5 x6 x43
               show OKq _ _ _ [(43, x43), (6, x6), (5, x5), (4, x4), (3, x3), (0, x0)] _
               refine rThen ?_
               refine xCond rfl rfl ?_ ?_
               · refine rSkip ?_
                 refine rThen ?_
                 refine rSeq ?_
                 refine rBlock ?_
                 refine cLess [6, 5, 4, 3, 0] ?_
                 refine xR hE [0, 3, 4, 5, 6] rfl (R8_Points_r11_ok F _ _ _ _ _ _) ?_
                 intro x0 x3 x4 x5 x6
                 show OKq _ _ _ [(6, x6), (5, x5), (4, x4), (3, x3), (0, x0)] _
                 refine xBlockN ?_
                 refine rThen ?_
                 refine cLess [6, 5, 4, 3, 0] ?_
                 refine xR hE [0, 3, 4, 5, 6] rfl (R8_Points_r10_ok F _ _ _ _ _ _) ?_
                 intro x0 x3 x4 x5 x6
                 show OKq _ _ _ [(6, x6), (5, x5), (4, x4), (3, x3), (0, x0)] _
                 exact qLess [6, 5, 4, 3, 0] (hI5 k5 x0 x3 x4 x5 x6)
               · refine rExit ?_
                 refine xThenX ?_
                 refine xThenX ?_
                 refine rOut ?_
                 refine xBlockN ?_
                 exact qLess [5, 4, 3, 0] (hj4 x0 x3 x4 x5)
           · refine rExit ?_
             refine xThenX ?_
             refine xThenX ?_
             refine rOut ?_
             refine xBlockN ?_
             exact qLess [4, 3, 0] (hj2 x0 x3 x4)
       · refine rExit ?_
         refine xThenX ?_
         refine xThenX ?_
         refine rOut ?_
         exact qLess [3] (hj0 x3)
   · exact rFail


/-! ### haruspex/ir.Uses -/

def ir_Uses_env (F : Nat) : Env := envOf []

noncomputable def ir_Uses_R (F : Nat) := rK Try.prog TryG (ir_Uses_env F) Try.f34
noncomputable def ir_Uses_D (F : Nat) := dK Try.prog TryG (ir_Uses_env F) Try.f34

def ir_Uses_r17 (F : Nat) (x3 : Value) (K : Value → M Value) : M Value :=
  K x3

theorem ir_Uses_r17_ok (F : Nat) (x3 : Value) (K : Value → M Value) : ir_Uses_r17 F x3 K = ir_Uses_R F 17 [(3, x3)] [2] K := by kernel_rfl

def ir_Uses_k0 (F : Nat) (x3 : Value) : M Value :=
  ir_Uses_r17 F x3 (fun x2 => ret x2)

def ir_Uses_r16 (F : Nat) (x1 x3 : Value) (K : Value → M Value) : M Value :=
  bnd (opFieldAddr 5 x1) fun v38 => bnd (opLoad v38) fun v39 => bnd (opAppend 1 8 x3 v39) fun v40 => K v40

theorem ir_Uses_r16_ok (F : Nat) (x1 x3 : Value) (K : Value → M Value) : ir_Uses_r16 F x1 x3 K = ir_Uses_R F 16 [(3, x3), (1, x1)] [3] K := by kernel_rfl

def ir_Uses_k1 (F : Nat) (x1 x3 : Value) : M Value :=
  ir_Uses_r16 F x1 x3 (fun x3 => ir_Uses_k0 F x3)

def ir_Uses_r15 (F : Nat) (x1 x3 : Value) (K : Value → Value → M Value) : M Value :=
  bnd (opFieldAddr 2 x1) fun v33 => bnd (opLoad v33) fun v34 => bnd (opBuildSlice 1 (rep 1 [(.int .i64 (0))]) [(0, 1, false, v34)]) fun v35 => bnd (opAppend 1 8 x3 v35) fun v36 => K x1 v36

theorem ir_Uses_r15_ok (F : Nat) (x1 x3 : Value) (K : Value → Value → M Value) : ir_Uses_r15 F x1 x3 K = ir_Uses_R F 15 [(3, x3), (1, x1)] [1, 3] K := by kernel_rfl

def ir_Uses_r14 (F : Nat) (x1 x3 : Value) (K : Value → M Value) : M Value :=
  bnd (opFieldAddr 2 x1) fun v28 => bnd (opLoad v28) fun v29 => bnd (opBuildSlice 1 (rep 1 [(.int .i64 (0))]) [(0, 1, false, v29)]) fun v30 => bnd (opAppend 1 8 x3 v30) fun v31 => K v31

theorem ir_Uses_r14_ok (F : Nat) (x1 x3 : Value) (K : Value → M Value) : ir_Uses_r14 F x1 x3 K = ir_Uses_R F 14 [(3, x3), (1, x1)] [3] K := by kernel_rfl

def ir_Uses_r13 (F : Nat) (x1 x3 : Value) (K : Value → M Value) : M Value :=
  bnd (opFieldAddr 2 x1) fun v21 => bnd (opLoad v21) fun v22 => bnd (opFieldAddr 3 x1) fun v23 => bnd (opLoad v23) fun v24 => bnd (opBuildSlice 2 (rep 2 [(.int .i64 (0))]) [(0, 1, false, v22), (1, 1, false, v24)]) fun v25 => bnd (opAppend 1 8 x3 v25) fun v26 => K v26

theorem ir_Uses_r13_ok (F : Nat) (x1 x3 : Value) (K : Value → M Value) : ir_Uses_r13 F x1 x3 K = ir_Uses_R F 13 [(3, x3), (1, x1)] [3] K := by kernel_rfl

def ir_Uses_r12 (F : Nat) (x1 x3 x5 : Value) (K : Value → Value → Value → M Value) : M Value :=
  bnd (opBin .eql x5 (.int .i64 (12))) fun v19 => K x1 x3 v19

theorem ir_Uses_r12_ok (F : Nat) (x1 x3 x5 : Value) (K : Value → Value → Value → M Value) : ir_Uses_r12 F x1 x3 x5 K = ir_Uses_R F 12 [(5, x5), (3, x3), (1, x1)] [1, 3, 18] K := by kernel_rfl

def ir_Uses_k2 (F : Nat) (x1 x3 x5 x15 : Value) : M Value :=
  onB x15 (ir_Uses_r15 F x1 x3 (fun x1 x3 => ir_Uses_k1 F x1 x3)) (ir_Uses_r12 F x1 x3 x5 (fun x1 x3 x18 => onB x18 (ir_Uses_k1 F x1 x3) (ir_Uses_k0 F x3)))

def ir_Uses_r11 (F : Nat) (x1 x3 x5 : Value) (K : Value → Value → Value → Value → M Value) : M Value :=
  bnd (opBin .eql x5 (.int .i64 (14))) fun v17 => K x1 x3 x5 v17

theorem ir_Uses_r11_ok (F : Nat) (x1 x3 x5 : Value) (K : Value → Value → Value → Value → M Value) : ir_Uses_r11 F x1 x3 x5 K = ir_Uses_R F 11 [(5, x5), (3, x3), (1, x1)] [1, 3, 5, 15] K := by kernel_rfl

def ir_Uses_r10 (F : Nat) (x1 x3 x5 : Value) (K : Value → Value → Value → Value → M Value) : M Value :=
  bnd (opBin .eql x5 (.int .i64 (13))) fun v16 => K x1 x3 x5 v16

theorem ir_Uses_r10_ok (F : Nat) (x1 x3 x5 : Value) (K : Value → Value → Value → Value → M Value) : ir_Uses_r10 F x1 x3 x5 K = ir_Uses_R F 10 [(5, x5), (3, x3), (1, x1)] [1, 3, 5, 15] K := by kernel_rfl

def ir_Uses_k3 (F : Nat) (x1 x3 x5 x9 : Value) : M Value :=
  onB x9 (ir_Uses_r14 F x1 x3 (fun x3 => ir_Uses_k0 F x3)) (ir_Uses_r10 F x1 x3 x5 (fun x1 x3 x5 x15 => onB x15 (ir_Uses_k2 F x1 x3 x5 x15) (ir_Uses_r11 F x1 x3 x5 (fun x1 x3 x5 x15 => ir_Uses_k2 F x1 x3 x5 x15))))

def ir_Uses_r9 (F : Nat) (x1 x3 x5 : Value) (K : Value → Value → Value → Value → M Value) : M Value :=
  bnd (opBin .eql x5 (.int .i64 (15))) fun v14 => K x1 x3 x5 v14

theorem ir_Uses_r9_ok (F : Nat) (x1 x3 x5 : Value) (K : Value → Value → Value → Value → M Value) : ir_Uses_r9 F x1 x3 x5 K = ir_Uses_R F 9 [(5, x5), (3, x3), (1, x1)] [1, 3, 5, 9] K := by kernel_rfl

def ir_Uses_r8 (F : Nat) (x1 x3 x5 : Value) (K : Value → Value → Value → Value → M Value) : M Value :=
  bnd (opBin .eql x5 (.int .i64 (11))) fun v13 => K x1 x3 x5 v13

theorem ir_Uses_r8_ok (F : Nat) (x1 x3 x5 : Value) (K : Value → Value → Value → Value → M Value) : ir_Uses_r8 F x1 x3 x5 K = ir_Uses_R F 8 [(5, x5), (3, x3), (1, x1)] [1, 3, 5, 9] K := by kernel_rfl

def ir_Uses_r7 (F : Nat) (x1 x3 x5 : Value) (K : Value → Value → Value → Value → M Value) : M Value :=
  bnd (opBin .eql x5 (.int .i64 (9))) fun v12 => K x1 x3 x5 v12

theorem ir_Uses_r7_ok (F : Nat) (x1 x3 x5 : Value) (K : Value → Value → Value → Value → M Value) : ir_Uses_r7 F x1 x3 x5 K = ir_Uses_R F 7 [(5, x5), (3, x3), (1, x1)] [1, 3, 5, 9] K := by kernel_rfl

def ir_Uses_r6 (F : Nat) (x1 x3 x5 : Value) (K : Value → Value → Value → Value → M Value) : M Value :=
  bnd (opBin .eql x5 (.int .i64 (7))) fun v11 => K x1 x3 x5 v11

theorem ir_Uses_r6_ok (F : Nat) (x1 x3 x5 : Value) (K : Value → Value → Value → Value → M Value) : ir_Uses_r6 F x1 x3 x5 K = ir_Uses_R F 6 [(5, x5), (3, x3), (1, x1)] [1, 3, 5, 9] K := by kernel_rfl

def ir_Uses_r5 (F : Nat) (x1 x3 x5 : Value) (K : Value → Value → Value → Value → M Value) : M Value :=
  bnd (opBin .eql x5 (.int .i64 (6))) fun v10 => K x1 x3 x5 v10

theorem ir_Uses_r5_ok (F : Nat) (x1 x3 x5 : Value) (K : Value → Value → Value → Value → M Value) : ir_Uses_r5 F x1 x3 x5 K = ir_Uses_R F 5 [(5, x5), (3, x3), (1, x1)] [1, 3, 5, 9] K := by kernel_rfl

def ir_Uses_k4 (F : Nat) (x1 x3 x5 x6 : Value) : M Value :=
  onB x6 (ir_Uses_r13 F x1 x3 (fun x3 => ir_Uses_k0 F x3)) (ir_Uses_r5 F x1 x3 x5 (fun x1 x3 x5 x9 => onB x9 (ir_Uses_k3 F x1 x3 x5 x9) (ir_Uses_r6 F x1 x3 x5 (fun x1 x3 x5 x9 => onB x9 (ir_Uses_k3 F x1 x3 x5 x9) (ir_Uses_r7 F x1 x3 x5 (fun x1 x3 x5 x9 => onB x9 (ir_Uses_k3 F x1 x3 x5 x9) (ir_Uses_r8 F x1 x3 x5 (fun x1 x3 x5 x9 => onB x9 (ir_Uses_k3 F x1 x3 x5 x9) (ir_Uses_r9 F x1 x3 x5 (fun x1 x3 x5 x9 => ir_Uses_k3 F x1 x3 x5 x9))))))))))

def ir_Uses_r4 (F : Nat) (x1 x3 x5 : Value) (K : Value → Value → Value → Value → M Value) : M Value :=
  bnd (opBin .eql x5 (.int .i64 (8))) fun v8 => K x1 x3 x5 v8

theorem ir_Uses_r4_ok (F : Nat) (x1 x3 x5 : Value) (K : Value → Value → Value → Value → M Value) : ir_Uses_r4 F x1 x3 x5 K = ir_Uses_R F 4 [(5, x5), (3, x3), (1, x1)] [1, 3, 5, 6] K := by kernel_rfl

def ir_Uses_r3 (F : Nat) (x1 x3 x5 : Value) (K : Value → Value → Value → Value → M Value) : M Value :=
  bnd (opBin .eql x5 (.int .i64 (2))) fun v7 => K x1 x3 x5 v7

theorem ir_Uses_r3_ok (F : Nat) (x1 x3 x5 : Value) (K : Value → Value → Value → Value → M Value) : ir_Uses_r3 F x1 x3 x5 K = ir_Uses_R F 3 [(5, x5), (3, x3), (1, x1)] [1, 3, 5, 6] K := by kernel_rfl

def ir_Uses_r2 (F : Nat) (x1 x3 : Value) (K : Value → Value → Value → M Value) : M Value :=
  bnd (opFieldAddr 0 x1) fun v4 => bnd (opLoad v4) fun v5 => K x1 x3 v5

theorem ir_Uses_r2_ok (F : Nat) (x1 x3 : Value) (K : Value → Value → Value → M Value) : ir_Uses_r2 F x1 x3 K = ir_Uses_R F 2 [(3, x3), (1, x1)] [1, 3, 5] K := by kernel_rfl

def ir_Uses_r1 (F : Nat) (x1 : Value) (K : Value → Value → M Value) : M Value :=
  K x1 (.slice none 0 0)

theorem ir_Uses_r1_ok (F : Nat) (x1 : Value) (K : Value → Value → M Value) : ir_Uses_r1 F x1 K = ir_Uses_R F 1 [(1, x1)] [1, 3] K := by kernel_rfl

def ir_Uses_r0 (F : Nat) (x0 : Value) (K : Value → M Value) : M Value :=
  bnd (opBoxN x0) fun v1 => K v1

theorem ir_Uses_r0_ok (F : Nat) (x0 : Value) (K : Value → M Value) : ir_Uses_r0 F x0 K = ir_Uses_R F 0 [(0, x0)] [1] K := by kernel_rfl

def ir_Uses (F : Nat) (x0 : Value) : M Value :=
  ir_Uses_r0 F x0 (fun x1 => ir_Uses_r1 F x1 (fun x1 x3 => ir_Uses_r2 F x1 x3 (fun x1 x3 x5 => ir_Uses_r3 F x1 x3 x5 (fun x1 x3 x5 x6 => onB x6 (ir_Uses_k4 F x1 x3 x5 x6) (ir_Uses_r4 F x1 x3 x5 (fun x1 x3 x5 x6 => ir_Uses_k4 F x1 x3 x5 x6))))))

def ir_Uses_m (F : Nat) : List Value → M Value
  | [x0] => ir_Uses F x0
  | _ => fail

theorem ir_Uses_body : Try.f34.body = some (.seq (.region 0 (opsOf Try.f34 0) false) (.seq (.region 1 (opsOf Try.f34 1) false) (.seq (.seq (.region 2 (opsOf Try.f34 2) false) (.block 0 (.seq (.block 4 (.seq (.block 3 (.seq (.block 2 (.seq (.block 1 (.seq (.seq (.seq (.seq (.region 3 (opsOf Try.f34 3) false) (.cond (.tmp 6) .skip (.region 4 (opsOf Try.f34 4) false))) (.cond (.tmp 6) (.exit 1) .skip)) (.seq (.seq (.seq (.region 5 (opsOf Try.f34 5) false) (.cond (.tmp 9) .skip (.seq (.region 6 (opsOf Try.f34 6) false) (.cond (.tmp 9) .skip (.seq (.region 7 (opsOf Try.f34 7) false) (.cond (.tmp 9) .skip (.seq (.region 8 (opsOf Try.f34 8) false) (.cond (.tmp 9) .skip (.region 9 (opsOf Try.f34 9) false))))))))) (.cond (.tmp 9) (.exit 2) .skip)) (.seq (.seq (.seq (.region 10 (opsOf Try.f34 10) false) (.cond (.tmp 15) .skip (.region 11 (opsOf Try.f34 11) false))) (.cond (.tmp 15) (.exit 3) .skip)) (.seq (.region 12 (opsOf Try.f34 12) false) (.cond (.tmp 18) (.exit 4) .skip))))) (.exit 0))) (.seq (.region 13 (opsOf Try.f34 13) false) (.exit 0)))) (.seq (.region 14 (opsOf Try.f34 14) false) (.exit 0)))) (.region 15 (opsOf Try.f34 15) false))) (.seq (.region 16 (opsOf Try.f34 16) false) (.exit 0))))) (.seq (.region 17 (opsOf Try.f34 17) false) .ret)))) := by kernel_rfl

theorem ir_Uses_ok (F : Nat) : Sim Try.prog TryG 34 (ir_Uses_m F) := by
 have hE : EnvOK Try.prog TryG (ir_Uses_env F) := EnvOK.nil
 refine Sim.of_body (E := ir_Uses_env F) Try.func34 ir_Uses_body Try.call34 ?_ ?_
 · intro args hl; unfold ir_Uses_m; split
   · exact absurd hl (Nat.not_lt.2 (Nat.le_of_ble_eq_true rfl))
   · rfl
 · intro args ρ h w z; unfold ir_Uses_m; split
   · rename_i x0; show OKc _ _ [(0, x0)] _ _
     refine rSeq ?_
     refine cLess [0] ?_
     refine xR hE [1] rfl (ir_Uses_r0_ok F _ _) ?_
     intro x1
     show OKq _ _ _ [(1, x1)] _
     refine rThen ?_
     refine rSeq ?_
     refine cLess [1] ?_
     refine xR hE [1, 3] rfl (ir_Uses_r1_ok F _ _) ?_
     intro x1 x3
     show OKq _ _ _ [(3, x3), (1, x1)] _
     refine rThen ?_
     refine xSeq [3] (ir_Uses_k0 F ) ?_ fun hj0 => ?_
     · intro x3
       show OKc _ _ [(3, x3)] _ _
       refine rSeq ?_
       refine cLess [3] ?_
       refine xR hE [2] rfl (ir_Uses_r17_ok F _ _) ?_
       intro x2
       show OKq _ _ _ [(2, x2)] _
       refine rThen ?_
       refine rRet ?_
       exact rDone (.inr rfl) rfl
     · refine rSeq ?_
       refine cLess [3, 1] ?_
       refine xR hE [1, 3, 5] rfl (ir_Uses_r2_ok F _ _ _) ?_
       intro x1 x3 x5
       show OKq _ _ _ [(5, x5), (3, x3), (1, x1)] _
       refine rThen ?_
       refine rBlock ?_
       refine xSeq [1, 3] (ir_Uses_k1 F ) ?_ fun hj1 => ?_
       · intro x1 x3
         show OKc _ _ [(3, x3), (1, x1)] _ _
         refine rSeq ?_
         refine cLess [3, 1] ?_
         refine xR hE [3] rfl (ir_Uses_r16_ok F _ _ _) ?_
         intro x3
         show OKq _ _ _ [(3, x3)] _
         refine rThen ?_
         refine rExit ?_
         refine rOut ?_
         exact qLess [3] (hj0 x3)
       · refine rBlock ?_
         refine rSeq ?_
         refine rBlock ?_
         refine rSeq ?_
         refine rBlock ?_
         refine rSeq ?_
         refine rBlock ?_
         refine rSeq ?_
         refine rSeq ?_
         refine xSeq [1, 3, 5, 6] (ir_Uses_k4 F ) ?_ fun hj4 => ?_
         · intro x1 x3 x5 x6
           show OKc _ _ [(6, x6), (5, x5), (3, x3), (1, x1)] _ _
           refine xCond rfl rfl ?_ ?_
           · refine rExit ?_
             refine xThenX ?_
             refine xThenX ?_
             refine rOut ?_
             refine rThen ?_
             refine rSeq ?_
             refine cLess [3, 1] ?_
             refine xR hE [3] rfl (ir_Uses_r13_ok F _ _ _) ?_
             intro x3
             show OKq _ _ _ [(3, x3)] _
             refine rThen ?_
             refine rExit ?_
             refine rPast rfl ?_
             refine xThenX ?_
             refine rPast rfl ?_
             refine xThenX ?_
             refine rPast rfl ?_
             refine xThenX ?_
             refine rOut ?_
             exact qLess [3] (hj0 x3)
           · refine rSkip ?_
             refine rThen ?_
             refine rSeq ?_
             refine xSeq [1, 3, 5, 9] (ir_Uses_k3 F ) ?_ fun hj3 => ?_
             · intro x1 x3 x5 x9
               show OKc _ _ [(9, x9), (5, x5), (3, x3), (1, x1)] _ _
               refine xCond rfl rfl ?_ ?_
               · refine rExit ?_
                 refine xThenX ?_
                 refine xThenX ?_
                 refine rPast rfl ?_
                 refine xThenX ?_
                 refine rOut ?_
                 refine rThen ?_
                 refine rSeq ?_
                 refine cLess [3, 1] ?_
                 refine xR hE [3] rfl (ir_Uses_r14_ok F _ _ _) ?_
                 intro x3
                 show OKq _ _ _ [(3, x3)] _
                 refine rThen ?_
                 refine rExit ?_
                 refine rPast rfl ?_
                 refine xThenX ?_
                 refine rPast rfl ?_
                 refine xThenX ?_
                 refine rOut ?_
                 exact qLess [3] (hj0 x3)
               · refine rSkip ?_
                 refine rThen ?_
                 refine rSeq ?_
                 refine xSeq [1, 3, 5, 15] (ir_Uses_k2 F ) ?_ fun hj2 => ?_
                 · intro x1 x3 x5 x15
                   show OKc _ _ [(15, x15), (5, x5), (3, x3), (1, x1)] _ _
                   refine xCond rfl rfl ?_ ?_
                   · refine rExit ?_
                     refine xThenX ?_
                     refine xThenX ?_
                     refine rPast rfl ?_
                     refine xThenX ?_
                     refine rPast rfl ?_
                     refine xThenX ?_
                     refine rOut ?_
                     refine rThen ?_
                     refine cLess [3, 1] ?_
                     refine xR hE [1, 3] rfl (ir_Uses_r15_ok F _ _ _) ?_
                     intro x1 x3
                     show OKq _ _ _ [(3, x3), (1, x1)] _
                     refine xBlockN ?_
                     exact qLess [3, 1] (hj1 x1 x3)
                   · refine rSkip ?_
                     refine rThen ?_
                     refine rSeq ?_
                     refine cLess [5, 3, 1] ?_
                     refine xR hE [1, 3, 18] rfl (ir_Uses_r12_ok F _ _ _ _) ?_
                     intro x1 x3 x18
                     show OKq _ _ _ [(18, x18), (3, x3), (1, x1)] _
                     refine rThen ?_
                     refine xCond rfl rfl ?_ ?_
                     · refine rExit ?_
                       refine xThenX ?_
                       refine rPast rfl ?_
                       refine xThenX ?_
                       refine rPast rfl ?_
                       refine xThenX ?_
                       refine rPast rfl ?_
                       refine xThenX ?_
                       refine rOut ?_
                       exact qLess [3, 1] (hj1 x1 x3)
                     · refine rSkip ?_
                       refine rThen ?_
                       refine rExit ?_
                       refine rPast rfl ?_
                       refine xThenX ?_
                       refine rPast rfl ?_
                       refine xThenX ?_
                       refine rPast rfl ?_
                       refine xThenX ?_
                       refine rPast rfl ?_
                       refine xThenX ?_
                       refine rOut ?_
                       exact qLess [3] (hj0 x3)
                 · refine rSeq ?_
                   refine cLess [5, 3, 1] ?_
                   refine xR hE [1, 3, 5, 15] rfl (ir_Uses_r10_ok F _ _ _ _) ?_
                   intro x1 x3 x5 x15
                   show OKq _ _ _ [(15, x15), (5, x5), (3, x3), (1, x1)] _
                   refine rThen ?_
                   refine xCond rfl rfl ?_ ?_
                   · refine rSkip ?_
                     exact qLess [15, 5, 3, 1] (hj2 x1 x3 x5 x15)
                   · refine cLess [5, 3, 1] ?_
                     refine xR hE [1, 3, 5, 15] rfl (ir_Uses_r11_ok F _ _ _ _) ?_
                     intro x1 x3 x5 x15
                     show OKq _ _ _ [(15, x15), (5, x5), (3, x3), (1, x1)] _
                     exact qLess [15, 5, 3, 1] (hj2 x1 x3 x5 x15)
             · refine rSeq ?_
               refine cLess [5, 3, 1] ?_
               refine xR hE [1, 3, 5, 9] rfl (ir_Uses_r5_ok F _ _ _ _) ?_
               intro x1 x3 x5 x9
               show OKq _ _ _ [(9, x9), (5, x5), (3, x3), (1, x1)] _
               refine rThen ?_
               refine xCond rfl rfl ?_ ?_
               · refine rSkip ?_
                 exact qLess [9, 5, 3, 1] (hj3 x1 x3 x5 x9)
               · refine rSeq ?_
                 refine cLess [5, 3, 1] ?_
                 refine xR hE [1, 3, 5, 9] rfl (ir_Uses_r6_ok F _ _ _ _) ?_
                 intro x1 x3 x5 x9
                 show OKq _ _ _ [(9, x9), (5, x5), (3, x3), (1, x1)] _
                 refine rThen ?_
                 refine xCond rfl rfl ?_ ?_
                 · refine rSkip ?_
                   exact qLess [9, 5, 3, 1] (hj3 x1 x3 x5 x9)
                 · refine rSeq ?_
                   refine cLess [5, 3, 1] ?_
                   refine xR hE [1, 3, 5, 9] rfl (ir_Uses_r7_ok F _ _ _ _) ?_
                   intro x1 x3 x5 x9
                   show OKq _ _ _ [(9, x9), (5, x5), (3, x3), (1, x1)] _
                   refine rThen ?_
                   refine xCond rfl rfl ?_ ?_
                   · refine rSkip ?_
                     exact qLess [9, 5, 3, 1] (hj3 x1 x3 x5 x9)
                   · refine rSeq ?_
                     refine cLess [5, 3, 1] ?_
                     refine xR hE [1, 3, 5, 9] rfl (ir_Uses_r8_ok F _ _ _ _) ?_
                     intro x1 x3 x5 x9
                     show OKq _ _ _ [(9, x9), (5, x5), (3, x3), (1, x1)] _
                     refine rThen ?_
                     refine xCond rfl rfl ?_ ?_
                     · refine rSkip ?_
                       exact qLess [9, 5, 3, 1] (hj3 x1 x3 x5 x9)
                     · refine cLess [5, 3, 1] ?_
                       refine xR hE [1, 3, 5, 9] rfl (ir_Uses_r9_ok F _ _ _ _) ?_
                       intro x1 x3 x5 x9
                       show OKq _ _ _ [(9, x9), (5, x5), (3, x3), (1, x1)] _
                       exact qLess [9, 5, 3, 1] (hj3 x1 x3 x5 x9)
         · refine rSeq ?_
           refine cLess [5, 3, 1] ?_
           refine xR hE [1, 3, 5, 6] rfl (ir_Uses_r3_ok F _ _ _ _) ?_
           intro x1 x3 x5 x6
           show OKq _ _ _ [(6, x6), (5, x5), (3, x3), (1, x1)] _
           refine rThen ?_
           refine xCond rfl rfl ?_ ?_
           · refine rSkip ?_
             exact qLess [6, 5, 3, 1] (hj4 x1 x3 x5 x6)
           · refine cLess [5, 3, 1] ?_
             refine xR hE [1, 3, 5, 6] rfl (ir_Uses_r4_ok F _ _ _ _) ?_
             intro x1 x3 x5 x6
             show OKq _ _ _ [(6, x6), (5, x5), (3, x3), (1, x1)] _
             exact qLess [6, 5, 3, 1] (hj4 x1 x3 x5 x6)
   · exact rFail


/-! ### slices.Compact[[]int,int] -/

def slices_Compact_env (F : Nat) : Env := envOf []

noncomputable def slices_Compact_R (F : Nat) := rK Try.prog TryG (slices_Compact_env F) Try.f37
noncomputable def slices_Compact_D (F : Nat) := dK Try.prog TryG (slices_Compact_env F) Try.f37

def slices_Compact_r16 (F : Nat) (x0 : Value) (K : Value → M Value) : M Value :=
  K x0

theorem slices_Compact_r16_ok (F : Nat) (x0 : Value) (K : Value → M Value) : slices_Compact_r16 F x0 K = slices_Compact_R F 16 [(0, x0)] [2] K := by kernel_rfl

def slices_Compact_k0 (F : Nat) (x0 : Value) : M Value :=
  slices_Compact_r16 F x0 (fun x2 => ret x2)

def slices_Compact_r5 (F : Nat) (x0 x3 : Value) (K : Value → Value → M Value) : M Value :=
  bnd (opBin .add x3 (.int .i64 (1))) fun v15 => K x0 v15

theorem slices_Compact_r5_ok (F : Nat) (x0 x3 : Value) (K : Value → Value → M Value) : slices_Compact_r5 F x0 x3 K = slices_Compact_R F 5 [(3, x3), (0, x0)] [0, 3] K := by kernel_rfl

def slices_Compact_k2 (F : Nat) (A1 : Value → Value → M Value) (x0 x3 : Value) : M Value :=
  slices_Compact_r5 F x0 x3 (fun x0 x3 => A1 x0 x3)

def slices_Compact_r15 (F : Nat) (x0 x3 : Value) (K : Value → M Value) : M Value :=
  bnd (opSlice 1 x0 none (some x3) none) fun v59 => K v59

theorem slices_Compact_r15_ok (F : Nat) (x0 x3 : Value) (K : Value → M Value) : slices_Compact_r15 F x0 x3 K = slices_Compact_R F 15 [(3, x3), (0, x0)] [2] K := by kernel_rfl

def slices_Compact_r14 (F : Nat) (x0 x3 : Value) (K : Value → Value → M Value) : M Value :=
  bnd (opSlice 1 x0 (some x3) none none) fun v56 => bnd ((fail : M Value)) fun _ => K x0 x3

theorem slices_Compact_r14_ok (F : Nat) (x0 x3 : Value) (K : Value → Value → M Value) : slices_Compact_r14 F x0 x3 K = slices_Compact_R F 14 [(3, x3), (0, x0)] [0, 3] K := by kernel_rfl

def slices_Compact_k3 (F : Nat) (x0 x3 : Value) : M Value :=
  slices_Compact_r14 F x0 x3 (fun x0 x3 => slices_Compact_r15 F x0 x3 (fun x2 => ret x2))

def slices_Compact_r10 (F : Nat) (x0 x3 x4 x5 : Value) (K : Value → Value → Value → Value → M Value) : M Value :=
  bnd (opBin .add x5 (.int .i64 (1))) fun v34 => K x0 x3 x4 v34

theorem slices_Compact_r10_ok (F : Nat) (x0 x3 x4 x5 : Value) (K : Value → Value → Value → Value → M Value) : slices_Compact_r10 F x0 x3 x4 x5 K = slices_Compact_R F 10 [(5, x5), (4, x4), (3, x3), (0, x0)] [0, 3, 4, 5] K := by kernel_rfl

def slices_Compact_k5 (F : Nat) (A4 : Value → Value → Value → Value → M Value) (x0 x3 x4 x5 : Value) : M Value :=
  slices_Compact_r10 F x0 x3 x4 x5 (fun x0 x3 x4 x5 => A4 x0 x3 x4 x5)

def slices_Compact_r13 (F : Nat) (x0 x3 x4 x5 : Value) (K : Value → Value → Value → Value → M Value) : M Value :=
  bnd (opBin .add x3 (.int .i64 (1))) fun v53 => K x0 v53 x4 x5

theorem slices_Compact_r13_ok (F : Nat) (x0 x3 x4 x5 : Value) (K : Value → Value → Value → Value → M Value) : slices_Compact_r13 F x0 x3 x4 x5 K = slices_Compact_R F 13 [(5, x5), (4, x4), (3, x3), (0, x0)] [0, 3, 4, 5] K := by kernel_rfl

def slices_Compact_r12 (F : Nat) (x0 x3 x4 x5 : Value) (K : Value → Value → Value → Value → M Value) : M Value :=
  bnd (opIndexAddr 1 x4 x5) fun v49 => bnd (opLoad v49) fun v50 => bnd (opIndexAddr 1 x0 x3) fun v51 => bnd (opStore v51 v50) fun _ => K x0 x3 x4 x5

theorem slices_Compact_r12_ok (F : Nat) (x0 x3 x4 x5 : Value) (K : Value → Value → Value → Value → M Value) : slices_Compact_r12 F x0 x3 x4 x5 K = slices_Compact_R F 12 [(5, x5), (4, x4), (3, x3), (0, x0)] [0, 3, 4, 5] K := by kernel_rfl

def slices_Compact_r11 (F : Nat) (x0 x3 x4 x5 : Value) (K : Value → Value → Value → Value → Value → M Value) : M Value :=
  bnd (opIndexAddr 1 x4 x5) fun v37 => bnd (opLoad v37) fun v38 => bnd (opBin .sub x5 (.int .i64 (1))) fun v41 => bnd (opIndexAddr 1 x4 v41) fun v42 => bnd (opLoad v42) fun v43 => bnd (opBin .neq v38 v43) fun v44 => K x0 x3 x4 x5 v44

theorem slices_Compact_r11_ok (F : Nat) (x0 x3 x4 x5 : Value) (K : Value → Value → Value → Value → Value → M Value) : slices_Compact_r11 F x0 x3 x4 x5 K = slices_Compact_D F 11 [0, 1, 2, 3, 4, 5, 6, 7, 8, 9] [(5, x5), (4, x4), (3, x3), (0, x0)] [0, 3, 4, 5, 44] K := by kernel_rfl

theorem slices_Compact_r11_good : goodOrder (opsOf Try.f37 11) [0, 1, 2, 3, 4, 5, 6, 7, 8, 9] = true := by kernel_rfl

def slices_Compact_r9 (F : Nat) (x0 x3 x4 x5 : Value) (K : Value → Value → Value → Value → Value → M Value) : M Value :=
  bnd (opLen x4) fun v31 => bnd (opBin .lss x5 v31) fun v32 => K x0 x3 x4 x5 v32

theorem slices_Compact_r9_ok (F : Nat) (x0 x3 x4 x5 : Value) (K : Value → Value → Value → Value → Value → M Value) : slices_Compact_r9 F x0 x3 x4 x5 K = slices_Compact_R F 9 [(5, x5), (4, x4), (3, x3), (0, x0)] [0, 3, 4, 5, 32] K := by kernel_rfl

def slices_Compact_b4 (F : Nat) (E4_2 : Value → Value → M Value) (A4 : Value → Value → Value → Value → M Value) (x0 x3 x4 x5 : Value) : M Value :=
  slices_Compact_r9 F x0 x3 x4 x5 (fun x0 x3 x4 x5 x32 => onB x32 (slices_Compact_r11 F x0 x3 x4 x5 (fun x0 x3 x4 x5 x44 => onB x44 (slices_Compact_r12 F x0 x3 x4 x5 (fun x0 x3 x4 x5 => slices_Compact_r13 F x0 x3 x4 x5 (fun x0 x3 x4 x5 => slices_Compact_k5 F A4 x0 x3 x4 x5))) (slices_Compact_k5 F A4 x0 x3 x4 x5))) (E4_2 x0 x3))

def slices_Compact_l4 (F : Nat) (E4_2 : Value → Value → M Value) : Nat → Value → Value → Value → Value → M Value
  | 0, _, _, _, _ => fail
  | k4 + 1, x0, x3, x4, x5 => slices_Compact_b4 F E4_2 (slices_Compact_l4 F E4_2 k4) x0 x3 x4 x5

theorem slices_Compact_l4_s (F : Nat) (E4_2 : Value → Value → M Value) (k4 : Nat) (x0 x3 x4 x5 : Value) : slices_Compact_l4 F E4_2 (k4 + 1) x0 x3 x4 x5 = slices_Compact_b4 F E4_2 (slices_Compact_l4 F E4_2 k4) x0 x3 x4 x5 := rfl

def slices_Compact_r8 (F : Nat) (x0 x3 x4 : Value) (K : Value → Value → Value → Value → M Value) : M Value :=
  K x0 x3 x4 (.int .i64 (1))

theorem slices_Compact_r8_ok (F : Nat) (x0 x3 x4 : Value) (K : Value → Value → Value → Value → M Value) : slices_Compact_r8 F x0 x3 x4 K = slices_Compact_R F 8 [(4, x4), (3, x3), (0, x0)] [0, 3, 4, 5] K := by kernel_rfl

def slices_Compact_r7 (F : Nat) (x0 x3 : Value) (K : Value → Value → Value → M Value) : M Value :=
  bnd (opSlice 1 x0 (some x3) none none) fun v28 => K x0 x3 v28

theorem slices_Compact_r7_ok (F : Nat) (x0 x3 : Value) (K : Value → Value → Value → M Value) : slices_Compact_r7 F x0 x3 K = slices_Compact_R F 7 [(3, x3), (0, x0)] [0, 3, 4] K := by kernel_rfl

def slices_Compact_r6 (F : Nat) (x0 x3 : Value) (K : Value → Value → Value → M Value) : M Value :=
  bnd (opIndexAddr 1 x0 x3) fun v18 => bnd (opLoad v18) fun v19 => bnd (opBin .sub x3 (.int .i64 (1))) fun v22 => bnd (opIndexAddr 1 x0 v22) fun v23 => bnd (opLoad v23) fun v24 => bnd (opBin .eql v19 v24) fun v25 => K x0 x3 v25

theorem slices_Compact_r6_ok (F : Nat) (x0 x3 : Value) (K : Value → Value → Value → M Value) : slices_Compact_r6 F x0 x3 K = slices_Compact_D F 6 [0, 1, 2, 3, 4, 5, 6, 7, 8, 9] [(3, x3), (0, x0)] [0, 3, 25] K := by kernel_rfl

theorem slices_Compact_r6_good : goodOrder (opsOf Try.f37 6) [0, 1, 2, 3, 4, 5, 6, 7, 8, 9] = true := by kernel_rfl

def slices_Compact_r4 (F : Nat) (x0 x3 : Value) (K : Value → Value → Value → M Value) : M Value :=
  bnd (opLen x0) fun v12 => bnd (opBin .lss x3 v12) fun v13 => K x0 x3 v13

theorem slices_Compact_r4_ok (F : Nat) (x0 x3 : Value) (K : Value → Value → Value → M Value) : slices_Compact_r4 F x0 x3 K = slices_Compact_R F 4 [(3, x3), (0, x0)] [0, 3, 13] K := by kernel_rfl

def slices_Compact_b1 (F : Nat) (E1_0 : Value → M Value) (A1 : Value → Value → M Value) (x0 x3 : Value) : M Value :=
  slices_Compact_r4 F x0 x3 (fun x0 x3 x13 => onB x13 (slices_Compact_r6 F x0 x3 (fun x0 x3 x25 => onB x25 (slices_Compact_r7 F x0 x3 (fun x0 x3 x4 => slices_Compact_r8 F x0 x3 x4 (fun x0 x3 x4 x5 => slices_Compact_l4 F (fun x0 x3 => slices_Compact_k3 F x0 x3) F x0 x3 x4 x5))) (slices_Compact_k2 F A1 x0 x3))) (E1_0 x0))

def slices_Compact_l1 (F : Nat) (E1_0 : Value → M Value) : Nat → Value → Value → M Value
  | 0, _, _ => fail
  | k1 + 1, x0, x3 => slices_Compact_b1 F E1_0 (slices_Compact_l1 F E1_0 k1) x0 x3

theorem slices_Compact_l1_s (F : Nat) (E1_0 : Value → M Value) (k1 : Nat) (x0 x3 : Value) : slices_Compact_l1 F E1_0 (k1 + 1) x0 x3 = slices_Compact_b1 F E1_0 (slices_Compact_l1 F E1_0 k1) x0 x3 := rfl

def slices_Compact_r3 (F : Nat) (x0 : Value) (K : Value → Value → M Value) : M Value :=
  K x0 (.int .i64 (1))

theorem slices_Compact_r3_ok (F : Nat) (x0 : Value) (K : Value → Value → M Value) : slices_Compact_r3 F x0 K = slices_Compact_R F 3 [(0, x0)] [0, 3] K := by kernel_rfl

def slices_Compact_r2 (F : Nat) (x0 : Value) (K : Value → M Value) : M Value :=
  K x0

theorem slices_Compact_r2_ok (F : Nat) (x0 : Value) (K : Value → M Value) : slices_Compact_r2 F x0 K = slices_Compact_R F 2 [(0, x0)] [2] K := by kernel_rfl

def slices_Compact_r1 (F : Nat) (x0 : Value) (K : Value → Value → M Value) : M Value :=
  bnd (opLen x0) fun v7 => bnd (opBin .lss v7 (.int .i64 (2))) fun v8 => K x0 v8

theorem slices_Compact_r1_ok (F : Nat) (x0 : Value) (K : Value → Value → M Value) : slices_Compact_r1 F x0 K = slices_Compact_R F 1 [(0, x0)] [0, 8] K := by kernel_rfl

def slices_Compact_r0 (F : Nat) (x0 : Value) (K : Value → M Value) : M Value :=
  K x0

theorem slices_Compact_r0_ok (F : Nat) (x0 : Value) (K : Value → M Value) : slices_Compact_r0 F x0 K = slices_Compact_R F 0 [(0, x0)] [0] K := by kernel_rfl

def slices_Compact (F : Nat) (x0 : Value) : M Value :=
  slices_Compact_r0 F x0 (fun x0 => slices_Compact_r1 F x0 (fun x0 x8 => onB x8 (slices_Compact_r2 F x0 (fun x2 => ret x2)) (slices_Compact_r3 F x0 (fun x0 x3 => slices_Compact_l1 F (fun x0 => slices_Compact_k0 F x0) F x0 x3))))

def slices_Compact_m (F : Nat) : List Value → M Value
  | [x0] => slices_Compact F x0
  | _ => fail

theorem slices_Compact_body : Try.f37.body = some (.seq (.region 0 (opsOf Try.f37 0) false) (.seq (.seq (.region 1 (opsOf Try.f37 1) false) (.cond (.tmp 8) (.seq (.region 2 (opsOf Try.f37 2) false) .ret) .skip)) (.seq (.seq (.region 3 (opsOf Try.f37 3) false) (.block 0 (.loop (.seq (.seq (.region 4 (opsOf Try.f37 4) false) (.cond (.tmp 13) .skip (.exit 0))) (.seq (.block 1 (.seq (.region 6 (opsOf Try.f37 6) true) (.cond (.tmp 25) (.seq (.region 7 (opsOf Try.f37 7) false) (.seq (.seq (.region 8 (opsOf Try.f37 8) false) (.block 2 (.loop (.seq (.seq (.region 9 (opsOf Try.f37 9) false) (.cond (.tmp 32) .skip (.exit 2))) (.seq (.block 3 (.seq (.region 11 (opsOf Try.f37 11) true) (.cond (.tmp 44) (.seq (.region 12 (opsOf Try.f37 12) false) (.region 13 (opsOf Try.f37 13) false)) .skip))) (.region 10 (opsOf Try.f37 10) false)))))) (.seq (.region 14 (opsOf Try.f37 14) false) (.seq (.region 15 (opsOf Try.f37 15) false) .ret)))) .skip))) (.region 5 (opsOf Try.f37 5) false)))))) (.seq (.region 16 (opsOf Try.f37 16) false) .ret)))) := by kernel_rfl

theorem slices_Compact_ok (F : Nat) : Sim Try.prog TryG 37 (slices_Compact_m F) := by
 have hE : EnvOK Try.prog TryG (slices_Compact_env F) := EnvOK.nil
 refine Sim.of_body (E := slices_Compact_env F) Try.func37 slices_Compact_body Try.call37 ?_ ?_
 · intro args hl; unfold slices_Compact_m; split
   · exact absurd hl (Nat.not_lt.2 (Nat.le_of_ble_eq_true rfl))
   · rfl
 · intro args ρ h w z; unfold slices_Compact_m; split
   · rename_i x0; show OKc _ _ [(0, x0)] _ _
     refine rSeq ?_
     refine cLess [0] ?_
     refine xR hE [0] rfl (slices_Compact_r0_ok F _ _) ?_
     intro x0
     show OKq _ _ _ [(0, x0)] _
     refine rThen ?_
     refine rSeq ?_
     refine rSeq ?_
     refine cLess [0] ?_
     refine xR hE [0, 8] rfl (slices_Compact_r1_ok F _ _) ?_
     intro x0 x8
     show OKq _ _ _ [(8, x8), (0, x0)] _
     refine rThen ?_
     refine xCond rfl rfl ?_ ?_
     · refine rSeq ?_
       refine cLess [0] ?_
       refine xR hE [2] rfl (slices_Compact_r2_ok F _ _) ?_
       intro x2
       show OKq _ _ _ [(2, x2)] _
       refine rThen ?_
       refine rRet ?_
       refine xThenR ?_
       exact rDone (.inr rfl) rfl
     · refine rSkip ?_
       refine rThen ?_
       refine xSeq [0] (slices_Compact_k0 F ) ?_ fun hj0 => ?_
       · intro x0
         show OKc _ _ [(0, x0)] _ _
         refine rSeq ?_
         refine cLess [0] ?_
         refine xR hE [2] rfl (slices_Compact_r16_ok F _ _) ?_
         intro x2
         show OKq _ _ _ [(2, x2)] _
         refine rThen ?_
         refine rRet ?_
         exact rDone (.inr rfl) rfl
       · refine rSeq ?_
         refine cLess [0] ?_
         refine xR hE [0, 3] rfl (slices_Compact_r3_ok F _ _) ?_
         intro x0 x3
         show OKq _ _ _ [(3, x3), (0, x0)] _
         refine rThen ?_
         refine rBlock ?_
         refine cLess [3, 0] ?_
         refine xLoopAt [0, 3] [] (fun k1 => slices_Compact_l1 F (fun x0 => slices_Compact_k0 F x0) k1) F [x0, x3] rfl rfl (fun _ _ => rfl) fun I hI1 k1 => ?_
         intro x0 x3
         show OKc _ _ [(3, x3), (0, x0)] _ _
         refine cAs (slices_Compact_l1_s F _ _ _ _) ?_
         refine rSeq ?_
         refine rSeq ?_
         refine cLess [3, 0] ?_
         refine xR hE [0, 3, 13] rfl (slices_Compact_r4_ok F _ _ _) ?_
         intro x0 x3 x13
         show OKq _ _ _ [(13, x13), (3, x3), (0, x0)] _
         refine rThen ?_
         refine xCond rfl rfl ?_ ?_
         · refine rSkip ?_
           refine rThen ?_
           refine xSeq [0, 3] (slices_Compact_k2 F (slices_Compact_l1 F (fun x0 => slices_Compact_k0 F x0) k1) ) ?_ fun hj2 => ?_
           · intro x0 x3
             show OKc _ _ [(3, x3), (0, x0)] _ _
             refine cLess [3, 0] ?_
             refine xR hE [0, 3] rfl (slices_Compact_r5_ok F _ _ _) ?_
             intro x0 x3
             show OKq _ _ _ [(3, x3), (0, x0)] _
             exact qLess [3, 0] (hI1 k1 x0 x3)
           · refine rBlock ?_
             refine rSeq ?_
             refine cLess [3, 0] ?_
             refine xD Trymix hE [0, 3, 25] rfl slices_Compact_r6_good (slices_Compact_r6_ok F _ _ _) ?_
             intro x0 x3 x25
             show OKq _ _ _ [(25, x25), (3, x3), (0, x0)] _
             refine rThen ?_
             refine xCond rfl rfl ?_ ?_
             · refine rSeq ?_
               refine cLess [3, 0] ?_
               refine xR hE [0, 3, 4] rfl (slices_Compact_r7_ok F _ _ _) ?_
               intro x0 x3 x4
               show OKq _ _ _ [(4, x4), (3, x3), (0, x0)] _
               refine rThen ?_
               refine xSeq [0, 3] (slices_Compact_k3 F ) ?_ fun hj3 => ?_
               · intro x0 x3
                 show OKc _ _ [(3, x3), (0, x0)] _ _
                 refine rSeq ?_
                 refine cLess [3, 0] ?_
                 refine xR hE [0, 3] rfl (slices_Compact_r14_ok F _ _ _) ?_
                 intro x0 x3
                 show OKq _ _ _ [(3, x3), (0, x0)] _
                 refine rThen ?_
                 refine rSeq ?_
                 refine cLess [3, 0] ?_
                 refine xR hE [2] rfl (slices_Compact_r15_ok F _ _ _) ?_
                 intro x2
                 show OKq _ _ _ [(2, x2)] _
                 refine rThen ?_
                 refine rRet ?_
                 refine xBlockR ?_
                 refine xThenR ?_
                 refine xThenR ?_
                 refine xBlockR ?_
                 refine xThenR ?_
                 exact rDone (.inr rfl) rfl
               · refine rSeq ?_
                 refine cLess [4, 3, 0] ?_
                 refine xR hE [0, 3, 4, 5] rfl (slices_Compact_r8_ok F _ _ _ _) ?_
                 intro x0 x3 x4 x5
                 show OKq _ _ _ [(5, x5), (4, x4), (3, x3), (0, x0)] _
                 refine rThen ?_
                 refine rBlock ?_
                 refine cLess [5, 4, 3, 0] ?_
                 refine xLoopAt [0, 3, 4, 5] [] (fun k4 => slices_Compact_l4 F (fun x0 x3 => slices_Compact_k3 F x0 x3) k4) F [x0, x3, x4, x5] rfl rfl (fun _ _ _ _ => rfl) fun I hI4 k4 => ?_
                 intro x0 x3 x4 x5
                 show OKc _ _ [(5, x5), (4, x4), (3, x3), (0, x0)] _ _
                 refine cAs (slices_Compact_l4_s F _ _ _ _ _ _) ?_
                 refine rSeq ?_
                 refine rSeq ?_
                 refine cLess [5, 4, 3, 0] ?_
                 refine xR hE [0, 3, 4, 5, 32] rfl (slices_Compact_r9_ok F _ _ _ _ _) ?_
                 intro x0 x3 x4 x5 x32
                 show OKq _ _ _ [(32, x32), (5, x5), (4, x4), (3, x3), (0, x0)] _
                 refine rThen ?_
                 refine xCond rfl rfl ?_ ?_
                 · refine rSkip ?_
                   refine rThen ?_
                   refine xSeq [0, 3, 4, 5] (slices_Compact_k5 F (slices_Compact_l4 F (fun x0 x3 => slices_Compact_k3 F x0 x3) k4) ) ?_ fun hj5 => ?_
                   · intro x0 x3 x4 x5
                     show OKc _ _ [(5, x5), (4, x4), (3, x3), (0, x0)] _ _
                     refine cLess [5, 4, 3, 0] ?_
                     refine xR hE [0, 3, 4, 5] rfl (slices_Compact_r10_ok F _ _ _ _ _) ?_
                     intro x0 x3 x4 x5
                     show OKq _ _ _ [(5, x5), (4, x4), (3, x3), (0, x0)] _
                     exact qLess [5, 4, 3, 0] (hI4 k4 x0 x3 x4 x5)
                   · refine rBlock ?_
                     refine rSeq ?_
                     refine cLess [5, 4, 3, 0] ?_
                     refine xD Trymix hE [0, 3, 4, 5, 44] rfl slices_Compact_r11_good (slices_Compact_r11_ok F _ _ _ _ _) ?_
                     intro x0 x3 x4 x5 x44
                     show OKq _ _ _ [(44, x44), (5, x5), (4, x4), (3, x3), (0, x0)] _
                     refine rThen ?_
                     refine xCond rfl rfl ?_ ?_
                     · refine rSeq ?_
                       refine cLess [5, 4, 3, 0] ?_
                       refine xR hE [0, 3, 4, 5] rfl (slices_Compact_r12_ok F _ _ _ _ _) ?_
                       intro x0 x3 x4 x5
                       show OKq _ _ _ [(5, x5), (4, x4), (3, x3), (0, x0)] _
                       refine rThen ?_
                       refine cLess [5, 4, 3, 0] ?_
                       refine xR hE [0, 3, 4, 5] rfl (slices_Compact_r13_ok F _ _ _ _ _) ?_
                       intro x0 x3 x4 x5
                       show OKq _ _ _ [(5, x5), (4, x4), (3, x3), (0, x0)] _
                       refine xBlockN ?_
                       exact qLess [5, 4, 3, 0] (hj5 x0 x3 x4 x5)
                     · refine rSkip ?_
                       refine xBlockN ?_
                       exact qLess [5, 4, 3, 0] (hj5 x0 x3 x4 x5)
                 · refine rExit ?_
                   refine xThenX ?_
                   refine xThenX ?_
                   refine rOut ?_
                   exact qLess [3, 0] (hj3 x0 x3)
             · refine rSkip ?_
               refine xBlockN ?_
               exact qLess [3, 0] (hj2 x0 x3)
         · refine rExit ?_
           refine xThenX ?_
           refine xThenX ?_
           refine rOut ?_
           exact qLess [0] (hj0 x0)
   · exact rFail


/-! ### haruspex/haruspexref8.Nowhere -/

def R8_Nowhere_env (F : Nat) : Env := envOf []

noncomputable def R8_Nowhere_R (F : Nat) := rK Try.prog TryG (R8_Nowhere_env F) Try.f38
noncomputable def R8_Nowhere_D (F : Nat) := dK Try.prog TryG (R8_Nowhere_env F) Try.f38

def R8_Nowhere_r1 (F : Nat) (x0 : Value) (K : Value → M Value) : M Value :=
  bnd (opBuild [(.int .i64 (0)), (.int .i64 (0)), (.int .i64 (0))] [(0, 1, false, (.int .i64 (-1)))]) fun v1 => bnd (opStoreN 3 x0 v1) fun _ => K x0

theorem R8_Nowhere_r1_ok (F : Nat) (x0 : Value) (K : Value → M Value) : R8_Nowhere_r1 F x0 K = R8_Nowhere_R F 1 [(0, x0)] [0] K := by kernel_rfl

def R8_Nowhere_r0 (F : Nat) (K : Value → M Value) : M Value :=
  bnd (opPtr [(.int .i64 (0)), (.int .i64 (0)), (.int .i64 (0))]) fun v0 => K v0

theorem R8_Nowhere_r0_ok (F : Nat) (K : Value → M Value) : R8_Nowhere_r0 F K = R8_Nowhere_R F 0 [] [0] K := by kernel_rfl

def R8_Nowhere (F : Nat) : M Value :=
  R8_Nowhere_r0 F (fun x0 => R8_Nowhere_r1 F x0 (fun x0 => bnd (opLoadN 3 x0) fun r0 => ret r0))

def R8_Nowhere_m (F : Nat) : List Value → M Value
  | [] => R8_Nowhere F
  | _ => fail

theorem R8_Nowhere_body : Try.f38.body = some (.seq (.region 0 (opsOf Try.f38 0) false) (.seq (.region 1 (opsOf Try.f38 1) false) .ret)) := by kernel_rfl

theorem R8_Nowhere_ok (F : Nat) : Sim Try.prog TryG 38 (R8_Nowhere_m F) := by
 have hE : EnvOK Try.prog TryG (R8_Nowhere_env F) := EnvOK.nil
 refine Sim.of_body (E := R8_Nowhere_env F) Try.func38 R8_Nowhere_body Try.call38 ?_ ?_
 · intro args hl; unfold R8_Nowhere_m; split
   · exact absurd hl (Nat.not_lt.2 (Nat.le_of_ble_eq_true rfl))
   · rfl
 · intro args ρ h w z; unfold R8_Nowhere_m; split
   · show OKc _ _ [] _ _
     refine rSeq ?_
     refine cLess [] ?_
     refine xR hE [0] rfl (R8_Nowhere_r0_ok F _) ?_
     intro x0
     show OKq _ _ _ [(0, x0)] _
     refine rThen ?_
     refine rSeq ?_
     refine cLess [0] ?_
     refine xR hE [0] rfl (R8_Nowhere_r1_ok F _ _) ?_
     intro x0
     show OKq _ _ _ [(0, x0)] _
     refine rThen ?_
     refine rRet ?_
     exact rDone (.inr rfl) rfl
   · exact rFail


/-! ### haruspex/ir.Def -/

def ir_Def_env (F : Nat) : Env := envOf []

noncomputable def ir_Def_R (F : Nat) := rK Try.prog TryG (ir_Def_env F) Try.f46
noncomputable def ir_Def_D (F : Nat) := dK Try.prog TryG (ir_Def_env F) Try.f46

def ir_Def_r8 (F : Nat) (x1 : Value) (K : Value → Value → M Value) : M Value :=
  bnd (opFieldAddr 1 x1) fun v18 => bnd (opLoad v18) fun v19 => K v19 (.bool true)

theorem ir_Def_r8_ok (F : Nat) (x1 : Value) (K : Value → Value → M Value) : ir_Def_r8 F x1 K = ir_Def_R F 8 [(1, x1)] [2, 3] K := by kernel_rfl

def ir_Def_r7 (F : Nat) (K : Value → Value → M Value) : M Value :=
  K (.int .i64 (0)) (.bool false)

theorem ir_Def_r7_ok (F : Nat) (K : Value → Value → M Value) : ir_Def_r7 F K = ir_Def_R F 7 [] [2, 3] K := by kernel_rfl

def ir_Def_r6 (F : Nat) (x1 : Value) (K : Value → Value → M Value) : M Value :=
  bnd (opFieldAddr 0 x1) fun v10 => bnd (opLoad v10) fun v11 => bnd (opBin .lss v11 (.int .i64 (1))) fun v12 => onB v12 (K x1 (.bool true)) (bnd (opFieldAddr 0 x1) fun v14 => bnd (opLoad v14) fun v15 => bnd (opBin .gtr v15 (.int .i64 (15))) fun v16 => K x1 v16)

theorem ir_Def_r6_ok (F : Nat) (x1 : Value) (K : Value → Value → M Value) : ir_Def_r6 F x1 K = ir_Def_R F 6 [(1, x1)] [1, 17] K := by kernel_rfl

def ir_Def_r5 (F : Nat) (K : Value → Value → M Value) : M Value :=
  K (.int .i64 (0)) (.bool false)

theorem ir_Def_r5_ok (F : Nat) (K : Value → Value → M Value) : ir_Def_r5 F K = ir_Def_R F 5 [] [2, 3] K := by kernel_rfl

def ir_Def_k0 (F : Nat) (x1 x6 : Value) : M Value :=
  onB x6 (ir_Def_r5 F (fun x2 x3 => tupK [x2, x3])) (ir_Def_r6 F x1 (fun x1 x17 => onB x17 (ir_Def_r7 F (fun x2 x3 => tupK [x2, x3])) (ir_Def_r8 F x1 (fun x2 x3 => tupK [x2, x3]))))

def ir_Def_r4 (F : Nat) (x1 x5 : Value) (K : Value → Value → M Value) : M Value :=
  bnd (opBin .eql x5 (.int .i64 (15))) fun v9 => K x1 v9

theorem ir_Def_r4_ok (F : Nat) (x1 x5 : Value) (K : Value → Value → M Value) : ir_Def_r4 F x1 x5 K = ir_Def_R F 4 [(5, x5), (1, x1)] [1, 6] K := by kernel_rfl

def ir_Def_r3 (F : Nat) (x1 x5 : Value) (K : Value → Value → Value → M Value) : M Value :=
  bnd (opBin .eql x5 (.int .i64 (9))) fun v8 => K x1 x5 v8

theorem ir_Def_r3_ok (F : Nat) (x1 x5 : Value) (K : Value → Value → Value → M Value) : ir_Def_r3 F x1 x5 K = ir_Def_R F 3 [(5, x5), (1, x1)] [1, 5, 6] K := by kernel_rfl

def ir_Def_r2 (F : Nat) (x1 x5 : Value) (K : Value → Value → Value → M Value) : M Value :=
  bnd (opBin .eql x5 (.int .i64 (8))) fun v7 => K x1 x5 v7

theorem ir_Def_r2_ok (F : Nat) (x1 x5 : Value) (K : Value → Value → Value → M Value) : ir_Def_r2 F x1 x5 K = ir_Def_R F 2 [(5, x5), (1, x1)] [1, 5, 6] K := by kernel_rfl

def ir_Def_r1 (F : Nat) (x1 : Value) (K : Value → Value → M Value) : M Value :=
  bnd (opFieldAddr 0 x1) fun v4 => bnd (opLoad v4) fun v5 => K x1 v5

theorem ir_Def_r1_ok (F : Nat) (x1 : Value) (K : Value → Value → M Value) : ir_Def_r1 F x1 K = ir_Def_R F 1 [(1, x1)] [1, 5] K := by kernel_rfl

def ir_Def_r0 (F : Nat) (x0 : Value) (K : Value → M Value) : M Value :=
  bnd (opBoxN x0) fun v1 => K v1

theorem ir_Def_r0_ok (F : Nat) (x0 : Value) (K : Value → M Value) : ir_Def_r0 F x0 K = ir_Def_R F 0 [(0, x0)] [1] K := by kernel_rfl

def ir_Def (F : Nat) (x0 : Value) : M Value :=
  ir_Def_r0 F x0 (fun x1 => ir_Def_r1 F x1 (fun x1 x5 => ir_Def_r2 F x1 x5 (fun x1 x5 x6 => onB x6 (ir_Def_k0 F x1 x6) (ir_Def_r3 F x1 x5 (fun x1 x5 x6 => onB x6 (ir_Def_k0 F x1 x6) (ir_Def_r4 F x1 x5 (fun x1 x6 => ir_Def_k0 F x1 x6)))))))

def ir_Def_m (F : Nat) : List Value → M Value
  | [x0] => ir_Def F x0
  | _ => fail

theorem ir_Def_body : Try.f46.body = some (.seq (.region 0 (opsOf Try.f46 0) false) (.seq (.seq (.region 1 (opsOf Try.f46 1) false) (.block 0 (.seq (.seq (.region 2 (opsOf Try.f46 2) false) (.cond (.tmp 6) .skip (.seq (.region 3 (opsOf Try.f46 3) false) (.cond (.tmp 6) .skip (.region 4 (opsOf Try.f46 4) false))))) (.cond (.tmp 6) (.seq (.region 5 (opsOf Try.f46 5) false) .ret) .skip)))) (.seq (.seq (.region 6 (opsOf Try.f46 6) false) (.cond (.tmp 17) (.seq (.region 7 (opsOf Try.f46 7) false) .ret) .skip)) (.seq (.region 8 (opsOf Try.f46 8) false) .ret)))) := by kernel_rfl

theorem ir_Def_ok (F : Nat) : Sim Try.prog TryG 46 (ir_Def_m F) := by
 have hE : EnvOK Try.prog TryG (ir_Def_env F) := EnvOK.nil
 refine Sim.of_body (E := ir_Def_env F) Try.func46 ir_Def_body Try.call46 ?_ ?_
 · intro args hl; unfold ir_Def_m; split
   · exact absurd hl (Nat.not_lt.2 (Nat.le_of_ble_eq_true rfl))
   · rfl
 · intro args ρ h w z; unfold ir_Def_m; split
   · rename_i x0; show OKc _ _ [(0, x0)] _ _
     refine rSeq ?_
     refine cLess [0] ?_
     refine xR hE [1] rfl (ir_Def_r0_ok F _ _) ?_
     intro x1
     show OKq _ _ _ [(1, x1)] _
     refine rThen ?_
     refine rSeq ?_
     refine rSeq ?_
     refine cLess [1] ?_
     refine xR hE [1, 5] rfl (ir_Def_r1_ok F _ _) ?_
     intro x1 x5
     show OKq _ _ _ [(5, x5), (1, x1)] _
     refine rThen ?_
     refine rBlock ?_
     refine xSeq [1, 6] (ir_Def_k0 F ) ?_ fun hj0 => ?_
     · intro x1 x6
       show OKc _ _ [(6, x6), (1, x1)] _ _
       refine xCond rfl rfl ?_ ?_
       · refine rSeq ?_
         refine cLess [] ?_
         refine xR hE [2, 3] rfl (ir_Def_r5_ok F _) ?_
         intro x2 x3
         show OKq _ _ _ [(3, x3), (2, x2)] _
         refine rThen ?_
         refine rRet ?_
         refine xBlockR ?_
         refine xThenR ?_
         exact rDone (.inr rfl) rfl
       · refine rSkip ?_
         refine xBlockN ?_
         refine rThen ?_
         refine rSeq ?_
         refine rSeq ?_
         refine cLess [1] ?_
         refine xR hE [1, 17] rfl (ir_Def_r6_ok F _ _) ?_
         intro x1 x17
         show OKq _ _ _ [(17, x17), (1, x1)] _
         refine rThen ?_
         refine xCond rfl rfl ?_ ?_
         · refine rSeq ?_
           refine cLess [] ?_
           refine xR hE [2, 3] rfl (ir_Def_r7_ok F _) ?_
           intro x2 x3
           show OKq _ _ _ [(3, x3), (2, x2)] _
           refine rThen ?_
           refine rRet ?_
           refine xThenR ?_
           exact rDone (.inr rfl) rfl
         · refine rSkip ?_
           refine rThen ?_
           refine rSeq ?_
           refine cLess [1] ?_
           refine xR hE [2, 3] rfl (ir_Def_r8_ok F _ _) ?_
           intro x2 x3
           show OKq _ _ _ [(3, x3), (2, x2)] _
           refine rThen ?_
           refine rRet ?_
           exact rDone (.inr rfl) rfl
     · refine rSeq ?_
       refine cLess [5, 1] ?_
       refine xR hE [1, 5, 6] rfl (ir_Def_r2_ok F _ _ _) ?_
       intro x1 x5 x6
       show OKq _ _ _ [(6, x6), (5, x5), (1, x1)] _
       refine rThen ?_
       refine xCond rfl rfl ?_ ?_
       · refine rSkip ?_
         exact qLess [6, 1] (hj0 x1 x6)
       · refine rSeq ?_
         refine cLess [5, 1] ?_
         refine xR hE [1, 5, 6] rfl (ir_Def_r3_ok F _ _ _) ?_
         intro x1 x5 x6
         show OKq _ _ _ [(6, x6), (5, x5), (1, x1)] _
         refine rThen ?_
         refine xCond rfl rfl ?_ ?_
         · refine rSkip ?_
           exact qLess [6, 1] (hj0 x1 x6)
         · refine cLess [5, 1] ?_
           refine xR hE [1, 6] rfl (ir_Def_r4_ok F _ _ _) ?_
           intro x1 x6
           show OKq _ _ _ [(6, x6), (1, x1)] _
           exact qLess [6, 1] (hj0 x1 x6)
   · exact rFail


/-! ### haruspex/ir.block -/

def ir_block_env (F : Nat) : Env := envOf []

noncomputable def ir_block_R (F : Nat) := rK Try.prog TryG (ir_block_env F) Try.f52
noncomputable def ir_block_D (F : Nat) := dK Try.prog TryG (ir_block_env F) Try.f52

def ir_block_r6 (F : Nat) (x5 : Value) (K : Value → M Value) : M Value :=
  K x5

theorem ir_block_r6_ok (F : Nat) (x5 : Value) (K : Value → M Value) : ir_block_r6 F x5 K = ir_block_R F 6 [(5, x5)] [4] K := by kernel_rfl

def ir_block_r5 (F : Nat) (K : Value → M Value) : M Value :=
  K (.pointer none)

theorem ir_block_r5_ok (F : Nat) (K : Value → M Value) : ir_block_r5 F K = ir_block_R F 5 [] [4] K := by kernel_rfl

def ir_block_r4 (F : Nat) (x3 x5 : Value) (K : Value → Value → M Value) : M Value :=
  bnd (opFieldAddr 2 x3) fun v55 => bnd (opLoad v55) fun v56 => bnd (opBin .lss v56 (.int .i64 (0))) fun v57 => onB v57 (K x5 (.bool true)) (bnd (opFieldAddr 2 x3) fun v59 => bnd (opLoad v59) fun v60 => bnd (opNil x5) fun v62 => bnd (opFieldAddr 0 v62) fun v63 => bnd (opLoad v63) fun v64 => bnd (opLen v64) fun v65 => bnd (opBin .gtr v60 v65) fun v66 => K x5 v66)

theorem ir_block_r4_ok (F : Nat) (x3 x5 : Value) (K : Value → Value → M Value) : ir_block_r4 F x3 x5 K = ir_block_D F 4 [0, 1, 2, 3, 4, 5, 6, 7, 8, 9, 10, 11, 12] [(5, x5), (3, x3)] [5, 67] K := by kernel_rfl

theorem ir_block_r4_good : goodOrder (opsOf Try.f52 4) [0, 1, 2, 3, 4, 5, 6, 7, 8, 9, 10, 11, 12] = true := by kernel_rfl

def ir_block_r3 (F : Nat) (x0 x3 : Value) (K : Value → Value → M Value) : M Value :=
  bnd (opNil x0) fun v44 => bnd (opFieldAddr 4 v44) fun v45 => bnd (opLoad v45) fun v46 => bnd (opFieldAddr 0 x3) fun v47 => bnd (opLoad v47) fun v48 => bnd (opIndexAddr 3 v46 v48) fun v49 => bnd (opFieldAddr 2 v49) fun v50 => bnd (opLoad v50) fun v51 => bnd (opFieldAddr 1 x3) fun v52 => bnd (opLoad v52) fun v53 => bnd (opIndexAddr 5 v51 v53) fun v54 => K x3 v54

theorem ir_block_r3_ok (F : Nat) (x0 x3 : Value) (K : Value → Value → M Value) : ir_block_r3 F x0 x3 K = ir_block_D F 3 [0, 1, 2, 3, 4, 5, 6, 7, 8, 9, 10, 11, 12] [(3, x3), (0, x0)] [3, 5] K := by kernel_rfl

theorem ir_block_r3_good : goodOrder (opsOf Try.f52 3) [0, 1, 2, 3, 4, 5, 6, 7, 8, 9, 10, 11, 12] = true := by kernel_rfl

def ir_block_r2 (F : Nat) (K : Value → M Value) : M Value :=
  K (.pointer none)

theorem ir_block_r2_ok (F : Nat) (K : Value → M Value) : ir_block_r2 F K = ir_block_R F 2 [] [4] K := by kernel_rfl

def ir_block_r1 (F : Nat) (x0 x3 : Value) (K : Value → Value → Value → M Value) : M Value :=
  bnd (opEq eqP false x0 (.pointer none)) fun v7 => onB v7 (K x0 x3 (.bool true)) (bnd (opFieldAddr 0 x3) fun v9 => bnd (opLoad v9) fun v10 => bnd (opBin .lss v10 (.int .i64 (0))) fun v11 => onB v11 (K x0 x3 (.bool true)) (bnd (opFieldAddr 0 x3) fun v14 => bnd (opLoad v14) fun v15 => bnd (opNil x0) fun v17 => bnd (opFieldAddr 4 v17) fun v18 => bnd (opLoad v18) fun v19 => bnd (opLen v19) fun v20 => bnd (opBin .geq v15 v20) fun v21 => onB v21 (K x0 x3 (.bool true)) (bnd (opFieldAddr 1 x3) fun v24 => bnd (opLoad v24) fun v25 => bnd (opBin .lss v25 (.int .i64 (0))) fun v26 => onB v26 (K x0 x3 (.bool true)) (bnd (opFieldAddr 1 x3) fun v29 => bnd (opLoad v29) fun v30 => bnd (opNil x0) fun v32 => bnd (opFieldAddr 4 v32) fun v33 => bnd (opLoad v33) fun v34 => bnd (opFieldAddr 0 x3) fun v35 => bnd (opLoad v35) fun v36 => bnd (opIndexAddr 3 v34 v36) fun v37 => bnd (opFieldAddr 2 v37) fun v38 => bnd (opLoad v38) fun v39 => bnd (opLen v39) fun v40 => bnd (opBin .geq v30 v40) fun v41 => K x0 x3 v41))))

theorem ir_block_r1_ok (F : Nat) (x0 x3 : Value) (K : Value → Value → Value → M Value) : ir_block_r1 F x0 x3 K = ir_block_D F 1 [0, 1, 2, 3, 4, 5, 6, 7, 8, 9, 10, 11, 12, 13, 14, 15, 16, 17, 18, 19, 20, 21, 22, 23, 24, 25, 26, 27, 28, 29, 30, 31, 32, 33, 34, 35, 36] [(3, x3), (0, x0)] [0, 3, 42] K := by kernel_rfl

theorem ir_block_r1_good : goodOrder (opsOf Try.f52 1) [0, 1, 2, 3, 4, 5, 6, 7, 8, 9, 10, 11, 12, 13, 14, 15, 16, 17, 18, 19, 20, 21, 22, 23, 24, 25, 26, 27, 28, 29, 30, 31, 32, 33, 34, 35, 36] = true := by kernel_rfl

def ir_block_r0 (F : Nat) (x0 x1 : Value) (K : Value → Value → M Value) : M Value :=
  bnd (opBoxN x1) fun v3 => K x0 v3

theorem ir_block_r0_ok (F : Nat) (x0 x1 : Value) (K : Value → Value → M Value) : ir_block_r0 F x0 x1 K = ir_block_R F 0 [(1, x1), (0, x0)] [0, 3] K := by kernel_rfl

def ir_block (F : Nat) (x0 x1 : Value) : M Value :=
  ir_block_r0 F x0 x1 (fun x0 x3 => ir_block_r1 F x0 x3 (fun x0 x3 x42 => onB x42 (ir_block_r2 F (fun x4 => ret x4)) (ir_block_r3 F x0 x3 (fun x3 x5 => ir_block_r4 F x3 x5 (fun x5 x67 => onB x67 (ir_block_r5 F (fun x4 => ret x4)) (ir_block_r6 F x5 (fun x4 => ret x4)))))))

def ir_block_m (F : Nat) : List Value → M Value
  | [x0, x1] => ir_block F x0 x1
  | _ => fail

theorem ir_block_body : Try.f52.body = some (.seq (.region 0 (opsOf Try.f52 0) false) (.seq (.seq (.region 1 (opsOf Try.f52 1) true) (.cond (.tmp 42) (.seq (.region 2 (opsOf Try.f52 2) false) .ret) .skip)) (.seq (.region 3 (opsOf Try.f52 3) true) (.seq (.seq (.region 4 (opsOf Try.f52 4) true) (.cond (.tmp 67) (.seq (.region 5 (opsOf Try.f52 5) false) .ret) .skip)) (.seq (.region 6 (opsOf Try.f52 6) false) .ret))))) := by kernel_rfl

theorem ir_block_ok (F : Nat) : Sim Try.prog TryG 52 (ir_block_m F) := by
 have hE : EnvOK Try.prog TryG (ir_block_env F) := EnvOK.nil
 refine Sim.of_body (E := ir_block_env F) Try.func52 ir_block_body Try.call52 ?_ ?_
 · intro args hl; unfold ir_block_m; split
   · exact absurd hl (Nat.not_lt.2 (Nat.le_of_ble_eq_true rfl))
   · rfl
 · intro args ρ h w z; unfold ir_block_m; split
   · rename_i x0 x1; show OKc _ _ [(0, x0), (1, x1)] _ _
     refine rSeq ?_
     refine cLess [1, 0] ?_
     refine xR hE [0, 3] rfl (ir_block_r0_ok F _ _ _) ?_
     intro x0 x3
     show OKq _ _ _ [(3, x3), (0, x0)] _
     refine rThen ?_
     refine rSeq ?_
     refine rSeq ?_
     refine cLess [3, 0] ?_
     refine xD Trymix hE [0, 3, 42] rfl ir_block_r1_good (ir_block_r1_ok F _ _ _) ?_
     intro x0 x3 x42
     show OKq _ _ _ [(42, x42), (3, x3), (0, x0)] _
     refine rThen ?_
     refine xCond rfl rfl ?_ ?_
     · refine rSeq ?_
       refine cLess [] ?_
       refine xR hE [4] rfl (ir_block_r2_ok F _) ?_
       intro x4
       show OKq _ _ _ [(4, x4)] _
       refine rThen ?_
       refine rRet ?_
       refine xThenR ?_
       exact rDone (.inr rfl) rfl
     · refine rSkip ?_
       refine rThen ?_
       refine rSeq ?_
       refine cLess [3, 0] ?_
       refine xD Trymix hE [3, 5] rfl ir_block_r3_good (ir_block_r3_ok F _ _ _) ?_
       intro x3 x5
       show OKq _ _ _ [(5, x5), (3, x3)] _
       refine rThen ?_
       refine rSeq ?_
       refine rSeq ?_
       refine cLess [5, 3] ?_
       refine xD Trymix hE [5, 67] rfl ir_block_r4_good (ir_block_r4_ok F _ _ _) ?_
       intro x5 x67
       show OKq _ _ _ [(67, x67), (5, x5)] _
       refine rThen ?_
       refine xCond rfl rfl ?_ ?_
       · refine rSeq ?_
         refine cLess [] ?_
         refine xR hE [4] rfl (ir_block_r5_ok F _) ?_
         intro x4
         show OKq _ _ _ [(4, x4)] _
         refine rThen ?_
         refine rRet ?_
         refine xThenR ?_
         exact rDone (.inr rfl) rfl
       · refine rSkip ?_
         refine rThen ?_
         refine rSeq ?_
         refine cLess [5] ?_
         refine xR hE [4] rfl (ir_block_r6_ok F _ _) ?_
         intro x4
         show OKq _ _ _ [(4, x4)] _
         refine rThen ?_
         refine rRet ?_
         exact rDone (.inr rfl) rfl
   · exact rFail


/-! ### haruspex/haruspexref8.named -/

def R8_named_env (F : Nat) : Env := envOf []

noncomputable def R8_named_R (F : Nat) := rK Try.prog TryG (R8_named_env F) Try.f55
noncomputable def R8_named_D (F : Nat) := dK Try.prog TryG (R8_named_env F) Try.f55

def R8_named_r10 (F : Nat) (K : Value → M Value) : M Value :=
  K (.bool false)

theorem R8_named_r10_ok (F : Nat) (K : Value → M Value) : R8_named_r10 F K = R8_named_R F 10 [] [4] K := by kernel_rfl

def R8_named_r3 (F : Nat) (x3 : Value) (K : Value → M Value) : M Value :=
  bnd (opFieldAddr 1 x3) fun v9 => bnd (opLoad v9) fun v10 => bnd (opBin .eql v10 (.int .i64 (0))) fun v11 => K v11

theorem R8_named_r3_ok (F : Nat) (x3 : Value) (K : Value → M Value) : R8_named_r3 F x3 K = R8_named_R F 3 [(3, x3)] [4] K := by kernel_rfl

def R8_named_r5 (F : Nat) (x0 x3 : Value) (K : Value → M Value) : M Value :=
  bnd (opFieldAddr 1 x3) fun v14 => bnd (opLoad v14) fun v15 => bnd (opBin .geq v15 (.int .i64 (0))) fun v16 => onB v16 (bnd (opFieldAddr 1 x3) fun v18 => bnd (opLoad v18) fun v19 => bnd (opNil x0) fun v21 => bnd (opFieldAddr 0 v21) fun v22 => bnd (opLoad v22) fun v23 => bnd (opLen v23) fun v24 => bnd (opBin .lss v19 v24) fun v25 => K v25) (K (.bool false))

theorem R8_named_r5_ok (F : Nat) (x0 x3 : Value) (K : Value → M Value) : R8_named_r5 F x0 x3 K = R8_named_D F 5 [0, 1, 2, 3, 4, 5, 6, 7, 8, 9, 10, 11, 12, 13] [(3, x3), (0, x0)] [4] K := by kernel_rfl

theorem R8_named_r5_good : goodOrder (opsOf Try.f55 5) [0, 1, 2, 3, 4, 5, 6, 7, 8, 9, 10, 11, 12, 13] = true := by kernel_rfl

def R8_named_r7 (F : Nat) (x0 x3 : Value) (K : Value → M Value) : M Value :=
  bnd (opFieldAddr 1 x3) fun v29 => bnd (opLoad v29) fun v30 => bnd (opBin .geq v30 (.int .i64 (0))) fun v31 => onB v31 (bnd (opFieldAddr 1 x3) fun v33 => bnd (opLoad v33) fun v34 => bnd (opNil x0) fun v36 => bnd (opFieldAddr 1 v36) fun v37 => bnd (opLoad v37) fun v38 => bnd (opLen v38) fun v39 => bnd (opBin .lss v34 v39) fun v40 => K v40) (K (.bool false))

theorem R8_named_r7_ok (F : Nat) (x0 x3 : Value) (K : Value → M Value) : R8_named_r7 F x0 x3 K = R8_named_D F 7 [0, 1, 2, 3, 4, 5, 6, 7, 8, 9, 10, 11, 12, 13] [(3, x3), (0, x0)] [4] K := by kernel_rfl

theorem R8_named_r7_good : goodOrder (opsOf Try.f55 7) [0, 1, 2, 3, 4, 5, 6, 7, 8, 9, 10, 11, 12, 13] = true := by kernel_rfl

def R8_named_r9 (F : Nat) (x0 x3 : Value) (K : Value → M Value) : M Value :=
  bnd (opFieldAddr 1 x3) fun v44 => bnd (opLoad v44) fun v45 => bnd (opBin .geq v45 (.int .i64 (0))) fun v46 => onB v46 (bnd (opFieldAddr 1 x3) fun v48 => bnd (opLoad v48) fun v49 => bnd (opNil x0) fun v51 => bnd (opFieldAddr 2 v51) fun v52 => bnd (opLoad v52) fun v53 => bnd (opLen v53) fun v54 => bnd (opBin .lss v49 v54) fun v55 => K v55) (K (.bool false))

theorem R8_named_r9_ok (F : Nat) (x0 x3 : Value) (K : Value → M Value) : R8_named_r9 F x0 x3 K = R8_named_D F 9 [0, 1, 2, 3, 4, 5, 6, 7, 8, 9, 10, 11, 12, 13] [(3, x3), (0, x0)] [4] K := by kernel_rfl

theorem R8_named_r9_good : goodOrder (opsOf Try.f55 9) [0, 1, 2, 3, 4, 5, 6, 7, 8, 9, 10, 11, 12, 13] = true := by kernel_rfl

def R8_named_r8 (F : Nat) (x0 x3 x6 : Value) (K : Value → Value → Value → M Value) : M Value :=
  bnd (opBin .eql x6 (.int .i64 (3))) fun v43 => K x0 x3 v43

theorem R8_named_r8_ok (F : Nat) (x0 x3 x6 : Value) (K : Value → Value → Value → M Value) : R8_named_r8 F x0 x3 x6 K = R8_named_R F 8 [(6, x6), (3, x3), (0, x0)] [0, 3, 42] K := by kernel_rfl

def R8_named_r6 (F : Nat) (x0 x3 x6 : Value) (K : Value → Value → Value → Value → M Value) : M Value :=
  bnd (opBin .eql x6 (.int .i64 (2))) fun v28 => K x0 x3 x6 v28

theorem R8_named_r6_ok (F : Nat) (x0 x3 x6 : Value) (K : Value → Value → Value → Value → M Value) : R8_named_r6 F x0 x3 x6 K = R8_named_R F 6 [(6, x6), (3, x3), (0, x0)] [0, 3, 6, 27] K := by kernel_rfl

def R8_named_r4 (F : Nat) (x0 x3 x6 : Value) (K : Value → Value → Value → Value → M Value) : M Value :=
  bnd (opBin .eql x6 (.int .i64 (1))) fun v13 => K x0 x3 x6 v13

theorem R8_named_r4_ok (F : Nat) (x0 x3 x6 : Value) (K : Value → Value → Value → Value → M Value) : R8_named_r4 F x0 x3 x6 K = R8_named_R F 4 [(6, x6), (3, x3), (0, x0)] [0, 3, 6, 12] K := by kernel_rfl

def R8_named_r2 (F : Nat) (x0 x3 x6 : Value) (K : Value → Value → Value → Value → M Value) : M Value :=
  bnd (opBin .eql x6 (.int .i64 (0))) fun v8 => K x0 x3 x6 v8

theorem R8_named_r2_ok (F : Nat) (x0 x3 x6 : Value) (K : Value → Value → Value → Value → M Value) : R8_named_r2 F x0 x3 x6 K = R8_named_R F 2 [(6, x6), (3, x3), (0, x0)] [0, 3, 6, 7] K := by kernel_rfl

def R8_named_r1 (F : Nat) (x0 x3 : Value) (K : Value → Value → Value → M Value) : M Value :=
  bnd (opFieldAddr 0 x3) fun v5 => bnd (opLoad v5) fun v6 => K x0 x3 v6

theorem R8_named_r1_ok (F : Nat) (x0 x3 : Value) (K : Value → Value → Value → M Value) : R8_named_r1 F x0 x3 K = R8_named_R F 1 [(3, x3), (0, x0)] [0, 3, 6] K := by kernel_rfl

def R8_named_r0 (F : Nat) (x0 x1 : Value) (K : Value → Value → M Value) : M Value :=
  bnd (opBoxN x1) fun v3 => K x0 v3

theorem R8_named_r0_ok (F : Nat) (x0 x1 : Value) (K : Value → Value → M Value) : R8_named_r0 F x0 x1 K = R8_named_R F 0 [(1, x1), (0, x0)] [0, 3] K := by kernel_rfl

def R8_named (F : Nat) (x0 x1 : Value) : M Value :=
  R8_named_r0 F x0 x1 (fun x0 x3 => R8_named_r1 F x0 x3 (fun x0 x3 x6 => R8_named_r2 F x0 x3 x6 (fun x0 x3 x6 x7 => onB x7 (R8_named_r3 F x3 (fun x4 => ret x4)) (R8_named_r4 F x0 x3 x6 (fun x0 x3 x6 x12 => onB x12 (R8_named_r5 F x0 x3 (fun x4 => ret x4)) (R8_named_r6 F x0 x3 x6 (fun x0 x3 x6 x27 => onB x27 (R8_named_r7 F x0 x3 (fun x4 => ret x4)) (R8_named_r8 F x0 x3 x6 (fun x0 x3 x42 => onB x42 (R8_named_r9 F x0 x3 (fun x4 => ret x4)) (R8_named_r10 F (fun x4 => ret x4)))))))))))

def R8_named_m (F : Nat) : List Value → M Value
  | [x0, x1] => R8_named F x0 x1
  | _ => fail

theorem R8_named_body : Try.f55.body = some (.seq (.region 0 (opsOf Try.f55 0) false) (.seq (.seq (.region 1 (opsOf Try.f55 1) false) (.block 0 (.seq (.region 2 (opsOf Try.f55 2) false) (.cond (.tmp 7) (.seq (.region 3 (opsOf Try.f55 3) false) .ret) (.seq (.region 4 (opsOf Try.f55 4) false) (.cond (.tmp 12) (.seq (.region 5 (opsOf Try.f55 5) true) .ret) (.seq (.region 6 (opsOf Try.f55 6) false) (.cond (.tmp 27) (.seq (.region 7 (opsOf Try.f55 7) true) .ret) (.seq (.region 8 (opsOf Try.f55 8) false) (.cond (.tmp 42) (.seq (.region 9 (opsOf Try.f55 9) true) .ret) .skip)))))))))) (.seq (.region 10 (opsOf Try.f55 10) false) .ret))) := by kernel_rfl

theorem R8_named_ok (F : Nat) : Sim Try.prog TryG 55 (R8_named_m F) := by
 have hE : EnvOK Try.prog TryG (R8_named_env F) := EnvOK.nil
 refine Sim.of_body (E := R8_named_env F) Try.func55 R8_named_body Try.call55 ?_ ?_
 · intro args hl; unfold R8_named_m; split
   · exact absurd hl (Nat.not_lt.2 (Nat.le_of_ble_eq_true rfl))
   · rfl
 · intro args ρ h w z; unfold R8_named_m; split
   · rename_i x0 x1; show OKc _ _ [(0, x0), (1, x1)] _ _
     refine rSeq ?_
     refine cLess [1, 0] ?_
     refine xR hE [0, 3] rfl (R8_named_r0_ok F _ _ _) ?_
     intro x0 x3
     show OKq _ _ _ [(3, x3), (0, x0)] _
     refine rThen ?_
     refine rSeq ?_
     refine rSeq ?_
     refine cLess [3, 0] ?_
     refine xR hE [0, 3, 6] rfl (R8_named_r1_ok F _ _ _) ?_
     intro x0 x3 x6
     show OKq _ _ _ [(6, x6), (3, x3), (0, x0)] _
     refine rThen ?_
     refine rBlock ?_
     refine rSeq ?_
     refine cLess [6, 3, 0] ?_
     refine xR hE [0, 3, 6, 7] rfl (R8_named_r2_ok F _ _ _ _) ?_
     intro x0 x3 x6 x7
     show OKq _ _ _ [(7, x7), (6, x6), (3, x3), (0, x0)] _
     refine rThen ?_
     refine xCond rfl rfl ?_ ?_
     · refine rSeq ?_
       refine cLess [3] ?_
       refine xR hE [4] rfl (R8_named_r3_ok F _ _) ?_
       intro x4
       show OKq _ _ _ [(4, x4)] _
       refine rThen ?_
       refine rRet ?_
       refine xBlockR ?_
       refine xThenR ?_
       exact rDone (.inr rfl) rfl
     · refine rSeq ?_
       refine cLess [6, 3, 0] ?_
       refine xR hE [0, 3, 6, 12] rfl (R8_named_r4_ok F _ _ _ _) ?_
       intro x0 x3 x6 x12
       show OKq _ _ _ [(12, x12), (6, x6), (3, x3), (0, x0)] _
       refine rThen ?_
       refine xCond rfl rfl ?_ ?_
       · refine rSeq ?_
         refine cLess [3, 0] ?_
         refine xD Trymix hE [4] rfl R8_named_r5_good (R8_named_r5_ok F _ _ _) ?_
         intro x4
         show OKq _ _ _ [(4, x4)] _
         refine rThen ?_
         refine rRet ?_
         refine xBlockR ?_
         refine xThenR ?_
         exact rDone (.inr rfl) rfl
       · refine rSeq ?_
         refine cLess [6, 3, 0] ?_
         refine xR hE [0, 3, 6, 27] rfl (R8_named_r6_ok F _ _ _ _) ?_
         intro x0 x3 x6 x27
         show OKq _ _ _ [(27, x27), (6, x6), (3, x3), (0, x0)] _
         refine rThen ?_
         refine xCond rfl rfl ?_ ?_
         · refine rSeq ?_
           refine cLess [3, 0] ?_
           refine xD Trymix hE [4] rfl R8_named_r7_good (R8_named_r7_ok F _ _ _) ?_
           intro x4
           show OKq _ _ _ [(4, x4)] _
           refine rThen ?_
           refine rRet ?_
           refine xBlockR ?_
           refine xThenR ?_
           exact rDone (.inr rfl) rfl
         · refine rSeq ?_
           refine cLess [6, 3, 0] ?_
           refine xR hE [0, 3, 42] rfl (R8_named_r8_ok F _ _ _ _) ?_
           intro x0 x3 x42
           show OKq _ _ _ [(42, x42), (3, x3), (0, x0)] _
           refine rThen ?_
           refine xCond rfl rfl ?_ ?_
           · refine rSeq ?_
             refine cLess [3, 0] ?_
             refine xD Trymix hE [4] rfl R8_named_r9_good (R8_named_r9_ok F _ _ _) ?_
             intro x4
             show OKq _ _ _ [(4, x4)] _
             refine rThen ?_
             refine rRet ?_
             refine xBlockR ?_
             refine xThenR ?_
             exact rDone (.inr rfl) rfl
           · refine rSkip ?_
             refine xBlockN ?_
             refine rThen ?_
             refine rSeq ?_
             refine cLess [] ?_
             refine xR hE [4] rfl (R8_named_r10_ok F _) ?_
             intro x4
             show OKq _ _ _ [(4, x4)] _
             refine rThen ?_
             refine rRet ?_
             exact rDone (.inr rfl) rfl
   · exact rFail


/-! ### haruspex/haruspexref8.in -/

def R8_in_env (F : Nat) : Env := envOf []

noncomputable def R8_in_R (F : Nat) := rK Try.prog TryG (R8_in_env F) Try.f56
noncomputable def R8_in_D (F : Nat) := dK Try.prog TryG (R8_in_env F) Try.f56

def R8_in_r1 (F : Nat) (x0 x1 : Value) (K : Value → M Value) : M Value :=
  bnd (opBin .geq x0 (.int .i64 (0))) fun v6 => onB v6 (bnd (opBin .lss x0 x1) fun v10 => K v10) (K (.bool false))

theorem R8_in_r1_ok (F : Nat) (x0 x1 : Value) (K : Value → M Value) : R8_in_r1 F x0 x1 K = R8_in_R F 1 [(1, x1), (0, x0)] [4] K := by kernel_rfl

def R8_in_r0 (F : Nat) (x0 x1 : Value) (K : Value → Value → M Value) : M Value :=
  K x0 x1

theorem R8_in_r0_ok (F : Nat) (x0 x1 : Value) (K : Value → Value → M Value) : R8_in_r0 F x0 x1 K = R8_in_R F 0 [(1, x1), (0, x0)] [0, 1] K := by kernel_rfl

def R8_in (F : Nat) (x0 x1 : Value) : M Value :=
  R8_in_r0 F x0 x1 (fun x0 x1 => R8_in_r1 F x0 x1 (fun x4 => ret x4))

def R8_in_m (F : Nat) : List Value → M Value
  | [x0, x1] => R8_in F x0 x1
  | _ => fail

theorem R8_in_body : Try.f56.body = some (.seq (.region 0 (opsOf Try.f56 0) false) (.seq (.region 1 (opsOf Try.f56 1) false) .ret)) := by kernel_rfl

theorem R8_in_ok (F : Nat) : Sim Try.prog TryG 56 (R8_in_m F) := by
 have hE : EnvOK Try.prog TryG (R8_in_env F) := EnvOK.nil
 refine Sim.of_body (E := R8_in_env F) Try.func56 R8_in_body Try.call56 ?_ ?_
 · intro args hl; unfold R8_in_m; split
   · exact absurd hl (Nat.not_lt.2 (Nat.le_of_ble_eq_true rfl))
   · rfl
 · intro args ρ h w z; unfold R8_in_m; split
   · rename_i x0 x1; show OKc _ _ [(0, x0), (1, x1)] _ _
     refine rSeq ?_
     refine cLess [1, 0] ?_
     refine xR hE [0, 1] rfl (R8_in_r0_ok F _ _ _) ?_
     intro x0 x1
     show OKq _ _ _ [(1, x1), (0, x0)] _
     refine rThen ?_
     refine rSeq ?_
     refine cLess [1, 0] ?_
     refine xR hE [4] rfl (R8_in_r1_ok F _ _ _) ?_
     intro x4
     show OKq _ _ _ [(4, x4)] _
     refine rThen ?_
     refine rRet ?_
     exact rDone (.inr rfl) rfl
   · exact rFail


/-! ### haruspex/haruspexref8.Impl -/

def R8_Impl_env (F : Nat) : Env := envOf []

noncomputable def R8_Impl_R (F : Nat) := rK Try.prog TryG (R8_Impl_env F) Try.f59
noncomputable def R8_Impl_D (F : Nat) := dK Try.prog TryG (R8_Impl_env F) Try.f59

def R8_Impl_r6 (F : Nat) (K : Value → M Value) : M Value :=
  K (.int .i64 (-1))

theorem R8_Impl_r6_ok (F : Nat) (K : Value → M Value) : R8_Impl_r6 F K = R8_Impl_R F 6 [] [6] K := by kernel_rfl

def R8_Impl_k0 (F : Nat) : M Value :=
  R8_Impl_r6 F (fun x6 => ret x6)

def R8_Impl_r3 (F : Nat) (x0 x1 x2 x7 : Value) (K : Value → Value → Value → Value → M Value) : M Value :=
  bnd (opBin .add x7 (.int .i64 (1))) fun v16 => K x0 x1 x2 v16

theorem R8_Impl_r3_ok (F : Nat) (x0 x1 x2 x7 : Value) (K : Value → Value → Value → Value → M Value) : R8_Impl_r3 F x0 x1 x2 x7 K = R8_Impl_R F 3 [(7, x7), (2, x2), (1, x1), (0, x0)] [0, 1, 2, 7] K := by kernel_rfl

def R8_Impl_r5 (F : Nat) (x7 : Value) (K : Value → M Value) : M Value :=
  K x7

theorem R8_Impl_r5_ok (F : Nat) (x7 : Value) (K : Value → M Value) : R8_Impl_r5 F x7 K = R8_Impl_R F 5 [(7, x7)] [6] K := by kernel_rfl

def R8_Impl_r4 (F : Nat) (x0 x1 x2 x7 : Value) (K : Value → Value → Value → Value → Value → M Value) : M Value :=
  bnd (opNil x0) fun v18 => bnd (opFieldAddr 3 v18) fun v19 => bnd (opLoad v19) fun v20 => bnd (opIndexAddr 3 v20 x7) fun v22 => bnd (opFieldAddr 0 v22) fun v23 => bnd (opLoad v23) fun v24 => bnd (opBin .eql v24 x1) fun v26 => onB v26 (bnd (opNil x0) fun v29 => bnd (opFieldAddr 3 v29) fun v30 => bnd (opLoad v30) fun v31 => bnd (opIndexAddr 3 v31 x7) fun v33 => bnd (opFieldAddr 1 v33) fun v34 => bnd (opLoad v34) fun v35 => bnd (opBin .eql v35 x2) fun v37 => K x0 x1 x2 x7 v37) (K x0 x1 x2 x7 (.bool false))

theorem R8_Impl_r4_ok (F : Nat) (x0 x1 x2 x7 : Value) (K : Value → Value → Value → Value → Value → M Value) : R8_Impl_r4 F x0 x1 x2 x7 K = R8_Impl_R F 4 [(7, x7), (2, x2), (1, x1), (0, x0)] [0, 1, 2, 7, 38] K := by kernel_rfl

def R8_Impl_r2 (F : Nat) (x0 x1 x2 x7 : Value) (K : Value → Value → Value → Value → Value → M Value) : M Value :=
  bnd (opNil x0) fun v10 => bnd (opFieldAddr 3 v10) fun v11 => bnd (opLoad v11) fun v12 => bnd (opLen v12) fun v13 => bnd (opBin .lss x7 v13) fun v14 => K x0 x1 x2 x7 v14

theorem R8_Impl_r2_ok (F : Nat) (x0 x1 x2 x7 : Value) (K : Value → Value → Value → Value → Value → M Value) : R8_Impl_r2 F x0 x1 x2 x7 K = R8_Impl_R F 2 [(7, x7), (2, x2), (1, x1), (0, x0)] [0, 1, 2, 7, 14] K := by kernel_rfl

def R8_Impl_b1 (F : Nat) (E1_0 : M Value) (A1 : Value → Value → Value → Value → M Value) (x0 x1 x2 x7 : Value) : M Value :=
  R8_Impl_r2 F x0 x1 x2 x7 (fun x0 x1 x2 x7 x14 => onB x14 (R8_Impl_r4 F x0 x1 x2 x7 (fun x0 x1 x2 x7 x38 => onB x38 (R8_Impl_r5 F x7 (fun x6 => ret x6)) (R8_Impl_r3 F x0 x1 x2 x7 (fun x0 x1 x2 x7 => A1 x0 x1 x2 x7)))) (E1_0 ))

def R8_Impl_l1 (F : Nat) (E1_0 : M Value) : Nat → Value → Value → Value → Value → M Value
  | 0, _, _, _, _ => fail
  | k1 + 1, x0, x1, x2, x7 => R8_Impl_b1 F E1_0 (R8_Impl_l1 F E1_0 k1) x0 x1 x2 x7

theorem R8_Impl_l1_s (F : Nat) (E1_0 : M Value) (k1 : Nat) (x0 x1 x2 x7 : Value) : R8_Impl_l1 F E1_0 (k1 + 1) x0 x1 x2 x7 = R8_Impl_b1 F E1_0 (R8_Impl_l1 F E1_0 k1) x0 x1 x2 x7 := rfl

def R8_Impl_r1 (F : Nat) (x0 x1 x2 : Value) (K : Value → Value → Value → Value → M Value) : M Value :=
  K x0 x1 x2 (.int .i64 (0))

theorem R8_Impl_r1_ok (F : Nat) (x0 x1 x2 : Value) (K : Value → Value → Value → Value → M Value) : R8_Impl_r1 F x0 x1 x2 K = R8_Impl_R F 1 [(2, x2), (1, x1), (0, x0)] [0, 1, 2, 7] K := by kernel_rfl

def R8_Impl_r0 (F : Nat) (x0 x1 x2 : Value) (K : Value → Value → Value → M Value) : M Value :=
  K x0 x1 x2

theorem R8_Impl_r0_ok (F : Nat) (x0 x1 x2 : Value) (K : Value → Value → Value → M Value) : R8_Impl_r0 F x0 x1 x2 K = R8_Impl_R F 0 [(2, x2), (1, x1), (0, x0)] [0, 1, 2] K := by kernel_rfl

def R8_Impl (F : Nat) (x0 x1 x2 : Value) : M Value :=
  R8_Impl_r0 F x0 x1 x2 (fun x0 x1 x2 => R8_Impl_r1 F x0 x1 x2 (fun x0 x1 x2 x7 => R8_Impl_l1 F (R8_Impl_k0 F ) F x0 x1 x2 x7))

def R8_Impl_m (F : Nat) : List Value → M Value
  | [x0, x1, x2] => R8_Impl F x0 x1 x2
  | _ => fail

theorem R8_Impl_body : Try.f59.body = some (.seq (.region 0 (opsOf Try.f59 0) false) (.seq (.seq (.region 1 (opsOf Try.f59 1) false) (.block 0 (.loop (.seq (.seq (.region 2 (opsOf Try.f59 2) false) (.cond (.tmp 14) .skip (.exit 0))) (.seq (.block 1 (.seq (.region 4 (opsOf Try.f59 4) false) (.cond (.tmp 38) (.seq (.region 5 (opsOf Try.f59 5) false) .ret) .skip))) (.region 3 (opsOf Try.f59 3) false)))))) (.seq (.region 6 (opsOf Try.f59 6) false) .ret))) := by kernel_rfl

theorem R8_Impl_ok (F : Nat) : Sim Try.prog TryG 59 (R8_Impl_m F) := by
 have hE : EnvOK Try.prog TryG (R8_Impl_env F) := EnvOK.nil
 refine Sim.of_body (E := R8_Impl_env F) Try.func59 R8_Impl_body Try.call59 ?_ ?_
 · intro args hl; unfold R8_Impl_m; split
   · exact absurd hl (Nat.not_lt.2 (Nat.le_of_ble_eq_true rfl))
   · rfl
 · intro args ρ h w z; unfold R8_Impl_m; split
   · rename_i x0 x1 x2; show OKc _ _ [(0, x0), (1, x1), (2, x2)] _ _
     refine rSeq ?_
     refine cLess [2, 1, 0] ?_
     refine xR hE [0, 1, 2] rfl (R8_Impl_r0_ok F _ _ _ _) ?_
     intro x0 x1 x2
     show OKq _ _ _ [(2, x2), (1, x1), (0, x0)] _
     refine rThen ?_
     refine xSeq [] (R8_Impl_k0 F ) ?_ fun hj0 => ?_
     · show OKc _ _ [] _ _
       refine rSeq ?_
       refine cLess [] ?_
       refine xR hE [6] rfl (R8_Impl_r6_ok F _) ?_
       intro x6
       show OKq _ _ _ [(6, x6)] _
       refine rThen ?_
       refine rRet ?_
       exact rDone (.inr rfl) rfl
     · refine rSeq ?_
       refine cLess [2, 1, 0] ?_
       refine xR hE [0, 1, 2, 7] rfl (R8_Impl_r1_ok F _ _ _ _) ?_
       intro x0 x1 x2 x7
       show OKq _ _ _ [(7, x7), (2, x2), (1, x1), (0, x0)] _
       refine rThen ?_
       refine rBlock ?_
       refine cLess [7, 2, 1, 0] ?_
       refine xLoopAt [0, 1, 2, 7] [] (fun k1 => R8_Impl_l1 F (R8_Impl_k0 F ) k1) F [x0, x1, x2, x7] rfl rfl (fun _ _ _ _ => rfl) fun I hI1 k1 => ?_
       intro x0 x1 x2 x7
       show OKc _ _ [(7, x7), (2, x2), (1, x1), (0, x0)] _ _
       refine cAs (R8_Impl_l1_s F _ _ _ _ _ _) ?_
       refine rSeq ?_
       refine rSeq ?_
       refine cLess [7, 2, 1, 0] ?_
       refine xR hE [0, 1, 2, 7, 14] rfl (R8_Impl_r2_ok F _ _ _ _ _) ?_
       intro x0 x1 x2 x7 x14
       show OKq _ _ _ [(14, x14), (7, x7), (2, x2), (1, x1), (0, x0)] _
       refine rThen ?_
       refine xCond rfl rfl ?_ ?_
       · refine rSkip ?_
         refine rThen ?_
         refine rSeq ?_
         refine rBlock ?_
         refine rSeq ?_
         refine cLess [7, 2, 1, 0] ?_
         refine xR hE [0, 1, 2, 7, 38] rfl (R8_Impl_r4_ok F _ _ _ _ _) ?_
         intro x0 x1 x2 x7 x38
         show OKq _ _ _ [(38, x38), (7, x7), (2, x2), (1, x1), (0, x0)] _
         refine rThen ?_
         refine xCond rfl rfl ?_ ?_
         · refine rSeq ?_
           refine cLess [7] ?_
           refine xR hE [6] rfl (R8_Impl_r5_ok F _ _) ?_
           intro x6
           show OKq _ _ _ [(6, x6)] _
           refine rThen ?_
           refine rRet ?_
           refine xBlockR ?_
           refine xThenR ?_
           refine xThenR ?_
           refine xBlockR ?_
           refine xThenR ?_
           exact rDone (.inr rfl) rfl
         · refine rSkip ?_
           refine xBlockN ?_
           refine rThen ?_
           refine cLess [7, 2, 1, 0] ?_
           refine xR hE [0, 1, 2, 7] rfl (R8_Impl_r3_ok F _ _ _ _ _) ?_
           intro x0 x1 x2 x7
           show OKq _ _ _ [(7, x7), (2, x2), (1, x1), (0, x0)] _
           exact qLess [7, 2, 1, 0] (hI1 k1 x0 x1 x2 x7)
       · refine rExit ?_
         refine xThenX ?_
         refine xThenX ?_
         refine rOut ?_
         exact qLess [] (hj0 )
   · exact rFail


/-! ### haruspex/haruspexref8.eq -/

def R8_eq_env (F : Nat) : Env := envOf []

noncomputable def R8_eq_R (F : Nat) := rK Try.prog TryG (R8_eq_env F) Try.f60
noncomputable def R8_eq_D (F : Nat) := dK Try.prog TryG (R8_eq_env F) Try.f60

def R8_eq_r1 (F : Nat) (x2 x3 : Value) (K : Value → M Value) : M Value :=
  bnd (opFieldAddr 0 x2) fun v5 => bnd (opLoad v5) fun v6 => bnd (opFieldAddr 0 x3) fun v7 => bnd (opLoad v7) fun v8 => bnd (opBin .eql v6 v8) fun v9 => onB v9 (bnd (opFieldAddr 1 x2) fun v11 => bnd (opLoad v11) fun v12 => bnd (opFieldAddr 1 x3) fun v13 => bnd (opLoad v13) fun v14 => bnd (opBin .eql v12 v14) fun v15 => K v15) (K (.bool false))

theorem R8_eq_r1_ok (F : Nat) (x2 x3 : Value) (K : Value → M Value) : R8_eq_r1 F x2 x3 K = R8_eq_R F 1 [(3, x3), (2, x2)] [4] K := by kernel_rfl

def R8_eq_r0 (F : Nat) (x0 x1 : Value) (K : Value → Value → M Value) : M Value :=
  bnd (opBoxN x0) fun v2 => bnd (opBoxN x1) fun v3 => K v2 v3

theorem R8_eq_r0_ok (F : Nat) (x0 x1 : Value) (K : Value → Value → M Value) : R8_eq_r0 F x0 x1 K = R8_eq_R F 0 [(1, x1), (0, x0)] [2, 3] K := by kernel_rfl

def R8_eq (F : Nat) (x0 x1 : Value) : M Value :=
  R8_eq_r0 F x0 x1 (fun x2 x3 => R8_eq_r1 F x2 x3 (fun x4 => ret x4))

def R8_eq_m (F : Nat) : List Value → M Value
  | [x0, x1] => R8_eq F x0 x1
  | _ => fail

theorem R8_eq_body : Try.f60.body = some (.seq (.region 0 (opsOf Try.f60 0) false) (.seq (.region 1 (opsOf Try.f60 1) false) .ret)) := by kernel_rfl

theorem R8_eq_ok (F : Nat) : Sim Try.prog TryG 60 (R8_eq_m F) := by
 have hE : EnvOK Try.prog TryG (R8_eq_env F) := EnvOK.nil
 refine Sim.of_body (E := R8_eq_env F) Try.func60 R8_eq_body Try.call60 ?_ ?_
 · intro args hl; unfold R8_eq_m; split
   · exact absurd hl (Nat.not_lt.2 (Nat.le_of_ble_eq_true rfl))
   · rfl
 · intro args ρ h w z; unfold R8_eq_m; split
   · rename_i x0 x1; show OKc _ _ [(0, x0), (1, x1)] _ _
     refine rSeq ?_
     refine cLess [1, 0] ?_
     refine xR hE [2, 3] rfl (R8_eq_r0_ok F _ _ _) ?_
     intro x2 x3
     show OKq _ _ _ [(3, x3), (2, x2)] _
     refine rThen ?_
     refine rSeq ?_
     refine cLess [3, 2] ?_
     refine xR hE [4] rfl (R8_eq_r1_ok F _ _ _) ?_
     intro x4
     show OKq _ _ _ [(4, x4)] _
     refine rThen ?_
     refine rRet ?_
     exact rDone (.inr rfl) rfl
   · exact rFail



end Go.Fw
