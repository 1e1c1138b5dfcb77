/-
  What functions of this seat come to, and that they do: part 3.
-/
import Derived.Test.YtddafkflndhnfaaDoorGenD2
set_option linter.unusedVariables false
set_option maxRecDepth 20000
namespace Go.Fw
open Go.Proofs

/-! ### slices.insertionSortCmpFunc[[]int] -/

def slices_insertionSortCmpFunc_env (F : Nat) : Env := envOf [(42, graph_Reach_1_m F), (49, graph_Parts_1_m F)]

noncomputable def slices_insertionSortCmpFunc_R (F : Nat) := rK Tryd.prog TrydG (slices_insertionSortCmpFunc_env F) Tryd.f63
noncomputable def slices_insertionSortCmpFunc_D (F : Nat) := dK Tryd.prog TrydG (slices_insertionSortCmpFunc_env F) Tryd.f63

def slices_insertionSortCmpFunc_r2 (F : Nat) (x0 x1 x2 x3 x8 : Value) (K : Value → Value → Value → Value → Value → M Value) : M Value :=
  bnd (opBin .add x8 (.int .i64 (1))) fun v16 => K x0 x1 x2 x3 v16

theorem slices_insertionSortCmpFunc_r2_ok (F : Nat) (x0 x1 x2 x3 x8 : Value) (K : Value → Value → Value → Value → Value → M Value) : slices_insertionSortCmpFunc_r2 F x0 x1 x2 x3 x8 K = slices_insertionSortCmpFunc_R F 2 [(8, x8), (3, x3), (2, x2), (1, x1), (0, x0)] [0, 1, 2, 3, 8] K := by kernel_rfl

def slices_insertionSortCmpFunc_k1 (F : Nat) (A0 : Value → Value → Value → Value → Value → M Value) (x0 x1 x2 x3 x8 : Value) : M Value :=
  slices_insertionSortCmpFunc_r2 F x0 x1 x2 x3 x8 (fun x0 x1 x2 x3 x8 => A0 x0 x1 x2 x3 x8)

def slices_insertionSortCmpFunc_r5 (F : Nat) (x0 x1 x2 x3 x8 x9 : Value) (K : Value → Value → Value → Value → Value → Value → M Value) : M Value :=
  bnd (opBin .sub x9 (.int .i64 (1))) fun v36 => K x0 x1 x2 x3 x8 v36

theorem slices_insertionSortCmpFunc_r5_ok (F : Nat) (x0 x1 x2 x3 x8 x9 : Value) (K : Value → Value → Value → Value → Value → Value → M Value) : slices_insertionSortCmpFunc_r5 F x0 x1 x2 x3 x8 x9 K = slices_insertionSortCmpFunc_R F 5 [(9, x9), (8, x8), (3, x3), (2, x2), (1, x1), (0, x0)] [0, 1, 2, 3, 8, 9] K := by kernel_rfl

def slices_insertionSortCmpFunc_r6 (F : Nat) (x0 x1 x2 x3 x8 x9 : Value) (K : Value → Value → Value → Value → Value → Value → M Value) : M Value :=
  bnd (opBin .sub x9 (.int .i64 (1))) fun v41 => bnd (opBin .sub x9 (.int .i64 (1))) fun v44 => bnd (opIndexAddr 1 x0 v44) fun v45 => bnd (opLoad v45) fun v46 => bnd (opIndexAddr 1 x0 x9) fun v49 => bnd (opLoad v49) fun v50 => bnd (opIndexAddr 1 x0 x9) fun v51 => bnd (opStore v51 v46) fun _ => bnd (opIndexAddr 1 x0 v41) fun v52 => bnd (opStore v52 v50) fun _ => K x0 x1 x2 x3 x8 x9

theorem slices_insertionSortCmpFunc_r6_ok (F : Nat) (x0 x1 x2 x3 x8 x9 : Value) (K : Value → Value → Value → Value → Value → Value → M Value) : slices_insertionSortCmpFunc_r6 F x0 x1 x2 x3 x8 x9 K = slices_insertionSortCmpFunc_D F 6 [0, 1, 2, 3, 4, 5, 6, 7, 8, 9, 10, 11, 12, 13, 14, 15, 16, 17] [(9, x9), (8, x8), (3, x3), (2, x2), (1, x1), (0, x0)] [0, 1, 2, 3, 8, 9] K := by kernel_rfl

theorem slices_insertionSortCmpFunc_r6_good : goodOrder (opsOf Tryd.f63 6) [0, 1, 2, 3, 4, 5, 6, 7, 8, 9, 10, 11, 12, 13, 14, 15, 16, 17] = true := by kernel_rfl

def slices_insertionSortCmpFunc_r4 (F : Nat) (x0 x1 x2 x3 x8 x9 : Value) (K : Value → Value → Value → Value → Value → Value → Value → M Value) : M Value :=
  bnd (opBin .gtr x9 x1) fun v20 => onB v20 (bnd (opIndexAddr 1 x0 x9) fun v25 => bnd (opLoad v25) fun v26 => bnd (opBin .sub x9 (.int .i64 (1))) fun v29 => bnd (opIndexAddr 1 x0 v29) fun v30 => bnd (opLoad v30) fun v31 => bnd (opCall (slices_insertionSortCmpFunc_env F) x3 [v26, v31]) fun v32 => bnd (opBin .lss v32 (.int .i64 (0))) fun v33 => K x0 x1 x2 x3 x8 x9 v33) (K x0 x1 x2 x3 x8 x9 (.bool false))

theorem slices_insertionSortCmpFunc_r4_ok (F : Nat) (x0 x1 x2 x3 x8 x9 : Value) (K : Value → Value → Value → Value → Value → Value → Value → M Value) : slices_insertionSortCmpFunc_r4 F x0 x1 x2 x3 x8 x9 K = slices_insertionSortCmpFunc_D F 4 [0, 1, 2, 3, 4, 5, 6, 7, 8, 9, 10, 11, 12, 13, 14, 15, 16] [(9, x9), (8, x8), (3, x3), (2, x2), (1, x1), (0, x0)] [0, 1, 2, 3, 8, 9, 34] K := by kernel_rfl

theorem slices_insertionSortCmpFunc_r4_good : goodOrder (opsOf Tryd.f63 4) [0, 1, 2, 3, 4, 5, 6, 7, 8, 9, 10, 11, 12, 13, 14, 15, 16] = true := by kernel_rfl

def slices_insertionSortCmpFunc_b2 (F : Nat) (E2_2 : Value → Value → Value → Value → Value → M Value) (A2 : Value → Value → Value → Value → Value → Value → M Value) (x0 x1 x2 x3 x8 x9 : Value) : M Value :=
  slices_insertionSortCmpFunc_r4 F x0 x1 x2 x3 x8 x9 (fun x0 x1 x2 x3 x8 x9 x34 => onB x34 (slices_insertionSortCmpFunc_r6 F x0 x1 x2 x3 x8 x9 (fun x0 x1 x2 x3 x8 x9 => slices_insertionSortCmpFunc_r5 F x0 x1 x2 x3 x8 x9 (fun x0 x1 x2 x3 x8 x9 => A2 x0 x1 x2 x3 x8 x9))) (E2_2 x0 x1 x2 x3 x8))

def slices_insertionSortCmpFunc_l2 (F : Nat) (E2_2 : Value → Value → Value → Value → Value → M Value) : Nat → Value → Value → Value → Value → Value → Value → M Value
  | 0, _, _, _, _, _, _ => fail
  | k2 + 1, x0, x1, x2, x3, x8, x9 => slices_insertionSortCmpFunc_b2 F E2_2 (slices_insertionSortCmpFunc_l2 F E2_2 k2) x0 x1 x2 x3 x8 x9

theorem slices_insertionSortCmpFunc_l2_s (F : Nat) (E2_2 : Value → Value → Value → Value → Value → M Value) (k2 : Nat) (x0 x1 x2 x3 x8 x9 : Value) : slices_insertionSortCmpFunc_l2 F E2_2 (k2 + 1) x0 x1 x2 x3 x8 x9 = slices_insertionSortCmpFunc_b2 F E2_2 (slices_insertionSortCmpFunc_l2 F E2_2 k2) x0 x1 x2 x3 x8 x9 := rfl

def slices_insertionSortCmpFunc_r3 (F : Nat) (x0 x1 x2 x3 x8 : Value) (K : Value → Value → Value → Value → Value → Value → M Value) : M Value :=
  K x0 x1 x2 x3 x8 x8

theorem slices_insertionSortCmpFunc_r3_ok (F : Nat) (x0 x1 x2 x3 x8 : Value) (K : Value → Value → Value → Value → Value → Value → M Value) : slices_insertionSortCmpFunc_r3 F x0 x1 x2 x3 x8 K = slices_insertionSortCmpFunc_R F 3 [(8, x8), (3, x3), (2, x2), (1, x1), (0, x0)] [0, 1, 2, 3, 8, 9] K := by kernel_rfl

def slices_insertionSortCmpFunc_r1 (F : Nat) (x0 x1 x2 x3 x8 : Value) (K : Value → Value → Value → Value → Value → Value → M Value) : M Value :=
  bnd (opBin .lss x8 x2) fun v14 => K x0 x1 x2 x3 x8 v14

theorem slices_insertionSortCmpFunc_r1_ok (F : Nat) (x0 x1 x2 x3 x8 : Value) (K : Value → Value → Value → Value → Value → Value → M Value) : slices_insertionSortCmpFunc_r1 F x0 x1 x2 x3 x8 K = slices_insertionSortCmpFunc_R F 1 [(8, x8), (3, x3), (2, x2), (1, x1), (0, x0)] [0, 1, 2, 3, 8, 14] K := by kernel_rfl

def slices_insertionSortCmpFunc_b0 (F : Nat) (E0_0 : M Value) (A0 : Value → Value → Value → Value → Value → M Value) (x0 x1 x2 x3 x8 : Value) : M Value :=
  slices_insertionSortCmpFunc_r1 F x0 x1 x2 x3 x8 (fun x0 x1 x2 x3 x8 x14 => onB x14 (slices_insertionSortCmpFunc_r3 F x0 x1 x2 x3 x8 (fun x0 x1 x2 x3 x8 x9 => slices_insertionSortCmpFunc_l2 F (fun x0 x1 x2 x3 x8 => slices_insertionSortCmpFunc_k1 F A0 x0 x1 x2 x3 x8) F x0 x1 x2 x3 x8 x9)) (E0_0 ))

def slices_insertionSortCmpFunc_l0 (F : Nat) (E0_0 : M Value) : Nat → Value → Value → Value → Value → Value → M Value
  | 0, _, _, _, _, _ => fail
  | k0 + 1, x0, x1, x2, x3, x8 => slices_insertionSortCmpFunc_b0 F E0_0 (slices_insertionSortCmpFunc_l0 F E0_0 k0) x0 x1 x2 x3 x8

theorem slices_insertionSortCmpFunc_l0_s (F : Nat) (E0_0 : M Value) (k0 : Nat) (x0 x1 x2 x3 x8 : Value) : slices_insertionSortCmpFunc_l0 F E0_0 (k0 + 1) x0 x1 x2 x3 x8 = slices_insertionSortCmpFunc_b0 F E0_0 (slices_insertionSortCmpFunc_l0 F E0_0 k0) x0 x1 x2 x3 x8 := rfl

def slices_insertionSortCmpFunc_r0 (F : Nat) (x0 x1 x2 x3 : Value) (K : Value → Value → Value → Value → Value → M Value) : M Value :=
  bnd (opBin .add x1 (.int .i64 (1))) fun v11 => K x0 x1 x2 x3 v11

theorem slices_insertionSortCmpFunc_r0_ok (F : Nat) (x0 x1 x2 x3 : Value) (K : Value → Value → Value → Value → Value → M Value) : slices_insertionSortCmpFunc_r0 F x0 x1 x2 x3 K = slices_insertionSortCmpFunc_R F 0 [(3, x3), (2, x2), (1, x1), (0, x0)] [0, 1, 2, 3, 8] K := by kernel_rfl

def slices_insertionSortCmpFunc (F : Nat) (x0 x1 x2 x3 : Value) : M Value :=
  slices_insertionSortCmpFunc_r0 F x0 x1 x2 x3 (fun x0 x1 x2 x3 x8 => slices_insertionSortCmpFunc_l0 F (tupK []) F x0 x1 x2 x3 x8)

def slices_insertionSortCmpFunc_m (F : Nat) : List Value → M Value
  | [x0, x1, x2, x3] => slices_insertionSortCmpFunc F x0 x1 x2 x3
  | _ => fail

theorem slices_insertionSortCmpFunc_body : Tryd.f63.body = some (.seq (.region 0 (opsOf Tryd.f63 0) false) (.block 0 (.loop (.seq (.seq (.region 1 (opsOf Tryd.f63 1) false) (.cond (.tmp 14) .skip (.exit 0))) (.seq (.block 1 (.seq (.region 3 (opsOf Tryd.f63 3) false) (.block 2 (.loop (.seq (.seq (.region 4 (opsOf Tryd.f63 4) true) (.cond (.tmp 34) .skip (.exit 2))) (.seq (.block 3 (.region 6 (opsOf Tryd.f63 6) true)) (.region 5 (opsOf Tryd.f63 5) false))))))) (.region 2 (opsOf Tryd.f63 2) false)))))) := by kernel_rfl

theorem slices_insertionSortCmpFunc_ok (F : Nat) : Sim Tryd.prog TrydG 63 (slices_insertionSortCmpFunc_m F) := by
 have hE : EnvOK Tryd.prog TrydG (slices_insertionSortCmpFunc_env F) := (EnvOK.cons (graph_Reach_1_ok F) (EnvOK.cons (graph_Parts_1_ok F) EnvOK.nil))
 refine Sim.of_body (E := slices_insertionSortCmpFunc_env F) Tryd.func63 slices_insertionSortCmpFunc_body Tryd.call63 ?_ ?_
 · intro args hl; unfold slices_insertionSortCmpFunc_m; split
   · exact absurd hl (Nat.not_lt.2 (Nat.le_of_ble_eq_true rfl))
   · rfl
 · intro args ρ h w z; unfold slices_insertionSortCmpFunc_m; split
   · rename_i x0 x1 x2 x3; show OKc _ _ [(0, x0), (1, x1), (2, x2), (3, x3)] _ _
     refine rSeq ?_
     refine cLess [3, 2, 1, 0] ?_
     refine xR hE [0, 1, 2, 3, 8] rfl (slices_insertionSortCmpFunc_r0_ok F _ _ _ _ _) ?_
     intro x0 x1 x2 x3 x8
     show OKq _ _ _ [(8, x8), (3, x3), (2, x2), (1, x1), (0, x0)] _
     refine rThen ?_
     refine rBlock ?_
     refine cLess [8, 3, 2, 1, 0] ?_
     refine xLoopAt [0, 1, 2, 3, 8] [] (fun k0 => slices_insertionSortCmpFunc_l0 F (tupK []) k0) F [x0, x1, x2, x3, x8] rfl rfl (fun _ _ _ _ _ => rfl) fun I hI0 k0 => ?_
     intro x0 x1 x2 x3 x8
     show OKc _ _ [(8, x8), (3, x3), (2, x2), (1, x1), (0, x0)] _ _
     refine cAs (slices_insertionSortCmpFunc_l0_s F _ _ _ _ _ _ _) ?_
     refine rSeq ?_
     refine rSeq ?_
     refine cLess [8, 3, 2, 1, 0] ?_
     refine xR hE [0, 1, 2, 3, 8, 14] rfl (slices_insertionSortCmpFunc_r1_ok F _ _ _ _ _ _) ?_
     intro x0 x1 x2 x3 x8 x14
     show OKq _ _ _ [(14, x14), (8, x8), (3, x3), (2, x2), (1, x1), (0, x0)] _
     refine rThen ?_
     refine xCond rfl rfl ?_ ?_
     · refine rSkip ?_
       refine rThen ?_
       refine xSeq [0, 1, 2, 3, 8] (slices_insertionSortCmpFunc_k1 F (slices_insertionSortCmpFunc_l0 F (tupK []) k0) ) ?_ fun hj1 => ?_
       · intro x0 x1 x2 x3 x8
         show OKc _ _ [(8, x8), (3, x3), (2, x2), (1, x1), (0, x0)] _ _
         refine cLess [8, 3, 2, 1, 0] ?_
         refine xR hE [0, 1, 2, 3, 8] rfl (slices_insertionSortCmpFunc_r2_ok F _ _ _ _ _ _) ?_
         intro x0 x1 x2 x3 x8
         show OKq _ _ _ [(8, x8), (3, x3), (2, x2), (1, x1), (0, x0)] _
         exact qLess [8, 3, 2, 1, 0] (hI0 k0 x0 x1 x2 x3 x8)
       · refine rBlock ?_
         refine rSeq ?_
         refine cLess [8, 3, 2, 1, 0] ?_
         refine xR hE [0, 1, 2, 3, 8, 9] rfl (slices_insertionSortCmpFunc_r3_ok F _ _ _ _ _ _) ?_
         intro x0 x1 x2 x3 x8 x9
         show OKq _ _ _ [(9, x9), (8, x8), (3, x3), (2, x2), (1, x1), (0, x0)] _
         refine rThen ?_
         refine rBlock ?_
         refine cLess [9, 8, 3, 2, 1, 0] ?_
         refine xLoopAt [0, 1, 2, 3, 8, 9] [] (fun k2 => slices_insertionSortCmpFunc_l2 F (fun x0 x1 x2 x3 x8 => slices_insertionSortCmpFunc_k1 F (slices_insertionSortCmpFunc_l0 F (tupK []) k0) x0 x1 x2 x3 x8) k2) F [x0, x1, x2, x3, x8, x9] rfl rfl (fun _ _ _ _ _ _ => rfl) fun I hI2 k2 => ?_
         intro x0 x1 x2 x3 x8 x9
         show OKc _ _ [(9, x9), (8, x8), (3, x3), (2, x2), (1, x1), (0, x0)] _ _
         refine cAs (slices_insertionSortCmpFunc_l2_s F _ _ _ _ _ _ _ _) ?_
         refine rSeq ?_
         refine rSeq ?_
         refine cLess [9, 8, 3, 2, 1, 0] ?_
         refine xD Trydmix hE [0, 1, 2, 3, 8, 9, 34] rfl slices_insertionSortCmpFunc_r4_good (slices_insertionSortCmpFunc_r4_ok F _ _ _ _ _ _ _) ?_
         intro x0 x1 x2 x3 x8 x9 x34
         show OKq _ _ _ [(34, x34), (9, x9), (8, x8), (3, x3), (2, x2), (1, x1), (0, x0)] _
         refine rThen ?_
         refine xCond rfl rfl ?_ ?_
         · refine rSkip ?_
           refine rThen ?_
           refine rSeq ?_
           refine rBlock ?_
           refine cLess [9, 8, 3, 2, 1, 0] ?_
           refine xD Trydmix hE [0, 1, 2, 3, 8, 9] rfl slices_insertionSortCmpFunc_r6_good (slices_insertionSortCmpFunc_r6_ok F _ _ _ _ _ _ _) ?_
           intro x0 x1 x2 x3 x8 x9
           show OKq _ _ _ [(9, x9), (8, x8), (3, x3), (2, x2), (1, x1), (0, x0)] _
           refine xBlockN ?_
           refine rThen ?_
           refine cLess [9, 8, 3, 2, 1, 0] ?_
           refine xR hE [0, 1, 2, 3, 8, 9] rfl (slices_insertionSortCmpFunc_r5_ok F _ _ _ _ _ _ _) ?_
           intro x0 x1 x2 x3 x8 x9
           show OKq _ _ _ [(9, x9), (8, x8), (3, x3), (2, x2), (1, x1), (0, x0)] _
           exact qLess [9, 8, 3, 2, 1, 0] (hI2 k2 x0 x1 x2 x3 x8 x9)
         · refine rExit ?_
           refine xThenX ?_
           refine xThenX ?_
           refine rOut ?_
           refine xBlockN ?_
           exact qLess [8, 3, 2, 1, 0] (hj1 x0 x1 x2 x3 x8)
     · refine rExit ?_
       refine xThenX ?_
       refine xThenX ?_
       refine rOut ?_
       exact rDone (.inl rfl) rfl
   · exact rFail


/-! ### slices.pdqsortCmpFunc[[]int] -/

def slices_pdqsortCmpFunc_a (rec : Value → Value → Value → Value → Value → M Value) : List Value → M Value
  | [x0, x1, x2, x3, x4] => rec x0 x1 x2 x3 x4
  | _ => fail

def slices_pdqsortCmpFunc_env (F : Nat) (rec : Value → Value → Value → Value → Value → M Value) : Env := envOf [(60, slices_pdqsortCmpFunc_a rec), (42, graph_Reach_1_m F), (49, graph_Parts_1_m F), (63, slices_insertionSortCmpFunc_m F), (64, slices_heapSortCmpFunc_m F), (65, slices_breakPatternsCmpFunc_m F), (66, slices_choosePivotCmpFunc_m F), (67, slices_reverseRangeCmpFunc_m F), (68, slices_partialInsertionSortCmpFunc_m F), (69, slices_partitionEqualCmpFunc_m F), (70, slices_partitionCmpFunc_m F)]

noncomputable def slices_pdqsortCmpFunc_R (F : Nat) (rec : Value → Value → Value → Value → Value → M Value) := rK Tryd.prog TrydG (slices_pdqsortCmpFunc_env F rec) Tryd.f60
noncomputable def slices_pdqsortCmpFunc_D (F : Nat) (rec : Value → Value → Value → Value → Value → M Value) := dK Tryd.prog TrydG (slices_pdqsortCmpFunc_env F rec) Tryd.f60

def slices_pdqsortCmpFunc_r27 (F : Nat) (rec : Value → Value → Value → Value → Value → M Value) (x0 x2 x3 x4 x10 x11 x16 : Value) (K : Value → Value → Value → Value → Value → Value → Value → M Value) : M Value :=
  bnd (opBin .add x16 (.int .i64 (1))) fun v136 => K x0 v136 x2 x3 x4 x10 x11

theorem slices_pdqsortCmpFunc_r27_ok (F : Nat) (rec : Value → Value → Value → Value → Value → M Value) (x0 x2 x3 x4 x10 x11 x16 : Value) (K : Value → Value → Value → Value → Value → Value → Value → M Value) : slices_pdqsortCmpFunc_r27 F rec x0 x2 x3 x4 x10 x11 x16 K = slices_pdqsortCmpFunc_R F rec 27 [(16, x16), (11, x11), (10, x10), (4, x4), (3, x3), (2, x2), (0, x0)] [0, 1, 2, 3, 4, 10, 11] K := by kernel_rfl

def slices_pdqsortCmpFunc_r26 (F : Nat) (rec : Value → Value → Value → Value → Value → M Value) (x0 x1 x2 x3 x4 x10 x11 x16 : Value) (K : Value → Value → Value → Value → Value → Value → Value → M Value) : M Value :=
  bnd (rec x0 x1 x16 x3 x4) fun v134 => K x0 x2 x3 x4 x10 x11 x16

theorem slices_pdqsortCmpFunc_r26_ok (F : Nat) (rec : Value → Value → Value → Value → Value → M Value) (x0 x1 x2 x3 x4 x10 x11 x16 : Value) (K : Value → Value → Value → Value → Value → Value → Value → M Value) : slices_pdqsortCmpFunc_r26 F rec x0 x1 x2 x3 x4 x10 x11 x16 K = slices_pdqsortCmpFunc_R F rec 26 [(16, x16), (11, x11), (10, x10), (4, x4), (3, x3), (2, x2), (1, x1), (0, x0)] [0, 2, 3, 4, 10, 11, 16] K := by kernel_rfl

def slices_pdqsortCmpFunc_r25 (F : Nat) (rec : Value → Value → Value → Value → Value → M Value) (x0 x1 x2 x3 x4 x11 x16 x18 x20 : Value) (K : Value → Value → Value → Value → Value → Value → Value → Value → M Value) : M Value :=
  bnd (opBin .geq x18 x20) fun v128 => K x0 x1 x2 x3 x4 v128 x11 x16

theorem slices_pdqsortCmpFunc_r25_ok (F : Nat) (rec : Value → Value → Value → Value → Value → M Value) (x0 x1 x2 x3 x4 x11 x16 x18 x20 : Value) (K : Value → Value → Value → Value → Value → Value → Value → Value → M Value) : slices_pdqsortCmpFunc_r25 F rec x0 x1 x2 x3 x4 x11 x16 x18 x20 K = slices_pdqsortCmpFunc_R F rec 25 [(20, x20), (18, x18), (16, x16), (11, x11), (4, x4), (3, x3), (2, x2), (1, x1), (0, x0)] [0, 1, 2, 3, 4, 10, 11, 16] K := by kernel_rfl

def slices_pdqsortCmpFunc_r30 (F : Nat) (rec : Value → Value → Value → Value → Value → M Value) (x0 x1 x3 x4 x10 x11 x16 : Value) (K : Value → Value → Value → Value → Value → Value → Value → M Value) : M Value :=
  K x0 x1 x16 x3 x4 x10 x11

theorem slices_pdqsortCmpFunc_r30_ok (F : Nat) (rec : Value → Value → Value → Value → Value → M Value) (x0 x1 x3 x4 x10 x11 x16 : Value) (K : Value → Value → Value → Value → Value → Value → Value → M Value) : slices_pdqsortCmpFunc_r30 F rec x0 x1 x3 x4 x10 x11 x16 K = slices_pdqsortCmpFunc_R F rec 30 [(16, x16), (11, x11), (10, x10), (4, x4), (3, x3), (1, x1), (0, x0)] [0, 1, 2, 3, 4, 10, 11] K := by kernel_rfl

def slices_pdqsortCmpFunc_r29 (F : Nat) (rec : Value → Value → Value → Value → Value → M Value) (x0 x1 x2 x3 x4 x10 x11 x16 : Value) (K : Value → Value → Value → Value → Value → Value → Value → M Value) : M Value :=
  bnd (opBin .add x16 (.int .i64 (1))) fun v142 => bnd (rec x0 v142 x2 x3 x4) fun v146 => K x0 x1 x3 x4 x10 x11 x16

theorem slices_pdqsortCmpFunc_r29_ok (F : Nat) (rec : Value → Value → Value → Value → Value → M Value) (x0 x1 x2 x3 x4 x10 x11 x16 : Value) (K : Value → Value → Value → Value → Value → Value → Value → M Value) : slices_pdqsortCmpFunc_r29 F rec x0 x1 x2 x3 x4 x10 x11 x16 K = slices_pdqsortCmpFunc_R F rec 29 [(16, x16), (11, x11), (10, x10), (4, x4), (3, x3), (2, x2), (1, x1), (0, x0)] [0, 1, 3, 4, 10, 11, 16] K := by kernel_rfl

def slices_pdqsortCmpFunc_r28 (F : Nat) (rec : Value → Value → Value → Value → Value → M Value) (x0 x1 x2 x3 x4 x11 x16 x19 x20 : Value) (K : Value → Value → Value → Value → Value → Value → Value → Value → M Value) : M Value :=
  bnd (opBin .geq x19 x20) fun v139 => K x0 x1 x2 x3 x4 v139 x11 x16

theorem slices_pdqsortCmpFunc_r28_ok (F : Nat) (rec : Value → Value → Value → Value → Value → M Value) (x0 x1 x2 x3 x4 x11 x16 x19 x20 : Value) (K : Value → Value → Value → Value → Value → Value → Value → Value → M Value) : slices_pdqsortCmpFunc_r28 F rec x0 x1 x2 x3 x4 x11 x16 x19 x20 K = slices_pdqsortCmpFunc_R F rec 28 [(20, x20), (19, x19), (16, x16), (11, x11), (4, x4), (3, x3), (2, x2), (1, x1), (0, x0)] [0, 1, 2, 3, 4, 10, 11, 16] K := by kernel_rfl

def slices_pdqsortCmpFunc_r24 (F : Nat) (rec : Value → Value → Value → Value → Value → M Value) (x0 x1 x2 x3 x4 x11 x16 x18 x19 x20 : Value) (K : Value → Value → Value → Value → Value → Value → Value → Value → Value → Value → Value → M Value) : M Value :=
  bnd (opBin .lss x18 x19) fun v125 => K x0 x1 x2 x3 x4 x11 x16 x18 x19 x20 v125

theorem slices_pdqsortCmpFunc_r24_ok (F : Nat) (rec : Value → Value → Value → Value → Value → M Value) (x0 x1 x2 x3 x4 x11 x16 x18 x19 x20 : Value) (K : Value → Value → Value → Value → Value → Value → Value → Value → Value → Value → Value → M Value) : slices_pdqsortCmpFunc_r24 F rec x0 x1 x2 x3 x4 x11 x16 x18 x19 x20 K = slices_pdqsortCmpFunc_R F rec 24 [(20, x20), (19, x19), (18, x18), (16, x16), (11, x11), (4, x4), (3, x3), (2, x2), (1, x1), (0, x0)] [0, 1, 2, 3, 4, 11, 16, 18, 19, 20, 125] K := by kernel_rfl

def slices_pdqsortCmpFunc_r23 (F : Nat) (rec : Value → Value → Value → Value → Value → M Value) (x0 x1 x2 x3 x4 x11 x12 x16 x18 x19 : Value) (K : Value → Value → Value → Value → Value → Value → Value → Value → Value → Value → M Value) : M Value :=
  bnd (opBin .quo x12 (.int .i64 (8))) fun v122 => K x0 x1 x2 x3 x4 x11 x16 x18 x19 v122

theorem slices_pdqsortCmpFunc_r23_ok (F : Nat) (rec : Value → Value → Value → Value → Value → M Value) (x0 x1 x2 x3 x4 x11 x12 x16 x18 x19 : Value) (K : Value → Value → Value → Value → Value → Value → Value → Value → Value → Value → M Value) : slices_pdqsortCmpFunc_r23 F rec x0 x1 x2 x3 x4 x11 x12 x16 x18 x19 K = slices_pdqsortCmpFunc_R F rec 23 [(19, x19), (18, x18), (16, x16), (12, x12), (11, x11), (4, x4), (3, x3), (2, x2), (1, x1), (0, x0)] [0, 1, 2, 3, 4, 11, 16, 18, 19, 20] K := by kernel_rfl

def slices_pdqsortCmpFunc_r22 (F : Nat) (rec : Value → Value → Value → Value → Value → M Value) (x0 x1 x2 x3 x4 x11 x12 x16 : Value) (K : Value → Value → Value → Value → Value → Value → Value → Value → Value → Value → M Value) : M Value :=
  bnd (opBin .sub x16 x1) fun v117 => bnd (opBin .sub x2 x16) fun v120 => K x0 x1 x2 x3 x4 x11 x12 x16 v117 v120

theorem slices_pdqsortCmpFunc_r22_ok (F : Nat) (rec : Value → Value → Value → Value → Value → M Value) (x0 x1 x2 x3 x4 x11 x12 x16 : Value) (K : Value → Value → Value → Value → Value → Value → Value → Value → Value → Value → M Value) : slices_pdqsortCmpFunc_r22 F rec x0 x1 x2 x3 x4 x11 x12 x16 K = slices_pdqsortCmpFunc_R F rec 22 [(16, x16), (12, x12), (11, x11), (4, x4), (3, x3), (2, x2), (1, x1), (0, x0)] [0, 1, 2, 3, 4, 11, 12, 16, 18, 19] K := by kernel_rfl

def slices_pdqsortCmpFunc_r21 (F : Nat) (rec : Value → Value → Value → Value → Value → M Value) (x0 x1 x2 x3 x4 x12 x16 x17 : Value) (K : Value → Value → Value → Value → Value → Value → Value → Value → M Value) : M Value :=
  K x0 x1 x2 x3 x4 x17 x12 x16

theorem slices_pdqsortCmpFunc_r21_ok (F : Nat) (rec : Value → Value → Value → Value → Value → M Value) (x0 x1 x2 x3 x4 x12 x16 x17 : Value) (K : Value → Value → Value → Value → Value → Value → Value → Value → M Value) : slices_pdqsortCmpFunc_r21 F rec x0 x1 x2 x3 x4 x12 x16 x17 K = slices_pdqsortCmpFunc_R F rec 21 [(17, x17), (16, x16), (12, x12), (4, x4), (3, x3), (2, x2), (1, x1), (0, x0)] [0, 1, 2, 3, 4, 11, 12, 16] K := by kernel_rfl

def slices_pdqsortCmpFunc_r20 (F : Nat) (rec : Value → Value → Value → Value → Value → M Value) (x0 x1 x2 x3 x4 x12 x13 : Value) (K : Value → Value → Value → Value → Value → Value → Value → Value → M Value) : M Value :=
  bnd (slices_partitionCmpFunc F x0 x1 x2 x13 x4) fun v111 => bnd (opExtract v111 0) fun v112 => bnd (opExtract v111 1) fun v113 => K x0 x1 x2 x3 x4 x12 v112 v113

theorem slices_pdqsortCmpFunc_r20_ok (F : Nat) (rec : Value → Value → Value → Value → Value → M Value) (x0 x1 x2 x3 x4 x12 x13 : Value) (K : Value → Value → Value → Value → Value → Value → Value → Value → M Value) : slices_pdqsortCmpFunc_r20 F rec x0 x1 x2 x3 x4 x12 x13 K = slices_pdqsortCmpFunc_R F rec 20 [(13, x13), (12, x12), (4, x4), (3, x3), (2, x2), (1, x1), (0, x0)] [0, 1, 2, 3, 4, 12, 16, 17] K := by kernel_rfl

def slices_pdqsortCmpFunc_r19 (F : Nat) (rec : Value → Value → Value → Value → Value → M Value) (x0 x2 x3 x4 x10 x11 x15 : Value) (K : Value → Value → Value → Value → Value → Value → Value → M Value) : M Value :=
  K x0 x15 x2 x3 x4 x10 x11

theorem slices_pdqsortCmpFunc_r19_ok (F : Nat) (rec : Value → Value → Value → Value → Value → M Value) (x0 x2 x3 x4 x10 x11 x15 : Value) (K : Value → Value → Value → Value → Value → Value → Value → M Value) : slices_pdqsortCmpFunc_r19 F rec x0 x2 x3 x4 x10 x11 x15 K = slices_pdqsortCmpFunc_R F rec 19 [(15, x15), (11, x11), (10, x10), (4, x4), (3, x3), (2, x2), (0, x0)] [0, 1, 2, 3, 4, 10, 11] K := by kernel_rfl

def slices_pdqsortCmpFunc_r18 (F : Nat) (rec : Value → Value → Value → Value → Value → M Value) (x0 x1 x2 x3 x4 x10 x11 x13 : Value) (K : Value → Value → Value → Value → Value → Value → Value → M Value) : M Value :=
  bnd (slices_partitionEqualCmpFunc F x0 x1 x2 x13 x4) fun v103 => K x0 x2 x3 x4 x10 x11 v103

theorem slices_pdqsortCmpFunc_r18_ok (F : Nat) (rec : Value → Value → Value → Value → Value → M Value) (x0 x1 x2 x3 x4 x10 x11 x13 : Value) (K : Value → Value → Value → Value → Value → Value → Value → M Value) : slices_pdqsortCmpFunc_r18 F rec x0 x1 x2 x3 x4 x10 x11 x13 K = slices_pdqsortCmpFunc_R F rec 18 [(13, x13), (11, x11), (10, x10), (4, x4), (3, x3), (2, x2), (1, x1), (0, x0)] [0, 2, 3, 4, 10, 11, 15] K := by kernel_rfl

def slices_pdqsortCmpFunc_r17 (F : Nat) (rec : Value → Value → Value → Value → Value → M Value) (x0 x1 x2 x3 x4 x10 x11 x12 x13 : Value) (K : Value → Value → Value → Value → Value → Value → Value → Value → Value → Value → M Value) : M Value :=
  bnd (opBin .gtr x1 (.int .i64 (0))) fun v82 => onB v82 (bnd (opBin .sub x1 (.int .i64 (1))) fun v87 => bnd (opIndexAddr 1 x0 v87) fun v88 => bnd (opLoad v88) fun v89 => bnd (opIndexAddr 1 x0 x13) fun v92 => bnd (opLoad v92) fun v93 => bnd (opCall (slices_pdqsortCmpFunc_env F rec) x4 [v89, v93]) fun v94 => bnd (opBin .lss v94 (.int .i64 (0))) fun v95 => bnd (opNot v95) fun v96 => K x0 x1 x2 x3 x4 x10 x11 x12 x13 v96) (K x0 x1 x2 x3 x4 x10 x11 x12 x13 (.bool false))

theorem slices_pdqsortCmpFunc_r17_ok (F : Nat) (rec : Value → Value → Value → Value → Value → M Value) (x0 x1 x2 x3 x4 x10 x11 x12 x13 : Value) (K : Value → Value → Value → Value → Value → Value → Value → Value → Value → Value → M Value) : slices_pdqsortCmpFunc_r17 F rec x0 x1 x2 x3 x4 x10 x11 x12 x13 K = slices_pdqsortCmpFunc_D F rec 17 [0, 1, 2, 3, 4, 5, 6, 7, 8, 9, 10, 11, 12, 13, 14, 15, 16] [(13, x13), (12, x12), (11, x11), (10, x10), (4, x4), (3, x3), (2, x2), (1, x1), (0, x0)] [0, 1, 2, 3, 4, 10, 11, 12, 13, 97] K := by kernel_rfl

theorem slices_pdqsortCmpFunc_r17_good : goodOrder (opsOf Tryd.f60 17) [0, 1, 2, 3, 4, 5, 6, 7, 8, 9, 10, 11, 12, 13, 14, 15, 16] = true := by kernel_rfl

def slices_pdqsortCmpFunc_k1 (F : Nat) (A0 : Value → Value → Value → Value → Value → Value → Value → M Value) (rec : Value → Value → Value → Value → Value → M Value) (x0 x1 x2 x3 x4 x10 x11 x12 x13 : Value) : M Value :=
  slices_pdqsortCmpFunc_r17 F rec x0 x1 x2 x3 x4 x10 x11 x12 x13 (fun x0 x1 x2 x3 x4 x10 x11 x12 x13 x97 => onB x97 (slices_pdqsortCmpFunc_r18 F rec x0 x1 x2 x3 x4 x10 x11 x13 (fun x0 x2 x3 x4 x10 x11 x15 => slices_pdqsortCmpFunc_r19 F rec x0 x2 x3 x4 x10 x11 x15 (fun x0 x1 x2 x3 x4 x10 x11 => A0 x0 x1 x2 x3 x4 x10 x11))) (slices_pdqsortCmpFunc_r20 F rec x0 x1 x2 x3 x4 x12 x13 (fun x0 x1 x2 x3 x4 x12 x16 x17 => slices_pdqsortCmpFunc_r21 F rec x0 x1 x2 x3 x4 x12 x16 x17 (fun x0 x1 x2 x3 x4 x11 x12 x16 => slices_pdqsortCmpFunc_r22 F rec x0 x1 x2 x3 x4 x11 x12 x16 (fun x0 x1 x2 x3 x4 x11 x12 x16 x18 x19 => slices_pdqsortCmpFunc_r23 F rec x0 x1 x2 x3 x4 x11 x12 x16 x18 x19 (fun x0 x1 x2 x3 x4 x11 x16 x18 x19 x20 => slices_pdqsortCmpFunc_r24 F rec x0 x1 x2 x3 x4 x11 x16 x18 x19 x20 (fun x0 x1 x2 x3 x4 x11 x16 x18 x19 x20 x125 => onB x125 (slices_pdqsortCmpFunc_r25 F rec x0 x1 x2 x3 x4 x11 x16 x18 x20 (fun x0 x1 x2 x3 x4 x10 x11 x16 => slices_pdqsortCmpFunc_r26 F rec x0 x1 x2 x3 x4 x10 x11 x16 (fun x0 x2 x3 x4 x10 x11 x16 => slices_pdqsortCmpFunc_r27 F rec x0 x2 x3 x4 x10 x11 x16 (fun x0 x1 x2 x3 x4 x10 x11 => A0 x0 x1 x2 x3 x4 x10 x11)))) (slices_pdqsortCmpFunc_r28 F rec x0 x1 x2 x3 x4 x11 x16 x19 x20 (fun x0 x1 x2 x3 x4 x10 x11 x16 => slices_pdqsortCmpFunc_r29 F rec x0 x1 x2 x3 x4 x10 x11 x16 (fun x0 x1 x3 x4 x10 x11 x16 => slices_pdqsortCmpFunc_r30 F rec x0 x1 x3 x4 x10 x11 x16 (fun x0 x1 x2 x3 x4 x10 x11 => A0 x0 x1 x2 x3 x4 x10 x11)))))))))))

def slices_pdqsortCmpFunc_r16 (F : Nat) (rec : Value → Value → Value → Value → Value → M Value) (x0 x1 x2 x3 x4 x10 x11 x12 x13 : Value) (K : Value → Value → Value → Value → Value → Value → Value → Value → Value → Value → M Value) : M Value :=
  bnd (slices_partialInsertionSortCmpFunc F x0 x1 x2 x4) fun v80 => K x0 x1 x2 x3 x4 x10 x11 x12 x13 v80

theorem slices_pdqsortCmpFunc_r16_ok (F : Nat) (rec : Value → Value → Value → Value → Value → M Value) (x0 x1 x2 x3 x4 x10 x11 x12 x13 : Value) (K : Value → Value → Value → Value → Value → Value → Value → Value → Value → Value → M Value) : slices_pdqsortCmpFunc_r16 F rec x0 x1 x2 x3 x4 x10 x11 x12 x13 K = slices_pdqsortCmpFunc_R F rec 16 [(13, x13), (12, x12), (11, x11), (10, x10), (4, x4), (3, x3), (2, x2), (1, x1), (0, x0)] [0, 1, 2, 3, 4, 10, 11, 12, 13, 80] K := by kernel_rfl

def slices_pdqsortCmpFunc_r15 (F : Nat) (rec : Value → Value → Value → Value → Value → M Value) (x0 x1 x2 x3 x4 x10 x11 x12 x13 x14 : Value) (K : Value → Value → Value → Value → Value → Value → Value → Value → Value → Value → M Value) : M Value :=
  onB x10 (onB x11 (bnd (opBin .eql x14 (.int .i64 (1))) fun v74 => K x0 x1 x2 x3 x4 x10 x11 x12 x13 v74) (K x0 x1 x2 x3 x4 x10 x11 x12 x13 (.bool false))) (K x0 x1 x2 x3 x4 x10 x11 x12 x13 (.bool false))

theorem slices_pdqsortCmpFunc_r15_ok (F : Nat) (rec : Value → Value → Value → Value → Value → M Value) (x0 x1 x2 x3 x4 x10 x11 x12 x13 x14 : Value) (K : Value → Value → Value → Value → Value → Value → Value → Value → Value → Value → M Value) : slices_pdqsortCmpFunc_r15 F rec x0 x1 x2 x3 x4 x10 x11 x12 x13 x14 K = slices_pdqsortCmpFunc_R F rec 15 [(14, x14), (13, x13), (12, x12), (11, x11), (10, x10), (4, x4), (3, x3), (2, x2), (1, x1), (0, x0)] [0, 1, 2, 3, 4, 10, 11, 12, 13, 75] K := by kernel_rfl

def slices_pdqsortCmpFunc_k2 (F : Nat) (A0 : Value → Value → Value → Value → Value → Value → Value → M Value) (rec : Value → Value → Value → Value → Value → M Value) (x0 x1 x2 x3 x4 x10 x11 x12 x13 x14 : Value) : M Value :=
  slices_pdqsortCmpFunc_r15 F rec x0 x1 x2 x3 x4 x10 x11 x12 x13 x14 (fun x0 x1 x2 x3 x4 x10 x11 x12 x13 x75 => onB x75 (slices_pdqsortCmpFunc_r16 F rec x0 x1 x2 x3 x4 x10 x11 x12 x13 (fun x0 x1 x2 x3 x4 x10 x11 x12 x13 x80 => onB x80 (tupK []) (slices_pdqsortCmpFunc_k1 F A0 rec x0 x1 x2 x3 x4 x10 x11 x12 x13))) (slices_pdqsortCmpFunc_k1 F A0 rec x0 x1 x2 x3 x4 x10 x11 x12 x13))

def slices_pdqsortCmpFunc_r14 (F : Nat) (rec : Value → Value → Value → Value → Value → M Value) (x0 x1 x2 x3 x4 x10 x11 x12 x13 : Value) (K : Value → Value → Value → Value → Value → Value → Value → Value → Value → Value → M Value) : M Value :=
  K x0 x1 x2 x3 x4 x10 x11 x12 x13 (.int .i64 (1))

theorem slices_pdqsortCmpFunc_r14_ok (F : Nat) (rec : Value → Value → Value → Value → Value → M Value) (x0 x1 x2 x3 x4 x10 x11 x12 x13 : Value) (K : Value → Value → Value → Value → Value → Value → Value → Value → Value → Value → M Value) : slices_pdqsortCmpFunc_r14 F rec x0 x1 x2 x3 x4 x10 x11 x12 x13 K = slices_pdqsortCmpFunc_R F rec 14 [(13, x13), (12, x12), (11, x11), (10, x10), (4, x4), (3, x3), (2, x2), (1, x1), (0, x0)] [0, 1, 2, 3, 4, 10, 11, 12, 13, 14] K := by kernel_rfl

def slices_pdqsortCmpFunc_r13 (F : Nat) (rec : Value → Value → Value → Value → Value → M Value) (x0 x1 x2 x3 x4 x10 x11 x12 x13 : Value) (K : Value → Value → Value → Value → Value → Value → Value → Value → Value → M Value) : M Value :=
  bnd (opBin .sub x2 (.int .i64 (1))) fun v63 => bnd (opBin .sub x13 x1) fun v66 => bnd (opBin .sub v63 v66) fun v67 => K x0 x1 x2 x3 x4 x10 x11 x12 v67

theorem slices_pdqsortCmpFunc_r13_ok (F : Nat) (rec : Value → Value → Value → Value → Value → M Value) (x0 x1 x2 x3 x4 x10 x11 x12 x13 : Value) (K : Value → Value → Value → Value → Value → Value → Value → Value → Value → M Value) : slices_pdqsortCmpFunc_r13 F rec x0 x1 x2 x3 x4 x10 x11 x12 x13 K = slices_pdqsortCmpFunc_R F rec 13 [(13, x13), (12, x12), (11, x11), (10, x10), (4, x4), (3, x3), (2, x2), (1, x1), (0, x0)] [0, 1, 2, 3, 4, 10, 11, 12, 13] K := by kernel_rfl

def slices_pdqsortCmpFunc_r12 (F : Nat) (rec : Value → Value → Value → Value → Value → M Value) (x0 x1 x2 x3 x4 x10 x11 x12 x13 : Value) (K : Value → Value → Value → Value → Value → Value → Value → Value → Value → M Value) : M Value :=
  bnd (slices_reverseRangeCmpFunc F x0 x1 x2 x4) fun v61 => K x0 x1 x2 x3 x4 x10 x11 x12 x13

theorem slices_pdqsortCmpFunc_r12_ok (F : Nat) (rec : Value → Value → Value → Value → Value → M Value) (x0 x1 x2 x3 x4 x10 x11 x12 x13 : Value) (K : Value → Value → Value → Value → Value → Value → Value → Value → Value → M Value) : slices_pdqsortCmpFunc_r12 F rec x0 x1 x2 x3 x4 x10 x11 x12 x13 K = slices_pdqsortCmpFunc_R F rec 12 [(13, x13), (12, x12), (11, x11), (10, x10), (4, x4), (3, x3), (2, x2), (1, x1), (0, x0)] [0, 1, 2, 3, 4, 10, 11, 12, 13] K := by kernel_rfl

def slices_pdqsortCmpFunc_r11 (F : Nat) (rec : Value → Value → Value → Value → Value → M Value) (x0 x1 x2 x3 x4 x10 x11 x12 x13 x14 : Value) (K : Value → Value → Value → Value → Value → Value → Value → Value → Value → Value → Value → M Value) : M Value :=
  bnd (opBin .eql x14 (.int .i64 (2))) fun v56 => K x0 x1 x2 x3 x4 x10 x11 x12 x13 x14 v56

theorem slices_pdqsortCmpFunc_r11_ok (F : Nat) (rec : Value → Value → Value → Value → Value → M Value) (x0 x1 x2 x3 x4 x10 x11 x12 x13 x14 : Value) (K : Value → Value → Value → Value → Value → Value → Value → Value → Value → Value → Value → M Value) : slices_pdqsortCmpFunc_r11 F rec x0 x1 x2 x3 x4 x10 x11 x12 x13 x14 K = slices_pdqsortCmpFunc_R F rec 11 [(14, x14), (13, x13), (12, x12), (11, x11), (10, x10), (4, x4), (3, x3), (2, x2), (1, x1), (0, x0)] [0, 1, 2, 3, 4, 10, 11, 12, 13, 14, 56] K := by kernel_rfl

def slices_pdqsortCmpFunc_r10 (F : Nat) (rec : Value → Value → Value → Value → Value → M Value) (x0 x1 x2 x3 x4 x10 x11 x12 : Value) (K : Value → Value → Value → Value → Value → Value → Value → Value → Value → Value → M Value) : M Value :=
  bnd (slices_choosePivotCmpFunc F x0 x1 x2 x4) fun v52 => bnd (opExtract v52 0) fun v53 => bnd (opExtract v52 1) fun v54 => K x0 x1 x2 x3 x4 x10 x11 x12 v53 v54

theorem slices_pdqsortCmpFunc_r10_ok (F : Nat) (rec : Value → Value → Value → Value → Value → M Value) (x0 x1 x2 x3 x4 x10 x11 x12 : Value) (K : Value → Value → Value → Value → Value → Value → Value → Value → Value → Value → M Value) : slices_pdqsortCmpFunc_r10 F rec x0 x1 x2 x3 x4 x10 x11 x12 K = slices_pdqsortCmpFunc_R F rec 10 [(12, x12), (11, x11), (10, x10), (4, x4), (3, x3), (2, x2), (1, x1), (0, x0)] [0, 1, 2, 3, 4, 10, 11, 12, 13, 14] K := by kernel_rfl

def slices_pdqsortCmpFunc_k3 (F : Nat) (A0 : Value → Value → Value → Value → Value → Value → Value → M Value) (rec : Value → Value → Value → Value → Value → M Value) (x0 x1 x2 x3 x4 x10 x11 x12 : Value) : M Value :=
  slices_pdqsortCmpFunc_r10 F rec x0 x1 x2 x3 x4 x10 x11 x12 (fun x0 x1 x2 x3 x4 x10 x11 x12 x13 x14 => slices_pdqsortCmpFunc_r11 F rec x0 x1 x2 x3 x4 x10 x11 x12 x13 x14 (fun x0 x1 x2 x3 x4 x10 x11 x12 x13 x14 x56 => onB x56 (slices_pdqsortCmpFunc_r12 F rec x0 x1 x2 x3 x4 x10 x11 x12 x13 (fun x0 x1 x2 x3 x4 x10 x11 x12 x13 => slices_pdqsortCmpFunc_r13 F rec x0 x1 x2 x3 x4 x10 x11 x12 x13 (fun x0 x1 x2 x3 x4 x10 x11 x12 x13 => slices_pdqsortCmpFunc_r14 F rec x0 x1 x2 x3 x4 x10 x11 x12 x13 (fun x0 x1 x2 x3 x4 x10 x11 x12 x13 x14 => slices_pdqsortCmpFunc_k2 F A0 rec x0 x1 x2 x3 x4 x10 x11 x12 x13 x14)))) (slices_pdqsortCmpFunc_k2 F A0 rec x0 x1 x2 x3 x4 x10 x11 x12 x13 x14)))

def slices_pdqsortCmpFunc_r9 (F : Nat) (rec : Value → Value → Value → Value → Value → M Value) (x0 x1 x2 x3 x4 x10 x11 x12 : Value) (K : Value → Value → Value → Value → Value → Value → Value → Value → M Value) : M Value :=
  bnd (opBin .sub x3 (.int .i64 (1))) fun v46 => K x0 x1 x2 v46 x4 x10 x11 x12

theorem slices_pdqsortCmpFunc_r9_ok (F : Nat) (rec : Value → Value → Value → Value → Value → M Value) (x0 x1 x2 x3 x4 x10 x11 x12 : Value) (K : Value → Value → Value → Value → Value → Value → Value → Value → M Value) : slices_pdqsortCmpFunc_r9 F rec x0 x1 x2 x3 x4 x10 x11 x12 K = slices_pdqsortCmpFunc_R F rec 9 [(12, x12), (11, x11), (10, x10), (4, x4), (3, x3), (2, x2), (1, x1), (0, x0)] [0, 1, 2, 3, 4, 10, 11, 12] K := by kernel_rfl

def slices_pdqsortCmpFunc_r8 (F : Nat) (rec : Value → Value → Value → Value → Value → M Value) (x0 x1 x2 x3 x4 x10 x11 x12 : Value) (K : Value → Value → Value → Value → Value → Value → Value → Value → M Value) : M Value :=
  bnd (slices_breakPatternsCmpFunc F x0 x1 x2 x4) fun v44 => K x0 x1 x2 x3 x4 x10 x11 x12

theorem slices_pdqsortCmpFunc_r8_ok (F : Nat) (rec : Value → Value → Value → Value → Value → M Value) (x0 x1 x2 x3 x4 x10 x11 x12 : Value) (K : Value → Value → Value → Value → Value → Value → Value → Value → M Value) : slices_pdqsortCmpFunc_r8 F rec x0 x1 x2 x3 x4 x10 x11 x12 K = slices_pdqsortCmpFunc_R F rec 8 [(12, x12), (11, x11), (10, x10), (4, x4), (3, x3), (2, x2), (1, x1), (0, x0)] [0, 1, 2, 3, 4, 10, 11, 12] K := by kernel_rfl

def slices_pdqsortCmpFunc_r7 (F : Nat) (rec : Value → Value → Value → Value → Value → M Value) (x0 x1 x2 x3 x4 x10 x11 x12 : Value) (K : Value → Value → Value → Value → Value → Value → Value → Value → Value → M Value) : M Value :=
  bnd (opNot x10) fun v39 => K x0 x1 x2 x3 x4 x10 x11 x12 v39

theorem slices_pdqsortCmpFunc_r7_ok (F : Nat) (rec : Value → Value → Value → Value → Value → M Value) (x0 x1 x2 x3 x4 x10 x11 x12 : Value) (K : Value → Value → Value → Value → Value → Value → Value → Value → Value → M Value) : slices_pdqsortCmpFunc_r7 F rec x0 x1 x2 x3 x4 x10 x11 x12 K = slices_pdqsortCmpFunc_R F rec 7 [(12, x12), (11, x11), (10, x10), (4, x4), (3, x3), (2, x2), (1, x1), (0, x0)] [0, 1, 2, 3, 4, 10, 11, 12, 39] K := by kernel_rfl

def slices_pdqsortCmpFunc_r6 (F : Nat) (rec : Value → Value → Value → Value → Value → M Value) (x0 x1 x2 x4 : Value) (K : M Value) : M Value :=
  bnd (slices_heapSortCmpFunc F x0 x1 x2 x4) fun v37 => K

theorem slices_pdqsortCmpFunc_r6_ok (F : Nat) (rec : Value → Value → Value → Value → Value → M Value) (x0 x1 x2 x4 : Value) (K : M Value) : slices_pdqsortCmpFunc_r6 F rec x0 x1 x2 x4 K = slices_pdqsortCmpFunc_R F rec 6 [(4, x4), (2, x2), (1, x1), (0, x0)] [] K := by kernel_rfl

def slices_pdqsortCmpFunc_r5 (F : Nat) (rec : Value → Value → Value → Value → Value → M Value) (x0 x1 x2 x3 x4 x10 x11 x12 : Value) (K : Value → Value → Value → Value → Value → Value → Value → Value → Value → M Value) : M Value :=
  bnd (opBin .eql x3 (.int .i64 (0))) fun v32 => K x0 x1 x2 x3 x4 x10 x11 x12 v32

theorem slices_pdqsortCmpFunc_r5_ok (F : Nat) (rec : Value → Value → Value → Value → Value → M Value) (x0 x1 x2 x3 x4 x10 x11 x12 : Value) (K : Value → Value → Value → Value → Value → Value → Value → Value → Value → M Value) : slices_pdqsortCmpFunc_r5 F rec x0 x1 x2 x3 x4 x10 x11 x12 K = slices_pdqsortCmpFunc_R F rec 5 [(12, x12), (11, x11), (10, x10), (4, x4), (3, x3), (2, x2), (1, x1), (0, x0)] [0, 1, 2, 3, 4, 10, 11, 12, 32] K := by kernel_rfl

def slices_pdqsortCmpFunc_r4 (F : Nat) (rec : Value → Value → Value → Value → Value → M Value) (x0 x1 x2 x4 : Value) (K : M Value) : M Value :=
  bnd (slices_insertionSortCmpFunc F x0 x1 x2 x4) fun v30 => K

theorem slices_pdqsortCmpFunc_r4_ok (F : Nat) (rec : Value → Value → Value → Value → Value → M Value) (x0 x1 x2 x4 : Value) (K : M Value) : slices_pdqsortCmpFunc_r4 F rec x0 x1 x2 x4 K = slices_pdqsortCmpFunc_R F rec 4 [(4, x4), (2, x2), (1, x1), (0, x0)] [] K := by kernel_rfl

def slices_pdqsortCmpFunc_r3 (F : Nat) (rec : Value → Value → Value → Value → Value → M Value) (x0 x1 x2 x3 x4 x10 x11 x12 : Value) (K : Value → Value → Value → Value → Value → Value → Value → Value → Value → M Value) : M Value :=
  bnd (opBin .leq x12 (.int .i64 (12))) fun v25 => K x0 x1 x2 x3 x4 x10 x11 x12 v25

theorem slices_pdqsortCmpFunc_r3_ok (F : Nat) (rec : Value → Value → Value → Value → Value → M Value) (x0 x1 x2 x3 x4 x10 x11 x12 : Value) (K : Value → Value → Value → Value → Value → Value → Value → Value → Value → M Value) : slices_pdqsortCmpFunc_r3 F rec x0 x1 x2 x3 x4 x10 x11 x12 K = slices_pdqsortCmpFunc_R F rec 3 [(12, x12), (11, x11), (10, x10), (4, x4), (3, x3), (2, x2), (1, x1), (0, x0)] [0, 1, 2, 3, 4, 10, 11, 12, 25] K := by kernel_rfl

def slices_pdqsortCmpFunc_r2 (F : Nat) (rec : Value → Value → Value → Value → Value → M Value) (x0 x1 x2 x3 x4 x10 x11 : Value) (K : Value → Value → Value → Value → Value → Value → Value → Value → M Value) : M Value :=
  bnd (opBin .sub x2 x1) fun v23 => K x0 x1 x2 x3 x4 x10 x11 v23

theorem slices_pdqsortCmpFunc_r2_ok (F : Nat) (rec : Value → Value → Value → Value → Value → M Value) (x0 x1 x2 x3 x4 x10 x11 : Value) (K : Value → Value → Value → Value → Value → Value → Value → Value → M Value) : slices_pdqsortCmpFunc_r2 F rec x0 x1 x2 x3 x4 x10 x11 K = slices_pdqsortCmpFunc_R F rec 2 [(11, x11), (10, x10), (4, x4), (3, x3), (2, x2), (1, x1), (0, x0)] [0, 1, 2, 3, 4, 10, 11, 12] K := by kernel_rfl

def slices_pdqsortCmpFunc_b0 (F : Nat) (rec : Value → Value → Value → Value → Value → M Value) (A0 : Value → Value → Value → Value → Value → Value → Value → M Value) (x0 x1 x2 x3 x4 x10 x11 : Value) : M Value :=
  slices_pdqsortCmpFunc_r2 F rec x0 x1 x2 x3 x4 x10 x11 (fun x0 x1 x2 x3 x4 x10 x11 x12 => slices_pdqsortCmpFunc_r3 F rec x0 x1 x2 x3 x4 x10 x11 x12 (fun x0 x1 x2 x3 x4 x10 x11 x12 x25 => onB x25 (slices_pdqsortCmpFunc_r4 F rec x0 x1 x2 x4 (tupK [])) (slices_pdqsortCmpFunc_r5 F rec x0 x1 x2 x3 x4 x10 x11 x12 (fun x0 x1 x2 x3 x4 x10 x11 x12 x32 => onB x32 (slices_pdqsortCmpFunc_r6 F rec x0 x1 x2 x4 (tupK [])) (slices_pdqsortCmpFunc_r7 F rec x0 x1 x2 x3 x4 x10 x11 x12 (fun x0 x1 x2 x3 x4 x10 x11 x12 x39 => onB x39 (slices_pdqsortCmpFunc_r8 F rec x0 x1 x2 x3 x4 x10 x11 x12 (fun x0 x1 x2 x3 x4 x10 x11 x12 => slices_pdqsortCmpFunc_r9 F rec x0 x1 x2 x3 x4 x10 x11 x12 (fun x0 x1 x2 x3 x4 x10 x11 x12 => slices_pdqsortCmpFunc_k3 F A0 rec x0 x1 x2 x3 x4 x10 x11 x12))) (slices_pdqsortCmpFunc_k3 F A0 rec x0 x1 x2 x3 x4 x10 x11 x12)))))))

def slices_pdqsortCmpFunc_l0 (F : Nat) (rec : Value → Value → Value → Value → Value → M Value) : Nat → Value → Value → Value → Value → Value → Value → Value → M Value
  | 0, _, _, _, _, _, _, _ => fail
  | k0 + 1, x0, x1, x2, x3, x4, x10, x11 => slices_pdqsortCmpFunc_b0 F rec (slices_pdqsortCmpFunc_l0 F rec k0) x0 x1 x2 x3 x4 x10 x11

theorem slices_pdqsortCmpFunc_l0_s (F : Nat) (rec : Value → Value → Value → Value → Value → M Value) (k0 : Nat) (x0 x1 x2 x3 x4 x10 x11 : Value) : slices_pdqsortCmpFunc_l0 F rec (k0 + 1) x0 x1 x2 x3 x4 x10 x11 = slices_pdqsortCmpFunc_b0 F rec (slices_pdqsortCmpFunc_l0 F rec k0) x0 x1 x2 x3 x4 x10 x11 := rfl

def slices_pdqsortCmpFunc_r1 (F : Nat) (rec : Value → Value → Value → Value → Value → M Value) (x0 x1 x2 x3 x4 x10 : Value) (K : Value → Value → Value → Value → Value → Value → Value → M Value) : M Value :=
  K x0 x1 x2 x3 x4 x10 (.bool true)

theorem slices_pdqsortCmpFunc_r1_ok (F : Nat) (rec : Value → Value → Value → Value → Value → M Value) (x0 x1 x2 x3 x4 x10 : Value) (K : Value → Value → Value → Value → Value → Value → Value → M Value) : slices_pdqsortCmpFunc_r1 F rec x0 x1 x2 x3 x4 x10 K = slices_pdqsortCmpFunc_R F rec 1 [(10, x10), (4, x4), (3, x3), (2, x2), (1, x1), (0, x0)] [0, 1, 2, 3, 4, 10, 11] K := by kernel_rfl

def slices_pdqsortCmpFunc_r0 (F : Nat) (rec : Value → Value → Value → Value → Value → M Value) (x0 x1 x2 x3 x4 : Value) (K : Value → Value → Value → Value → Value → Value → M Value) : M Value :=
  K x0 x1 x2 x3 x4 (.bool true)

theorem slices_pdqsortCmpFunc_r0_ok (F : Nat) (rec : Value → Value → Value → Value → Value → M Value) (x0 x1 x2 x3 x4 : Value) (K : Value → Value → Value → Value → Value → Value → M Value) : slices_pdqsortCmpFunc_r0 F rec x0 x1 x2 x3 x4 K = slices_pdqsortCmpFunc_R F rec 0 [(4, x4), (3, x3), (2, x2), (1, x1), (0, x0)] [0, 1, 2, 3, 4, 10] K := by kernel_rfl

def slices_pdqsortCmpFunc_s (F : Nat) (rec : Value → Value → Value → Value → Value → M Value) (x0 x1 x2 x3 x4 : Value) : M Value :=
  slices_pdqsortCmpFunc_r0 F rec x0 x1 x2 x3 x4 (fun x0 x1 x2 x3 x4 x10 => slices_pdqsortCmpFunc_r1 F rec x0 x1 x2 x3 x4 x10 (fun x0 x1 x2 x3 x4 x10 x11 => slices_pdqsortCmpFunc_l0 F rec F x0 x1 x2 x3 x4 x10 x11))

def slices_pdqsortCmpFunc (F : Nat) : Nat → Value → Value → Value → Value → Value → M Value
  | 0, _, _, _, _, _ => fail
  | k + 1, x0, x1, x2, x3, x4 => slices_pdqsortCmpFunc_s F (slices_pdqsortCmpFunc F k) x0 x1 x2 x3 x4

def slices_pdqsortCmpFunc_m (F k : Nat) : List Value → M Value := slices_pdqsortCmpFunc_a (slices_pdqsortCmpFunc F k)

theorem slices_pdqsortCmpFunc_body : Tryd.f60.body = some (.seq (.region 0 (opsOf Tryd.f60 0) false) (.seq (.region 1 (opsOf Tryd.f60 1) false) (.block 0 (.loop (.block 1 (.seq (.region 2 (opsOf Tryd.f60 2) false) (.seq (.seq (.region 3 (opsOf Tryd.f60 3) false) (.cond (.tmp 25) (.seq (.region 4 (opsOf Tryd.f60 4) false) .ret) .skip)) (.seq (.seq (.region 5 (opsOf Tryd.f60 5) false) (.cond (.tmp 32) (.seq (.region 6 (opsOf Tryd.f60 6) false) .ret) .skip)) (.seq (.seq (.region 7 (opsOf Tryd.f60 7) false) (.cond (.tmp 39) (.seq (.region 8 (opsOf Tryd.f60 8) false) (.region 9 (opsOf Tryd.f60 9) false)) .skip)) (.seq (.region 10 (opsOf Tryd.f60 10) false) (.seq (.seq (.region 11 (opsOf Tryd.f60 11) false) (.cond (.tmp 56) (.seq (.region 12 (opsOf Tryd.f60 12) false) (.seq (.region 13 (opsOf Tryd.f60 13) false) (.region 14 (opsOf Tryd.f60 14) false))) .skip)) (.seq (.seq (.region 15 (opsOf Tryd.f60 15) false) (.cond (.tmp 75) (.seq (.region 16 (opsOf Tryd.f60 16) false) (.cond (.tmp 80) .ret .skip)) .skip)) (.seq (.seq (.region 17 (opsOf Tryd.f60 17) true) (.cond (.tmp 97) (.seq (.region 18 (opsOf Tryd.f60 18) false) (.seq (.region 19 (opsOf Tryd.f60 19) false) (.exit 1))) .skip)) (.seq (.region 20 (opsOf Tryd.f60 20) false) (.seq (.region 21 (opsOf Tryd.f60 21) false) (.seq (.region 22 (opsOf Tryd.f60 22) false) (.seq (.region 23 (opsOf Tryd.f60 23) false) (.seq (.region 24 (opsOf Tryd.f60 24) false) (.cond (.tmp 125) (.seq (.region 25 (opsOf Tryd.f60 25) false) (.seq (.region 26 (opsOf Tryd.f60 26) false) (.region 27 (opsOf Tryd.f60 27) false))) (.seq (.region 28 (opsOf Tryd.f60 28) false) (.seq (.region 29 (opsOf Tryd.f60 29) false) (.region 30 (opsOf Tryd.f60 30) false)))))))))))))))))))))) := by kernel_rfl

theorem slices_pdqsortCmpFunc_ok (F : Nat) : ∀ k, Sim Tryd.prog TrydG 60 (slices_pdqsortCmpFunc_m F k)
  | 0 => Sim.of_fail Tryd.call60 (by intro args; unfold slices_pdqsortCmpFunc_m slices_pdqsortCmpFunc_a; split <;> rfl)
  | k + 1 => by
    have ih := slices_pdqsortCmpFunc_ok F k
    have hE : EnvOK Tryd.prog TrydG (slices_pdqsortCmpFunc_env F (slices_pdqsortCmpFunc F k) ) := (EnvOK.cons ih (EnvOK.cons (graph_Reach_1_ok F) (EnvOK.cons (graph_Parts_1_ok F) (EnvOK.cons (slices_insertionSortCmpFunc_ok F) (EnvOK.cons (slices_heapSortCmpFunc_ok F) (EnvOK.cons (slices_breakPatternsCmpFunc_ok F) (EnvOK.cons (slices_choosePivotCmpFunc_ok F) (EnvOK.cons (slices_reverseRangeCmpFunc_ok F) (EnvOK.cons (slices_partialInsertionSortCmpFunc_ok F) (EnvOK.cons (slices_partitionEqualCmpFunc_ok F) (EnvOK.cons (slices_partitionCmpFunc_ok F) EnvOK.nil)))))))))))
    refine Sim.of_body (E := slices_pdqsortCmpFunc_env F (slices_pdqsortCmpFunc F k) ) Tryd.func60 slices_pdqsortCmpFunc_body Tryd.call60 ?_ ?_
    · intro args hl; unfold slices_pdqsortCmpFunc_m slices_pdqsortCmpFunc_a; split
      · exact absurd hl (Nat.not_lt.2 (Nat.le_of_ble_eq_true rfl))
      · rfl
    · intro args ρ h w z; unfold slices_pdqsortCmpFunc_m slices_pdqsortCmpFunc_a; split
      · rename_i x0 x1 x2 x3 x4; show OKc _ _ [(0, x0), (1, x1), (2, x2), (3, x3), (4, x4)] (slices_pdqsortCmpFunc_s F (slices_pdqsortCmpFunc F k) x0 x1 x2 x3 x4) _
        refine rSeq ?_
        refine cLess [4, 3, 2, 1, 0] ?_
        refine xR hE [0, 1, 2, 3, 4, 10] rfl (slices_pdqsortCmpFunc_r0_ok F _ _ _ _ _ _ _) ?_
        intro x0 x1 x2 x3 x4 x10
        show OKq _ _ _ [(10, x10), (4, x4), (3, x3), (2, x2), (1, x1), (0, x0)] _
        refine rThen ?_
        refine rSeq ?_
        refine cLess [10, 4, 3, 2, 1, 0] ?_
        refine xR hE [0, 1, 2, 3, 4, 10, 11] rfl (slices_pdqsortCmpFunc_r1_ok F _ _ _ _ _ _ _ _) ?_
        intro x0 x1 x2 x3 x4 x10 x11
        show OKq _ _ _ [(11, x11), (10, x10), (4, x4), (3, x3), (2, x2), (1, x1), (0, x0)] _
        refine rThen ?_
        refine rBlock ?_
        refine cLess [11, 10, 4, 3, 2, 1, 0] ?_
        refine xLoopAt [0, 1, 2, 3, 4, 10, 11] [] (fun k0 => slices_pdqsortCmpFunc_l0 F (slices_pdqsortCmpFunc F k) k0) F [x0, x1, x2, x3, x4, x10, x11] rfl rfl (fun _ _ _ _ _ _ _ => rfl) fun I hI0 k0 => ?_
        intro x0 x1 x2 x3 x4 x10 x11
        show OKc _ _ [(11, x11), (10, x10), (4, x4), (3, x3), (2, x2), (1, x1), (0, x0)] _ _
        refine cAs (slices_pdqsortCmpFunc_l0_s F _ _ _ _ _ _ _ _ _) ?_
        refine rBlock ?_
        refine rSeq ?_
        refine cLess [11, 10, 4, 3, 2, 1, 0] ?_
        refine xR hE [0, 1, 2, 3, 4, 10, 11, 12] rfl (slices_pdqsortCmpFunc_r2_ok F _ _ _ _ _ _ _ _ _) ?_
        intro x0 x1 x2 x3 x4 x10 x11 x12
        show OKq _ _ _ [(12, x12), (11, x11), (10, x10), (4, x4), (3, x3), (2, x2), (1, x1), (0, x0)] _
        refine rThen ?_
        refine rSeq ?_
        refine rSeq ?_
        refine cLess [12, 11, 10, 4, 3, 2, 1, 0] ?_
        refine xR hE [0, 1, 2, 3, 4, 10, 11, 12, 25] rfl (slices_pdqsortCmpFunc_r3_ok F _ _ _ _ _ _ _ _ _ _) ?_
        intro x0 x1 x2 x3 x4 x10 x11 x12 x25
        show OKq _ _ _ [(25, x25), (12, x12), (11, x11), (10, x10), (4, x4), (3, x3), (2, x2), (1, x1), (0, x0)] _
        refine rThen ?_
        refine xCond rfl rfl ?_ ?_
        · refine rSeq ?_
          refine cLess [4, 2, 1, 0] ?_
          refine xR hE [] rfl (slices_pdqsortCmpFunc_r4_ok F _ _ _ _ _ _) ?_
          show OKq _ _ _ [] _
          refine rThen ?_
          refine rRet ?_
          refine xThenR ?_
          refine xBlockR ?_
          refine xThenR ?_
          refine xBlockR ?_
          exact rDone (.inr rfl) rfl
        · refine rSkip ?_
          refine rThen ?_
          refine rSeq ?_
          refine rSeq ?_
          refine cLess [12, 11, 10, 4, 3, 2, 1, 0] ?_
          refine xR hE [0, 1, 2, 3, 4, 10, 11, 12, 32] rfl (slices_pdqsortCmpFunc_r5_ok F _ _ _ _ _ _ _ _ _ _) ?_
          intro x0 x1 x2 x3 x4 x10 x11 x12 x32
          show OKq _ _ _ [(32, x32), (12, x12), (11, x11), (10, x10), (4, x4), (3, x3), (2, x2), (1, x1), (0, x0)] _
          refine rThen ?_
          refine xCond rfl rfl ?_ ?_
          · refine rSeq ?_
            refine cLess [4, 2, 1, 0] ?_
            refine xR hE [] rfl (slices_pdqsortCmpFunc_r6_ok F _ _ _ _ _ _) ?_
            show OKq _ _ _ [] _
            refine rThen ?_
            refine rRet ?_
            refine xThenR ?_
            refine xBlockR ?_
            refine xThenR ?_
            refine xBlockR ?_
            exact rDone (.inr rfl) rfl
          · refine rSkip ?_
            refine rThen ?_
            refine xSeq [0, 1, 2, 3, 4, 10, 11, 12] (slices_pdqsortCmpFunc_k3 F (slices_pdqsortCmpFunc_l0 F (slices_pdqsortCmpFunc F k) k0) (slices_pdqsortCmpFunc F k) ) ?_ fun hj3 => ?_
            · intro x0 x1 x2 x3 x4 x10 x11 x12
              show OKc _ _ [(12, x12), (11, x11), (10, x10), (4, x4), (3, x3), (2, x2), (1, x1), (0, x0)] _ _
              refine rSeq ?_
              refine cLess [12, 11, 10, 4, 3, 2, 1, 0] ?_
              refine xR hE [0, 1, 2, 3, 4, 10, 11, 12, 13, 14] rfl (slices_pdqsortCmpFunc_r10_ok F _ _ _ _ _ _ _ _ _ _) ?_
              intro x0 x1 x2 x3 x4 x10 x11 x12 x13 x14
              show OKq _ _ _ [(14, x14), (13, x13), (12, x12), (11, x11), (10, x10), (4, x4), (3, x3), (2, x2), (1, x1), (0, x0)] _
              refine rThen ?_
              refine xSeq [0, 1, 2, 3, 4, 10, 11, 12, 13, 14] (slices_pdqsortCmpFunc_k2 F (slices_pdqsortCmpFunc_l0 F (slices_pdqsortCmpFunc F k) k0) (slices_pdqsortCmpFunc F k) ) ?_ fun hj2 => ?_
              · intro x0 x1 x2 x3 x4 x10 x11 x12 x13 x14
                show OKc _ _ [(14, x14), (13, x13), (12, x12), (11, x11), (10, x10), (4, x4), (3, x3), (2, x2), (1, x1), (0, x0)] _ _
                refine xSeq [0, 1, 2, 3, 4, 10, 11, 12, 13] (slices_pdqsortCmpFunc_k1 F (slices_pdqsortCmpFunc_l0 F (slices_pdqsortCmpFunc F k) k0) (slices_pdqsortCmpFunc F k) ) ?_ fun hj1 => ?_
                · intro x0 x1 x2 x3 x4 x10 x11 x12 x13
                  show OKc _ _ [(13, x13), (12, x12), (11, x11), (10, x10), (4, x4), (3, x3), (2, x2), (1, x1), (0, x0)] _ _
                  refine rSeq ?_
                  refine rSeq ?_
                  refine cLess [13, 12, 11, 10, 4, 3, 2, 1, 0] ?_
                  refine xD Trydmix hE [0, 1, 2, 3, 4, 10, 11, 12, 13, 97] rfl slices_pdqsortCmpFunc_r17_good (slices_pdqsortCmpFunc_r17_ok F _ _ _ _ _ _ _ _ _ _ _) ?_
                  intro x0 x1 x2 x3 x4 x10 x11 x12 x13 x97
                  show OKq _ _ _ [(97, x97), (13, x13), (12, x12), (11, x11), (10, x10), (4, x4), (3, x3), (2, x2), (1, x1), (0, x0)] _
                  refine rThen ?_
                  refine xCond rfl rfl ?_ ?_
                  · refine rSeq ?_
                    refine cLess [13, 11, 10, 4, 3, 2, 1, 0] ?_
                    refine xR hE [0, 2, 3, 4, 10, 11, 15] rfl (slices_pdqsortCmpFunc_r18_ok F _ _ _ _ _ _ _ _ _ _) ?_
                    intro x0 x2 x3 x4 x10 x11 x15
                    show OKq _ _ _ [(15, x15), (11, x11), (10, x10), (4, x4), (3, x3), (2, x2), (0, x0)] _
                    refine rThen ?_
                    refine rSeq ?_
                    refine cLess [15, 11, 10, 4, 3, 2, 0] ?_
                    refine xR hE [0, 1, 2, 3, 4, 10, 11] rfl (slices_pdqsortCmpFunc_r19_ok F _ _ _ _ _ _ _ _ _) ?_
                    intro x0 x1 x2 x3 x4 x10 x11
                    show OKq _ _ _ [(11, x11), (10, x10), (4, x4), (3, x3), (2, x2), (1, x1), (0, x0)] _
                    refine rThen ?_
                    refine rExit ?_
                    refine xThenX ?_
                    refine rOut ?_
                    exact qLess [11, 10, 4, 3, 2, 1, 0] (hI0 k0 x0 x1 x2 x3 x4 x10 x11)
                  · refine rSkip ?_
                    refine rThen ?_
                    refine rSeq ?_
                    refine cLess [13, 12, 4, 3, 2, 1, 0] ?_
                    refine xR hE [0, 1, 2, 3, 4, 12, 16, 17] rfl (slices_pdqsortCmpFunc_r20_ok F _ _ _ _ _ _ _ _ _) ?_
                    intro x0 x1 x2 x3 x4 x12 x16 x17
                    show OKq _ _ _ [(17, x17), (16, x16), (12, x12), (4, x4), (3, x3), (2, x2), (1, x1), (0, x0)] _
                    refine rThen ?_
                    refine rSeq ?_
                    refine cLess [17, 16, 12, 4, 3, 2, 1, 0] ?_
                    refine xR hE [0, 1, 2, 3, 4, 11, 12, 16] rfl (slices_pdqsortCmpFunc_r21_ok F _ _ _ _ _ _ _ _ _ _) ?_
                    intro x0 x1 x2 x3 x4 x11 x12 x16
                    show OKq _ _ _ [(16, x16), (12, x12), (11, x11), (4, x4), (3, x3), (2, x2), (1, x1), (0, x0)] _
                    refine rThen ?_
                    refine rSeq ?_
                    refine cLess [16, 12, 11, 4, 3, 2, 1, 0] ?_
                    refine xR hE [0, 1, 2, 3, 4, 11, 12, 16, 18, 19] rfl (slices_pdqsortCmpFunc_r22_ok F _ _ _ _ _ _ _ _ _ _) ?_
                    intro x0 x1 x2 x3 x4 x11 x12 x16 x18 x19
                    show OKq _ _ _ [(19, x19), (18, x18), (16, x16), (12, x12), (11, x11), (4, x4), (3, x3), (2, x2), (1, x1), (0, x0)] _
                    refine rThen ?_
                    refine rSeq ?_
                    refine cLess [19, 18, 16, 12, 11, 4, 3, 2, 1, 0] ?_
                    refine xR hE [0, 1, 2, 3, 4, 11, 16, 18, 19, 20] rfl (slices_pdqsortCmpFunc_r23_ok F _ _ _ _ _ _ _ _ _ _ _ _) ?_
                    intro x0 x1 x2 x3 x4 x11 x16 x18 x19 x20
                    show OKq _ _ _ [(20, x20), (19, x19), (18, x18), (16, x16), (11, x11), (4, x4), (3, x3), (2, x2), (1, x1), (0, x0)] _
                    refine rThen ?_
                    refine rSeq ?_
                    refine cLess [20, 19, 18, 16, 11, 4, 3, 2, 1, 0] ?_
                    refine xR hE [0, 1, 2, 3, 4, 11, 16, 18, 19, 20, 125] rfl (slices_pdqsortCmpFunc_r24_ok F _ _ _ _ _ _ _ _ _ _ _ _) ?_
                    intro x0 x1 x2 x3 x4 x11 x16 x18 x19 x20 x125
                    show OKq _ _ _ [(125, x125), (20, x20), (19, x19), (18, x18), (16, x16), (11, x11), (4, x4), (3, x3), (2, x2), (1, x1), (0, x0)] _
                    refine rThen ?_
                    refine xCond rfl rfl ?_ ?_
                    · refine rSeq ?_
                      refine cLess [20, 18, 16, 11, 4, 3, 2, 1, 0] ?_
                      refine xR hE [0, 1, 2, 3, 4, 10, 11, 16] rfl (slices_pdqsortCmpFunc_r25_ok F _ _ _ _ _ _ _ _ _ _ _) ?_
                      intro x0 x1 x2 x3 x4 x10 x11 x16
                      show OKq _ _ _ [(16, x16), (11, x11), (10, x10), (4, x4), (3, x3), (2, x2), (1, x1), (0, x0)] _
                      refine rThen ?_
                      refine rSeq ?_
                      refine cLess [16, 11, 10, 4, 3, 2, 1, 0] ?_
                      refine xR hE [0, 2, 3, 4, 10, 11, 16] rfl (slices_pdqsortCmpFunc_r26_ok F _ _ _ _ _ _ _ _ _ _) ?_
                      intro x0 x2 x3 x4 x10 x11 x16
                      show OKq _ _ _ [(16, x16), (11, x11), (10, x10), (4, x4), (3, x3), (2, x2), (0, x0)] _
                      refine rThen ?_
                      refine cLess [16, 11, 10, 4, 3, 2, 0] ?_
                      refine xR hE [0, 1, 2, 3, 4, 10, 11] rfl (slices_pdqsortCmpFunc_r27_ok F _ _ _ _ _ _ _ _ _) ?_
                      intro x0 x1 x2 x3 x4 x10 x11
                      show OKq _ _ _ [(11, x11), (10, x10), (4, x4), (3, x3), (2, x2), (1, x1), (0, x0)] _
                      refine xBlockN ?_
                      exact qLess [11, 10, 4, 3, 2, 1, 0] (hI0 k0 x0 x1 x2 x3 x4 x10 x11)
                    · refine rSeq ?_
                      refine cLess [20, 19, 16, 11, 4, 3, 2, 1, 0] ?_
                      refine xR hE [0, 1, 2, 3, 4, 10, 11, 16] rfl (slices_pdqsortCmpFunc_r28_ok F _ _ _ _ _ _ _ _ _ _ _) ?_
                      intro x0 x1 x2 x3 x4 x10 x11 x16
                      show OKq _ _ _ [(16, x16), (11, x11), (10, x10), (4, x4), (3, x3), (2, x2), (1, x1), (0, x0)] _
                      refine rThen ?_
                      refine rSeq ?_
                      refine cLess [16, 11, 10, 4, 3, 2, 1, 0] ?_
                      refine xR hE [0, 1, 3, 4, 10, 11, 16] rfl (slices_pdqsortCmpFunc_r29_ok F _ _ _ _ _ _ _ _ _ _) ?_
                      intro x0 x1 x3 x4 x10 x11 x16
                      show OKq _ _ _ [(16, x16), (11, x11), (10, x10), (4, x4), (3, x3), (1, x1), (0, x0)] _
                      refine rThen ?_
                      refine cLess [16, 11, 10, 4, 3, 1, 0] ?_
                      refine xR hE [0, 1, 2, 3, 4, 10, 11] rfl (slices_pdqsortCmpFunc_r30_ok F _ _ _ _ _ _ _ _ _) ?_
                      intro x0 x1 x2 x3 x4 x10 x11
                      show OKq _ _ _ [(11, x11), (10, x10), (4, x4), (3, x3), (2, x2), (1, x1), (0, x0)] _
                      refine xBlockN ?_
                      exact qLess [11, 10, 4, 3, 2, 1, 0] (hI0 k0 x0 x1 x2 x3 x4 x10 x11)
                · refine rSeq ?_
                  refine cLess [14, 13, 12, 11, 10, 4, 3, 2, 1, 0] ?_
                  refine xR hE [0, 1, 2, 3, 4, 10, 11, 12, 13, 75] rfl (slices_pdqsortCmpFunc_r15_ok F _ _ _ _ _ _ _ _ _ _ _ _) ?_
                  intro x0 x1 x2 x3 x4 x10 x11 x12 x13 x75
                  show OKq _ _ _ [(75, x75), (13, x13), (12, x12), (11, x11), (10, x10), (4, x4), (3, x3), (2, x2), (1, x1), (0, x0)] _
                  refine rThen ?_
                  refine xCond rfl rfl ?_ ?_
                  · refine rSeq ?_
                    refine cLess [13, 12, 11, 10, 4, 3, 2, 1, 0] ?_
                    refine xR hE [0, 1, 2, 3, 4, 10, 11, 12, 13, 80] rfl (slices_pdqsortCmpFunc_r16_ok F _ _ _ _ _ _ _ _ _ _ _) ?_
                    intro x0 x1 x2 x3 x4 x10 x11 x12 x13 x80
                    show OKq _ _ _ [(80, x80), (13, x13), (12, x12), (11, x11), (10, x10), (4, x4), (3, x3), (2, x2), (1, x1), (0, x0)] _
                    refine rThen ?_
                    refine xCond rfl rfl ?_ ?_
                    · refine rRet ?_
                      refine xThenR ?_
                      refine xBlockR ?_
                      refine xThenR ?_
                      refine xBlockR ?_
                      exact rDone (.inr rfl) rfl
                    · refine rSkip ?_
                      exact qLess [13, 12, 11, 10, 4, 3, 2, 1, 0] (hj1 x0 x1 x2 x3 x4 x10 x11 x12 x13)
                  · refine rSkip ?_
                    exact qLess [13, 12, 11, 10, 4, 3, 2, 1, 0] (hj1 x0 x1 x2 x3 x4 x10 x11 x12 x13)
              · refine rSeq ?_
                refine cLess [14, 13, 12, 11, 10, 4, 3, 2, 1, 0] ?_
                refine xR hE [0, 1, 2, 3, 4, 10, 11, 12, 13, 14, 56] rfl (slices_pdqsortCmpFunc_r11_ok F _ _ _ _ _ _ _ _ _ _ _ _) ?_
                intro x0 x1 x2 x3 x4 x10 x11 x12 x13 x14 x56
                show OKq _ _ _ [(56, x56), (14, x14), (13, x13), (12, x12), (11, x11), (10, x10), (4, x4), (3, x3), (2, x2), (1, x1), (0, x0)] _
                refine rThen ?_
                refine xCond rfl rfl ?_ ?_
                · refine rSeq ?_
                  refine cLess [13, 12, 11, 10, 4, 3, 2, 1, 0] ?_
                  refine xR hE [0, 1, 2, 3, 4, 10, 11, 12, 13] rfl (slices_pdqsortCmpFunc_r12_ok F _ _ _ _ _ _ _ _ _ _ _) ?_
                  intro x0 x1 x2 x3 x4 x10 x11 x12 x13
                  show OKq _ _ _ [(13, x13), (12, x12), (11, x11), (10, x10), (4, x4), (3, x3), (2, x2), (1, x1), (0, x0)] _
                  refine rThen ?_
                  refine rSeq ?_
                  refine cLess [13, 12, 11, 10, 4, 3, 2, 1, 0] ?_
                  refine xR hE [0, 1, 2, 3, 4, 10, 11, 12, 13] rfl (slices_pdqsortCmpFunc_r13_ok F _ _ _ _ _ _ _ _ _ _ _) ?_
                  intro x0 x1 x2 x3 x4 x10 x11 x12 x13
                  show OKq _ _ _ [(13, x13), (12, x12), (11, x11), (10, x10), (4, x4), (3, x3), (2, x2), (1, x1), (0, x0)] _
                  refine rThen ?_
                  refine cLess [13, 12, 11, 10, 4, 3, 2, 1, 0] ?_
                  refine xR hE [0, 1, 2, 3, 4, 10, 11, 12, 13, 14] rfl (slices_pdqsortCmpFunc_r14_ok F _ _ _ _ _ _ _ _ _ _ _) ?_
                  intro x0 x1 x2 x3 x4 x10 x11 x12 x13 x14
                  show OKq _ _ _ [(14, x14), (13, x13), (12, x12), (11, x11), (10, x10), (4, x4), (3, x3), (2, x2), (1, x1), (0, x0)] _
                  exact qLess [14, 13, 12, 11, 10, 4, 3, 2, 1, 0] (hj2 x0 x1 x2 x3 x4 x10 x11 x12 x13 x14)
                · refine rSkip ?_
                  exact qLess [14, 13, 12, 11, 10, 4, 3, 2, 1, 0] (hj2 x0 x1 x2 x3 x4 x10 x11 x12 x13 x14)
            · refine rSeq ?_
              refine cLess [12, 11, 10, 4, 3, 2, 1, 0] ?_
              refine xR hE [0, 1, 2, 3, 4, 10, 11, 12, 39] rfl (slices_pdqsortCmpFunc_r7_ok F _ _ _ _ _ _ _ _ _ _) ?_
              intro x0 x1 x2 x3 x4 x10 x11 x12 x39
              show OKq _ _ _ [(39, x39), (12, x12), (11, x11), (10, x10), (4, x4), (3, x3), (2, x2), (1, x1), (0, x0)] _
              refine rThen ?_
              refine xCond rfl rfl ?_ ?_
              · refine rSeq ?_
                refine cLess [12, 11, 10, 4, 3, 2, 1, 0] ?_
                refine xR hE [0, 1, 2, 3, 4, 10, 11, 12] rfl (slices_pdqsortCmpFunc_r8_ok F _ _ _ _ _ _ _ _ _ _) ?_
                intro x0 x1 x2 x3 x4 x10 x11 x12
                show OKq _ _ _ [(12, x12), (11, x11), (10, x10), (4, x4), (3, x3), (2, x2), (1, x1), (0, x0)] _
                refine rThen ?_
                refine cLess [12, 11, 10, 4, 3, 2, 1, 0] ?_
                refine xR hE [0, 1, 2, 3, 4, 10, 11, 12] rfl (slices_pdqsortCmpFunc_r9_ok F _ _ _ _ _ _ _ _ _ _) ?_
                intro x0 x1 x2 x3 x4 x10 x11 x12
                show OKq _ _ _ [(12, x12), (11, x11), (10, x10), (4, x4), (3, x3), (2, x2), (1, x1), (0, x0)] _
                exact qLess [12, 11, 10, 4, 3, 2, 1, 0] (hj3 x0 x1 x2 x3 x4 x10 x11 x12)
              · refine rSkip ?_
                exact qLess [12, 11, 10, 4, 3, 2, 1, 0] (hj3 x0 x1 x2 x3 x4 x10 x11 x12)
      · exact rFail


/-! ### slices.SortFunc[[][]int,[]int] -/

def slices_SortFunc_env (F : Nat) : Env := envOf [(60, slices_pdqsortCmpFunc_m F F), (61, bits_Len_m F)]

noncomputable def slices_SortFunc_R (F : Nat) := rK Tryd.prog TrydG (slices_SortFunc_env F) Tryd.f48
noncomputable def slices_SortFunc_D (F : Nat) := dK Tryd.prog TrydG (slices_SortFunc_env F) Tryd.f48

def slices_SortFunc_r1 (F : Nat) (x0 x1 x4 : Value) (K : M Value) : M Value :=
  bnd (opConv .u64 x4) fun v10 => bnd (bits_Len F v10) fun v11 => bnd (slices_pdqsortCmpFunc F F x0 (.int .i64 (0)) x4 v11 x1) fun v13 => K

theorem slices_SortFunc_r1_ok (F : Nat) (x0 x1 x4 : Value) (K : M Value) : slices_SortFunc_r1 F x0 x1 x4 K = slices_SortFunc_R F 1 [(4, x4), (1, x1), (0, x0)] [] K := by kernel_rfl

def slices_SortFunc_r0 (F : Nat) (x0 x1 : Value) (K : Value → Value → Value → M Value) : M Value :=
  bnd (opLen x0) fun v6 => K x0 x1 v6

theorem slices_SortFunc_r0_ok (F : Nat) (x0 x1 : Value) (K : Value → Value → Value → M Value) : slices_SortFunc_r0 F x0 x1 K = slices_SortFunc_R F 0 [(1, x1), (0, x0)] [0, 1, 4] K := by kernel_rfl

def slices_SortFunc (F : Nat) (x0 x1 : Value) : M Value :=
  slices_SortFunc_r0 F x0 x1 (fun x0 x1 x4 => slices_SortFunc_r1 F x0 x1 x4 (tupK []))

def slices_SortFunc_m (F : Nat) : List Value → M Value
  | [x0, x1] => slices_SortFunc F x0 x1
  | _ => fail

theorem slices_SortFunc_body : Tryd.f48.body = some (.seq (.region 0 (opsOf Tryd.f48 0) false) (.region 1 (opsOf Tryd.f48 1) false)) := by kernel_rfl

theorem slices_SortFunc_ok (F : Nat) : Sim Tryd.prog TrydG 48 (slices_SortFunc_m F) := by
 have hE : EnvOK Tryd.prog TrydG (slices_SortFunc_env F) := (EnvOK.cons (slices_pdqsortCmpFunc_ok F F) (EnvOK.cons (bits_Len_ok F) EnvOK.nil))
 refine Sim.of_body (E := slices_SortFunc_env F) Tryd.func48 slices_SortFunc_body Tryd.call48 ?_ ?_
 · intro args hl; unfold slices_SortFunc_m; split
   · exact absurd hl (Nat.not_lt.2 (Nat.le_of_ble_eq_true rfl))
   · rfl
 · intro args ρ h w z; unfold slices_SortFunc_m; split
   · rename_i x0 x1; show OKc _ _ [(0, x0), (1, x1)] _ _
     refine rSeq ?_
     refine cLess [1, 0] ?_
     refine xR hE [0, 1, 4] rfl (slices_SortFunc_r0_ok F _ _ _) ?_
     intro x0 x1 x4
     show OKq _ _ _ [(4, x4), (1, x1), (0, x0)] _
     refine rThen ?_
     refine cLess [4, 1, 0] ?_
     refine xR hE [] rfl (slices_SortFunc_r1_ok F _ _ _ _) ?_
     show OKq _ _ _ [] _
     exact rDone (.inl rfl) rfl
   · exact rFail


/-! ### haruspex/graph.Parts -/

def graph_Parts_env (F : Nat) : Env := envOf [(40, graph_May_m F), (47, graph_finder_visit_m F F), (48, slices_SortFunc_m F), (50, slices_Index_m F)]

noncomputable def graph_Parts_R (F : Nat) := rK Tryd.prog TrydG (graph_Parts_env F) Tryd.f26
noncomputable def graph_Parts_D (F : Nat) := dK Tryd.prog TrydG (graph_Parts_env F) Tryd.f26

def graph_Parts_r49 (F : Nat) (x15 : Value) (K : Value → M Value) : M Value :=
  K x15

theorem graph_Parts_r49_ok (F : Nat) (x15 : Value) (K : Value → M Value) : graph_Parts_r49 F x15 K = graph_Parts_R F 49 [(15, x15)] [2] K := by kernel_rfl

def graph_Parts_k0 (F : Nat) (x15 : Value) : M Value :=
  graph_Parts_r49 F x15 (fun x2 => ret x2)

def graph_Parts_r48 (F : Nat) (x1 x3 x5 x10 x15 x127 x128 : Value) (K : Value → Value → Value → Value → Value → Value → Value → M Value) : M Value :=
  bnd (opBin .add x128 (.int .i64 (1))) fun v184 => K x1 x3 x5 x10 x15 x127 v184

theorem graph_Parts_r48_ok (F : Nat) (x1 x3 x5 x10 x15 x127 x128 : Value) (K : Value → Value → Value → Value → Value → Value → Value → M Value) : graph_Parts_r48 F x1 x3 x5 x10 x15 x127 x128 K = graph_Parts_R F 48 [(128, x128), (127, x127), (15, x15), (10, x10), (5, x5), (3, x3), (1, x1)] [1, 3, 5, 10, 15, 127, 128] K := by kernel_rfl

def graph_Parts_k2 (F : Nat) (A1 : Value → Value → Value → Value → Value → Value → Value → M Value) (x1 x3 x5 x10 x15 x127 x128 : Value) : M Value :=
  graph_Parts_r48 F x1 x3 x5 x10 x15 x127 x128 (fun x1 x3 x5 x10 x15 x127 x128 => A1 x1 x3 x5 x10 x15 x127 x128)

def graph_Parts_r47 (F : Nat) (x1 x3 x5 x10 x15 x16 x127 x128 x151 x152 x153 : Value) (K : Value → Value → Value → Value → Value → Value → Value → Value → Value → Value → Value → M Value) : M Value :=
  bnd (opBin .add x153 (.int .i64 (1))) fun v183 => K x1 x3 x5 x10 x15 x16 x127 x128 x151 x152 v183

theorem graph_Parts_r47_ok (F : Nat) (x1 x3 x5 x10 x15 x16 x127 x128 x151 x152 x153 : Value) (K : Value → Value → Value → Value → Value → Value → Value → Value → Value → Value → Value → M Value) : graph_Parts_r47 F x1 x3 x5 x10 x15 x16 x127 x128 x151 x152 x153 K = graph_Parts_R F 47 [(153, x153), (152, x152), (151, x151), (128, x128), (127, x127), (16, x16), (15, x15), (10, x10), (5, x5), (3, x3), (1, x1)] [1, 3, 5, 10, 15, 16, 127, 128, 151, 152, 153] K := by kernel_rfl

def graph_Parts_k4 (F : Nat) (A3 : Value → Value → Value → Value → Value → Value → Value → Value → Value → Value → Value → M Value) (x1 x3 x5 x10 x15 x16 x127 x128 x151 x152 x153 : Value) : M Value :=
  graph_Parts_r47 F x1 x3 x5 x10 x15 x16 x127 x128 x151 x152 x153 (fun x1 x3 x5 x10 x15 x16 x127 x128 x151 x152 x153 => A3 x1 x3 x5 x10 x15 x16 x127 x128 x151 x152 x153)

def graph_Parts_r46 (F : Nat) (x1 x3 x5 x10 x15 x16 x127 x128 x151 x152 x153 x161 x162 x163 : Value) (K : Value → Value → Value → Value → Value → Value → Value → Value → Value → Value → Value → Value → Value → Value → M Value) : M Value :=
  bnd (opBin .add x163 (.int .i64 (1))) fun v182 => K x1 x3 x5 x10 x15 x16 x127 x128 x151 x152 x153 x161 x162 v182

theorem graph_Parts_r46_ok (F : Nat) (x1 x3 x5 x10 x15 x16 x127 x128 x151 x152 x153 x161 x162 x163 : Value) (K : Value → Value → Value → Value → Value → Value → Value → Value → Value → Value → Value → Value → Value → Value → M Value) : graph_Parts_r46 F x1 x3 x5 x10 x15 x16 x127 x128 x151 x152 x153 x161 x162 x163 K = graph_Parts_R F 46 [(163, x163), (162, x162), (161, x161), (153, x153), (152, x152), (151, x151), (128, x128), (127, x127), (16, x16), (15, x15), (10, x10), (5, x5), (3, x3), (1, x1)] [1, 3, 5, 10, 15, 16, 127, 128, 151, 152, 153, 161, 162, 163] K := by kernel_rfl

def graph_Parts_k6 (F : Nat) (A5 : Value → Value → Value → Value → Value → Value → Value → Value → Value → Value → Value → Value → Value → Value → M Value) (x1 x3 x5 x10 x15 x16 x127 x128 x151 x152 x153 x161 x162 x163 : Value) : M Value :=
  graph_Parts_r46 F x1 x3 x5 x10 x15 x16 x127 x128 x151 x152 x153 x161 x162 x163 (fun x1 x3 x5 x10 x15 x16 x127 x128 x151 x152 x153 x161 x162 x163 => A5 x1 x3 x5 x10 x15 x16 x127 x128 x151 x152 x153 x161 x162 x163)

def graph_Parts_r45 (F : Nat) (x1 x3 x5 x10 x15 x16 x20 x127 x128 x151 x152 x153 x161 x162 x163 : Value) (K : Value → Value → Value → Value → Value → Value → Value → Value → Value → Value → Value → Value → Value → Value → M Value) : M Value :=
  bnd (opIndexAddr 1 x5 x20) fun v176 => bnd (opLoad v176) fun v177 => bnd (opIndexAddr 1 x10 v177) fun v178 => bnd (opLoad v178) fun v179 => bnd (opBin .sub v179 (.int .i64 (1))) fun v180 => bnd (opIndexAddr 1 x10 v177) fun v181 => bnd (opStore v181 v180) fun _ => K x1 x3 x5 x10 x15 x16 x127 x128 x151 x152 x153 x161 x162 x163

theorem graph_Parts_r45_ok (F : Nat) (x1 x3 x5 x10 x15 x16 x20 x127 x128 x151 x152 x153 x161 x162 x163 : Value) (K : Value → Value → Value → Value → Value → Value → Value → Value → Value → Value → Value → Value → Value → Value → M Value) : graph_Parts_r45 F x1 x3 x5 x10 x15 x16 x20 x127 x128 x151 x152 x153 x161 x162 x163 K = graph_Parts_R F 45 [(163, x163), (162, x162), (161, x161), (153, x153), (152, x152), (151, x151), (128, x128), (127, x127), (20, x20), (16, x16), (15, x15), (10, x10), (5, x5), (3, x3), (1, x1)] [1, 3, 5, 10, 15, 16, 127, 128, 151, 152, 153, 161, 162, 163] K := by kernel_rfl

def graph_Parts_r44 (F : Nat) (x1 x3 x5 x10 x15 x16 x20 x127 x128 x151 x152 x153 x161 x162 x163 : Value) (K : Value → Value → Value → Value → Value → Value → Value → Value → Value → Value → Value → Value → Value → Value → Value → Value → M Value) : M Value :=
  bnd (opIndexAddr 1 x5 x20) fun v169 => bnd (opLoad v169) fun v170 => bnd (opBin .neq v170 x16) fun v172 => K x1 x3 x5 x10 x15 x16 x20 x127 x128 x151 x152 x153 x161 x162 x163 v172

theorem graph_Parts_r44_ok (F : Nat) (x1 x3 x5 x10 x15 x16 x20 x127 x128 x151 x152 x153 x161 x162 x163 : Value) (K : Value → Value → Value → Value → Value → Value → Value → Value → Value → Value → Value → Value → Value → Value → Value → Value → M Value) : graph_Parts_r44 F x1 x3 x5 x10 x15 x16 x20 x127 x128 x151 x152 x153 x161 x162 x163 K = graph_Parts_R F 44 [(163, x163), (162, x162), (161, x161), (153, x153), (152, x152), (151, x151), (128, x128), (127, x127), (20, x20), (16, x16), (15, x15), (10, x10), (5, x5), (3, x3), (1, x1)] [1, 3, 5, 10, 15, 16, 20, 127, 128, 151, 152, 153, 161, 162, 163, 172] K := by kernel_rfl

def graph_Parts_r43 (F : Nat) (x1 x3 x5 x10 x15 x16 x127 x128 x151 x152 x153 x161 x162 x163 : Value) (K : Value → Value → Value → Value → Value → Value → Value → Value → Value → Value → Value → Value → Value → Value → Value → M Value) : M Value :=
  bnd (opIndexAddr 1 x161 x163) fun v165 => bnd (opLoad v165) fun v166 => K x1 x3 x5 x10 x15 x16 v166 x127 x128 x151 x152 x153 x161 x162 x163

theorem graph_Parts_r43_ok (F : Nat) (x1 x3 x5 x10 x15 x16 x127 x128 x151 x152 x153 x161 x162 x163 : Value) (K : Value → Value → Value → Value → Value → Value → Value → Value → Value → Value → Value → Value → Value → Value → Value → M Value) : graph_Parts_r43 F x1 x3 x5 x10 x15 x16 x127 x128 x151 x152 x153 x161 x162 x163 K = graph_Parts_R F 43 [(163, x163), (162, x162), (161, x161), (153, x153), (152, x152), (151, x151), (128, x128), (127, x127), (16, x16), (15, x15), (10, x10), (5, x5), (3, x3), (1, x1)] [1, 3, 5, 10, 15, 16, 20, 127, 128, 151, 152, 153, 161, 162, 163] K := by kernel_rfl

def graph_Parts_r42 (F : Nat) (x1 x3 x5 x10 x15 x16 x127 x128 x151 x152 x153 x161 x162 x163 : Value) (K : Value → Value → Value → Value → Value → Value → Value → Value → Value → Value → Value → Value → Value → Value → Value → M Value) : M Value :=
  bnd (opBin .lss x163 x162) fun v164 => K x1 x3 x5 x10 x15 x16 x127 x128 x151 x152 x153 x161 x162 x163 v164

theorem graph_Parts_r42_ok (F : Nat) (x1 x3 x5 x10 x15 x16 x127 x128 x151 x152 x153 x161 x162 x163 : Value) (K : Value → Value → Value → Value → Value → Value → Value → Value → Value → Value → Value → Value → Value → Value → Value → M Value) : graph_Parts_r42 F x1 x3 x5 x10 x15 x16 x127 x128 x151 x152 x153 x161 x162 x163 K = graph_Parts_R F 42 [(163, x163), (162, x162), (161, x161), (153, x153), (152, x152), (151, x151), (128, x128), (127, x127), (16, x16), (15, x15), (10, x10), (5, x5), (3, x3), (1, x1)] [1, 3, 5, 10, 15, 16, 127, 128, 151, 152, 153, 161, 162, 163, 164] K := by kernel_rfl

def graph_Parts_b5 (F : Nat) (E5_14 : Value → Value → Value → Value → Value → Value → Value → Value → Value → Value → Value → M Value) (A5 : Value → Value → Value → Value → Value → Value → Value → Value → Value → Value → Value → Value → Value → Value → M Value) (x1 x3 x5 x10 x15 x16 x127 x128 x151 x152 x153 x161 x162 x163 : Value) : M Value :=
  graph_Parts_r42 F x1 x3 x5 x10 x15 x16 x127 x128 x151 x152 x153 x161 x162 x163 (fun x1 x3 x5 x10 x15 x16 x127 x128 x151 x152 x153 x161 x162 x163 x164 => onB x164 (graph_Parts_r43 F x1 x3 x5 x10 x15 x16 x127 x128 x151 x152 x153 x161 x162 x163 (fun x1 x3 x5 x10 x15 x16 x20 x127 x128 x151 x152 x153 x161 x162 x163 => graph_Parts_r44 F x1 x3 x5 x10 x15 x16 x20 x127 x128 x151 x152 x153 x161 x162 x163 (fun x1 x3 x5 x10 x15 x16 x20 x127 x128 x151 x152 x153 x161 x162 x163 x172 => onB x172 (graph_Parts_r45 F x1 x3 x5 x10 x15 x16 x20 x127 x128 x151 x152 x153 x161 x162 x163 (fun x1 x3 x5 x10 x15 x16 x127 x128 x151 x152 x153 x161 x162 x163 => graph_Parts_k6 F A5 x1 x3 x5 x10 x15 x16 x127 x128 x151 x152 x153 x161 x162 x163)) (graph_Parts_k6 F A5 x1 x3 x5 x10 x15 x16 x127 x128 x151 x152 x153 x161 x162 x163)))) (E5_14 x1 x3 x5 x10 x15 x16 x127 x128 x151 x152 x153))

def graph_Parts_l5 (F : Nat) (E5_14 : Value → Value → Value → Value → Value → Value → Value → Value → Value → Value → Value → M Value) : Nat → Value → Value → Value → Value → Value → Value → Value → Value → Value → Value → Value → Value → Value → Value → M Value
  | 0, _, _, _, _, _, _, _, _, _, _, _, _, _, _ => fail
  | k5 + 1, x1, x3, x5, x10, x15, x16, x127, x128, x151, x152, x153, x161, x162, x163 => graph_Parts_b5 F E5_14 (graph_Parts_l5 F E5_14 k5) x1 x3 x5 x10 x15 x16 x127 x128 x151 x152 x153 x161 x162 x163

theorem graph_Parts_l5_s (F : Nat) (E5_14 : Value → Value → Value → Value → Value → Value → Value → Value → Value → Value → Value → M Value) (k5 : Nat) (x1 x3 x5 x10 x15 x16 x127 x128 x151 x152 x153 x161 x162 x163 : Value) : graph_Parts_l5 F E5_14 (k5 + 1) x1 x3 x5 x10 x15 x16 x127 x128 x151 x152 x153 x161 x162 x163 = graph_Parts_b5 F E5_14 (graph_Parts_l5 F E5_14 k5) x1 x3 x5 x10 x15 x16 x127 x128 x151 x152 x153 x161 x162 x163 := rfl

def graph_Parts_r41 (F : Nat) (x1 x3 x5 x10 x15 x16 x18 x127 x128 x151 x152 x153 : Value) (K : Value → Value → Value → Value → Value → Value → Value → Value → Value → Value → Value → Value → Value → Value → M Value) : M Value :=
  bnd (opFieldAddr 1 x1) fun v157 => bnd (opLoad v157) fun v158 => bnd (opIndexAddr 1 v158 x18) fun v160 => bnd (opLoad v160) fun v161 => bnd (opLen v161) fun v162 => K x1 x3 x5 x10 x15 x16 x127 x128 x151 x152 x153 v161 v162 (.int .i64 (0))

theorem graph_Parts_r41_ok (F : Nat) (x1 x3 x5 x10 x15 x16 x18 x127 x128 x151 x152 x153 : Value) (K : Value → Value → Value → Value → Value → Value → Value → Value → Value → Value → Value → Value → Value → Value → M Value) : graph_Parts_r41 F x1 x3 x5 x10 x15 x16 x18 x127 x128 x151 x152 x153 K = graph_Parts_R F 41 [(153, x153), (152, x152), (151, x151), (128, x128), (127, x127), (18, x18), (16, x16), (15, x15), (10, x10), (5, x5), (3, x3), (1, x1)] [1, 3, 5, 10, 15, 16, 127, 128, 151, 152, 153, 161, 162, 163] K := by kernel_rfl

def graph_Parts_r40 (F : Nat) (x1 x3 x5 x10 x15 x16 x127 x128 x151 x152 x153 : Value) (K : Value → Value → Value → Value → Value → Value → Value → Value → Value → Value → Value → Value → M Value) : M Value :=
  bnd (opIndexAddr 1 x151 x153) fun v155 => bnd (opLoad v155) fun v156 => K x1 x3 x5 x10 x15 x16 v156 x127 x128 x151 x152 x153

theorem graph_Parts_r40_ok (F : Nat) (x1 x3 x5 x10 x15 x16 x127 x128 x151 x152 x153 : Value) (K : Value → Value → Value → Value → Value → Value → Value → Value → Value → Value → Value → Value → M Value) : graph_Parts_r40 F x1 x3 x5 x10 x15 x16 x127 x128 x151 x152 x153 K = graph_Parts_R F 40 [(153, x153), (152, x152), (151, x151), (128, x128), (127, x127), (16, x16), (15, x15), (10, x10), (5, x5), (3, x3), (1, x1)] [1, 3, 5, 10, 15, 16, 18, 127, 128, 151, 152, 153] K := by kernel_rfl

def graph_Parts_r39 (F : Nat) (x1 x3 x5 x10 x15 x16 x127 x128 x151 x152 x153 : Value) (K : Value → Value → Value → Value → Value → Value → Value → Value → Value → Value → Value → Value → M Value) : M Value :=
  bnd (opBin .lss x153 x152) fun v154 => K x1 x3 x5 x10 x15 x16 x127 x128 x151 x152 x153 v154

theorem graph_Parts_r39_ok (F : Nat) (x1 x3 x5 x10 x15 x16 x127 x128 x151 x152 x153 : Value) (K : Value → Value → Value → Value → Value → Value → Value → Value → Value → Value → Value → Value → M Value) : graph_Parts_r39 F x1 x3 x5 x10 x15 x16 x127 x128 x151 x152 x153 K = graph_Parts_R F 39 [(153, x153), (152, x152), (151, x151), (128, x128), (127, x127), (16, x16), (15, x15), (10, x10), (5, x5), (3, x3), (1, x1)] [1, 3, 5, 10, 15, 16, 127, 128, 151, 152, 153, 154] K := by kernel_rfl

def graph_Parts_b3 (F : Nat) (E3_12 : Value → Value → Value → Value → Value → Value → Value → M Value) (A3 : Value → Value → Value → Value → Value → Value → Value → Value → Value → Value → Value → M Value) (x1 x3 x5 x10 x15 x16 x127 x128 x151 x152 x153 : Value) : M Value :=
  graph_Parts_r39 F x1 x3 x5 x10 x15 x16 x127 x128 x151 x152 x153 (fun x1 x3 x5 x10 x15 x16 x127 x128 x151 x152 x153 x154 => onB x154 (graph_Parts_r40 F x1 x3 x5 x10 x15 x16 x127 x128 x151 x152 x153 (fun x1 x3 x5 x10 x15 x16 x18 x127 x128 x151 x152 x153 => graph_Parts_r41 F x1 x3 x5 x10 x15 x16 x18 x127 x128 x151 x152 x153 (fun x1 x3 x5 x10 x15 x16 x127 x128 x151 x152 x153 x161 x162 x163 => graph_Parts_l5 F (fun x1 x3 x5 x10 x15 x16 x127 x128 x151 x152 x153 => graph_Parts_k4 F A3 x1 x3 x5 x10 x15 x16 x127 x128 x151 x152 x153) F x1 x3 x5 x10 x15 x16 x127 x128 x151 x152 x153 x161 x162 x163))) (E3_12 x1 x3 x5 x10 x15 x127 x128))

def graph_Parts_l3 (F : Nat) (E3_12 : Value → Value → Value → Value → Value → Value → Value → M Value) : Nat → Value → Value → Value → Value → Value → Value → Value → Value → Value → Value → Value → M Value
  | 0, _, _, _, _, _, _, _, _, _, _, _ => fail
  | k3 + 1, x1, x3, x5, x10, x15, x16, x127, x128, x151, x152, x153 => graph_Parts_b3 F E3_12 (graph_Parts_l3 F E3_12 k3) x1 x3 x5 x10 x15 x16 x127 x128 x151 x152 x153

theorem graph_Parts_l3_s (F : Nat) (E3_12 : Value → Value → Value → Value → Value → Value → Value → M Value) (k3 : Nat) (x1 x3 x5 x10 x15 x16 x127 x128 x151 x152 x153 : Value) : graph_Parts_l3 F E3_12 (k3 + 1) x1 x3 x5 x10 x15 x16 x127 x128 x151 x152 x153 = graph_Parts_b3 F E3_12 (graph_Parts_l3 F E3_12 k3) x1 x3 x5 x10 x15 x16 x127 x128 x151 x152 x153 := rfl

def graph_Parts_r38 (F : Nat) (x1 x3 x5 x10 x15 x16 x127 x128 : Value) (K : Value → Value → Value → Value → Value → Value → Value → Value → Value → Value → Value → M Value) : M Value :=
  bnd (opNil x3) fun v146 => bnd (opFieldAddr 7 v146) fun v147 => bnd (opLoad v147) fun v148 => bnd (opIndexAddr 1 v148 x16) fun v150 => bnd (opLoad v150) fun v151 => bnd (opLen v151) fun v152 => K x1 x3 x5 x10 x15 x16 x127 x128 v151 v152 (.int .i64 (0))

theorem graph_Parts_r38_ok (F : Nat) (x1 x3 x5 x10 x15 x16 x127 x128 : Value) (K : Value → Value → Value → Value → Value → Value → Value → Value → Value → Value → Value → M Value) : graph_Parts_r38 F x1 x3 x5 x10 x15 x16 x127 x128 K = graph_Parts_R F 38 [(128, x128), (127, x127), (16, x16), (15, x15), (10, x10), (5, x5), (3, x3), (1, x1)] [1, 3, 5, 10, 15, 16, 127, 128, 151, 152, 153] K := by kernel_rfl

def graph_Parts_r37 (F : Nat) (x1 x3 x5 x10 x15 x16 x127 x128 : Value) (K : Value → Value → Value → Value → Value → Value → Value → Value → M Value) : M Value :=
  bnd (opNil x3) fun v137 => bnd (opFieldAddr 7 v137) fun v138 => bnd (opLoad v138) fun v139 => bnd (opIndexAddr 1 v139 x16) fun v141 => bnd (opLoad v141) fun v142 => bnd (opBuildSlice 1 (rep 1 [(.slice none 0 0)]) [(0, 1, false, v142)]) fun v143 => bnd (opAppend 1 24 x15 v143) fun v144 => K x1 x3 x5 x10 v144 x16 x127 x128

theorem graph_Parts_r37_ok (F : Nat) (x1 x3 x5 x10 x15 x16 x127 x128 : Value) (K : Value → Value → Value → Value → Value → Value → Value → Value → M Value) : graph_Parts_r37 F x1 x3 x5 x10 x15 x16 x127 x128 K = graph_Parts_R F 37 [(128, x128), (127, x127), (16, x16), (15, x15), (10, x10), (5, x5), (3, x3), (1, x1)] [1, 3, 5, 10, 15, 16, 127, 128] K := by kernel_rfl

def graph_Parts_r36 (F : Nat) (x1 x3 x5 x10 x15 x16 x127 x128 : Value) (K : Value → Value → Value → Value → Value → Value → Value → Value → M Value) : M Value :=
  bnd (opIndexAddr 1 x10 x16) fun v134 => bnd (opStore v134 (.int .i64 (-1))) fun _ => K x1 x3 x5 x10 x15 x16 x127 x128

theorem graph_Parts_r36_ok (F : Nat) (x1 x3 x5 x10 x15 x16 x127 x128 : Value) (K : Value → Value → Value → Value → Value → Value → Value → Value → M Value) : graph_Parts_r36 F x1 x3 x5 x10 x15 x16 x127 x128 K = graph_Parts_R F 36 [(128, x128), (127, x127), (16, x16), (15, x15), (10, x10), (5, x5), (3, x3), (1, x1)] [1, 3, 5, 10, 15, 16, 127, 128] K := by kernel_rfl

def graph_Parts_r35 (F : Nat) (x1 x3 x5 x10 x15 x127 x128 : Value) (K : Value → Value → Value → Value → Value → Value → Value → Value → M Value) : M Value :=
  bnd (slices_Index F x10 (.int .i64 (0))) fun v131 => K x1 x3 x5 x10 x15 v131 x127 x128

theorem graph_Parts_r35_ok (F : Nat) (x1 x3 x5 x10 x15 x127 x128 : Value) (K : Value → Value → Value → Value → Value → Value → Value → Value → M Value) : graph_Parts_r35 F x1 x3 x5 x10 x15 x127 x128 K = graph_Parts_R F 35 [(128, x128), (127, x127), (15, x15), (10, x10), (5, x5), (3, x3), (1, x1)] [1, 3, 5, 10, 15, 16, 127, 128] K := by kernel_rfl

def graph_Parts_r34 (F : Nat) (x1 x3 x5 x10 x15 x127 x128 : Value) (K : Value → Value → Value → Value → Value → Value → Value → Value → M Value) : M Value :=
  bnd (opBin .lss x128 x127) fun v129 => K x1 x3 x5 x10 x15 x127 x128 v129

theorem graph_Parts_r34_ok (F : Nat) (x1 x3 x5 x10 x15 x127 x128 : Value) (K : Value → Value → Value → Value → Value → Value → Value → Value → M Value) : graph_Parts_r34 F x1 x3 x5 x10 x15 x127 x128 K = graph_Parts_R F 34 [(128, x128), (127, x127), (15, x15), (10, x10), (5, x5), (3, x3), (1, x1)] [1, 3, 5, 10, 15, 127, 128, 129] K := by kernel_rfl

def graph_Parts_b1 (F : Nat) (E1_10 : Value → M Value) (A1 : Value → Value → Value → Value → Value → Value → Value → M Value) (x1 x3 x5 x10 x15 x127 x128 : Value) : M Value :=
  graph_Parts_r34 F x1 x3 x5 x10 x15 x127 x128 (fun x1 x3 x5 x10 x15 x127 x128 x129 => onB x129 (graph_Parts_r35 F x1 x3 x5 x10 x15 x127 x128 (fun x1 x3 x5 x10 x15 x16 x127 x128 => graph_Parts_r36 F x1 x3 x5 x10 x15 x16 x127 x128 (fun x1 x3 x5 x10 x15 x16 x127 x128 => graph_Parts_r37 F x1 x3 x5 x10 x15 x16 x127 x128 (fun x1 x3 x5 x10 x15 x16 x127 x128 => graph_Parts_r38 F x1 x3 x5 x10 x15 x16 x127 x128 (fun x1 x3 x5 x10 x15 x16 x127 x128 x151 x152 x153 => graph_Parts_l3 F (fun x1 x3 x5 x10 x15 x127 x128 => graph_Parts_k2 F A1 x1 x3 x5 x10 x15 x127 x128) F x1 x3 x5 x10 x15 x16 x127 x128 x151 x152 x153))))) (E1_10 x15))

def graph_Parts_l1 (F : Nat) (E1_10 : Value → M Value) : Nat → Value → Value → Value → Value → Value → Value → Value → M Value
  | 0, _, _, _, _, _, _, _ => fail
  | k1 + 1, x1, x3, x5, x10, x15, x127, x128 => graph_Parts_b1 F E1_10 (graph_Parts_l1 F E1_10 k1) x1 x3 x5 x10 x15 x127 x128

theorem graph_Parts_l1_s (F : Nat) (E1_10 : Value → M Value) (k1 : Nat) (x1 x3 x5 x10 x15 x127 x128 : Value) : graph_Parts_l1 F E1_10 (k1 + 1) x1 x3 x5 x10 x15 x127 x128 = graph_Parts_b1 F E1_10 (graph_Parts_l1 F E1_10 k1) x1 x3 x5 x10 x15 x127 x128 := rfl

def graph_Parts_r33 (F : Nat) (x1 x3 x5 x10 x15 : Value) (K : Value → Value → Value → Value → Value → Value → Value → M Value) : M Value :=
  bnd (opNil x3) fun v124 => bnd (opFieldAddr 7 v124) fun v125 => bnd (opLoad v125) fun v126 => bnd (opLen v126) fun v127 => K x1 x3 x5 x10 x15 v127 (.int .i64 (0))

theorem graph_Parts_r33_ok (F : Nat) (x1 x3 x5 x10 x15 : Value) (K : Value → Value → Value → Value → Value → Value → Value → M Value) : graph_Parts_r33 F x1 x3 x5 x10 x15 K = graph_Parts_R F 33 [(15, x15), (10, x10), (5, x5), (3, x3), (1, x1)] [1, 3, 5, 10, 15, 127, 128] K := by kernel_rfl

def graph_Parts_r32 (F : Nat) (x1 x3 x5 x10 : Value) (K : Value → Value → Value → Value → Value → M Value) : M Value :=
  K x1 x3 x5 x10 (.slice none 0 0)

theorem graph_Parts_r32_ok (F : Nat) (x1 x3 x5 x10 : Value) (K : Value → Value → Value → Value → Value → M Value) : graph_Parts_r32 F x1 x3 x5 x10 K = graph_Parts_R F 32 [(10, x10), (5, x5), (3, x3), (1, x1)] [1, 3, 5, 10, 15] K := by kernel_rfl

def graph_Parts_k7 (F : Nat) (x1 x3 x5 x10 : Value) : M Value :=
  graph_Parts_r32 F x1 x3 x5 x10 (fun x1 x3 x5 x10 x15 => graph_Parts_r33 F x1 x3 x5 x10 x15 (fun x1 x3 x5 x10 x15 x127 x128 => graph_Parts_l1 F (fun x15 => graph_Parts_k0 F x15) F x1 x3 x5 x10 x15 x127 x128))

def graph_Parts_r31 (F : Nat) (x1 x3 x5 x10 x90 x91 x92 : Value) (K : Value → Value → Value → Value → Value → Value → Value → M Value) : M Value :=
  bnd (opBin .add x92 (.int .i64 (1))) fun v122 => K x1 x3 x5 x10 x90 x91 v122

theorem graph_Parts_r31_ok (F : Nat) (x1 x3 x5 x10 x90 x91 x92 : Value) (K : Value → Value → Value → Value → Value → Value → Value → M Value) : graph_Parts_r31 F x1 x3 x5 x10 x90 x91 x92 K = graph_Parts_R F 31 [(92, x92), (91, x91), (90, x90), (10, x10), (5, x5), (3, x3), (1, x1)] [1, 3, 5, 10, 90, 91, 92] K := by kernel_rfl

def graph_Parts_k9 (F : Nat) (A8 : Value → Value → Value → Value → Value → Value → Value → M Value) (x1 x3 x5 x10 x90 x91 x92 : Value) : M Value :=
  graph_Parts_r31 F x1 x3 x5 x10 x90 x91 x92 (fun x1 x3 x5 x10 x90 x91 x92 => A8 x1 x3 x5 x10 x90 x91 x92)

def graph_Parts_r30 (F : Nat) (x1 x3 x5 x10 x11 x90 x91 x92 x97 x98 x99 : Value) (K : Value → Value → Value → Value → Value → Value → Value → Value → Value → Value → Value → M Value) : M Value :=
  bnd (opBin .add x99 (.int .i64 (1))) fun v121 => K x1 x3 x5 x10 x11 x90 x91 x92 x97 x98 v121

theorem graph_Parts_r30_ok (F : Nat) (x1 x3 x5 x10 x11 x90 x91 x92 x97 x98 x99 : Value) (K : Value → Value → Value → Value → Value → Value → Value → Value → Value → Value → Value → M Value) : graph_Parts_r30 F x1 x3 x5 x10 x11 x90 x91 x92 x97 x98 x99 K = graph_Parts_R F 30 [(99, x99), (98, x98), (97, x97), (92, x92), (91, x91), (90, x90), (11, x11), (10, x10), (5, x5), (3, x3), (1, x1)] [1, 3, 5, 10, 11, 90, 91, 92, 97, 98, 99] K := by kernel_rfl

def graph_Parts_k11 (F : Nat) (A10 : Value → Value → Value → Value → Value → Value → Value → Value → Value → Value → Value → M Value) (x1 x3 x5 x10 x11 x90 x91 x92 x97 x98 x99 : Value) : M Value :=
  graph_Parts_r30 F x1 x3 x5 x10 x11 x90 x91 x92 x97 x98 x99 (fun x1 x3 x5 x10 x11 x90 x91 x92 x97 x98 x99 => A10 x1 x3 x5 x10 x11 x90 x91 x92 x97 x98 x99)

def graph_Parts_r29 (F : Nat) (x1 x3 x5 x10 x11 x14 x90 x91 x92 x97 x98 x99 : Value) (K : Value → Value → Value → Value → Value → Value → Value → Value → Value → Value → Value → M Value) : M Value :=
  bnd (opIndexAddr 1 x5 x14) fun v115 => bnd (opLoad v115) fun v116 => bnd (opIndexAddr 1 x10 v116) fun v117 => bnd (opLoad v117) fun v118 => bnd (opBin .add v118 (.int .i64 (1))) fun v119 => bnd (opIndexAddr 1 x10 v116) fun v120 => bnd (opStore v120 v119) fun _ => K x1 x3 x5 x10 x11 x90 x91 x92 x97 x98 x99

theorem graph_Parts_r29_ok (F : Nat) (x1 x3 x5 x10 x11 x14 x90 x91 x92 x97 x98 x99 : Value) (K : Value → Value → Value → Value → Value → Value → Value → Value → Value → Value → Value → M Value) : graph_Parts_r29 F x1 x3 x5 x10 x11 x14 x90 x91 x92 x97 x98 x99 K = graph_Parts_R F 29 [(99, x99), (98, x98), (97, x97), (92, x92), (91, x91), (90, x90), (14, x14), (11, x11), (10, x10), (5, x5), (3, x3), (1, x1)] [1, 3, 5, 10, 11, 90, 91, 92, 97, 98, 99] K := by kernel_rfl

def graph_Parts_r28 (F : Nat) (x1 x3 x5 x10 x11 x14 x90 x91 x92 x97 x98 x99 : Value) (K : Value → Value → Value → Value → Value → Value → Value → Value → Value → Value → Value → Value → Value → M Value) : M Value :=
  bnd (opIndexAddr 1 x5 x11) fun v105 => bnd (opLoad v105) fun v106 => bnd (opIndexAddr 1 x5 x14) fun v109 => bnd (opLoad v109) fun v110 => bnd (opBin .neq v106 v110) fun v111 => K x1 x3 x5 x10 x11 x14 x90 x91 x92 x97 x98 x99 v111

theorem graph_Parts_r28_ok (F : Nat) (x1 x3 x5 x10 x11 x14 x90 x91 x92 x97 x98 x99 : Value) (K : Value → Value → Value → Value → Value → Value → Value → Value → Value → Value → Value → Value → Value → M Value) : graph_Parts_r28 F x1 x3 x5 x10 x11 x14 x90 x91 x92 x97 x98 x99 K = graph_Parts_D F 28 [0, 1, 2, 3, 4, 5, 6, 7, 8] [(99, x99), (98, x98), (97, x97), (92, x92), (91, x91), (90, x90), (14, x14), (11, x11), (10, x10), (5, x5), (3, x3), (1, x1)] [1, 3, 5, 10, 11, 14, 90, 91, 92, 97, 98, 99, 111] K := by kernel_rfl

theorem graph_Parts_r28_good : goodOrder (opsOf Tryd.f26 28) [0, 1, 2, 3, 4, 5, 6, 7, 8] = true := by kernel_rfl

def graph_Parts_r27 (F : Nat) (x1 x3 x5 x10 x11 x90 x91 x92 x97 x98 x99 : Value) (K : Value → Value → Value → Value → Value → Value → Value → Value → Value → Value → Value → Value → M Value) : M Value :=
  bnd (opIndexAddr 1 x97 x99) fun v101 => bnd (opLoad v101) fun v102 => K x1 x3 x5 x10 x11 v102 x90 x91 x92 x97 x98 x99

theorem graph_Parts_r27_ok (F : Nat) (x1 x3 x5 x10 x11 x90 x91 x92 x97 x98 x99 : Value) (K : Value → Value → Value → Value → Value → Value → Value → Value → Value → Value → Value → Value → M Value) : graph_Parts_r27 F x1 x3 x5 x10 x11 x90 x91 x92 x97 x98 x99 K = graph_Parts_R F 27 [(99, x99), (98, x98), (97, x97), (92, x92), (91, x91), (90, x90), (11, x11), (10, x10), (5, x5), (3, x3), (1, x1)] [1, 3, 5, 10, 11, 14, 90, 91, 92, 97, 98, 99] K := by kernel_rfl

def graph_Parts_r26 (F : Nat) (x1 x3 x5 x10 x11 x90 x91 x92 x97 x98 x99 : Value) (K : Value → Value → Value → Value → Value → Value → Value → Value → Value → Value → Value → Value → M Value) : M Value :=
  bnd (opBin .lss x99 x98) fun v100 => K x1 x3 x5 x10 x11 x90 x91 x92 x97 x98 x99 v100

theorem graph_Parts_r26_ok (F : Nat) (x1 x3 x5 x10 x11 x90 x91 x92 x97 x98 x99 : Value) (K : Value → Value → Value → Value → Value → Value → Value → Value → Value → Value → Value → Value → M Value) : graph_Parts_r26 F x1 x3 x5 x10 x11 x90 x91 x92 x97 x98 x99 K = graph_Parts_R F 26 [(99, x99), (98, x98), (97, x97), (92, x92), (91, x91), (90, x90), (11, x11), (10, x10), (5, x5), (3, x3), (1, x1)] [1, 3, 5, 10, 11, 90, 91, 92, 97, 98, 99, 100] K := by kernel_rfl

def graph_Parts_b10 (F : Nat) (E10_8 : Value → Value → Value → Value → Value → Value → Value → M Value) (A10 : Value → Value → Value → Value → Value → Value → Value → Value → Value → Value → Value → M Value) (x1 x3 x5 x10 x11 x90 x91 x92 x97 x98 x99 : Value) : M Value :=
  graph_Parts_r26 F x1 x3 x5 x10 x11 x90 x91 x92 x97 x98 x99 (fun x1 x3 x5 x10 x11 x90 x91 x92 x97 x98 x99 x100 => onB x100 (graph_Parts_r27 F x1 x3 x5 x10 x11 x90 x91 x92 x97 x98 x99 (fun x1 x3 x5 x10 x11 x14 x90 x91 x92 x97 x98 x99 => graph_Parts_r28 F x1 x3 x5 x10 x11 x14 x90 x91 x92 x97 x98 x99 (fun x1 x3 x5 x10 x11 x14 x90 x91 x92 x97 x98 x99 x111 => onB x111 (graph_Parts_r29 F x1 x3 x5 x10 x11 x14 x90 x91 x92 x97 x98 x99 (fun x1 x3 x5 x10 x11 x90 x91 x92 x97 x98 x99 => graph_Parts_k11 F A10 x1 x3 x5 x10 x11 x90 x91 x92 x97 x98 x99)) (graph_Parts_k11 F A10 x1 x3 x5 x10 x11 x90 x91 x92 x97 x98 x99)))) (E10_8 x1 x3 x5 x10 x90 x91 x92))

def graph_Parts_l10 (F : Nat) (E10_8 : Value → Value → Value → Value → Value → Value → Value → M Value) : Nat → Value → Value → Value → Value → Value → Value → Value → Value → Value → Value → Value → M Value
  | 0, _, _, _, _, _, _, _, _, _, _, _ => fail
  | k10 + 1, x1, x3, x5, x10, x11, x90, x91, x92, x97, x98, x99 => graph_Parts_b10 F E10_8 (graph_Parts_l10 F E10_8 k10) x1 x3 x5 x10 x11 x90 x91 x92 x97 x98 x99

theorem graph_Parts_l10_s (F : Nat) (E10_8 : Value → Value → Value → Value → Value → Value → Value → M Value) (k10 : Nat) (x1 x3 x5 x10 x11 x90 x91 x92 x97 x98 x99 : Value) : graph_Parts_l10 F E10_8 (k10 + 1) x1 x3 x5 x10 x11 x90 x91 x92 x97 x98 x99 = graph_Parts_b10 F E10_8 (graph_Parts_l10 F E10_8 k10) x1 x3 x5 x10 x11 x90 x91 x92 x97 x98 x99 := rfl

def graph_Parts_r25 (F : Nat) (x1 x3 x5 x10 x11 x12 x90 x91 x92 : Value) (K : Value → Value → Value → Value → Value → Value → Value → Value → Value → Value → Value → M Value) : M Value :=
  bnd (opLen x12) fun v98 => K x1 x3 x5 x10 x11 x90 x91 x92 x12 v98 (.int .i64 (0))

theorem graph_Parts_r25_ok (F : Nat) (x1 x3 x5 x10 x11 x12 x90 x91 x92 : Value) (K : Value → Value → Value → Value → Value → Value → Value → Value → Value → Value → Value → M Value) : graph_Parts_r25 F x1 x3 x5 x10 x11 x12 x90 x91 x92 K = graph_Parts_R F 25 [(92, x92), (91, x91), (90, x90), (12, x12), (11, x11), (10, x10), (5, x5), (3, x3), (1, x1)] [1, 3, 5, 10, 11, 90, 91, 92, 97, 98, 99] K := by kernel_rfl

def graph_Parts_r24 (F : Nat) (x1 x3 x5 x10 x90 x91 x92 : Value) (K : Value → Value → Value → Value → Value → Value → Value → Value → Value → M Value) : M Value :=
  bnd (opIndexAddr 1 x90 x92) fun v95 => bnd (opLoad v95) fun v96 => K x1 x3 x5 x10 x92 v96 x90 x91 x92

theorem graph_Parts_r24_ok (F : Nat) (x1 x3 x5 x10 x90 x91 x92 : Value) (K : Value → Value → Value → Value → Value → Value → Value → Value → Value → M Value) : graph_Parts_r24 F x1 x3 x5 x10 x90 x91 x92 K = graph_Parts_R F 24 [(92, x92), (91, x91), (90, x90), (10, x10), (5, x5), (3, x3), (1, x1)] [1, 3, 5, 10, 11, 12, 90, 91, 92] K := by kernel_rfl

def graph_Parts_r23 (F : Nat) (x1 x3 x5 x10 x90 x91 x92 : Value) (K : Value → Value → Value → Value → Value → Value → Value → Value → M Value) : M Value :=
  bnd (opBin .lss x92 x91) fun v93 => K x1 x3 x5 x10 x90 x91 x92 v93

theorem graph_Parts_r23_ok (F : Nat) (x1 x3 x5 x10 x90 x91 x92 : Value) (K : Value → Value → Value → Value → Value → Value → Value → Value → M Value) : graph_Parts_r23 F x1 x3 x5 x10 x90 x91 x92 K = graph_Parts_R F 23 [(92, x92), (91, x91), (90, x90), (10, x10), (5, x5), (3, x3), (1, x1)] [1, 3, 5, 10, 90, 91, 92, 93] K := by kernel_rfl

def graph_Parts_b8 (F : Nat) (E8_6 : Value → Value → Value → Value → M Value) (A8 : Value → Value → Value → Value → Value → Value → Value → M Value) (x1 x3 x5 x10 x90 x91 x92 : Value) : M Value :=
  graph_Parts_r23 F x1 x3 x5 x10 x90 x91 x92 (fun x1 x3 x5 x10 x90 x91 x92 x93 => onB x93 (graph_Parts_r24 F x1 x3 x5 x10 x90 x91 x92 (fun x1 x3 x5 x10 x11 x12 x90 x91 x92 => graph_Parts_r25 F x1 x3 x5 x10 x11 x12 x90 x91 x92 (fun x1 x3 x5 x10 x11 x90 x91 x92 x97 x98 x99 => graph_Parts_l10 F (fun x1 x3 x5 x10 x90 x91 x92 => graph_Parts_k9 F A8 x1 x3 x5 x10 x90 x91 x92) F x1 x3 x5 x10 x11 x90 x91 x92 x97 x98 x99))) (E8_6 x1 x3 x5 x10))

def graph_Parts_l8 (F : Nat) (E8_6 : Value → Value → Value → Value → M Value) : Nat → Value → Value → Value → Value → Value → Value → Value → M Value
  | 0, _, _, _, _, _, _, _ => fail
  | k8 + 1, x1, x3, x5, x10, x90, x91, x92 => graph_Parts_b8 F E8_6 (graph_Parts_l8 F E8_6 k8) x1 x3 x5 x10 x90 x91 x92

theorem graph_Parts_l8_s (F : Nat) (E8_6 : Value → Value → Value → Value → M Value) (k8 : Nat) (x1 x3 x5 x10 x90 x91 x92 : Value) : graph_Parts_l8 F E8_6 (k8 + 1) x1 x3 x5 x10 x90 x91 x92 = graph_Parts_b8 F E8_6 (graph_Parts_l8 F E8_6 k8) x1 x3 x5 x10 x90 x91 x92 := rfl

def graph_Parts_r22 (F : Nat) (x1 x3 x5 x10 : Value) (K : Value → Value → Value → Value → Value → Value → Value → M Value) : M Value :=
  bnd (opFieldAddr 1 x1) fun v89 => bnd (opLoad v89) fun v90 => bnd (opLen v90) fun v91 => K x1 x3 x5 x10 v90 v91 (.int .i64 (0))

theorem graph_Parts_r22_ok (F : Nat) (x1 x3 x5 x10 : Value) (K : Value → Value → Value → Value → Value → Value → Value → M Value) : graph_Parts_r22 F x1 x3 x5 x10 K = graph_Parts_R F 22 [(10, x10), (5, x5), (3, x3), (1, x1)] [1, 3, 5, 10, 90, 91, 92] K := by kernel_rfl

def graph_Parts_r21 (F : Nat) (x1 x3 x5 : Value) (K : Value → Value → Value → Value → M Value) : M Value :=
  bnd (opNil x3) fun v84 => bnd (opFieldAddr 7 v84) fun v85 => bnd (opLoad v85) fun v86 => bnd (opLen v86) fun v87 => bnd (opMake 8 [(.int .i64 (0))] v87 v87) fun v88 => K x1 x3 x5 v88

theorem graph_Parts_r21_ok (F : Nat) (x1 x3 x5 : Value) (K : Value → Value → Value → Value → M Value) : graph_Parts_r21 F x1 x3 x5 K = graph_Parts_R F 21 [(5, x5), (3, x3), (1, x1)] [1, 3, 5, 10] K := by kernel_rfl

def graph_Parts_k12 (F : Nat) (x1 x3 x5 : Value) : M Value :=
  graph_Parts_r21 F x1 x3 x5 (fun x1 x3 x5 x10 => graph_Parts_r22 F x1 x3 x5 x10 (fun x1 x3 x5 x10 x90 x91 x92 => graph_Parts_l8 F (fun x1 x3 x5 x10 => graph_Parts_k7 F x1 x3 x5 x10) F x1 x3 x5 x10 x90 x91 x92))

def graph_Parts_r20 (F : Nat) (x1 x3 x5 x64 x65 x66 : Value) (K : Value → Value → Value → Value → Value → Value → M Value) : M Value :=
  bnd (opBin .add x66 (.int .i64 (1))) fun v82 => K x1 x3 x5 x64 x65 v82

theorem graph_Parts_r20_ok (F : Nat) (x1 x3 x5 x64 x65 x66 : Value) (K : Value → Value → Value → Value → Value → Value → M Value) : graph_Parts_r20 F x1 x3 x5 x64 x65 x66 K = graph_Parts_R F 20 [(66, x66), (65, x65), (64, x64), (5, x5), (3, x3), (1, x1)] [1, 3, 5, 64, 65, 66] K := by kernel_rfl

def graph_Parts_k14 (F : Nat) (A13 : Value → Value → Value → Value → Value → Value → M Value) (x1 x3 x5 x64 x65 x66 : Value) : M Value :=
  graph_Parts_r20 F x1 x3 x5 x64 x65 x66 (fun x1 x3 x5 x64 x65 x66 => A13 x1 x3 x5 x64 x65 x66)

def graph_Parts_r19 (F : Nat) (x1 x3 x5 x6 x64 x65 x66 x71 x72 x73 : Value) (K : Value → Value → Value → Value → Value → Value → Value → Value → Value → Value → M Value) : M Value :=
  bnd (opBin .add x73 (.int .i64 (1))) fun v81 => K x1 x3 x5 x6 x64 x65 x66 x71 x72 v81

theorem graph_Parts_r19_ok (F : Nat) (x1 x3 x5 x6 x64 x65 x66 x71 x72 x73 : Value) (K : Value → Value → Value → Value → Value → Value → Value → Value → Value → Value → M Value) : graph_Parts_r19 F x1 x3 x5 x6 x64 x65 x66 x71 x72 x73 K = graph_Parts_R F 19 [(73, x73), (72, x72), (71, x71), (66, x66), (65, x65), (64, x64), (6, x6), (5, x5), (3, x3), (1, x1)] [1, 3, 5, 6, 64, 65, 66, 71, 72, 73] K := by kernel_rfl

def graph_Parts_r18 (F : Nat) (x1 x3 x5 x6 x9 x64 x65 x66 x71 x72 x73 : Value) (K : Value → Value → Value → Value → Value → Value → Value → Value → Value → Value → M Value) : M Value :=
  bnd (opIndexAddr 1 x5 x9) fun v80 => bnd (opStore v80 x6) fun _ => K x1 x3 x5 x6 x64 x65 x66 x71 x72 x73

theorem graph_Parts_r18_ok (F : Nat) (x1 x3 x5 x6 x9 x64 x65 x66 x71 x72 x73 : Value) (K : Value → Value → Value → Value → Value → Value → Value → Value → Value → Value → M Value) : graph_Parts_r18 F x1 x3 x5 x6 x9 x64 x65 x66 x71 x72 x73 K = graph_Parts_R F 18 [(73, x73), (72, x72), (71, x71), (66, x66), (65, x65), (64, x64), (9, x9), (6, x6), (5, x5), (3, x3), (1, x1)] [1, 3, 5, 6, 64, 65, 66, 71, 72, 73] K := by kernel_rfl

def graph_Parts_r17 (F : Nat) (x1 x3 x5 x6 x64 x65 x66 x71 x72 x73 : Value) (K : Value → Value → Value → Value → Value → Value → Value → Value → Value → Value → Value → M Value) : M Value :=
  bnd (opIndexAddr 1 x71 x73) fun v75 => bnd (opLoad v75) fun v76 => K x1 x3 x5 x6 v76 x64 x65 x66 x71 x72 x73

theorem graph_Parts_r17_ok (F : Nat) (x1 x3 x5 x6 x64 x65 x66 x71 x72 x73 : Value) (K : Value → Value → Value → Value → Value → Value → Value → Value → Value → Value → Value → M Value) : graph_Parts_r17 F x1 x3 x5 x6 x64 x65 x66 x71 x72 x73 K = graph_Parts_R F 17 [(73, x73), (72, x72), (71, x71), (66, x66), (65, x65), (64, x64), (6, x6), (5, x5), (3, x3), (1, x1)] [1, 3, 5, 6, 9, 64, 65, 66, 71, 72, 73] K := by kernel_rfl

def graph_Parts_r16 (F : Nat) (x1 x3 x5 x6 x64 x65 x66 x71 x72 x73 : Value) (K : Value → Value → Value → Value → Value → Value → Value → Value → Value → Value → Value → M Value) : M Value :=
  bnd (opBin .lss x73 x72) fun v74 => K x1 x3 x5 x6 x64 x65 x66 x71 x72 x73 v74

theorem graph_Parts_r16_ok (F : Nat) (x1 x3 x5 x6 x64 x65 x66 x71 x72 x73 : Value) (K : Value → Value → Value → Value → Value → Value → Value → Value → Value → Value → Value → M Value) : graph_Parts_r16 F x1 x3 x5 x6 x64 x65 x66 x71 x72 x73 K = graph_Parts_R F 16 [(73, x73), (72, x72), (71, x71), (66, x66), (65, x65), (64, x64), (6, x6), (5, x5), (3, x3), (1, x1)] [1, 3, 5, 6, 64, 65, 66, 71, 72, 73, 74] K := by kernel_rfl

def graph_Parts_b15 (F : Nat) (E15_4 : Value → Value → Value → Value → Value → Value → M Value) (A15 : Value → Value → Value → Value → Value → Value → Value → Value → Value → Value → M Value) (x1 x3 x5 x6 x64 x65 x66 x71 x72 x73 : Value) : M Value :=
  graph_Parts_r16 F x1 x3 x5 x6 x64 x65 x66 x71 x72 x73 (fun x1 x3 x5 x6 x64 x65 x66 x71 x72 x73 x74 => onB x74 (graph_Parts_r17 F x1 x3 x5 x6 x64 x65 x66 x71 x72 x73 (fun x1 x3 x5 x6 x9 x64 x65 x66 x71 x72 x73 => graph_Parts_r18 F x1 x3 x5 x6 x9 x64 x65 x66 x71 x72 x73 (fun x1 x3 x5 x6 x64 x65 x66 x71 x72 x73 => graph_Parts_r19 F x1 x3 x5 x6 x64 x65 x66 x71 x72 x73 (fun x1 x3 x5 x6 x64 x65 x66 x71 x72 x73 => A15 x1 x3 x5 x6 x64 x65 x66 x71 x72 x73)))) (E15_4 x1 x3 x5 x64 x65 x66))

def graph_Parts_l15 (F : Nat) (E15_4 : Value → Value → Value → Value → Value → Value → M Value) : Nat → Value → Value → Value → Value → Value → Value → Value → Value → Value → Value → M Value
  | 0, _, _, _, _, _, _, _, _, _, _ => fail
  | k15 + 1, x1, x3, x5, x6, x64, x65, x66, x71, x72, x73 => graph_Parts_b15 F E15_4 (graph_Parts_l15 F E15_4 k15) x1 x3 x5 x6 x64 x65 x66 x71 x72 x73

theorem graph_Parts_l15_s (F : Nat) (E15_4 : Value → Value → Value → Value → Value → Value → M Value) (k15 : Nat) (x1 x3 x5 x6 x64 x65 x66 x71 x72 x73 : Value) : graph_Parts_l15 F E15_4 (k15 + 1) x1 x3 x5 x6 x64 x65 x66 x71 x72 x73 = graph_Parts_b15 F E15_4 (graph_Parts_l15 F E15_4 k15) x1 x3 x5 x6 x64 x65 x66 x71 x72 x73 := rfl

def graph_Parts_r15 (F : Nat) (x1 x3 x5 x6 x7 x64 x65 x66 : Value) (K : Value → Value → Value → Value → Value → Value → Value → Value → Value → Value → M Value) : M Value :=
  bnd (opLen x7) fun v72 => K x1 x3 x5 x6 x64 x65 x66 x7 v72 (.int .i64 (0))

theorem graph_Parts_r15_ok (F : Nat) (x1 x3 x5 x6 x7 x64 x65 x66 : Value) (K : Value → Value → Value → Value → Value → Value → Value → Value → Value → Value → M Value) : graph_Parts_r15 F x1 x3 x5 x6 x7 x64 x65 x66 K = graph_Parts_R F 15 [(66, x66), (65, x65), (64, x64), (7, x7), (6, x6), (5, x5), (3, x3), (1, x1)] [1, 3, 5, 6, 64, 65, 66, 71, 72, 73] K := by kernel_rfl

def graph_Parts_r14 (F : Nat) (x1 x3 x5 x64 x65 x66 : Value) (K : Value → Value → Value → Value → Value → Value → Value → Value → M Value) : M Value :=
  bnd (opIndexAddr 1 x64 x66) fun v69 => bnd (opLoad v69) fun v70 => K x1 x3 x5 x66 v70 x64 x65 x66

theorem graph_Parts_r14_ok (F : Nat) (x1 x3 x5 x64 x65 x66 : Value) (K : Value → Value → Value → Value → Value → Value → Value → Value → M Value) : graph_Parts_r14 F x1 x3 x5 x64 x65 x66 K = graph_Parts_R F 14 [(66, x66), (65, x65), (64, x64), (5, x5), (3, x3), (1, x1)] [1, 3, 5, 6, 7, 64, 65, 66] K := by kernel_rfl

def graph_Parts_r13 (F : Nat) (x1 x3 x5 x64 x65 x66 : Value) (K : Value → Value → Value → Value → Value → Value → Value → M Value) : M Value :=
  bnd (opBin .lss x66 x65) fun v67 => K x1 x3 x5 x64 x65 x66 v67

theorem graph_Parts_r13_ok (F : Nat) (x1 x3 x5 x64 x65 x66 : Value) (K : Value → Value → Value → Value → Value → Value → Value → M Value) : graph_Parts_r13 F x1 x3 x5 x64 x65 x66 K = graph_Parts_R F 13 [(66, x66), (65, x65), (64, x64), (5, x5), (3, x3), (1, x1)] [1, 3, 5, 64, 65, 66, 67] K := by kernel_rfl

def graph_Parts_b13 (F : Nat) (E13_2 : Value → Value → Value → M Value) (A13 : Value → Value → Value → Value → Value → Value → M Value) (x1 x3 x5 x64 x65 x66 : Value) : M Value :=
  graph_Parts_r13 F x1 x3 x5 x64 x65 x66 (fun x1 x3 x5 x64 x65 x66 x67 => onB x67 (graph_Parts_r14 F x1 x3 x5 x64 x65 x66 (fun x1 x3 x5 x6 x7 x64 x65 x66 => graph_Parts_r15 F x1 x3 x5 x6 x7 x64 x65 x66 (fun x1 x3 x5 x6 x64 x65 x66 x71 x72 x73 => graph_Parts_l15 F (fun x1 x3 x5 x64 x65 x66 => graph_Parts_k14 F A13 x1 x3 x5 x64 x65 x66) F x1 x3 x5 x6 x64 x65 x66 x71 x72 x73))) (E13_2 x1 x3 x5))

def graph_Parts_l13 (F : Nat) (E13_2 : Value → Value → Value → M Value) : Nat → Value → Value → Value → Value → Value → Value → M Value
  | 0, _, _, _, _, _, _ => fail
  | k13 + 1, x1, x3, x5, x64, x65, x66 => graph_Parts_b13 F E13_2 (graph_Parts_l13 F E13_2 k13) x1 x3 x5 x64 x65 x66

theorem graph_Parts_l13_s (F : Nat) (E13_2 : Value → Value → Value → M Value) (k13 : Nat) (x1 x3 x5 x64 x65 x66 : Value) : graph_Parts_l13 F E13_2 (k13 + 1) x1 x3 x5 x64 x65 x66 = graph_Parts_b13 F E13_2 (graph_Parts_l13 F E13_2 k13) x1 x3 x5 x64 x65 x66 := rfl

def graph_Parts_r12 (F : Nat) (x1 x3 x5 : Value) (K : Value → Value → Value → Value → Value → Value → M Value) : M Value :=
  bnd (opNil x3) fun v62 => bnd (opFieldAddr 7 v62) fun v63 => bnd (opLoad v63) fun v64 => bnd (opLen v64) fun v65 => K x1 x3 x5 v64 v65 (.int .i64 (0))

theorem graph_Parts_r12_ok (F : Nat) (x1 x3 x5 : Value) (K : Value → Value → Value → Value → Value → Value → M Value) : graph_Parts_r12 F x1 x3 x5 K = graph_Parts_R F 12 [(5, x5), (3, x3), (1, x1)] [1, 3, 5, 64, 65, 66] K := by kernel_rfl

def graph_Parts_r11 (F : Nat) (x1 x3 : Value) (K : Value → Value → Value → M Value) : M Value :=
  bnd (opFieldAddr 0 x1) fun v58 => bnd (opLoad v58) fun v59 => bnd (opMake 8 [(.int .i64 (0))] v59 v59) fun v60 => K x1 x3 v60

theorem graph_Parts_r11_ok (F : Nat) (x1 x3 : Value) (K : Value → Value → Value → M Value) : graph_Parts_r11 F x1 x3 K = graph_Parts_R F 11 [(3, x3), (1, x1)] [1, 3, 5] K := by kernel_rfl

def graph_Parts_r10 (F : Nat) (x1 x3 : Value) (K : Value → Value → M Value) : M Value :=
  bnd (opNil x3) fun v54 => bnd (opFieldAddr 7 v54) fun v55 => bnd (opLoad v55) fun v56 => bnd (slices_SortFunc F v56 (.func (.func 49) #[] #[])) fun v57 => K x1 x3

theorem graph_Parts_r10_ok (F : Nat) (x1 x3 : Value) (K : Value → Value → M Value) : graph_Parts_r10 F x1 x3 K = graph_Parts_R F 10 [(3, x3), (1, x1)] [1, 3] K := by kernel_rfl

def graph_Parts_k16 (F : Nat) (x1 x3 : Value) : M Value :=
  graph_Parts_r10 F x1 x3 (fun x1 x3 => graph_Parts_r11 F x1 x3 (fun x1 x3 x5 => graph_Parts_r12 F x1 x3 x5 (fun x1 x3 x5 x64 x65 x66 => graph_Parts_l13 F (fun x1 x3 x5 => graph_Parts_k12 F x1 x3 x5) F x1 x3 x5 x64 x65 x66)))

def graph_Parts_r9 (F : Nat) (x1 x3 x37 x38 : Value) (K : Value → Value → Value → Value → M Value) : M Value :=
  bnd (opBin .add x38 (.int .i64 (1))) fun v52 => K x1 x3 x37 v52

theorem graph_Parts_r9_ok (F : Nat) (x1 x3 x37 x38 : Value) (K : Value → Value → Value → Value → M Value) : graph_Parts_r9 F x1 x3 x37 x38 K = graph_Parts_R F 9 [(38, x38), (37, x37), (3, x3), (1, x1)] [1, 3, 37, 38] K := by kernel_rfl

def graph_Parts_k18 (F : Nat) (A17 : Value → Value → Value → Value → M Value) (x1 x3 x37 x38 : Value) : M Value :=
  graph_Parts_r9 F x1 x3 x37 x38 (fun x1 x3 x37 x38 => A17 x1 x3 x37 x38)

def graph_Parts_r8 (F : Nat) (x1 x3 x4 x37 x38 : Value) (K : Value → Value → Value → Value → M Value) : M Value :=
  bnd (graph_finder_visit F F x3 x4) fun v51 => K x1 x3 x37 x38

theorem graph_Parts_r8_ok (F : Nat) (x1 x3 x4 x37 x38 : Value) (K : Value → Value → Value → Value → M Value) : graph_Parts_r8 F x1 x3 x4 x37 x38 K = graph_Parts_R F 8 [(38, x38), (37, x37), (4, x4), (3, x3), (1, x1)] [1, 3, 37, 38] K := by kernel_rfl

def graph_Parts_r7 (F : Nat) (x1 x3 x4 x37 x38 : Value) (K : Value → Value → Value → Value → Value → Value → M Value) : M Value :=
  bnd (opNil x3) fun v42 => bnd (opFieldAddr 2 v42) fun v43 => bnd (opLoad v43) fun v44 => bnd (opIndexAddr 1 v44 x4) fun v46 => bnd (opLoad v46) fun v47 => bnd (opBin .eql v47 (.int .i64 (0))) fun v48 => K x1 x3 x4 x37 x38 v48

theorem graph_Parts_r7_ok (F : Nat) (x1 x3 x4 x37 x38 : Value) (K : Value → Value → Value → Value → Value → Value → M Value) : graph_Parts_r7 F x1 x3 x4 x37 x38 K = graph_Parts_R F 7 [(38, x38), (37, x37), (4, x4), (3, x3), (1, x1)] [1, 3, 4, 37, 38, 48] K := by kernel_rfl

def graph_Parts_r6 (F : Nat) (x1 x3 x37 x38 : Value) (K : Value → Value → Value → Value → Value → M Value) : M Value :=
  K x1 x3 x38 x37 x38

theorem graph_Parts_r6_ok (F : Nat) (x1 x3 x37 x38 : Value) (K : Value → Value → Value → Value → Value → M Value) : graph_Parts_r6 F x1 x3 x37 x38 K = graph_Parts_R F 6 [(38, x38), (37, x37), (3, x3), (1, x1)] [1, 3, 4, 37, 38] K := by kernel_rfl

def graph_Parts_r5 (F : Nat) (x1 x3 x37 x38 : Value) (K : Value → Value → Value → Value → Value → M Value) : M Value :=
  bnd (opBin .lss x38 x37) fun v39 => K x1 x3 x37 x38 v39

theorem graph_Parts_r5_ok (F : Nat) (x1 x3 x37 x38 : Value) (K : Value → Value → Value → Value → Value → M Value) : graph_Parts_r5 F x1 x3 x37 x38 K = graph_Parts_R F 5 [(38, x38), (37, x37), (3, x3), (1, x1)] [1, 3, 37, 38, 39] K := by kernel_rfl

def graph_Parts_b17 (F : Nat) (E17_0 : Value → Value → M Value) (A17 : Value → Value → Value → Value → M Value) (x1 x3 x37 x38 : Value) : M Value :=
  graph_Parts_r5 F x1 x3 x37 x38 (fun x1 x3 x37 x38 x39 => onB x39 (graph_Parts_r6 F x1 x3 x37 x38 (fun x1 x3 x4 x37 x38 => graph_Parts_r7 F x1 x3 x4 x37 x38 (fun x1 x3 x4 x37 x38 x48 => onB x48 (graph_Parts_r8 F x1 x3 x4 x37 x38 (fun x1 x3 x37 x38 => graph_Parts_k18 F A17 x1 x3 x37 x38)) (graph_Parts_k18 F A17 x1 x3 x37 x38)))) (E17_0 x1 x3))

def graph_Parts_l17 (F : Nat) (E17_0 : Value → Value → M Value) : Nat → Value → Value → Value → Value → M Value
  | 0, _, _, _, _ => fail
  | k17 + 1, x1, x3, x37, x38 => graph_Parts_b17 F E17_0 (graph_Parts_l17 F E17_0 k17) x1 x3 x37 x38

theorem graph_Parts_l17_s (F : Nat) (E17_0 : Value → Value → M Value) (k17 : Nat) (x1 x3 x37 x38 : Value) : graph_Parts_l17 F E17_0 (k17 + 1) x1 x3 x37 x38 = graph_Parts_b17 F E17_0 (graph_Parts_l17 F E17_0 k17) x1 x3 x37 x38 := rfl

def graph_Parts_r4 (F : Nat) (x1 x3 : Value) (K : Value → Value → Value → Value → M Value) : M Value :=
  bnd (opFieldAddr 0 x1) fun v36 => bnd (opLoad v36) fun v37 => K x1 x3 v37 (.int .i64 (0))

theorem graph_Parts_r4_ok (F : Nat) (x1 x3 : Value) (K : Value → Value → Value → Value → M Value) : graph_Parts_r4 F x1 x3 K = graph_Parts_R F 4 [(3, x3), (1, x1)] [1, 3, 37, 38] K := by kernel_rfl

def graph_Parts_r3 (F : Nat) (x1 : Value) (K : Value → Value → M Value) : M Value :=
  bnd (opLoadN 2 x1) fun v24 => bnd (opFieldAddr 0 x1) fun v25 => bnd (opLoad v25) fun v26 => bnd (opFieldAddr 0 x1) fun v28 => bnd (opLoad v28) fun v29 => bnd (opFieldAddr 0 x1) fun v31 => bnd (opLoad v31) fun v32 => bnd (opMake 8 [(.int .i64 (0))] v26 v26) fun v27 => bnd (opMake 8 [(.int .i64 (0))] v29 v29) fun v30 => bnd (opMake 1 [(.bool false)] v32 v32) fun v33 => bnd (opBuild [(.int .i64 (0)), (.slice none 0 0), (.slice none 0 0), (.slice none 0 0), (.slice none 0 0), (.slice none 0 0), (.int .i64 (0)), (.slice none 0 0)] [(0, 2, true, v24), (2, 1, false, v27), (3, 1, false, v30), (4, 1, false, v33)]) fun v34 => bnd (opBoxN v34) fun v35 => K x1 v35

theorem graph_Parts_r3_ok (F : Nat) (x1 : Value) (K : Value → Value → M Value) : graph_Parts_r3 F x1 K = graph_Parts_D F 3 [0, 1, 2, 4, 5, 7, 8, 3, 6, 9, 10, 11, 12] [(1, x1)] [1, 3] K := by kernel_rfl

theorem graph_Parts_r3_good : goodOrder (opsOf Tryd.f26 3) [0, 1, 2, 4, 5, 7, 8, 3, 6, 9, 10, 11, 12] = true := by kernel_rfl

def graph_Parts_r2 (F : Nat) (K : Value → M Value) : M Value :=
  K (.slice none 0 0)

theorem graph_Parts_r2_ok (F : Nat) (K : Value → M Value) : graph_Parts_r2 F K = graph_Parts_R F 2 [] [2] K := by kernel_rfl

def graph_Parts_r1 (F : Nat) (x1 : Value) (K : Value → Value → M Value) : M Value :=
  bnd (opLoadN 2 x1) fun v21 => bnd (graph_May F v21) fun v22 => bnd (opNot v22) fun v23 => K x1 v23

theorem graph_Parts_r1_ok (F : Nat) (x1 : Value) (K : Value → Value → M Value) : graph_Parts_r1 F x1 K = graph_Parts_R F 1 [(1, x1)] [1, 23] K := by kernel_rfl

def graph_Parts_r0 (F : Nat) (x0 : Value) (K : Value → M Value) : M Value :=
  bnd (opBoxN x0) fun v1 => K v1

theorem graph_Parts_r0_ok (F : Nat) (x0 : Value) (K : Value → M Value) : graph_Parts_r0 F x0 K = graph_Parts_R F 0 [(0, x0)] [1] K := by kernel_rfl

def graph_Parts (F : Nat) (x0 : Value) : M Value :=
  graph_Parts_r0 F x0 (fun x1 => graph_Parts_r1 F x1 (fun x1 x23 => onB x23 (graph_Parts_r2 F (fun x2 => ret x2)) (graph_Parts_r3 F x1 (fun x1 x3 => graph_Parts_r4 F x1 x3 (fun x1 x3 x37 x38 => graph_Parts_l17 F (fun x1 x3 => graph_Parts_k16 F x1 x3) F x1 x3 x37 x38)))))

def graph_Parts_m (F : Nat) : List Value → M Value
  | [x0] => graph_Parts F x0
  | _ => fail

theorem graph_Parts_body : Tryd.f26.body = some (.seq (.region 0 (opsOf Tryd.f26 0) false) (.seq (.seq (.region 1 (opsOf Tryd.f26 1) false) (.cond (.tmp 23) (.seq (.region 2 (opsOf Tryd.f26 2) false) .ret) .skip)) (.seq (.region 3 (opsOf Tryd.f26 3) true) (.seq (.seq (.region 4 (opsOf Tryd.f26 4) false) (.block 0 (.loop (.seq (.region 5 (opsOf Tryd.f26 5) false) (.seq (.cond (.tmp 39) .skip (.exit 0)) (.seq (.block 1 (.seq (.region 6 (opsOf Tryd.f26 6) false) (.seq (.region 7 (opsOf Tryd.f26 7) false) (.cond (.tmp 48) (.region 8 (opsOf Tryd.f26 8) false) .skip)))) (.region 9 (opsOf Tryd.f26 9) false))))))) (.seq (.region 10 (opsOf Tryd.f26 10) false) (.seq (.region 11 (opsOf Tryd.f26 11) false) (.seq (.seq (.region 12 (opsOf Tryd.f26 12) false) (.block 2 (.loop (.seq (.region 13 (opsOf Tryd.f26 13) false) (.seq (.cond (.tmp 67) .skip (.exit 2)) (.seq (.block 3 (.seq (.region 14 (opsOf Tryd.f26 14) false) (.seq (.region 15 (opsOf Tryd.f26 15) false) (.block 4 (.loop (.seq (.region 16 (opsOf Tryd.f26 16) false) (.seq (.cond (.tmp 74) .skip (.exit 4)) (.seq (.block 5 (.seq (.region 17 (opsOf Tryd.f26 17) false) (.region 18 (opsOf Tryd.f26 18) false))) (.region 19 (opsOf Tryd.f26 19) false))))))))) (.region 20 (opsOf Tryd.f26 20) false))))))) (.seq (.region 21 (opsOf Tryd.f26 21) false) (.seq (.seq (.region 22 (opsOf Tryd.f26 22) false) (.block 6 (.loop (.seq (.region 23 (opsOf Tryd.f26 23) false) (.seq (.cond (.tmp 93) .skip (.exit 6)) (.seq (.block 7 (.seq (.region 24 (opsOf Tryd.f26 24) false) (.seq (.region 25 (opsOf Tryd.f26 25) false) (.block 8 (.loop (.seq (.region 26 (opsOf Tryd.f26 26) false) (.seq (.cond (.tmp 100) .skip (.exit 8)) (.seq (.block 9 (.seq (.region 27 (opsOf Tryd.f26 27) false) (.seq (.region 28 (opsOf Tryd.f26 28) true) (.cond (.tmp 111) (.region 29 (opsOf Tryd.f26 29) false) .skip)))) (.region 30 (opsOf Tryd.f26 30) false))))))))) (.region 31 (opsOf Tryd.f26 31) false))))))) (.seq (.region 32 (opsOf Tryd.f26 32) false) (.seq (.seq (.region 33 (opsOf Tryd.f26 33) false) (.block 10 (.loop (.seq (.region 34 (opsOf Tryd.f26 34) false) (.seq (.cond (.tmp 129) .skip (.exit 10)) (.seq (.block 11 (.seq (.region 35 (opsOf Tryd.f26 35) false) (.seq (.region 36 (opsOf Tryd.f26 36) false) (.seq (.region 37 (opsOf Tryd.f26 37) false) (.seq (.region 38 (opsOf Tryd.f26 38) false) (.block 12 (.loop (.seq (.region 39 (opsOf Tryd.f26 39) false) (.seq (.cond (.tmp 154) .skip (.exit 12)) (.seq (.block 13 (.seq (.region 40 (opsOf Tryd.f26 40) false) (.seq (.region 41 (opsOf Tryd.f26 41) false) (.block 14 (.loop (.seq (.region 42 (opsOf Tryd.f26 42) false) (.seq (.cond (.tmp 164) .skip (.exit 14)) (.seq (.block 15 (.seq (.region 43 (opsOf Tryd.f26 43) false) (.seq (.region 44 (opsOf Tryd.f26 44) false) (.cond (.tmp 172) (.region 45 (opsOf Tryd.f26 45) false) .skip)))) (.region 46 (opsOf Tryd.f26 46) false))))))))) (.region 47 (opsOf Tryd.f26 47) false))))))))))) (.region 48 (opsOf Tryd.f26 48) false))))))) (.seq (.region 49 (opsOf Tryd.f26 49) false) .ret)))))))))))) := by kernel_rfl

theorem graph_Parts_ok (F : Nat) : Sim Tryd.prog TrydG 26 (graph_Parts_m F) := by
 have hE : EnvOK Tryd.prog TrydG (graph_Parts_env F) := (EnvOK.cons (graph_May_ok F) (EnvOK.cons (graph_finder_visit_ok F F) (EnvOK.cons (slices_SortFunc_ok F) (EnvOK.cons (slices_Index_ok F) EnvOK.nil))))
 refine Sim.of_body (E := graph_Parts_env F) Tryd.func26 graph_Parts_body Tryd.call26 ?_ ?_
 · intro args hl; unfold graph_Parts_m; split
   · exact absurd hl (Nat.not_lt.2 (Nat.le_of_ble_eq_true rfl))
   · rfl
 · intro args ρ h w z; unfold graph_Parts_m; split
   · rename_i x0; show OKc _ _ [(0, x0)] _ _
     refine rSeq ?_
     refine cLess [0] ?_
     refine xR hE [1] rfl (graph_Parts_r0_ok F _ _) ?_
     intro x1
     show OKq _ _ _ [(1, x1)] _
     refine rThen ?_
     refine rSeq ?_
     refine rSeq ?_
     refine cLess [1] ?_
     refine xR hE [1, 23] rfl (graph_Parts_r1_ok F _ _) ?_
     intro x1 x23
     show OKq _ _ _ [(23, x23), (1, x1)] _
     refine rThen ?_
     refine xCond rfl rfl ?_ ?_
     · refine rSeq ?_
       refine cLess [] ?_
       refine xR hE [2] rfl (graph_Parts_r2_ok F _) ?_
       intro x2
       show OKq _ _ _ [(2, x2)] _
       refine rThen ?_
       refine rRet ?_
       refine xThenR ?_
       exact rDone (.inr rfl) rfl
     · refine rSkip ?_
       refine rThen ?_
       refine rSeq ?_
       refine cLess [1] ?_
       refine xD Trydmix hE [1, 3] rfl graph_Parts_r3_good (graph_Parts_r3_ok F _ _) ?_
       intro x1 x3
       show OKq _ _ _ [(3, x3), (1, x1)] _
       refine rThen ?_
       refine xSeq [1, 3] (graph_Parts_k16 F ) ?_ fun hj16 => ?_
       · intro x1 x3
         show OKc _ _ [(3, x3), (1, x1)] _ _
         refine rSeq ?_
         refine cLess [3, 1] ?_
         refine xR hE [1, 3] rfl (graph_Parts_r10_ok F _ _ _) ?_
         intro x1 x3
         show OKq _ _ _ [(3, x3), (1, x1)] _
         refine rThen ?_
         refine rSeq ?_
         refine cLess [3, 1] ?_
         refine xR hE [1, 3, 5] rfl (graph_Parts_r11_ok F _ _ _) ?_
         intro x1 x3 x5
         show OKq _ _ _ [(5, x5), (3, x3), (1, x1)] _
         refine rThen ?_
         refine xSeq [1, 3, 5] (graph_Parts_k12 F ) ?_ fun hj12 => ?_
         · intro x1 x3 x5
           show OKc _ _ [(5, x5), (3, x3), (1, x1)] _ _
           refine rSeq ?_
           refine cLess [5, 3, 1] ?_
           refine xR hE [1, 3, 5, 10] rfl (graph_Parts_r21_ok F _ _ _ _) ?_
           intro x1 x3 x5 x10
           show OKq _ _ _ [(10, x10), (5, x5), (3, x3), (1, x1)] _
           refine rThen ?_
           refine xSeq [1, 3, 5, 10] (graph_Parts_k7 F ) ?_ fun hj7 => ?_
           · intro x1 x3 x5 x10
             show OKc _ _ [(10, x10), (5, x5), (3, x3), (1, x1)] _ _
             refine rSeq ?_
             refine cLess [10, 5, 3, 1] ?_
             refine xR hE [1, 3, 5, 10, 15] rfl (graph_Parts_r32_ok F _ _ _ _ _) ?_
             intro x1 x3 x5 x10 x15
             show OKq _ _ _ [(15, x15), (10, x10), (5, x5), (3, x3), (1, x1)] _
             refine rThen ?_
             refine xSeq [15] (graph_Parts_k0 F ) ?_ fun hj0 => ?_
             · intro x15
               show OKc _ _ [(15, x15)] _ _
               refine rSeq ?_
               refine cLess [15] ?_
               refine xR hE [2] rfl (graph_Parts_r49_ok F _ _) ?_
               intro x2
               show OKq _ _ _ [(2, x2)] _
               refine rThen ?_
               refine rRet ?_
               exact rDone (.inr rfl) rfl
             · refine rSeq ?_
               refine cLess [15, 10, 5, 3, 1] ?_
               refine xR hE [1, 3, 5, 10, 15, 127, 128] rfl (graph_Parts_r33_ok F _ _ _ _ _ _) ?_
               intro x1 x3 x5 x10 x15 x127 x128
               show OKq _ _ _ [(128, x128), (127, x127), (15, x15), (10, x10), (5, x5), (3, x3), (1, x1)] _
               refine rThen ?_
               refine rBlock ?_
               refine cLess [128, 127, 15, 10, 5, 3, 1] ?_
               refine xLoopAt [1, 3, 5, 10, 15, 127, 128] [] (fun k1 => graph_Parts_l1 F (fun x15 => graph_Parts_k0 F x15) k1) F [x1, x3, x5, x10, x15, x127, x128] rfl rfl (fun _ _ _ _ _ _ _ => rfl) fun I hI1 k1 => ?_
               intro x1 x3 x5 x10 x15 x127 x128
               show OKc _ _ [(128, x128), (127, x127), (15, x15), (10, x10), (5, x5), (3, x3), (1, x1)] _ _
               refine cAs (graph_Parts_l1_s F _ _ _ _ _ _ _ _ _) ?_
               refine rSeq ?_
               refine cLess [128, 127, 15, 10, 5, 3, 1] ?_
               refine xR hE [1, 3, 5, 10, 15, 127, 128, 129] rfl (graph_Parts_r34_ok F _ _ _ _ _ _ _ _) ?_
               intro x1 x3 x5 x10 x15 x127 x128 x129
               show OKq _ _ _ [(129, x129), (128, x128), (127, x127), (15, x15), (10, x10), (5, x5), (3, x3), (1, x1)] _
               refine rThen ?_
               refine rSeq ?_
               refine xCond rfl rfl ?_ ?_
               · refine rSkip ?_
                 refine rThen ?_
                 refine xSeq [1, 3, 5, 10, 15, 127, 128] (graph_Parts_k2 F (graph_Parts_l1 F (fun x15 => graph_Parts_k0 F x15) k1) ) ?_ fun hj2 => ?_
                 · intro x1 x3 x5 x10 x15 x127 x128
                   show OKc _ _ [(128, x128), (127, x127), (15, x15), (10, x10), (5, x5), (3, x3), (1, x1)] _ _
                   refine cLess [128, 127, 15, 10, 5, 3, 1] ?_
                   refine xR hE [1, 3, 5, 10, 15, 127, 128] rfl (graph_Parts_r48_ok F _ _ _ _ _ _ _ _) ?_
                   intro x1 x3 x5 x10 x15 x127 x128
                   show OKq _ _ _ [(128, x128), (127, x127), (15, x15), (10, x10), (5, x5), (3, x3), (1, x1)] _
                   exact qLess [128, 127, 15, 10, 5, 3, 1] (hI1 k1 x1 x3 x5 x10 x15 x127 x128)
                 · refine rBlock ?_
                   refine rSeq ?_
                   refine cLess [128, 127, 15, 10, 5, 3, 1] ?_
                   refine xR hE [1, 3, 5, 10, 15, 16, 127, 128] rfl (graph_Parts_r35_ok F _ _ _ _ _ _ _ _) ?_
                   intro x1 x3 x5 x10 x15 x16 x127 x128
                   show OKq _ _ _ [(128, x128), (127, x127), (16, x16), (15, x15), (10, x10), (5, x5), (3, x3), (1, x1)] _
                   refine rThen ?_
                   refine rSeq ?_
                   refine cLess [128, 127, 16, 15, 10, 5, 3, 1] ?_
                   refine xR hE [1, 3, 5, 10, 15, 16, 127, 128] rfl (graph_Parts_r36_ok F _ _ _ _ _ _ _ _ _) ?_
                   intro x1 x3 x5 x10 x15 x16 x127 x128
                   show OKq _ _ _ [(128, x128), (127, x127), (16, x16), (15, x15), (10, x10), (5, x5), (3, x3), (1, x1)] _
                   refine rThen ?_
                   refine rSeq ?_
                   refine cLess [128, 127, 16, 15, 10, 5, 3, 1] ?_
                   refine xR hE [1, 3, 5, 10, 15, 16, 127, 128] rfl (graph_Parts_r37_ok F _ _ _ _ _ _ _ _ _) ?_
                   intro x1 x3 x5 x10 x15 x16 x127 x128
                   show OKq _ _ _ [(128, x128), (127, x127), (16, x16), (15, x15), (10, x10), (5, x5), (3, x3), (1, x1)] _
                   refine rThen ?_
                   refine rSeq ?_
                   refine cLess [128, 127, 16, 15, 10, 5, 3, 1] ?_
                   refine xR hE [1, 3, 5, 10, 15, 16, 127, 128, 151, 152, 153] rfl (graph_Parts_r38_ok F _ _ _ _ _ _ _ _ _) ?_
                   intro x1 x3 x5 x10 x15 x16 x127 x128 x151 x152 x153
                   show OKq _ _ _ [(153, x153), (152, x152), (151, x151), (128, x128), (127, x127), (16, x16), (15, x15), (10, x10), (5, x5), (3, x3), (1, x1)] _
                   refine rThen ?_
                   refine rBlock ?_
                   refine cLess [153, 152, 151, 128, 127, 16, 15, 10, 5, 3, 1] ?_
                   refine xLoopAt [1, 3, 5, 10, 15, 16, 127, 128, 151, 152, 153] [] (fun k3 => graph_Parts_l3 F (fun x1 x3 x5 x10 x15 x127 x128 => graph_Parts_k2 F (graph_Parts_l1 F (fun x15 => graph_Parts_k0 F x15) k1) x1 x3 x5 x10 x15 x127 x128) k3) F [x1, x3, x5, x10, x15, x16, x127, x128, x151, x152, x153] rfl rfl (fun _ _ _ _ _ _ _ _ _ _ _ => rfl) fun I hI3 k3 => ?_
                   intro x1 x3 x5 x10 x15 x16 x127 x128 x151 x152 x153
                   show OKc _ _ [(153, x153), (152, x152), (151, x151), (128, x128), (127, x127), (16, x16), (15, x15), (10, x10), (5, x5), (3, x3), (1, x1)] _ _
                   refine cAs (graph_Parts_l3_s F _ _ _ _ _ _ _ _ _ _ _ _ _) ?_
                   refine rSeq ?_
                   refine cLess [153, 152, 151, 128, 127, 16, 15, 10, 5, 3, 1] ?_
                   refine xR hE [1, 3, 5, 10, 15, 16, 127, 128, 151, 152, 153, 154] rfl (graph_Parts_r39_ok F _ _ _ _ _ _ _ _ _ _ _ _) ?_
                   intro x1 x3 x5 x10 x15 x16 x127 x128 x151 x152 x153 x154
                   show OKq _ _ _ [(154, x154), (153, x153), (152, x152), (151, x151), (128, x128), (127, x127), (16, x16), (15, x15), (10, x10), (5, x5), (3, x3), (1, x1)] _
                   refine rThen ?_
                   refine rSeq ?_
                   refine xCond rfl rfl ?_ ?_
                   · refine rSkip ?_
                     refine rThen ?_
                     refine xSeq [1, 3, 5, 10, 15, 16, 127, 128, 151, 152, 153] (graph_Parts_k4 F (graph_Parts_l3 F (fun x1 x3 x5 x10 x15 x127 x128 => graph_Parts_k2 F (graph_Parts_l1 F (fun x15 => graph_Parts_k0 F x15) k1) x1 x3 x5 x10 x15 x127 x128) k3) ) ?_ fun hj4 => ?_
                     · intro x1 x3 x5 x10 x15 x16 x127 x128 x151 x152 x153
                       show OKc _ _ [(153, x153), (152, x152), (151, x151), (128, x128), (127, x127), (16, x16), (15, x15), (10, x10), (5, x5), (3, x3), (1, x1)] _ _
                       refine cLess [153, 152, 151, 128, 127, 16, 15, 10, 5, 3, 1] ?_
                       refine xR hE [1, 3, 5, 10, 15, 16, 127, 128, 151, 152, 153] rfl (graph_Parts_r47_ok F _ _ _ _ _ _ _ _ _ _ _ _) ?_
                       intro x1 x3 x5 x10 x15 x16 x127 x128 x151 x152 x153
                       show OKq _ _ _ [(153, x153), (152, x152), (151, x151), (128, x128), (127, x127), (16, x16), (15, x15), (10, x10), (5, x5), (3, x3), (1, x1)] _
                       exact qLess [153, 152, 151, 128, 127, 16, 15, 10, 5, 3, 1] (hI3 k3 x1 x3 x5 x10 x15 x16 x127 x128 x151 x152 x153)
                     · refine rBlock ?_
                       refine rSeq ?_
                       refine cLess [153, 152, 151, 128, 127, 16, 15, 10, 5, 3, 1] ?_
                       refine xR hE [1, 3, 5, 10, 15, 16, 18, 127, 128, 151, 152, 153] rfl (graph_Parts_r40_ok F _ _ _ _ _ _ _ _ _ _ _ _) ?_
                       intro x1 x3 x5 x10 x15 x16 x18 x127 x128 x151 x152 x153
                       show OKq _ _ _ [(153, x153), (152, x152), (151, x151), (128, x128), (127, x127), (18, x18), (16, x16), (15, x15), (10, x10), (5, x5), (3, x3), (1, x1)] _
                       refine rThen ?_
                       refine rSeq ?_
                       refine cLess [153, 152, 151, 128, 127, 18, 16, 15, 10, 5, 3, 1] ?_
                       refine xR hE [1, 3, 5, 10, 15, 16, 127, 128, 151, 152, 153, 161, 162, 163] rfl (graph_Parts_r41_ok F _ _ _ _ _ _ _ _ _ _ _ _ _) ?_
                       intro x1 x3 x5 x10 x15 x16 x127 x128 x151 x152 x153 x161 x162 x163
                       show OKq _ _ _ [(163, x163), (162, x162), (161, x161), (153, x153), (152, x152), (151, x151), (128, x128), (127, x127), (16, x16), (15, x15), (10, x10), (5, x5), (3, x3), (1, x1)] _
                       refine rThen ?_
                       refine rBlock ?_
                       refine cLess [163, 162, 161, 153, 152, 151, 128, 127, 16, 15, 10, 5, 3, 1] ?_
                       refine xLoopAt [1, 3, 5, 10, 15, 16, 127, 128, 151, 152, 153, 161, 162, 163] [] (fun k5 => graph_Parts_l5 F (fun x1 x3 x5 x10 x15 x16 x127 x128 x151 x152 x153 => graph_Parts_k4 F (graph_Parts_l3 F (fun x1 x3 x5 x10 x15 x127 x128 => graph_Parts_k2 F (graph_Parts_l1 F (fun x15 => graph_Parts_k0 F x15) k1) x1 x3 x5 x10 x15 x127 x128) k3) x1 x3 x5 x10 x15 x16 x127 x128 x151 x152 x153) k5) F [x1, x3, x5, x10, x15, x16, x127, x128, x151, x152, x153, x161, x162, x163] rfl rfl (fun _ _ _ _ _ _ _ _ _ _ _ _ _ _ => rfl) fun I hI5 k5 => ?_
                       intro x1 x3 x5 x10 x15 x16 x127 x128 x151 x152 x153 x161 x162 x163
                       show OKc _ _ [(163, x163), (162, x162), (161, x161), (153, x153), (152, x152), (151, x151), (128, x128), (127, x127), (16, x16), (15, x15), (10, x10), (5, x5), (3, x3), (1, x1)] _ _
                       refine cAs (graph_Parts_l5_s F _ _ _ _ _ _ _ _ _ _ _ _ _ _ _ _) ?_
                       refine rSeq ?_
                       refine cLess [163, 162, 161, 153, 152, 151, 128, 127, 16, 15, 10, 5, 3, 1] ?_
                       refine xR hE [1, 3, 5, 10, 15, 16, 127, 128, 151, 152, 153, 161, 162, 163, 164] rfl (graph_Parts_r42_ok F _ _ _ _ _ _ _ _ _ _ _ _ _ _ _) ?_
                       intro x1 x3 x5 x10 x15 x16 x127 x128 x151 x152 x153 x161 x162 x163 x164
                       show OKq _ _ _ [(164, x164), (163, x163), (162, x162), (161, x161), (153, x153), (152, x152), (151, x151), (128, x128), (127, x127), (16, x16), (15, x15), (10, x10), (5, x5), (3, x3), (1, x1)] _
                       refine rThen ?_
                       refine rSeq ?_
                       refine xCond rfl rfl ?_ ?_
                       · refine rSkip ?_
                         refine rThen ?_
                         refine xSeq [1, 3, 5, 10, 15, 16, 127, 128, 151, 152, 153, 161, 162, 163] (graph_Parts_k6 F (graph_Parts_l5 F (fun x1 x3 x5 x10 x15 x16 x127 x128 x151 x152 x153 => graph_Parts_k4 F (graph_Parts_l3 F (fun x1 x3 x5 x10 x15 x127 x128 => graph_Parts_k2 F (graph_Parts_l1 F (fun x15 => graph_Parts_k0 F x15) k1) x1 x3 x5 x10 x15 x127 x128) k3) x1 x3 x5 x10 x15 x16 x127 x128 x151 x152 x153) k5) ) ?_ fun hj6 => ?_
                         · intro x1 x3 x5 x10 x15 x16 x127 x128 x151 x152 x153 x161 x162 x163
                           show OKc _ _ [(163, x163), (162, x162), (161, x161), (153, x153), (152, x152), (151, x151), (128, x128), (127, x127), (16, x16), (15, x15), (10, x10), (5, x5), (3, x3), (1, x1)] _ _
                           refine cLess [163, 162, 161, 153, 152, 151, 128, 127, 16, 15, 10, 5, 3, 1] ?_
                           refine xR hE [1, 3, 5, 10, 15, 16, 127, 128, 151, 152, 153, 161, 162, 163] rfl (graph_Parts_r46_ok F _ _ _ _ _ _ _ _ _ _ _ _ _ _ _) ?_
                           intro x1 x3 x5 x10 x15 x16 x127 x128 x151 x152 x153 x161 x162 x163
                           show OKq _ _ _ [(163, x163), (162, x162), (161, x161), (153, x153), (152, x152), (151, x151), (128, x128), (127, x127), (16, x16), (15, x15), (10, x10), (5, x5), (3, x3), (1, x1)] _
                           exact qLess [163, 162, 161, 153, 152, 151, 128, 127, 16, 15, 10, 5, 3, 1] (hI5 k5 x1 x3 x5 x10 x15 x16 x127 x128 x151 x152 x153 x161 x162 x163)
                         · refine rBlock ?_
                           refine rSeq ?_
                           refine cLess [163, 162, 161, 153, 152, 151, 128, 127, 16, 15, 10, 5, 3, 1] ?_
                           refine xR hE [1, 3, 5, 10, 15, 16, 20, 127, 128, 151, 152, 153, 161, 162, 163] rfl (graph_Parts_r43_ok F _ _ _ _ _ _ _ _ _ _ _ _ _ _ _) ?_
                           intro x1 x3 x5 x10 x15 x16 x20 x127 x128 x151 x152 x153 x161 x162 x163
                           show OKq _ _ _ [(163, x163), (162, x162), (161, x161), (153, x153), (152, x152), (151, x151), (128, x128), (127, x127), (20, x20), (16, x16), (15, x15), (10, x10), (5, x5), (3, x3), (1, x1)] _
                           refine rThen ?_
                           refine rSeq ?_
                           refine cLess [163, 162, 161, 153, 152, 151, 128, 127, 20, 16, 15, 10, 5, 3, 1] ?_
                           refine xR hE [1, 3, 5, 10, 15, 16, 20, 127, 128, 151, 152, 153, 161, 162, 163, 172] rfl (graph_Parts_r44_ok F _ _ _ _ _ _ _ _ _ _ _ _ _ _ _ _) ?_
                           intro x1 x3 x5 x10 x15 x16 x20 x127 x128 x151 x152 x153 x161 x162 x163 x172
                           show OKq _ _ _ [(172, x172), (163, x163), (162, x162), (161, x161), (153, x153), (152, x152), (151, x151), (128, x128), (127, x127), (20, x20), (16, x16), (15, x15), (10, x10), (5, x5), (3, x3), (1, x1)] _
                           refine rThen ?_
                           refine xCond rfl rfl ?_ ?_
                           · refine cLess [163, 162, 161, 153, 152, 151, 128, 127, 20, 16, 15, 10, 5, 3, 1] ?_
                             refine xR hE [1, 3, 5, 10, 15, 16, 127, 128, 151, 152, 153, 161, 162, 163] rfl (graph_Parts_r45_ok F _ _ _ _ _ _ _ _ _ _ _ _ _ _ _ _) ?_
                             intro x1 x3 x5 x10 x15 x16 x127 x128 x151 x152 x153 x161 x162 x163
                             show OKq _ _ _ [(163, x163), (162, x162), (161, x161), (153, x153), (152, x152), (151, x151), (128, x128), (127, x127), (16, x16), (15, x15), (10, x10), (5, x5), (3, x3), (1, x1)] _
                             refine xBlockN ?_
                             exact qLess [163, 162, 161, 153, 152, 151, 128, 127, 16, 15, 10, 5, 3, 1] (hj6 x1 x3 x5 x10 x15 x16 x127 x128 x151 x152 x153 x161 x162 x163)
                           · refine rSkip ?_
                             refine xBlockN ?_
                             exact qLess [163, 162, 161, 153, 152, 151, 128, 127, 16, 15, 10, 5, 3, 1] (hj6 x1 x3 x5 x10 x15 x16 x127 x128 x151 x152 x153 x161 x162 x163)
                       · refine rExit ?_
                         refine xThenX ?_
                         refine xThenX ?_
                         refine rOut ?_
                         refine xBlockN ?_
                         exact qLess [153, 152, 151, 128, 127, 16, 15, 10, 5, 3, 1] (hj4 x1 x3 x5 x10 x15 x16 x127 x128 x151 x152 x153)
                   · refine rExit ?_
                     refine xThenX ?_
                     refine xThenX ?_
                     refine rOut ?_
                     refine xBlockN ?_
                     exact qLess [128, 127, 15, 10, 5, 3, 1] (hj2 x1 x3 x5 x10 x15 x127 x128)
               · refine rExit ?_
                 refine xThenX ?_
                 refine xThenX ?_
                 refine rOut ?_
                 exact qLess [15] (hj0 x15)
           · refine rSeq ?_
             refine cLess [10, 5, 3, 1] ?_
             refine xR hE [1, 3, 5, 10, 90, 91, 92] rfl (graph_Parts_r22_ok F _ _ _ _ _) ?_
             intro x1 x3 x5 x10 x90 x91 x92
             show OKq _ _ _ [(92, x92), (91, x91), (90, x90), (10, x10), (5, x5), (3, x3), (1, x1)] _
             refine rThen ?_
             refine rBlock ?_
             refine cLess [92, 91, 90, 10, 5, 3, 1] ?_
             refine xLoopAt [1, 3, 5, 10, 90, 91, 92] [] (fun k8 => graph_Parts_l8 F (fun x1 x3 x5 x10 => graph_Parts_k7 F x1 x3 x5 x10) k8) F [x1, x3, x5, x10, x90, x91, x92] rfl rfl (fun _ _ _ _ _ _ _ => rfl) fun I hI8 k8 => ?_
             intro x1 x3 x5 x10 x90 x91 x92
             show OKc _ _ [(92, x92), (91, x91), (90, x90), (10, x10), (5, x5), (3, x3), (1, x1)] _ _
             refine cAs (graph_Parts_l8_s F _ _ _ _ _ _ _ _ _) ?_
             refine rSeq ?_
             refine cLess [92, 91, 90, 10, 5, 3, 1] ?_
             refine xR hE [1, 3, 5, 10, 90, 91, 92, 93] rfl (graph_Parts_r23_ok F _ _ _ _ _ _ _ _) ?_
             intro x1 x3 x5 x10 x90 x91 x92 x93
             show OKq _ _ _ [(93, x93), (92, x92), (91, x91), (90, x90), (10, x10), (5, x5), (3, x3), (1, x1)] _
             refine rThen ?_
             refine rSeq ?_
             refine xCond rfl rfl ?_ ?_
             · refine rSkip ?_
               refine rThen ?_
               refine xSeq [1, 3, 5, 10, 90, 91, 92] (graph_Parts_k9 F (graph_Parts_l8 F (fun x1 x3 x5 x10 => graph_Parts_k7 F x1 x3 x5 x10) k8) ) ?_ fun hj9 => ?_
               · intro x1 x3 x5 x10 x90 x91 x92
                 show OKc _ _ [(92, x92), (91, x91), (90, x90), (10, x10), (5, x5), (3, x3), (1, x1)] _ _
                 refine cLess [92, 91, 90, 10, 5, 3, 1] ?_
                 refine xR hE [1, 3, 5, 10, 90, 91, 92] rfl (graph_Parts_r31_ok F _ _ _ _ _ _ _ _) ?_
                 intro x1 x3 x5 x10 x90 x91 x92
                 show OKq _ _ _ [(92, x92), (91, x91), (90, x90), (10, x10), (5, x5), (3, x3), (1, x1)] _
                 exact qLess [92, 91, 90, 10, 5, 3, 1] (hI8 k8 x1 x3 x5 x10 x90 x91 x92)
               · refine rBlock ?_
                 refine rSeq ?_
                 refine cLess [92, 91, 90, 10, 5, 3, 1] ?_
                 refine xR hE [1, 3, 5, 10, 11, 12, 90, 91, 92] rfl (graph_Parts_r24_ok F _ _ _ _ _ _ _ _) ?_
                 intro x1 x3 x5 x10 x11 x12 x90 x91 x92
                 show OKq _ _ _ [(92, x92), (91, x91), (90, x90), (12, x12), (11, x11), (10, x10), (5, x5), (3, x3), (1, x1)] _
                 refine rThen ?_
                 refine rSeq ?_
                 refine cLess [92, 91, 90, 12, 11, 10, 5, 3, 1] ?_
                 refine xR hE [1, 3, 5, 10, 11, 90, 91, 92, 97, 98, 99] rfl (graph_Parts_r25_ok F _ _ _ _ _ _ _ _ _ _) ?_
                 intro x1 x3 x5 x10 x11 x90 x91 x92 x97 x98 x99
                 show OKq _ _ _ [(99, x99), (98, x98), (97, x97), (92, x92), (91, x91), (90, x90), (11, x11), (10, x10), (5, x5), (3, x3), (1, x1)] _
                 refine rThen ?_
                 refine rBlock ?_
                 refine cLess [99, 98, 97, 92, 91, 90, 11, 10, 5, 3, 1] ?_
                 refine xLoopAt [1, 3, 5, 10, 11, 90, 91, 92, 97, 98, 99] [] (fun k10 => graph_Parts_l10 F (fun x1 x3 x5 x10 x90 x91 x92 => graph_Parts_k9 F (graph_Parts_l8 F (fun x1 x3 x5 x10 => graph_Parts_k7 F x1 x3 x5 x10) k8) x1 x3 x5 x10 x90 x91 x92) k10) F [x1, x3, x5, x10, x11, x90, x91, x92, x97, x98, x99] rfl rfl (fun _ _ _ _ _ _ _ _ _ _ _ => rfl) fun I hI10 k10 => ?_
                 intro x1 x3 x5 x10 x11 x90 x91 x92 x97 x98 x99
                 show OKc _ _ [(99, x99), (98, x98), (97, x97), (92, x92), (91, x91), (90, x90), (11, x11), (10, x10), (5, x5), (3, x3), (1, x1)] _ _
                 refine cAs (graph_Parts_l10_s F _ _ _ _ _ _ _ _ _ _ _ _ _) ?_
                 refine rSeq ?_
                 refine cLess [99, 98, 97, 92, 91, 90, 11, 10, 5, 3, 1] ?_
                 refine xR hE [1, 3, 5, 10, 11, 90, 91, 92, 97, 98, 99, 100] rfl (graph_Parts_r26_ok F _ _ _ _ _ _ _ _ _ _ _ _) ?_
                 intro x1 x3 x5 x10 x11 x90 x91 x92 x97 x98 x99 x100
                 show OKq _ _ _ [(100, x100), (99, x99), (98, x98), (97, x97), (92, x92), (91, x91), (90, x90), (11, x11), (10, x10), (5, x5), (3, x3), (1, x1)] _
                 refine rThen ?_
                 refine rSeq ?_
                 refine xCond rfl rfl ?_ ?_
                 · refine rSkip ?_
                   refine rThen ?_
                   refine xSeq [1, 3, 5, 10, 11, 90, 91, 92, 97, 98, 99] (graph_Parts_k11 F (graph_Parts_l10 F (fun x1 x3 x5 x10 x90 x91 x92 => graph_Parts_k9 F (graph_Parts_l8 F (fun x1 x3 x5 x10 => graph_Parts_k7 F x1 x3 x5 x10) k8) x1 x3 x5 x10 x90 x91 x92) k10) ) ?_ fun hj11 => ?_
                   · intro x1 x3 x5 x10 x11 x90 x91 x92 x97 x98 x99
                     show OKc _ _ [(99, x99), (98, x98), (97, x97), (92, x92), (91, x91), (90, x90), (11, x11), (10, x10), (5, x5), (3, x3), (1, x1)] _ _
                     refine cLess [99, 98, 97, 92, 91, 90, 11, 10, 5, 3, 1] ?_
                     refine xR hE [1, 3, 5, 10, 11, 90, 91, 92, 97, 98, 99] rfl (graph_Parts_r30_ok F _ _ _ _ _ _ _ _ _ _ _ _) ?_
                     intro x1 x3 x5 x10 x11 x90 x91 x92 x97 x98 x99
                     show OKq _ _ _ [(99, x99), (98, x98), (97, x97), (92, x92), (91, x91), (90, x90), (11, x11), (10, x10), (5, x5), (3, x3), (1, x1)] _
                     exact qLess [99, 98, 97, 92, 91, 90, 11, 10, 5, 3, 1] (hI10 k10 x1 x3 x5 x10 x11 x90 x91 x92 x97 x98 x99)
                   · refine rBlock ?_
                     refine rSeq ?_
                     refine cLess [99, 98, 97, 92, 91, 90, 11, 10, 5, 3, 1] ?_
                     refine xR hE [1, 3, 5, 10, 11, 14, 90, 91, 92, 97, 98, 99] rfl (graph_Parts_r27_ok F _ _ _ _ _ _ _ _ _ _ _ _) ?_
                     intro x1 x3 x5 x10 x11 x14 x90 x91 x92 x97 x98 x99
                     show OKq _ _ _ [(99, x99), (98, x98), (97, x97), (92, x92), (91, x91), (90, x90), (14, x14), (11, x11), (10, x10), (5, x5), (3, x3), (1, x1)] _
                     refine rThen ?_
                     refine rSeq ?_
                     refine cLess [99, 98, 97, 92, 91, 90, 14, 11, 10, 5, 3, 1] ?_
                     refine xD Trydmix hE [1, 3, 5, 10, 11, 14, 90, 91, 92, 97, 98, 99, 111] rfl graph_Parts_r28_good (graph_Parts_r28_ok F _ _ _ _ _ _ _ _ _ _ _ _ _) ?_
                     intro x1 x3 x5 x10 x11 x14 x90 x91 x92 x97 x98 x99 x111
                     show OKq _ _ _ [(111, x111), (99, x99), (98, x98), (97, x97), (92, x92), (91, x91), (90, x90), (14, x14), (11, x11), (10, x10), (5, x5), (3, x3), (1, x1)] _
                     refine rThen ?_
                     refine xCond rfl rfl ?_ ?_
                     · refine cLess [99, 98, 97, 92, 91, 90, 14, 11, 10, 5, 3, 1] ?_
                       refine xR hE [1, 3, 5, 10, 11, 90, 91, 92, 97, 98, 99] rfl (graph_Parts_r29_ok F _ _ _ _ _ _ _ _ _ _ _ _ _) ?_
                       intro x1 x3 x5 x10 x11 x90 x91 x92 x97 x98 x99
                       show OKq _ _ _ [(99, x99), (98, x98), (97, x97), (92, x92), (91, x91), (90, x90), (11, x11), (10, x10), (5, x5), (3, x3), (1, x1)] _
                       refine xBlockN ?_
                       exact qLess [99, 98, 97, 92, 91, 90, 11, 10, 5, 3, 1] (hj11 x1 x3 x5 x10 x11 x90 x91 x92 x97 x98 x99)
                     · refine rSkip ?_
                       refine xBlockN ?_
                       exact qLess [99, 98, 97, 92, 91, 90, 11, 10, 5, 3, 1] (hj11 x1 x3 x5 x10 x11 x90 x91 x92 x97 x98 x99)
                 · refine rExit ?_
                   refine xThenX ?_
                   refine xThenX ?_
                   refine rOut ?_
                   refine xBlockN ?_
                   exact qLess [92, 91, 90, 10, 5, 3, 1] (hj9 x1 x3 x5 x10 x90 x91 x92)
             · refine rExit ?_
               refine xThenX ?_
               refine xThenX ?_
               refine rOut ?_
               exact qLess [10, 5, 3, 1] (hj7 x1 x3 x5 x10)
         · refine rSeq ?_
           refine cLess [5, 3, 1] ?_
           refine xR hE [1, 3, 5, 64, 65, 66] rfl (graph_Parts_r12_ok F _ _ _ _) ?_
           intro x1 x3 x5 x64 x65 x66
           show OKq _ _ _ [(66, x66), (65, x65), (64, x64), (5, x5), (3, x3), (1, x1)] _
           refine rThen ?_
           refine rBlock ?_
           refine cLess [66, 65, 64, 5, 3, 1] ?_
           refine xLoopAt [1, 3, 5, 64, 65, 66] [] (fun k13 => graph_Parts_l13 F (fun x1 x3 x5 => graph_Parts_k12 F x1 x3 x5) k13) F [x1, x3, x5, x64, x65, x66] rfl rfl (fun _ _ _ _ _ _ => rfl) fun I hI13 k13 => ?_
           intro x1 x3 x5 x64 x65 x66
           show OKc _ _ [(66, x66), (65, x65), (64, x64), (5, x5), (3, x3), (1, x1)] _ _
           refine cAs (graph_Parts_l13_s F _ _ _ _ _ _ _ _) ?_
           refine rSeq ?_
           refine cLess [66, 65, 64, 5, 3, 1] ?_
           refine xR hE [1, 3, 5, 64, 65, 66, 67] rfl (graph_Parts_r13_ok F _ _ _ _ _ _ _) ?_
           intro x1 x3 x5 x64 x65 x66 x67
           show OKq _ _ _ [(67, x67), (66, x66), (65, x65), (64, x64), (5, x5), (3, x3), (1, x1)] _
           refine rThen ?_
           refine rSeq ?_
           refine xCond rfl rfl ?_ ?_
           · refine rSkip ?_
             refine rThen ?_
             refine xSeq [1, 3, 5, 64, 65, 66] (graph_Parts_k14 F (graph_Parts_l13 F (fun x1 x3 x5 => graph_Parts_k12 F x1 x3 x5) k13) ) ?_ fun hj14 => ?_
             · intro x1 x3 x5 x64 x65 x66
               show OKc _ _ [(66, x66), (65, x65), (64, x64), (5, x5), (3, x3), (1, x1)] _ _
               refine cLess [66, 65, 64, 5, 3, 1] ?_
               refine xR hE [1, 3, 5, 64, 65, 66] rfl (graph_Parts_r20_ok F _ _ _ _ _ _ _) ?_
               intro x1 x3 x5 x64 x65 x66
               show OKq _ _ _ [(66, x66), (65, x65), (64, x64), (5, x5), (3, x3), (1, x1)] _
               exact qLess [66, 65, 64, 5, 3, 1] (hI13 k13 x1 x3 x5 x64 x65 x66)
             · refine rBlock ?_
               refine rSeq ?_
               refine cLess [66, 65, 64, 5, 3, 1] ?_
               refine xR hE [1, 3, 5, 6, 7, 64, 65, 66] rfl (graph_Parts_r14_ok F _ _ _ _ _ _ _) ?_
               intro x1 x3 x5 x6 x7 x64 x65 x66
               show OKq _ _ _ [(66, x66), (65, x65), (64, x64), (7, x7), (6, x6), (5, x5), (3, x3), (1, x1)] _
               refine rThen ?_
               refine rSeq ?_
               refine cLess [66, 65, 64, 7, 6, 5, 3, 1] ?_
               refine xR hE [1, 3, 5, 6, 64, 65, 66, 71, 72, 73] rfl (graph_Parts_r15_ok F _ _ _ _ _ _ _ _ _) ?_
               intro x1 x3 x5 x6 x64 x65 x66 x71 x72 x73
               show OKq _ _ _ [(73, x73), (72, x72), (71, x71), (66, x66), (65, x65), (64, x64), (6, x6), (5, x5), (3, x3), (1, x1)] _
               refine rThen ?_
               refine rBlock ?_
               refine cLess [73, 72, 71, 66, 65, 64, 6, 5, 3, 1] ?_
               refine xLoopAt [1, 3, 5, 6, 64, 65, 66, 71, 72, 73] [] (fun k15 => graph_Parts_l15 F (fun x1 x3 x5 x64 x65 x66 => graph_Parts_k14 F (graph_Parts_l13 F (fun x1 x3 x5 => graph_Parts_k12 F x1 x3 x5) k13) x1 x3 x5 x64 x65 x66) k15) F [x1, x3, x5, x6, x64, x65, x66, x71, x72, x73] rfl rfl (fun _ _ _ _ _ _ _ _ _ _ => rfl) fun I hI15 k15 => ?_
               intro x1 x3 x5 x6 x64 x65 x66 x71 x72 x73
               show OKc _ _ [(73, x73), (72, x72), (71, x71), (66, x66), (65, x65), (64, x64), (6, x6), (5, x5), (3, x3), (1, x1)] _ _
               refine cAs (graph_Parts_l15_s F _ _ _ _ _ _ _ _ _ _ _ _) ?_
               refine rSeq ?_
               refine cLess [73, 72, 71, 66, 65, 64, 6, 5, 3, 1] ?_
               refine xR hE [1, 3, 5, 6, 64, 65, 66, 71, 72, 73, 74] rfl (graph_Parts_r16_ok F _ _ _ _ _ _ _ _ _ _ _) ?_
               intro x1 x3 x5 x6 x64 x65 x66 x71 x72 x73 x74
               show OKq _ _ _ [(74, x74), (73, x73), (72, x72), (71, x71), (66, x66), (65, x65), (64, x64), (6, x6), (5, x5), (3, x3), (1, x1)] _
               refine rThen ?_
               refine rSeq ?_
               refine xCond rfl rfl ?_ ?_
               · refine rSkip ?_
                 refine rThen ?_
                 refine rSeq ?_
                 refine rBlock ?_
                 refine rSeq ?_
                 refine cLess [73, 72, 71, 66, 65, 64, 6, 5, 3, 1] ?_
                 refine xR hE [1, 3, 5, 6, 9, 64, 65, 66, 71, 72, 73] rfl (graph_Parts_r17_ok F _ _ _ _ _ _ _ _ _ _ _) ?_
                 intro x1 x3 x5 x6 x9 x64 x65 x66 x71 x72 x73
                 show OKq _ _ _ [(73, x73), (72, x72), (71, x71), (66, x66), (65, x65), (64, x64), (9, x9), (6, x6), (5, x5), (3, x3), (1, x1)] _
                 refine rThen ?_
                 refine cLess [73, 72, 71, 66, 65, 64, 9, 6, 5, 3, 1] ?_
                 refine xR hE [1, 3, 5, 6, 64, 65, 66, 71, 72, 73] rfl (graph_Parts_r18_ok F _ _ _ _ _ _ _ _ _ _ _ _) ?_
                 intro x1 x3 x5 x6 x64 x65 x66 x71 x72 x73
                 show OKq _ _ _ [(73, x73), (72, x72), (71, x71), (66, x66), (65, x65), (64, x64), (6, x6), (5, x5), (3, x3), (1, x1)] _
                 refine xBlockN ?_
                 refine rThen ?_
                 refine cLess [73, 72, 71, 66, 65, 64, 6, 5, 3, 1] ?_
                 refine xR hE [1, 3, 5, 6, 64, 65, 66, 71, 72, 73] rfl (graph_Parts_r19_ok F _ _ _ _ _ _ _ _ _ _ _) ?_
                 intro x1 x3 x5 x6 x64 x65 x66 x71 x72 x73
                 show OKq _ _ _ [(73, x73), (72, x72), (71, x71), (66, x66), (65, x65), (64, x64), (6, x6), (5, x5), (3, x3), (1, x1)] _
                 exact qLess [73, 72, 71, 66, 65, 64, 6, 5, 3, 1] (hI15 k15 x1 x3 x5 x6 x64 x65 x66 x71 x72 x73)
               · refine rExit ?_
                 refine xThenX ?_
                 refine xThenX ?_
                 refine rOut ?_
                 refine xBlockN ?_
                 exact qLess [66, 65, 64, 5, 3, 1] (hj14 x1 x3 x5 x64 x65 x66)
           · refine rExit ?_
             refine xThenX ?_
             refine xThenX ?_
             refine rOut ?_
             exact qLess [5, 3, 1] (hj12 x1 x3 x5)
       · refine rSeq ?_
         refine cLess [3, 1] ?_
         refine xR hE [1, 3, 37, 38] rfl (graph_Parts_r4_ok F _ _ _) ?_
         intro x1 x3 x37 x38
         show OKq _ _ _ [(38, x38), (37, x37), (3, x3), (1, x1)] _
         refine rThen ?_
         refine rBlock ?_
         refine cLess [38, 37, 3, 1] ?_
         refine xLoopAt [1, 3, 37, 38] [] (fun k17 => graph_Parts_l17 F (fun x1 x3 => graph_Parts_k16 F x1 x3) k17) F [x1, x3, x37, x38] rfl rfl (fun _ _ _ _ => rfl) fun I hI17 k17 => ?_
         intro x1 x3 x37 x38
         show OKc _ _ [(38, x38), (37, x37), (3, x3), (1, x1)] _ _
         refine cAs (graph_Parts_l17_s F _ _ _ _ _ _) ?_
         refine rSeq ?_
         refine cLess [38, 37, 3, 1] ?_
         refine xR hE [1, 3, 37, 38, 39] rfl (graph_Parts_r5_ok F _ _ _ _ _) ?_
         intro x1 x3 x37 x38 x39
         show OKq _ _ _ [(39, x39), (38, x38), (37, x37), (3, x3), (1, x1)] _
         refine rThen ?_
         refine rSeq ?_
         refine xCond rfl rfl ?_ ?_
         · refine rSkip ?_
           refine rThen ?_
           refine xSeq [1, 3, 37, 38] (graph_Parts_k18 F (graph_Parts_l17 F (fun x1 x3 => graph_Parts_k16 F x1 x3) k17) ) ?_ fun hj18 => ?_
           · intro x1 x3 x37 x38
             show OKc _ _ [(38, x38), (37, x37), (3, x3), (1, x1)] _ _
             refine cLess [38, 37, 3, 1] ?_
             refine xR hE [1, 3, 37, 38] rfl (graph_Parts_r9_ok F _ _ _ _ _) ?_
             intro x1 x3 x37 x38
             show OKq _ _ _ [(38, x38), (37, x37), (3, x3), (1, x1)] _
             exact qLess [38, 37, 3, 1] (hI17 k17 x1 x3 x37 x38)
           · refine rBlock ?_
             refine rSeq ?_
             refine cLess [38, 37, 3, 1] ?_
             refine xR hE [1, 3, 4, 37, 38] rfl (graph_Parts_r6_ok F _ _ _ _ _) ?_
             intro x1 x3 x4 x37 x38
             show OKq _ _ _ [(38, x38), (37, x37), (4, x4), (3, x3), (1, x1)] _
             refine rThen ?_
             refine rSeq ?_
             refine cLess [38, 37, 4, 3, 1] ?_
             refine xR hE [1, 3, 4, 37, 38, 48] rfl (graph_Parts_r7_ok F _ _ _ _ _ _) ?_
             intro x1 x3 x4 x37 x38 x48
             show OKq _ _ _ [(48, x48), (38, x38), (37, x37), (4, x4), (3, x3), (1, x1)] _
             refine rThen ?_
             refine xCond rfl rfl ?_ ?_
             · refine cLess [38, 37, 4, 3, 1] ?_
               refine xR hE [1, 3, 37, 38] rfl (graph_Parts_r8_ok F _ _ _ _ _ _) ?_
               intro x1 x3 x37 x38
               show OKq _ _ _ [(38, x38), (37, x37), (3, x3), (1, x1)] _
               refine xBlockN ?_
               exact qLess [38, 37, 3, 1] (hj18 x1 x3 x37 x38)
             · refine rSkip ?_
               refine xBlockN ?_
               exact qLess [38, 37, 3, 1] (hj18 x1 x3 x37 x38)
         · refine rExit ?_
           refine xThenX ?_
           refine xThenX ?_
           refine rOut ?_
           exact qLess [3, 1] (hj16 x1 x3)
   · exact rFail


/-! ### haruspex/graph.Loops -/

def graph_Loops_env (F : Nat) : Env := envOf [(26, graph_Parts_m F), (43, bitset_Set_Add_m F), (46, slices_Contains_m F)]

noncomputable def graph_Loops_R (F : Nat) := rK Tryd.prog TrydG (graph_Loops_env F) Tryd.f23
noncomputable def graph_Loops_D (F : Nat) := dK Tryd.prog TrydG (graph_Loops_env F) Tryd.f23

def graph_Loops_r12 (F : Nat) (x3 : Value) (K : Value → M Value) : M Value :=
  K x3

theorem graph_Loops_r12_ok (F : Nat) (x3 : Value) (K : Value → M Value) : graph_Loops_r12 F x3 K = graph_Loops_R F 12 [(3, x3)] [2] K := by kernel_rfl

def graph_Loops_k0 (F : Nat) (x3 : Value) : M Value :=
  graph_Loops_r12 F x3 (fun x2 => ret x2)

def graph_Loops_r11 (F : Nat) (x1 x3 x11 x12 x13 : Value) (K : Value → Value → Value → Value → Value → M Value) : M Value :=
  bnd (opBin .add x13 (.int .i64 (1))) fun v39 => K x1 x3 x11 x12 v39

theorem graph_Loops_r11_ok (F : Nat) (x1 x3 x11 x12 x13 : Value) (K : Value → Value → Value → Value → Value → M Value) : graph_Loops_r11 F x1 x3 x11 x12 x13 K = graph_Loops_R F 11 [(13, x13), (12, x12), (11, x11), (3, x3), (1, x1)] [1, 3, 11, 12, 13] K := by kernel_rfl

def graph_Loops_k2 (F : Nat) (A1 : Value → Value → Value → Value → Value → M Value) (x1 x3 x11 x12 x13 : Value) : M Value :=
  graph_Loops_r11 F x1 x3 x11 x12 x13 (fun x1 x3 x11 x12 x13 => A1 x1 x3 x11 x12 x13)

def graph_Loops_r10 (F : Nat) (x1 x3 x5 x11 x12 x13 x17 x18 x19 : Value) (K : Value → Value → Value → Value → Value → Value → Value → Value → Value → M Value) : M Value :=
  bnd (opBin .add x19 (.int .i64 (1))) fun v38 => K x1 x3 x5 x11 x12 x13 x17 x18 v38

theorem graph_Loops_r10_ok (F : Nat) (x1 x3 x5 x11 x12 x13 x17 x18 x19 : Value) (K : Value → Value → Value → Value → Value → Value → Value → Value → Value → M Value) : graph_Loops_r10 F x1 x3 x5 x11 x12 x13 x17 x18 x19 K = graph_Loops_R F 10 [(19, x19), (18, x18), (17, x17), (13, x13), (12, x12), (11, x11), (5, x5), (3, x3), (1, x1)] [1, 3, 5, 11, 12, 13, 17, 18, 19] K := by kernel_rfl

def graph_Loops_k4 (F : Nat) (A3 : Value → Value → Value → Value → Value → Value → Value → Value → Value → M Value) (x1 x3 x5 x11 x12 x13 x17 x18 x19 : Value) : M Value :=
  graph_Loops_r10 F x1 x3 x5 x11 x12 x13 x17 x18 x19 (fun x1 x3 x5 x11 x12 x13 x17 x18 x19 => A3 x1 x3 x5 x11 x12 x13 x17 x18 x19)

def graph_Loops_r9 (F : Nat) (x1 x3 x5 x7 x11 x12 x13 x17 x18 x19 : Value) (K : Value → Value → Value → Value → Value → Value → Value → Value → Value → M Value) : M Value :=
  bnd (bitset_Set_Add F x3 x7) fun v37 => K x1 x3 x5 x11 x12 x13 x17 x18 x19

theorem graph_Loops_r9_ok (F : Nat) (x1 x3 x5 x7 x11 x12 x13 x17 x18 x19 : Value) (K : Value → Value → Value → Value → Value → Value → Value → Value → Value → M Value) : graph_Loops_r9 F x1 x3 x5 x7 x11 x12 x13 x17 x18 x19 K = graph_Loops_R F 9 [(19, x19), (18, x18), (17, x17), (13, x13), (12, x12), (11, x11), (7, x7), (5, x5), (3, x3), (1, x1)] [1, 3, 5, 11, 12, 13, 17, 18, 19] K := by kernel_rfl

def graph_Loops_r8 (F : Nat) (x1 x3 x5 x7 x11 x12 x13 x17 x18 x19 : Value) (K : Value → Value → Value → Value → Value → Value → Value → Value → Value → Value → Value → M Value) : M Value :=
  bnd (opLen x5) fun v24 => bnd (opBin .gtr v24 (.int .i64 (1))) fun v25 => onB v25 (K x1 x3 x5 x7 x11 x12 x13 x17 x18 x19 (.bool true)) (bnd (opFieldAddr 1 x1) fun v27 => bnd (opLoad v27) fun v28 => bnd (opIndexAddr 1 v28 x7) fun v30 => bnd (opLoad v30) fun v31 => bnd (slices_Contains F v31 x7) fun v33 => K x1 x3 x5 x7 x11 x12 x13 x17 x18 x19 v33)

theorem graph_Loops_r8_ok (F : Nat) (x1 x3 x5 x7 x11 x12 x13 x17 x18 x19 : Value) (K : Value → Value → Value → Value → Value → Value → Value → Value → Value → Value → Value → M Value) : graph_Loops_r8 F x1 x3 x5 x7 x11 x12 x13 x17 x18 x19 K = graph_Loops_R F 8 [(19, x19), (18, x18), (17, x17), (13, x13), (12, x12), (11, x11), (7, x7), (5, x5), (3, x3), (1, x1)] [1, 3, 5, 7, 11, 12, 13, 17, 18, 19, 34] K := by kernel_rfl

def graph_Loops_r7 (F : Nat) (x1 x3 x5 x11 x12 x13 x17 x18 x19 : Value) (K : Value → Value → Value → Value → Value → Value → Value → Value → Value → Value → M Value) : M Value :=
  bnd (opIndexAddr 1 x17 x19) fun v21 => bnd (opLoad v21) fun v22 => K x1 x3 x5 v22 x11 x12 x13 x17 x18 x19

theorem graph_Loops_r7_ok (F : Nat) (x1 x3 x5 x11 x12 x13 x17 x18 x19 : Value) (K : Value → Value → Value → Value → Value → Value → Value → Value → Value → Value → M Value) : graph_Loops_r7 F x1 x3 x5 x11 x12 x13 x17 x18 x19 K = graph_Loops_R F 7 [(19, x19), (18, x18), (17, x17), (13, x13), (12, x12), (11, x11), (5, x5), (3, x3), (1, x1)] [1, 3, 5, 7, 11, 12, 13, 17, 18, 19] K := by kernel_rfl

def graph_Loops_r6 (F : Nat) (x1 x3 x5 x11 x12 x13 x17 x18 x19 : Value) (K : Value → Value → Value → Value → Value → Value → Value → Value → Value → Value → M Value) : M Value :=
  bnd (opBin .lss x19 x18) fun v20 => K x1 x3 x5 x11 x12 x13 x17 x18 x19 v20

theorem graph_Loops_r6_ok (F : Nat) (x1 x3 x5 x11 x12 x13 x17 x18 x19 : Value) (K : Value → Value → Value → Value → Value → Value → Value → Value → Value → Value → M Value) : graph_Loops_r6 F x1 x3 x5 x11 x12 x13 x17 x18 x19 K = graph_Loops_R F 6 [(19, x19), (18, x18), (17, x17), (13, x13), (12, x12), (11, x11), (5, x5), (3, x3), (1, x1)] [1, 3, 5, 11, 12, 13, 17, 18, 19, 20] K := by kernel_rfl

def graph_Loops_b3 (F : Nat) (E3_2 : Value → Value → Value → Value → Value → M Value) (A3 : Value → Value → Value → Value → Value → Value → Value → Value → Value → M Value) (x1 x3 x5 x11 x12 x13 x17 x18 x19 : Value) : M Value :=
  graph_Loops_r6 F x1 x3 x5 x11 x12 x13 x17 x18 x19 (fun x1 x3 x5 x11 x12 x13 x17 x18 x19 x20 => onB x20 (graph_Loops_r7 F x1 x3 x5 x11 x12 x13 x17 x18 x19 (fun x1 x3 x5 x7 x11 x12 x13 x17 x18 x19 => graph_Loops_r8 F x1 x3 x5 x7 x11 x12 x13 x17 x18 x19 (fun x1 x3 x5 x7 x11 x12 x13 x17 x18 x19 x34 => onB x34 (graph_Loops_r9 F x1 x3 x5 x7 x11 x12 x13 x17 x18 x19 (fun x1 x3 x5 x11 x12 x13 x17 x18 x19 => graph_Loops_k4 F A3 x1 x3 x5 x11 x12 x13 x17 x18 x19)) (graph_Loops_k4 F A3 x1 x3 x5 x11 x12 x13 x17 x18 x19)))) (E3_2 x1 x3 x11 x12 x13))

def graph_Loops_l3 (F : Nat) (E3_2 : Value → Value → Value → Value → Value → M Value) : Nat → Value → Value → Value → Value → Value → Value → Value → Value → Value → M Value
  | 0, _, _, _, _, _, _, _, _, _ => fail
  | k3 + 1, x1, x3, x5, x11, x12, x13, x17, x18, x19 => graph_Loops_b3 F E3_2 (graph_Loops_l3 F E3_2 k3) x1 x3 x5 x11 x12 x13 x17 x18 x19

theorem graph_Loops_l3_s (F : Nat) (E3_2 : Value → Value → Value → Value → Value → M Value) (k3 : Nat) (x1 x3 x5 x11 x12 x13 x17 x18 x19 : Value) : graph_Loops_l3 F E3_2 (k3 + 1) x1 x3 x5 x11 x12 x13 x17 x18 x19 = graph_Loops_b3 F E3_2 (graph_Loops_l3 F E3_2 k3) x1 x3 x5 x11 x12 x13 x17 x18 x19 := rfl

def graph_Loops_r5 (F : Nat) (x1 x3 x5 x11 x12 x13 : Value) (K : Value → Value → Value → Value → Value → Value → Value → Value → Value → M Value) : M Value :=
  bnd (opLen x5) fun v18 => K x1 x3 x5 x11 x12 x13 x5 v18 (.int .i64 (0))

theorem graph_Loops_r5_ok (F : Nat) (x1 x3 x5 x11 x12 x13 : Value) (K : Value → Value → Value → Value → Value → Value → Value → Value → Value → M Value) : graph_Loops_r5 F x1 x3 x5 x11 x12 x13 K = graph_Loops_R F 5 [(13, x13), (12, x12), (11, x11), (5, x5), (3, x3), (1, x1)] [1, 3, 5, 11, 12, 13, 17, 18, 19] K := by kernel_rfl

def graph_Loops_r4 (F : Nat) (x1 x3 x11 x12 x13 : Value) (K : Value → Value → Value → Value → Value → Value → M Value) : M Value :=
  bnd (opIndexAddr 1 x11 x13) fun v15 => bnd (opLoad v15) fun v16 => K x1 x3 v16 x11 x12 x13

theorem graph_Loops_r4_ok (F : Nat) (x1 x3 x11 x12 x13 : Value) (K : Value → Value → Value → Value → Value → Value → M Value) : graph_Loops_r4 F x1 x3 x11 x12 x13 K = graph_Loops_R F 4 [(13, x13), (12, x12), (11, x11), (3, x3), (1, x1)] [1, 3, 5, 11, 12, 13] K := by kernel_rfl

def graph_Loops_r3 (F : Nat) (x1 x3 x11 x12 x13 : Value) (K : Value → Value → Value → Value → Value → Value → M Value) : M Value :=
  bnd (opBin .lss x13 x12) fun v14 => K x1 x3 x11 x12 x13 v14

theorem graph_Loops_r3_ok (F : Nat) (x1 x3 x11 x12 x13 : Value) (K : Value → Value → Value → Value → Value → Value → M Value) : graph_Loops_r3 F x1 x3 x11 x12 x13 K = graph_Loops_R F 3 [(13, x13), (12, x12), (11, x11), (3, x3), (1, x1)] [1, 3, 11, 12, 13, 14] K := by kernel_rfl

def graph_Loops_b1 (F : Nat) (E1_0 : Value → M Value) (A1 : Value → Value → Value → Value → Value → M Value) (x1 x3 x11 x12 x13 : Value) : M Value :=
  graph_Loops_r3 F x1 x3 x11 x12 x13 (fun x1 x3 x11 x12 x13 x14 => onB x14 (graph_Loops_r4 F x1 x3 x11 x12 x13 (fun x1 x3 x5 x11 x12 x13 => graph_Loops_r5 F x1 x3 x5 x11 x12 x13 (fun x1 x3 x5 x11 x12 x13 x17 x18 x19 => graph_Loops_l3 F (fun x1 x3 x11 x12 x13 => graph_Loops_k2 F A1 x1 x3 x11 x12 x13) F x1 x3 x5 x11 x12 x13 x17 x18 x19))) (E1_0 x3))

def graph_Loops_l1 (F : Nat) (E1_0 : Value → M Value) : Nat → Value → Value → Value → Value → Value → M Value
  | 0, _, _, _, _, _ => fail
  | k1 + 1, x1, x3, x11, x12, x13 => graph_Loops_b1 F E1_0 (graph_Loops_l1 F E1_0 k1) x1 x3 x11 x12 x13

theorem graph_Loops_l1_s (F : Nat) (E1_0 : Value → M Value) (k1 : Nat) (x1 x3 x11 x12 x13 : Value) : graph_Loops_l1 F E1_0 (k1 + 1) x1 x3 x11 x12 x13 = graph_Loops_b1 F E1_0 (graph_Loops_l1 F E1_0 k1) x1 x3 x11 x12 x13 := rfl

def graph_Loops_r2 (F : Nat) (x1 x3 : Value) (K : Value → Value → Value → Value → Value → M Value) : M Value :=
  bnd (opLoadN 2 x1) fun v10 => bnd (graph_Parts F v10) fun v11 => bnd (opLen v11) fun v12 => K x1 x3 v11 v12 (.int .i64 (0))

theorem graph_Loops_r2_ok (F : Nat) (x1 x3 : Value) (K : Value → Value → Value → Value → Value → M Value) : graph_Loops_r2 F x1 x3 K = graph_Loops_R F 2 [(3, x3), (1, x1)] [1, 3, 11, 12, 13] K := by kernel_rfl

def graph_Loops_r1 (F : Nat) (x1 : Value) (K : Value → Value → M Value) : M Value :=
  bnd (opBuild [(.slice none 0 0)] []) fun v8 => bnd (opBoxN v8) fun v9 => K x1 v9

theorem graph_Loops_r1_ok (F : Nat) (x1 : Value) (K : Value → Value → M Value) : graph_Loops_r1 F x1 K = graph_Loops_R F 1 [(1, x1)] [1, 3] K := by kernel_rfl

def graph_Loops_r0 (F : Nat) (x0 : Value) (K : Value → M Value) : M Value :=
  bnd (opBoxN x0) fun v1 => K v1

theorem graph_Loops_r0_ok (F : Nat) (x0 : Value) (K : Value → M Value) : graph_Loops_r0 F x0 K = graph_Loops_R F 0 [(0, x0)] [1] K := by kernel_rfl

def graph_Loops (F : Nat) (x0 : Value) : M Value :=
  graph_Loops_r0 F x0 (fun x1 => graph_Loops_r1 F x1 (fun x1 x3 => graph_Loops_r2 F x1 x3 (fun x1 x3 x11 x12 x13 => graph_Loops_l1 F (fun x3 => graph_Loops_k0 F x3) F x1 x3 x11 x12 x13)))

def graph_Loops_m (F : Nat) : List Value → M Value
  | [x0] => graph_Loops F x0
  | _ => fail

theorem graph_Loops_body : Tryd.f23.body = some (.seq (.region 0 (opsOf Tryd.f23 0) false) (.seq (.region 1 (opsOf Tryd.f23 1) false) (.seq (.seq (.region 2 (opsOf Tryd.f23 2) false) (.block 0 (.loop (.seq (.region 3 (opsOf Tryd.f23 3) false) (.seq (.cond (.tmp 14) .skip (.exit 0)) (.seq (.block 1 (.seq (.region 4 (opsOf Tryd.f23 4) false) (.seq (.region 5 (opsOf Tryd.f23 5) false) (.block 2 (.loop (.seq (.region 6 (opsOf Tryd.f23 6) false) (.seq (.cond (.tmp 20) .skip (.exit 2)) (.seq (.block 3 (.seq (.region 7 (opsOf Tryd.f23 7) false) (.seq (.region 8 (opsOf Tryd.f23 8) false) (.cond (.tmp 34) (.region 9 (opsOf Tryd.f23 9) false) .skip)))) (.region 10 (opsOf Tryd.f23 10) false))))))))) (.region 11 (opsOf Tryd.f23 11) false))))))) (.seq (.region 12 (opsOf Tryd.f23 12) false) .ret)))) := by kernel_rfl

theorem graph_Loops_ok (F : Nat) : Sim Tryd.prog TrydG 23 (graph_Loops_m F) := by
 have hE : EnvOK Tryd.prog TrydG (graph_Loops_env F) := (EnvOK.cons (graph_Parts_ok F) (EnvOK.cons (bitset_Set_Add_ok F) (EnvOK.cons (slices_Contains_ok F) EnvOK.nil)))
 refine Sim.of_body (E := graph_Loops_env F) Tryd.func23 graph_Loops_body Tryd.call23 ?_ ?_
 · intro args hl; unfold graph_Loops_m; split
   · exact absurd hl (Nat.not_lt.2 (Nat.le_of_ble_eq_true rfl))
   · rfl
 · intro args ρ h w z; unfold graph_Loops_m; split
   · rename_i x0; show OKc _ _ [(0, x0)] _ _
     refine rSeq ?_
     refine cLess [0] ?_
     refine xR hE [1] rfl (graph_Loops_r0_ok F _ _) ?_
     intro x1
     show OKq _ _ _ [(1, x1)] _
     refine rThen ?_
     refine rSeq ?_
     refine cLess [1] ?_
     refine xR hE [1, 3] rfl (graph_Loops_r1_ok F _ _) ?_
     intro x1 x3
     show OKq _ _ _ [(3, x3), (1, x1)] _
     refine rThen ?_
     refine xSeq [3] (graph_Loops_k0 F ) ?_ fun hj0 => ?_
     · intro x3
       show OKc _ _ [(3, x3)] _ _
       refine rSeq ?_
       refine cLess [3] ?_
       refine xR hE [2] rfl (graph_Loops_r12_ok F _ _) ?_
       intro x2
       show OKq _ _ _ [(2, x2)] _
       refine rThen ?_
       refine rRet ?_
       exact rDone (.inr rfl) rfl
     · refine rSeq ?_
       refine cLess [3, 1] ?_
       refine xR hE [1, 3, 11, 12, 13] rfl (graph_Loops_r2_ok F _ _ _) ?_
       intro x1 x3 x11 x12 x13
       show OKq _ _ _ [(13, x13), (12, x12), (11, x11), (3, x3), (1, x1)] _
       refine rThen ?_
       refine rBlock ?_
       refine cLess [13, 12, 11, 3, 1] ?_
       refine xLoopAt [1, 3, 11, 12, 13] [] (fun k1 => graph_Loops_l1 F (fun x3 => graph_Loops_k0 F x3) k1) F [x1, x3, x11, x12, x13] rfl rfl (fun _ _ _ _ _ => rfl) fun I hI1 k1 => ?_
       intro x1 x3 x11 x12 x13
       show OKc _ _ [(13, x13), (12, x12), (11, x11), (3, x3), (1, x1)] _ _
       refine cAs (graph_Loops_l1_s F _ _ _ _ _ _ _) ?_
       refine rSeq ?_
       refine cLess [13, 12, 11, 3, 1] ?_
       refine xR hE [1, 3, 11, 12, 13, 14] rfl (graph_Loops_r3_ok F _ _ _ _ _ _) ?_
       intro x1 x3 x11 x12 x13 x14
       show OKq _ _ _ [(14, x14), (13, x13), (12, x12), (11, x11), (3, x3), (1, x1)] _
       refine rThen ?_
       refine rSeq ?_
       refine xCond rfl rfl ?_ ?_
       · refine rSkip ?_
         refine rThen ?_
         refine xSeq [1, 3, 11, 12, 13] (graph_Loops_k2 F (graph_Loops_l1 F (fun x3 => graph_Loops_k0 F x3) k1) ) ?_ fun hj2 => ?_
         · intro x1 x3 x11 x12 x13
           show OKc _ _ [(13, x13), (12, x12), (11, x11), (3, x3), (1, x1)] _ _
           refine cLess [13, 12, 11, 3, 1] ?_
           refine xR hE [1, 3, 11, 12, 13] rfl (graph_Loops_r11_ok F _ _ _ _ _ _) ?_
           intro x1 x3 x11 x12 x13
           show OKq _ _ _ [(13, x13), (12, x12), (11, x11), (3, x3), (1, x1)] _
           exact qLess [13, 12, 11, 3, 1] (hI1 k1 x1 x3 x11 x12 x13)
         · refine rBlock ?_
           refine rSeq ?_
           refine cLess [13, 12, 11, 3, 1] ?_
           refine xR hE [1, 3, 5, 11, 12, 13] rfl (graph_Loops_r4_ok F _ _ _ _ _ _) ?_
           intro x1 x3 x5 x11 x12 x13
           show OKq _ _ _ [(13, x13), (12, x12), (11, x11), (5, x5), (3, x3), (1, x1)] _
           refine rThen ?_
           refine rSeq ?_
           refine cLess [13, 12, 11, 5, 3, 1] ?_
           refine xR hE [1, 3, 5, 11, 12, 13, 17, 18, 19] rfl (graph_Loops_r5_ok F _ _ _ _ _ _ _) ?_
           intro x1 x3 x5 x11 x12 x13 x17 x18 x19
           show OKq _ _ _ [(19, x19), (18, x18), (17, x17), (13, x13), (12, x12), (11, x11), (5, x5), (3, x3), (1, x1)] _
           refine rThen ?_
           refine rBlock ?_
           refine cLess [19, 18, 17, 13, 12, 11, 5, 3, 1] ?_
           refine xLoopAt [1, 3, 5, 11, 12, 13, 17, 18, 19] [] (fun k3 => graph_Loops_l3 F (fun x1 x3 x11 x12 x13 => graph_Loops_k2 F (graph_Loops_l1 F (fun x3 => graph_Loops_k0 F x3) k1) x1 x3 x11 x12 x13) k3) F [x1, x3, x5, x11, x12, x13, x17, x18, x19] rfl rfl (fun _ _ _ _ _ _ _ _ _ => rfl) fun I hI3 k3 => ?_
           intro x1 x3 x5 x11 x12 x13 x17 x18 x19
           show OKc _ _ [(19, x19), (18, x18), (17, x17), (13, x13), (12, x12), (11, x11), (5, x5), (3, x3), (1, x1)] _ _
           refine cAs (graph_Loops_l3_s F _ _ _ _ _ _ _ _ _ _ _) ?_
           refine rSeq ?_
           refine cLess [19, 18, 17, 13, 12, 11, 5, 3, 1] ?_
           refine xR hE [1, 3, 5, 11, 12, 13, 17, 18, 19, 20] rfl (graph_Loops_r6_ok F _ _ _ _ _ _ _ _ _ _) ?_
           intro x1 x3 x5 x11 x12 x13 x17 x18 x19 x20
           show OKq _ _ _ [(20, x20), (19, x19), (18, x18), (17, x17), (13, x13), (12, x12), (11, x11), (5, x5), (3, x3), (1, x1)] _
           refine rThen ?_
           refine rSeq ?_
           refine xCond rfl rfl ?_ ?_
           · refine rSkip ?_
             refine rThen ?_
             refine xSeq [1, 3, 5, 11, 12, 13, 17, 18, 19] (graph_Loops_k4 F (graph_Loops_l3 F (fun x1 x3 x11 x12 x13 => graph_Loops_k2 F (graph_Loops_l1 F (fun x3 => graph_Loops_k0 F x3) k1) x1 x3 x11 x12 x13) k3) ) ?_ fun hj4 => ?_
             · intro x1 x3 x5 x11 x12 x13 x17 x18 x19
               show OKc _ _ [(19, x19), (18, x18), (17, x17), (13, x13), (12, x12), (11, x11), (5, x5), (3, x3), (1, x1)] _ _
               refine cLess [19, 18, 17, 13, 12, 11, 5, 3, 1] ?_
               refine xR hE [1, 3, 5, 11, 12, 13, 17, 18, 19] rfl (graph_Loops_r10_ok F _ _ _ _ _ _ _ _ _ _) ?_
               intro x1 x3 x5 x11 x12 x13 x17 x18 x19
               show OKq _ _ _ [(19, x19), (18, x18), (17, x17), (13, x13), (12, x12), (11, x11), (5, x5), (3, x3), (1, x1)] _
               exact qLess [19, 18, 17, 13, 12, 11, 5, 3, 1] (hI3 k3 x1 x3 x5 x11 x12 x13 x17 x18 x19)
             · refine rBlock ?_
               refine rSeq ?_
               refine cLess [19, 18, 17, 13, 12, 11, 5, 3, 1] ?_
               refine xR hE [1, 3, 5, 7, 11, 12, 13, 17, 18, 19] rfl (graph_Loops_r7_ok F _ _ _ _ _ _ _ _ _ _) ?_
               intro x1 x3 x5 x7 x11 x12 x13 x17 x18 x19
               show OKq _ _ _ [(19, x19), (18, x18), (17, x17), (13, x13), (12, x12), (11, x11), (7, x7), (5, x5), (3, x3), (1, x1)] _
               refine rThen ?_
               refine rSeq ?_
               refine cLess [19, 18, 17, 13, 12, 11, 7, 5, 3, 1] ?_
               refine xR hE [1, 3, 5, 7, 11, 12, 13, 17, 18, 19, 34] rfl (graph_Loops_r8_ok F _ _ _ _ _ _ _ _ _ _ _) ?_
               intro x1 x3 x5 x7 x11 x12 x13 x17 x18 x19 x34
               show OKq _ _ _ [(34, x34), (19, x19), (18, x18), (17, x17), (13, x13), (12, x12), (11, x11), (7, x7), (5, x5), (3, x3), (1, x1)] _
               refine rThen ?_
               refine xCond rfl rfl ?_ ?_
               · refine cLess [19, 18, 17, 13, 12, 11, 7, 5, 3, 1] ?_
                 refine xR hE [1, 3, 5, 11, 12, 13, 17, 18, 19] rfl (graph_Loops_r9_ok F _ _ _ _ _ _ _ _ _ _ _) ?_
                 intro x1 x3 x5 x11 x12 x13 x17 x18 x19
                 show OKq _ _ _ [(19, x19), (18, x18), (17, x17), (13, x13), (12, x12), (11, x11), (5, x5), (3, x3), (1, x1)] _
                 refine xBlockN ?_
                 exact qLess [19, 18, 17, 13, 12, 11, 5, 3, 1] (hj4 x1 x3 x5 x11 x12 x13 x17 x18 x19)
               · refine rSkip ?_
                 refine xBlockN ?_
                 exact qLess [19, 18, 17, 13, 12, 11, 5, 3, 1] (hj4 x1 x3 x5 x11 x12 x13 x17 x18 x19)
           · refine rExit ?_
             refine xThenX ?_
             refine xThenX ?_
             refine rOut ?_
             refine xBlockN ?_
             exact qLess [13, 12, 11, 3, 1] (hj2 x1 x3 x11 x12 x13)
       · refine rExit ?_
         refine xThenX ?_
         refine xThenX ?_
         refine rOut ?_
         exact qLess [3] (hj0 x3)
   · exact rFail


/-! ### haruspex/haruspexlaw5.begun -/

def L5_begun_env (F : Nat) : Env := envOf [(18, R1_Eq_m F), (19, graph_Reach_m F), (20, bitset_Set_All_m F), (23, graph_Loops_m F), (25, R1_EqAll_m F), (26, graph_Parts_m F), (28, graph_Order_m F), (30, graph_Path_m F), (40, graph_May_m F)]

noncomputable def L5_begun_R (F : Nat) := rK Tryd.prog TrydG (L5_begun_env F) Tryd.f16
noncomputable def L5_begun_D (F : Nat) := dK Tryd.prog TrydG (L5_begun_env F) Tryd.f16

def L5_begun_r2 (F : Nat) (x1 : Value) (K : Value → M Value) : M Value :=
  bnd (opLoadN 2 x1) fun v6 => bnd (graph_May F v6) fun v7 => onB v7 (bnd (opLoadN 2 x1) fun v9 => bnd (opBuildSlice 1 (rep 1 [(.int .i64 (0))]) [(0, 1, false, (.int .i64 (2)))]) fun v10 => bnd (graph_Reach F v9 v10) fun v11 => bnd (bitset_Set_All F v11) fun v12 => bnd (opBuildSlice 1 (rep 1 [(.int .i64 (0))]) [(0, 1, false, (.int .i64 (2)))]) fun v13 => bnd (R1_Eq F v12 v13) fun v14 => onB v14 (bnd (opLoadN 2 x1) fun v17 => bnd (graph_Parts F v17) fun v18 => bnd (opBuildSlice 2 (rep 2 [(.int .i64 (0))]) [(0, 1, false, (.int .i64 (0))), (1, 1, false, (.int .i64 (1)))]) fun v19 => bnd (opBuildSlice 1 (rep 1 [(.int .i64 (0))]) [(0, 1, false, (.int .i64 (2)))]) fun v20 => bnd (opBuildSlice 2 (rep 2 [(.slice none 0 0)]) [(0, 1, false, v19), (1, 1, false, v20)]) fun v21 => bnd (R1_EqAll F v18 v21) fun v22 => onB v22 (bnd (opLoadN 2 x1) fun v25 => bnd (graph_Path F v25 (.int .i64 (0)) (.int .i64 (2))) fun v26 => bnd (opBuildSlice 3 (rep 3 [(.int .i64 (0))]) [(0, 1, false, (.int .i64 (0))), (1, 1, false, (.int .i64 (1))), (2, 1, false, (.int .i64 (2)))]) fun v27 => bnd (R1_Eq F v26 v27) fun v28 => onB v28 (bnd (opLoadN 2 x1) fun v31 => bnd (graph_Loops F v31) fun v32 => bnd (bitset_Set_All F v32) fun v33 => bnd (opBuildSlice 2 (rep 2 [(.int .i64 (0))]) [(0, 1, false, (.int .i64 (0))), (1, 1, false, (.int .i64 (1)))]) fun v34 => bnd (R1_Eq F v33 v34) fun v35 => onB v35 (bnd (opLoadN 2 x1) fun v38 => bnd (graph_Order F v38 (.int .i64 (0))) fun v39 => bnd (opBuildSlice 3 (rep 3 [(.int .i64 (0))]) [(0, 1, false, (.int .i64 (0))), (1, 1, false, (.int .i64 (1))), (2, 1, false, (.int .i64 (2)))]) fun v40 => bnd (R1_Eq F v39 v40) fun v41 => K v41) (K (.bool false))) (K (.bool false))) (K (.bool false))) (K (.bool false))) (K (.bool false))

theorem L5_begun_r2_ok (F : Nat) (x1 : Value) (K : Value → M Value) : L5_begun_r2 F x1 K = L5_begun_R F 2 [(1, x1)] [0] K := by kernel_rfl

def L5_begun_r1 (F : Nat) (K : Value → M Value) : M Value :=
  bnd (opBuildSlice 1 (rep 1 [(.int .i64 (0))]) [(0, 1, false, (.int .i64 (1)))]) fun v2 => bnd (opBuildSlice 2 (rep 2 [(.int .i64 (0))]) [(0, 1, false, (.int .i64 (0))), (1, 1, false, (.int .i64 (2)))]) fun v3 => bnd (opBuildSlice 3 (rep 3 [(.slice none 0 0)]) [(0, 1, false, v2), (1, 1, false, v3), (2, 1, false, (.slice none 0 0))]) fun v4 => bnd (opBuild [(.int .i64 (0)), (.slice none 0 0)] [(0, 1, false, (.int .i64 (3))), (1, 1, false, v4)]) fun v5 => bnd (opPtr [(.int .i64 (0)), (.slice none 0 0)]) fun v1 => bnd (opStoreN 2 v1 v5) fun _ => K v1

theorem L5_begun_r1_ok (F : Nat) (K : Value → M Value) : L5_begun_r1 F K = L5_begun_R F 1 [] [1] K := by kernel_rfl

def L5_begun_r0 (F : Nat) (K : M Value) : M Value :=
  K

theorem L5_begun_r0_ok (F : Nat) (K : M Value) : L5_begun_r0 F K = L5_begun_R F 0 [] [] K := by kernel_rfl

def L5_begun (F : Nat) : M Value :=
  L5_begun_r0 F (L5_begun_r1 F (fun x1 => L5_begun_r2 F x1 (fun x0 => ret x0)))

def L5_begun_m (F : Nat) : List Value → M Value
  | [] => L5_begun F
  | _ => fail

theorem L5_begun_body : Tryd.f16.body = some (.seq (.region 0 (opsOf Tryd.f16 0) false) (.seq (.region 1 (opsOf Tryd.f16 1) false) (.seq (.region 2 (opsOf Tryd.f16 2) false) .ret))) := by kernel_rfl

theorem L5_begun_ok (F : Nat) : Sim Tryd.prog TrydG 16 (L5_begun_m F) := by
 have hE : EnvOK Tryd.prog TrydG (L5_begun_env F) := (EnvOK.cons (R1_Eq_ok F) (EnvOK.cons (graph_Reach_ok F) (EnvOK.cons (bitset_Set_All_ok F) (EnvOK.cons (graph_Loops_ok F) (EnvOK.cons (R1_EqAll_ok F) (EnvOK.cons (graph_Parts_ok F) (EnvOK.cons (graph_Order_ok F) (EnvOK.cons (graph_Path_ok F) (EnvOK.cons (graph_May_ok F) EnvOK.nil)))))))))
 refine Sim.of_body (E := L5_begun_env F) Tryd.func16 L5_begun_body Tryd.call16 ?_ ?_
 · intro args hl; unfold L5_begun_m; split
   · exact absurd hl (Nat.not_lt.2 (Nat.le_of_ble_eq_true rfl))
   · rfl
 · intro args ρ h w z; unfold L5_begun_m; split
   · show OKc _ _ [] _ _
     refine rSeq ?_
     refine cLess [] ?_
     refine xR hE [] rfl (L5_begun_r0_ok F _) ?_
     show OKq _ _ _ [] _
     refine rThen ?_
     refine rSeq ?_
     refine cLess [] ?_
     refine xR hE [1] rfl (L5_begun_r1_ok F _) ?_
     intro x1
     show OKq _ _ _ [(1, x1)] _
     refine rThen ?_
     refine rSeq ?_
     refine cLess [1] ?_
     refine xR hE [0] rfl (L5_begun_r2_ok F _ _) ?_
     intro x0
     show OKq _ _ _ [(0, x0)] _
     refine rThen ?_
     refine rRet ?_
     exact rDone (.inr rfl) rfl
   · exact rFail



end Go.Fw
