/-
  What the functions of this seat come to, and that they do.
-/
import Derived.Test.YtmndklpldejcbaaProg
import Derived.Test.YtmndklpldejcbaaFwP
import Derived.KernelRfl
set_option linter.unusedVariables false
set_option maxRecDepth 20000
namespace Go.Fw
open Go.Proofs

-- left: []
def TryG : Nat := 0
theorem Trymix : Try.prog.follows .mixedOrders = true := by kernel_rfl

/-! ### haruspex/haruspexlaw0.Names -/

def haruspexlaw0_Names_env (F : Nat) : Env := envOf []

def haruspexlaw0_Names_r10 (F : Nat) (K : Value → M Value) : M Value :=
  K (.bool true)

theorem haruspexlaw0_Names_r10_ok (F : Nat) (K : Value → M Value) : haruspexlaw0_Names_r10 F K = runK Try.prog TryG (haruspexlaw0_Names_env F) Try.f3.ntmps (opsOf Try.f3 10) (List.range (opsOf Try.f3 10).size) [] fun Γ => appK [0] Γ K := by kernel_rfl

def haruspexlaw0_Names_k0 (F : Nat) : M Value :=
  haruspexlaw0_Names_r10 F (fun x0 => ret x0)

def haruspexlaw0_Names_r7 (F : Nat) (x1 x2 x3 : Value) (K : Value → Value → Value → M Value) : M Value :=
  bnd (opBin .add x3 (.int .i64 (1))) fun v16 => K x1 x2 v16

theorem haruspexlaw0_Names_r7_ok (F : Nat) (x1 x2 x3 : Value) (K : Value → Value → Value → M Value) : haruspexlaw0_Names_r7 F x1 x2 x3 K = runK Try.prog TryG (haruspexlaw0_Names_env F) Try.f3.ntmps (opsOf Try.f3 7) (List.range (opsOf Try.f3 7).size) [(3, x3), (2, x2), (1, x1)] fun Γ => appK [1, 2, 3] Γ K := by kernel_rfl

def haruspexlaw0_Names_r9 (F : Nat) (K : Value → M Value) : M Value :=
  K (.bool false)

theorem haruspexlaw0_Names_r9_ok (F : Nat) (K : Value → M Value) : haruspexlaw0_Names_r9 F K = runK Try.prog TryG (haruspexlaw0_Names_env F) Try.f3.ntmps (opsOf Try.f3 9) (List.range (opsOf Try.f3 9).size) [] fun Γ => appK [0] Γ K := by kernel_rfl

def haruspexlaw0_Names_r8 (F : Nat) (x1 x2 x3 : Value) (K : Value → Value → Value → Value → M Value) : M Value :=
  bnd (opIndexAddr 1 x1 x3) fun v19 => bnd (opLoad v19) fun v20 => bnd (opIndexAddr 1 x2 x3) fun v23 => bnd (opLoad v23) fun v24 => bnd (opBin .neq v20 v24) fun v25 => K x1 x2 x3 v25

theorem haruspexlaw0_Names_r8_ok (F : Nat) (x1 x2 x3 : Value) (K : Value → Value → Value → Value → M Value) : haruspexlaw0_Names_r8 F x1 x2 x3 K = drawK Try.prog TryG (haruspexlaw0_Names_env F) Try.f3.ntmps (opsOf Try.f3 8) (bef (opsOf Try.f3 8)) [0, 1, 2, 3, 4, 5, 6, 7, 8] [] [(3, x3), (2, x2), (1, x1)] fun Γ => appK [1, 2, 3, 25] Γ K := by kernel_rfl

theorem haruspexlaw0_Names_r8_good : goodOrder (opsOf Try.f3 8) [0, 1, 2, 3, 4, 5, 6, 7, 8] = true := by kernel_rfl

def haruspexlaw0_Names_r6 (F : Nat) (x1 x2 x3 : Value) (K : Value → Value → Value → Value → M Value) : M Value :=
  bnd (opLen x1) fun v13 => bnd (opBin .lss x3 v13) fun v14 => K x1 x2 x3 v14

theorem haruspexlaw0_Names_r6_ok (F : Nat) (x1 x2 x3 : Value) (K : Value → Value → Value → Value → M Value) : haruspexlaw0_Names_r6 F x1 x2 x3 K = runK Try.prog TryG (haruspexlaw0_Names_env F) Try.f3.ntmps (opsOf Try.f3 6) (List.range (opsOf Try.f3 6).size) [(3, x3), (2, x2), (1, x1)] fun Γ => appK [1, 2, 3, 14] Γ K := by kernel_rfl

def haruspexlaw0_Names_b1 (F : Nat) (E1_0 : M Value) (A1 : Value → Value → Value → M Value) (x1 x2 x3 : Value) : M Value :=
  haruspexlaw0_Names_r6 F x1 x2 x3 (fun x1 x2 x3 x14 => onB x14 (haruspexlaw0_Names_r8 F x1 x2 x3 (fun x1 x2 x3 x25 => onB x25 (haruspexlaw0_Names_r9 F (fun x0 => ret x0)) (haruspexlaw0_Names_r7 F x1 x2 x3 (fun x1 x2 x3 => A1 x1 x2 x3)))) (E1_0 ))

def haruspexlaw0_Names_l1 (F : Nat) (E1_0 : M Value) : Nat → Value → Value → Value → M Value
  | 0, _, _, _ => fail
  | k1 + 1, x1, x2, x3 => haruspexlaw0_Names_b1 F E1_0 (haruspexlaw0_Names_l1 F E1_0 k1) x1 x2 x3

theorem haruspexlaw0_Names_l1_s (F : Nat) (E1_0 : M Value) (k1 : Nat) (x1 x2 x3 : Value) : haruspexlaw0_Names_l1 F E1_0 (k1 + 1) x1 x2 x3 = haruspexlaw0_Names_b1 F E1_0 (haruspexlaw0_Names_l1 F E1_0 k1) x1 x2 x3 := rfl

def haruspexlaw0_Names_r5 (F : Nat) (x1 x2 : Value) (K : Value → Value → Value → M Value) : M Value :=
  K x1 x2 (.int .i64 (0))

theorem haruspexlaw0_Names_r5_ok (F : Nat) (x1 x2 : Value) (K : Value → Value → Value → M Value) : haruspexlaw0_Names_r5 F x1 x2 K = runK Try.prog TryG (haruspexlaw0_Names_env F) Try.f3.ntmps (opsOf Try.f3 5) (List.range (opsOf Try.f3 5).size) [(2, x2), (1, x1)] fun Γ => appK [1, 2, 3] Γ K := by kernel_rfl

def haruspexlaw0_Names_r4 (F : Nat) (K : Value → M Value) : M Value :=
  K (.bool false)

theorem haruspexlaw0_Names_r4_ok (F : Nat) (K : Value → M Value) : haruspexlaw0_Names_r4 F K = runK Try.prog TryG (haruspexlaw0_Names_env F) Try.f3.ntmps (opsOf Try.f3 4) (List.range (opsOf Try.f3 4).size) [] fun Γ => appK [0] Γ K := by kernel_rfl

def haruspexlaw0_Names_r3 (F : Nat) (x1 x2 : Value) (K : Value → Value → Value → M Value) : M Value :=
  bnd (opLen x1) fun v7 => bnd (opLen x2) fun v9 => bnd (opBin .neq v7 v9) fun v10 => K x1 x2 v10

theorem haruspexlaw0_Names_r3_ok (F : Nat) (x1 x2 : Value) (K : Value → Value → Value → M Value) : haruspexlaw0_Names_r3 F x1 x2 K = runK Try.prog TryG (haruspexlaw0_Names_env F) Try.f3.ntmps (opsOf Try.f3 3) (List.range (opsOf Try.f3 3).size) [(2, x2), (1, x1)] fun Γ => appK [1, 2, 10] Γ K := by kernel_rfl

def haruspexlaw0_Names_r2 (F : Nat) (x1 : Value) (K : Value → Value → M Value) : M Value :=
  bnd (opBuildSlice 62 (rep 62 [(.int .i64 (0))]) [(0, 1, false, (.int .i64 (12))), (1, 1, false, (.int .i64 (12))), (2, 1, false, (.int .i64 (30))), (3, 1, false, (.int .i64 (16))), (4, 1, false, (.int .i64 (4))), (5, 1, false, (.int .i64 (6))), (6, 1, false, (.int .i64 (10))), (7, 1, false, (.int .i64 (4))), (8, 1, false, (.int .i64 (3))), (9, 1, false, (.int .i64 (4))), (10, 1, false, (.int .i64 (12))), (11, 1, false, (.int .i64 (20000))), (12, 1, false, (.int .i64 (60))), (13, 1, false, (.int .i64 (400))), (14, 1, false, (.int .i64 (5000))), (15, 1, false, (.int .i64 (600))), (16, 1, false, (.int .i64 (40))), (17, 1, false, (.int .i64 (0))), (18, 1, false, (.int .i64 (1))), (19, 1, false, (.int .i64 (2))), (20, 1, false, (.int .i64 (3))), (21, 1, false, (.int .i64 (1))), (22, 1, false, (.int .i64 (2))), (23, 1, false, (.int .i64 (3))), (24, 1, false, (.int .i64 (4))), (25, 1, false, (.int .i64 (5))), (26, 1, false, (.int .i64 (6))), (27, 1, false, (.int .i64 (7))), (28, 1, false, (.int .i64 (8))), (29, 1, false, (.int .i64 (9))), (30, 1, false, (.int .i64 (10))), (31, 1, false, (.int .i64 (11))), (32, 1, false, (.int .i64 (12))), (33, 1, false, (.int .i64 (13))), (34, 1, false, (.int .i64 (14))), (35, 1, false, (.int .i64 (15))), (36, 1, false, (.int .i64 (1))), (37, 1, false, (.int .i64 (2))), (38, 1, false, (.int .i64 (3))), (39, 1, false, (.int .i64 (1))), (40, 1, false, (.int .i64 (2))), (41, 1, false, (.int .i64 (3))), (42, 1, false, (.int .i64 (4))), (43, 1, false, (.int .i64 (5))), (44, 1, false, (.int .i64 (6))), (45, 1, false, (.int .i64 (7))), (46, 1, false, (.int .i64 (0))), (47, 1, false, (.int .i64 (1))), (48, 1, false, (.int .i64 (2))), (49, 1, false, (.int .i64 (3))), (50, 1, false, (.int .i64 (1))), (51, 1, false, (.int .i64 (2))), (52, 1, false, (.int .i64 (3))), (53, 1, false, (.int .i64 (4))), (54, 1, false, (.int .i64 (5))), (55, 1, false, (.int .i64 (6))), (56, 1, false, (.int .i64 (1))), (57, 1, false, (.int .i64 (2))), (58, 1, false, (.int .i64 (3))), (59, 1, false, (.int .i64 (4))), (60, 1, false, (.int .i64 (5))), (61, 1, false, (.int .i64 (6)))]) fun v5 => K x1 v5

theorem haruspexlaw0_Names_r2_ok (F : Nat) (x1 : Value) (K : Value → Value → M Value) : haruspexlaw0_Names_r2 F x1 K = runK Try.prog TryG (haruspexlaw0_Names_env F) Try.f3.ntmps (opsOf Try.f3 2) (List.range (opsOf Try.f3 2).size) [(1, x1)] fun Γ => appK [1, 2] Γ K := by kernel_rfl

def haruspexlaw0_Names_r1 (F : Nat) (K : Value → M Value) : M Value :=
  bnd (opBuildSlice 62 (rep 62 [(.int .i64 (0))]) [(0, 1, false, (.int .i64 (12))), (1, 1, false, (.int .i64 (12))), (2, 1, false, (.int .i64 (30))), (3, 1, false, (.int .i64 (16))), (4, 1, false, (.int .i64 (4))), (5, 1, false, (.int .i64 (6))), (6, 1, false, (.int .i64 (10))), (7, 1, false, (.int .i64 (4))), (8, 1, false, (.int .i64 (3))), (9, 1, false, (.int .i64 (4))), (10, 1, false, (.int .i64 (12))), (11, 1, false, (.int .i64 (20000))), (12, 1, false, (.int .i64 (60))), (13, 1, false, (.int .i64 (400))), (14, 1, false, (.int .i64 (5000))), (15, 1, false, (.int .i64 (600))), (16, 1, false, (.int .i64 (40))), (17, 1, false, (.int .i64 (0))), (18, 1, false, (.int .i64 (1))), (19, 1, false, (.int .i64 (2))), (20, 1, false, (.int .i64 (3))), (21, 1, false, (.int .i64 (1))), (22, 1, false, (.int .i64 (2))), (23, 1, false, (.int .i64 (3))), (24, 1, false, (.int .i64 (4))), (25, 1, false, (.int .i64 (5))), (26, 1, false, (.int .i64 (6))), (27, 1, false, (.int .i64 (7))), (28, 1, false, (.int .i64 (8))), (29, 1, false, (.int .i64 (9))), (30, 1, false, (.int .i64 (10))), (31, 1, false, (.int .i64 (11))), (32, 1, false, (.int .i64 (12))), (33, 1, false, (.int .i64 (13))), (34, 1, false, (.int .i64 (14))), (35, 1, false, (.int .i64 (15))), (36, 1, false, (.int .i64 (1))), (37, 1, false, (.int .i64 (2))), (38, 1, false, (.int .i64 (3))), (39, 1, false, (.int .i64 (1))), (40, 1, false, (.int .i64 (2))), (41, 1, false, (.int .i64 (3))), (42, 1, false, (.int .i64 (4))), (43, 1, false, (.int .i64 (5))), (44, 1, false, (.int .i64 (6))), (45, 1, false, (.int .i64 (7))), (46, 1, false, (.int .i64 (0))), (47, 1, false, (.int .i64 (1))), (48, 1, false, (.int .i64 (2))), (49, 1, false, (.int .i64 (3))), (50, 1, false, (.int .i64 (1))), (51, 1, false, (.int .i64 (2))), (52, 1, false, (.int .i64 (3))), (53, 1, false, (.int .i64 (4))), (54, 1, false, (.int .i64 (5))), (55, 1, false, (.int .i64 (6))), (56, 1, false, (.int .i64 (1))), (57, 1, false, (.int .i64 (2))), (58, 1, false, (.int .i64 (3))), (59, 1, false, (.int .i64 (4))), (60, 1, false, (.int .i64 (5))), (61, 1, false, (.int .i64 (6)))]) fun v4 => K v4

theorem haruspexlaw0_Names_r1_ok (F : Nat) (K : Value → M Value) : haruspexlaw0_Names_r1 F K = runK Try.prog TryG (haruspexlaw0_Names_env F) Try.f3.ntmps (opsOf Try.f3 1) (List.range (opsOf Try.f3 1).size) [] fun Γ => appK [1] Γ K := by kernel_rfl

def haruspexlaw0_Names_r0 (F : Nat) (K : M Value) : M Value :=
  K

theorem haruspexlaw0_Names_r0_ok (F : Nat) (K : M Value) : haruspexlaw0_Names_r0 F K = runK Try.prog TryG (haruspexlaw0_Names_env F) Try.f3.ntmps (opsOf Try.f3 0) (List.range (opsOf Try.f3 0).size) [] fun Γ => appK [] Γ K := by kernel_rfl

def haruspexlaw0_Names (F : Nat) : M Value :=
  haruspexlaw0_Names_r0 F (haruspexlaw0_Names_r1 F (fun x1 => haruspexlaw0_Names_r2 F x1 (fun x1 x2 => haruspexlaw0_Names_r3 F x1 x2 (fun x1 x2 x10 => onB x10 (haruspexlaw0_Names_r4 F (fun x0 => ret x0)) (haruspexlaw0_Names_r5 F x1 x2 (fun x1 x2 x3 => haruspexlaw0_Names_l1 F (haruspexlaw0_Names_k0 F ) F x1 x2 x3))))))

def haruspexlaw0_Names_m (F : Nat) : List Value → M Value
  | [] => haruspexlaw0_Names F
  | _ => fail

theorem haruspexlaw0_Names_body : Try.f3.body = some (.seq (.region 0 (opsOf Try.f3 0) false) (.seq (.region 1 (opsOf Try.f3 1) false) (.seq (.region 2 (opsOf Try.f3 2) false) (.seq (.seq (.region 3 (opsOf Try.f3 3) false) (.cond (.tmp 10) (.seq (.region 4 (opsOf Try.f3 4) false) .ret) .skip)) (.seq (.seq (.region 5 (opsOf Try.f3 5) false) (.block 0 (.loop (.seq (.seq (.region 6 (opsOf Try.f3 6) false) (.cond (.tmp 14) .skip (.exit 0))) (.seq (.block 1 (.seq (.region 8 (opsOf Try.f3 8) true) (.cond (.tmp 25) (.seq (.region 9 (opsOf Try.f3 9) false) .ret) .skip))) (.region 7 (opsOf Try.f3 7) false)))))) (.seq (.region 10 (opsOf Try.f3 10) false) .ret)))))) := by kernel_rfl

theorem haruspexlaw0_Names_ok (F : Nat) : Sim Try.prog TryG 3 (haruspexlaw0_Names_m F) := by
  have hE : EnvOK Try.prog TryG (haruspexlaw0_Names_env F) := EnvOK.nil
  refine Sim.of_body (E := haruspexlaw0_Names_env F) Try.func3 haruspexlaw0_Names_body Try.call3 ?_ ?_
  · intro args hl; unfold haruspexlaw0_Names_m; split
    · exact absurd hl (Nat.not_lt.2 (Nat.le_of_ble_eq_true rfl))
    · rfl
  · intro args ρ h w z; unfold haruspexlaw0_Names_m; split
    · show OKc _ _ [] _ _
      refine rSeq ?_
      refine cLess [] ?_
      refine xRegion hE [] (haruspexlaw0_Names_r0_ok F _) ?_
      show OKq _ _ _ [] _
      refine rThen ?_
      refine rSeq ?_
      refine cLess [] ?_
      refine xRegion hE [1] (haruspexlaw0_Names_r1_ok F _) ?_
      intro x1
      show OKq _ _ _ [(1, x1)] _
      refine rThen ?_
      refine rSeq ?_
      refine cLess [1] ?_
      refine xRegion hE [1, 2] (haruspexlaw0_Names_r2_ok F _ _) ?_
      intro x1 x2
      show OKq _ _ _ [(2, x2), (1, x1)] _
      refine rThen ?_
      refine rSeq ?_
      refine rSeq ?_
      refine cLess [2, 1] ?_
      refine xRegion hE [1, 2, 10] (haruspexlaw0_Names_r3_ok F _ _ _) ?_
      intro x1 x2 x10
      show OKq _ _ _ [(10, x10), (2, x2), (1, x1)] _
      refine rThen ?_
      refine xCond rfl rfl ?_ ?_
      · refine rSeq ?_
        refine cLess [] ?_
        refine xRegion hE [0] (haruspexlaw0_Names_r4_ok F _) ?_
        intro x0
        show OKq _ _ _ [(0, x0)] _
        refine rThen ?_
        refine rRet ?_
        refine xThenR ?_
        exact rDone (.inr rfl) rfl
      · refine rSkip ?_
        refine rThen ?_
        refine xSeq [] (haruspexlaw0_Names_k0 F ) ?_ fun hj0 => ?_
        · show OKc _ _ [] _ _
          refine rSeq ?_
          refine cLess [] ?_
          refine xRegion hE [0] (haruspexlaw0_Names_r10_ok F _) ?_
          intro x0
          show OKq _ _ _ [(0, x0)] _
          refine rThen ?_
          refine rRet ?_
          exact rDone (.inr rfl) rfl
        · refine rSeq ?_
          refine cLess [2, 1] ?_
          refine xRegion hE [1, 2, 3] (haruspexlaw0_Names_r5_ok F _ _ _) ?_
          intro x1 x2 x3
          show OKq _ _ _ [(3, x3), (2, x2), (1, x1)] _
          refine rThen ?_
          refine rBlock ?_
          refine cLess [3, 2, 1] ?_
          refine xLoopAt [1, 2, 3] [] (fun k1 => haruspexlaw0_Names_l1 F (haruspexlaw0_Names_k0 F ) k1) F [x1, x2, x3] rfl rfl (fun _ _ _ => rfl) fun I hI1 k1 => ?_
          intro x1 x2 x3
          show OKc _ _ [(3, x3), (2, x2), (1, x1)] _ _
          refine cAs (haruspexlaw0_Names_l1_s F _ _ _ _ _) ?_
          refine rSeq ?_
          refine rSeq ?_
          refine cLess [3, 2, 1] ?_
          refine xRegion hE [1, 2, 3, 14] (haruspexlaw0_Names_r6_ok F _ _ _ _) ?_
          intro x1 x2 x3 x14
          show OKq _ _ _ [(14, x14), (3, x3), (2, x2), (1, x1)] _
          refine rThen ?_
          refine xCond rfl rfl ?_ ?_
          · refine rSkip ?_
            refine rThen ?_
            refine rSeq ?_
            refine rBlock ?_
            refine rSeq ?_
            refine cLess [3, 2, 1] ?_
            refine xDraw Trymix hE [1, 2, 3, 25] haruspexlaw0_Names_r8_good (haruspexlaw0_Names_r8_ok F _ _ _ _) ?_
            intro x1 x2 x3 x25
            show OKq _ _ _ [(25, x25), (3, x3), (2, x2), (1, x1)] _
            refine rThen ?_
            refine xCond rfl rfl ?_ ?_
            · refine rSeq ?_
              refine cLess [] ?_
              refine xRegion hE [0] (haruspexlaw0_Names_r9_ok F _) ?_
              intro x0
              show OKq _ _ _ [(0, x0)] _
              refine rThen ?_
              refine rRet ?_
              refine xBlockR ?_
              refine xThenR ?_
              refine xThenR ?_
              refine xBlockR ?_
              refine xThenR ?_
              exact rDone (.inr rfl) rfl
            · refine rSkip ?_
              refine xBlockN ?_
              refine rThen ?_
              refine cLess [3, 2, 1] ?_
              refine xRegion hE [1, 2, 3] (haruspexlaw0_Names_r7_ok F _ _ _ _) ?_
              intro x1 x2 x3
              show OKq _ _ _ [(3, x3), (2, x2), (1, x1)] _
              exact qLess [3, 2, 1] (hI1 k1 x1 x2 x3)
          · refine rExit ?_
            refine xThenX ?_
            refine xThenX ?_
            refine rOut ?_
            exact qLess [] (hj0 )
    · exact rFail


/-! ### haruspex/union.New -/

def union_New_env (F : Nat) : Env := envOf []

def union_New_r7 (F : Nat) (x3 : Value) (K : Value → M Value) : M Value :=
  K x3

theorem union_New_r7_ok (F : Nat) (x3 : Value) (K : Value → M Value) : union_New_r7 F x3 K = runK Try.prog TryG (union_New_env F) Try.f10.ntmps (opsOf Try.f10 7) (List.range (opsOf Try.f10 7).size) [(3, x3)] fun Γ => appK [2] Γ K := by kernel_rfl

def union_New_k0 (F : Nat) (x3 : Value) : M Value :=
  union_New_r7 F x3 (fun x2 => ret x2)

def union_New_r6 (F : Nat) (x3 x9 x10 : Value) (K : Value → Value → Value → M Value) : M Value :=
  bnd (opBin .add x10 (.int .i64 (1))) fun v23 => K x3 x9 v23

theorem union_New_r6_ok (F : Nat) (x3 x9 x10 : Value) (K : Value → Value → Value → M Value) : union_New_r6 F x3 x9 x10 K = runK Try.prog TryG (union_New_env F) Try.f10.ntmps (opsOf Try.f10 6) (List.range (opsOf Try.f10 6).size) [(10, x10), (9, x9), (3, x3)] fun Γ => appK [3, 9, 10] Γ K := by kernel_rfl

def union_New_r5 (F : Nat) (x3 x4 x9 x10 : Value) (K : Value → Value → Value → M Value) : M Value :=
  bnd (opNil x3) fun v15 => bnd (opFieldAddr 0 v15) fun v16 => bnd (opLoad v16) fun v17 => bnd (opBuildSlice 1 (rep 1 [(.int .i64 (0))]) [(0, 1, false, x4)]) fun v19 => bnd (opAppend 1 8 v17 v19) fun v20 => bnd (opNil x3) fun v21 => bnd (opFieldAddr 0 v21) fun v22 => bnd (opStore v22 v20) fun _ => K x3 x9 x10

theorem union_New_r5_ok (F : Nat) (x3 x4 x9 x10 : Value) (K : Value → Value → Value → M Value) : union_New_r5 F x3 x4 x9 x10 K = runK Try.prog TryG (union_New_env F) Try.f10.ntmps (opsOf Try.f10 5) (List.range (opsOf Try.f10 5).size) [(10, x10), (9, x9), (4, x4), (3, x3)] fun Γ => appK [3, 9, 10] Γ K := by kernel_rfl

def union_New_r4 (F : Nat) (x3 x9 x10 : Value) (K : Value → Value → Value → Value → M Value) : M Value :=
  K x3 x10 x9 x10

theorem union_New_r4_ok (F : Nat) (x3 x9 x10 : Value) (K : Value → Value → Value → Value → M Value) : union_New_r4 F x3 x9 x10 K = runK Try.prog TryG (union_New_env F) Try.f10.ntmps (opsOf Try.f10 4) (List.range (opsOf Try.f10 4).size) [(10, x10), (9, x9), (3, x3)] fun Γ => appK [3, 4, 9, 10] Γ K := by kernel_rfl

def union_New_r3 (F : Nat) (x3 x9 x10 : Value) (K : Value → Value → Value → Value → M Value) : M Value :=
  bnd (opBin .lss x10 x9) fun v11 => K x3 x9 x10 v11

theorem union_New_r3_ok (F : Nat) (x3 x9 x10 : Value) (K : Value → Value → Value → Value → M Value) : union_New_r3 F x3 x9 x10 K = runK Try.prog TryG (union_New_env F) Try.f10.ntmps (opsOf Try.f10 3) (List.range (opsOf Try.f10 3).size) [(10, x10), (9, x9), (3, x3)] fun Γ => appK [3, 9, 10, 11] Γ K := by kernel_rfl

def union_New_b1 (F : Nat) (E1_0 : Value → M Value) (A1 : Value → Value → Value → M Value) (x3 x9 x10 : Value) : M Value :=
  union_New_r3 F x3 x9 x10 (fun x3 x9 x10 x11 => onB x11 (union_New_r4 F x3 x9 x10 (fun x3 x4 x9 x10 => union_New_r5 F x3 x4 x9 x10 (fun x3 x9 x10 => union_New_r6 F x3 x9 x10 (fun x3 x9 x10 => A1 x3 x9 x10)))) (E1_0 x3))

def union_New_l1 (F : Nat) (E1_0 : Value → M Value) : Nat → Value → Value → Value → M Value
  | 0, _, _, _ => fail
  | k1 + 1, x3, x9, x10 => union_New_b1 F E1_0 (union_New_l1 F E1_0 k1) x3 x9 x10

theorem union_New_l1_s (F : Nat) (E1_0 : Value → M Value) (k1 : Nat) (x3 x9 x10 : Value) : union_New_l1 F E1_0 (k1 + 1) x3 x9 x10 = union_New_b1 F E1_0 (union_New_l1 F E1_0 k1) x3 x9 x10 := rfl

def union_New_r2 (F : Nat) (x0 x3 : Value) (K : Value → Value → Value → M Value) : M Value :=
  bnd (opMax [x0, (.int .i64 (0))]) fun v8 => bnd (opMin [v8, (.int .i64 (5000))]) fun v9 => K x3 v9 (.int .i64 (0))

theorem union_New_r2_ok (F : Nat) (x0 x3 : Value) (K : Value → Value → Value → M Value) : union_New_r2 F x0 x3 K = runK Try.prog TryG (union_New_env F) Try.f10.ntmps (opsOf Try.f10 2) (List.range (opsOf Try.f10 2).size) [(3, x3), (0, x0)] fun Γ => appK [3, 9, 10] Γ K := by kernel_rfl

def union_New_r1 (F : Nat) (x0 : Value) (K : Value → Value → M Value) : M Value :=
  bnd (opBuild [(.slice none 0 0)] []) fun v5 => bnd (opBoxN v5) fun v6 => K x0 v6

theorem union_New_r1_ok (F : Nat) (x0 : Value) (K : Value → Value → M Value) : union_New_r1 F x0 K = runK Try.prog TryG (union_New_env F) Try.f10.ntmps (opsOf Try.f10 1) (List.range (opsOf Try.f10 1).size) [(0, x0)] fun Γ => appK [0, 3] Γ K := by kernel_rfl

def union_New_r0 (F : Nat) (x0 : Value) (K : Value → M Value) : M Value :=
  K x0

theorem union_New_r0_ok (F : Nat) (x0 : Value) (K : Value → M Value) : union_New_r0 F x0 K = runK Try.prog TryG (union_New_env F) Try.f10.ntmps (opsOf Try.f10 0) (List.range (opsOf Try.f10 0).size) [(0, x0)] fun Γ => appK [0] Γ K := by kernel_rfl

def union_New (F : Nat) (x0 : Value) : M Value :=
  union_New_r0 F x0 (fun x0 => union_New_r1 F x0 (fun x0 x3 => union_New_r2 F x0 x3 (fun x3 x9 x10 => union_New_l1 F (fun x3 => union_New_k0 F x3) F x3 x9 x10)))

def union_New_m (F : Nat) : List Value → M Value
  | [x0] => union_New F x0
  | _ => fail

theorem union_New_body : Try.f10.body = some (.seq (.region 0 (opsOf Try.f10 0) false) (.seq (.region 1 (opsOf Try.f10 1) false) (.seq (.seq (.region 2 (opsOf Try.f10 2) false) (.block 0 (.loop (.seq (.region 3 (opsOf Try.f10 3) false) (.seq (.cond (.tmp 11) .skip (.exit 0)) (.seq (.block 1 (.seq (.region 4 (opsOf Try.f10 4) false) (.region 5 (opsOf Try.f10 5) false))) (.region 6 (opsOf Try.f10 6) false))))))) (.seq (.region 7 (opsOf Try.f10 7) false) .ret)))) := by kernel_rfl

theorem union_New_ok (F : Nat) : Sim Try.prog TryG 10 (union_New_m F) := by
  have hE : EnvOK Try.prog TryG (union_New_env F) := EnvOK.nil
  refine Sim.of_body (E := union_New_env F) Try.func10 union_New_body Try.call10 ?_ ?_
  · intro args hl; unfold union_New_m; split
    · exact absurd hl (Nat.not_lt.2 (Nat.le_of_ble_eq_true rfl))
    · rfl
  · intro args ρ h w z; unfold union_New_m; split
    · rename_i x0; show OKc _ _ [(0, x0)] _ _
      refine rSeq ?_
      refine cLess [0] ?_
      refine xRegion hE [0] (union_New_r0_ok F _ _) ?_
      intro x0
      show OKq _ _ _ [(0, x0)] _
      refine rThen ?_
      refine rSeq ?_
      refine cLess [0] ?_
      refine xRegion hE [0, 3] (union_New_r1_ok F _ _) ?_
      intro x0 x3
      show OKq _ _ _ [(3, x3), (0, x0)] _
      refine rThen ?_
      refine xSeq [3] (union_New_k0 F ) ?_ fun hj0 => ?_
      · intro x3
        show OKc _ _ [(3, x3)] _ _
        refine rSeq ?_
        refine cLess [3] ?_
        refine xRegion hE [2] (union_New_r7_ok F _ _) ?_
        intro x2
        show OKq _ _ _ [(2, x2)] _
        refine rThen ?_
        refine rRet ?_
        exact rDone (.inr rfl) rfl
      · refine rSeq ?_
        refine cLess [3, 0] ?_
        refine xRegion hE [3, 9, 10] (union_New_r2_ok F _ _ _) ?_
        intro x3 x9 x10
        show OKq _ _ _ [(10, x10), (9, x9), (3, x3)] _
        refine rThen ?_
        refine rBlock ?_
        refine cLess [10, 9, 3] ?_
        refine xLoopAt [3, 9, 10] [] (fun k1 => union_New_l1 F (fun x3 => union_New_k0 F x3) k1) F [x3, x9, x10] rfl rfl (fun _ _ _ => rfl) fun I hI1 k1 => ?_
        intro x3 x9 x10
        show OKc _ _ [(10, x10), (9, x9), (3, x3)] _ _
        refine cAs (union_New_l1_s F _ _ _ _ _) ?_
        refine rSeq ?_
        refine cLess [10, 9, 3] ?_
        refine xRegion hE [3, 9, 10, 11] (union_New_r3_ok F _ _ _ _) ?_
        intro x3 x9 x10 x11
        show OKq _ _ _ [(11, x11), (10, x10), (9, x9), (3, x3)] _
        refine rThen ?_
        refine rSeq ?_
        refine xCond rfl rfl ?_ ?_
        · refine rSkip ?_
          refine rThen ?_
          refine rSeq ?_
          refine rBlock ?_
          refine rSeq ?_
          refine cLess [10, 9, 3] ?_
          refine xRegion hE [3, 4, 9, 10] (union_New_r4_ok F _ _ _ _) ?_
          intro x3 x4 x9 x10
          show OKq _ _ _ [(10, x10), (9, x9), (4, x4), (3, x3)] _
          refine rThen ?_
          refine cLess [10, 9, 4, 3] ?_
          refine xRegion hE [3, 9, 10] (union_New_r5_ok F _ _ _ _ _) ?_
          intro x3 x9 x10
          show OKq _ _ _ [(10, x10), (9, x9), (3, x3)] _
          refine xBlockN ?_
          refine rThen ?_
          refine cLess [10, 9, 3] ?_
          refine xRegion hE [3, 9, 10] (union_New_r6_ok F _ _ _ _) ?_
          intro x3 x9 x10
          show OKq _ _ _ [(10, x10), (9, x9), (3, x3)] _
          exact qLess [10, 9, 3] (hI1 k1 x3 x9 x10)
        · refine rExit ?_
          refine xThenX ?_
          refine xThenX ?_
          refine rOut ?_
          exact qLess [3] (hj0 x3)
    · exact rFail


/-! ### (*haruspex/union.Union).Find -/

def union_Union_Find_env (F : Nat) : Env := envOf []

def union_Union_Find_r8 (F : Nat) (x5 : Value) (K : Value → M Value) : M Value :=
  K x5

theorem union_Union_Find_r8_ok (F : Nat) (x5 : Value) (K : Value → M Value) : union_Union_Find_r8 F x5 K = runK Try.prog TryG (union_Union_Find_env F) Try.f14.ntmps (opsOf Try.f14 8) (List.range (opsOf Try.f14 8).size) [(5, x5)] fun Γ => appK [4] Γ K := by kernel_rfl

def union_Union_Find_k0 (F : Nat) (x5 : Value) : M Value :=
  union_Union_Find_r8 F x5 (fun x4 => ret x4)

def union_Union_Find_r7 (F : Nat) (x0 x1 x5 : Value) (K : Value → Value → Value → M Value) : M Value :=
  bnd (opNil x0) fun v48 => bnd (opFieldAddr 0 v48) fun v49 => bnd (opLoad v49) fun v50 => bnd (opNil x0) fun v53 => bnd (opFieldAddr 0 v53) fun v54 => bnd (opLoad v54) fun v55 => bnd (opIndexAddr 1 v55 x1) fun v57 => bnd (opLoad v57) fun v58 => bnd (opIndexAddr 1 v50 x1) fun v60 => bnd (opStore v60 x5) fun _ => K x0 v58 x5

theorem union_Union_Find_r7_ok (F : Nat) (x0 x1 x5 : Value) (K : Value → Value → Value → M Value) : union_Union_Find_r7 F x0 x1 x5 K = drawK Try.prog TryG (union_Union_Find_env F) Try.f14.ntmps (opsOf Try.f14 7) (bef (opsOf Try.f14 7)) [0, 1, 2, 3, 4, 5, 6, 7, 8, 9, 10, 11, 12, 13, 14, 15] [] [(5, x5), (1, x1), (0, x0)] fun Γ => appK [0, 1, 5] Γ K := by kernel_rfl

theorem union_Union_Find_r7_good : goodOrder (opsOf Try.f14 7) [0, 1, 2, 3, 4, 5, 6, 7, 8, 9, 10, 11, 12, 13, 14, 15] = true := by kernel_rfl

def union_Union_Find_r6 (F : Nat) (x0 x1 x5 : Value) (K : Value → Value → Value → Value → M Value) : M Value :=
  bnd (opNil x0) fun v39 => bnd (opFieldAddr 0 v39) fun v40 => bnd (opLoad v40) fun v41 => bnd (opIndexAddr 1 v41 x1) fun v43 => bnd (opLoad v43) fun v44 => bnd (opBin .neq v44 x5) fun v46 => K x0 x1 x5 v46

theorem union_Union_Find_r6_ok (F : Nat) (x0 x1 x5 : Value) (K : Value → Value → Value → Value → M Value) : union_Union_Find_r6 F x0 x1 x5 K = runK Try.prog TryG (union_Union_Find_env F) Try.f14.ntmps (opsOf Try.f14 6) (List.range (opsOf Try.f14 6).size) [(5, x5), (1, x1), (0, x0)] fun Γ => appK [0, 1, 5, 46] Γ K := by kernel_rfl

def union_Union_Find_b1 (F : Nat) (E1_2 : Value → M Value) (A1 : Value → Value → Value → M Value) (x0 x1 x5 : Value) : M Value :=
  union_Union_Find_r6 F x0 x1 x5 (fun x0 x1 x5 x46 => onB x46 (union_Union_Find_r7 F x0 x1 x5 (fun x0 x1 x5 => A1 x0 x1 x5)) (E1_2 x5))

def union_Union_Find_l1 (F : Nat) (E1_2 : Value → M Value) : Nat → Value → Value → Value → M Value
  | 0, _, _, _ => fail
  | k1 + 1, x0, x1, x5 => union_Union_Find_b1 F E1_2 (union_Union_Find_l1 F E1_2 k1) x0 x1 x5

theorem union_Union_Find_l1_s (F : Nat) (E1_2 : Value → M Value) (k1 : Nat) (x0 x1 x5 : Value) : union_Union_Find_l1 F E1_2 (k1 + 1) x0 x1 x5 = union_Union_Find_b1 F E1_2 (union_Union_Find_l1 F E1_2 k1) x0 x1 x5 := rfl

def union_Union_Find_k2 (F : Nat) (x0 x1 x5 : Value) : M Value :=
  union_Union_Find_l1 F (fun x5 => union_Union_Find_k0 F x5) F x0 x1 x5

def union_Union_Find_r5 (F : Nat) (x0 x1 x5 : Value) (K : Value → Value → Value → M Value) : M Value :=
  bnd (opNil x0) fun v32 => bnd (opFieldAddr 0 v32) fun v33 => bnd (opLoad v33) fun v34 => bnd (opIndexAddr 1 v34 x5) fun v36 => bnd (opLoad v36) fun v37 => K x0 x1 v37

theorem union_Union_Find_r5_ok (F : Nat) (x0 x1 x5 : Value) (K : Value → Value → Value → M Value) : union_Union_Find_r5 F x0 x1 x5 K = runK Try.prog TryG (union_Union_Find_env F) Try.f14.ntmps (opsOf Try.f14 5) (List.range (opsOf Try.f14 5).size) [(5, x5), (1, x1), (0, x0)] fun Γ => appK [0, 1, 5] Γ K := by kernel_rfl

def union_Union_Find_r4 (F : Nat) (x0 x1 x5 : Value) (K : Value → Value → Value → Value → M Value) : M Value :=
  bnd (opNil x0) fun v23 => bnd (opFieldAddr 0 v23) fun v24 => bnd (opLoad v24) fun v25 => bnd (opIndexAddr 1 v25 x5) fun v27 => bnd (opLoad v27) fun v28 => bnd (opBin .neq v28 x5) fun v30 => K x0 x1 x5 v30

theorem union_Union_Find_r4_ok (F : Nat) (x0 x1 x5 : Value) (K : Value → Value → Value → Value → M Value) : union_Union_Find_r4 F x0 x1 x5 K = runK Try.prog TryG (union_Union_Find_env F) Try.f14.ntmps (opsOf Try.f14 4) (List.range (opsOf Try.f14 4).size) [(5, x5), (1, x1), (0, x0)] fun Γ => appK [0, 1, 5, 30] Γ K := by kernel_rfl

def union_Union_Find_b3 (F : Nat) (E3_0 : Value → Value → Value → M Value) (A3 : Value → Value → Value → M Value) (x0 x1 x5 : Value) : M Value :=
  union_Union_Find_r4 F x0 x1 x5 (fun x0 x1 x5 x30 => onB x30 (union_Union_Find_r5 F x0 x1 x5 (fun x0 x1 x5 => A3 x0 x1 x5)) (E3_0 x0 x1 x5))

def union_Union_Find_l3 (F : Nat) (E3_0 : Value → Value → Value → M Value) : Nat → Value → Value → Value → M Value
  | 0, _, _, _ => fail
  | k3 + 1, x0, x1, x5 => union_Union_Find_b3 F E3_0 (union_Union_Find_l3 F E3_0 k3) x0 x1 x5

theorem union_Union_Find_l3_s (F : Nat) (E3_0 : Value → Value → Value → M Value) (k3 : Nat) (x0 x1 x5 : Value) : union_Union_Find_l3 F E3_0 (k3 + 1) x0 x1 x5 = union_Union_Find_b3 F E3_0 (union_Union_Find_l3 F E3_0 k3) x0 x1 x5 := rfl

def union_Union_Find_r3 (F : Nat) (x0 x1 : Value) (K : Value → Value → Value → M Value) : M Value :=
  K x0 x1 x1

theorem union_Union_Find_r3_ok (F : Nat) (x0 x1 : Value) (K : Value → Value → Value → M Value) : union_Union_Find_r3 F x0 x1 K = runK Try.prog TryG (union_Union_Find_env F) Try.f14.ntmps (opsOf Try.f14 3) (List.range (opsOf Try.f14 3).size) [(1, x1), (0, x0)] fun Γ => appK [0, 1, 5] Γ K := by kernel_rfl

def union_Union_Find_r2 (F : Nat) (K : Value → M Value) : M Value :=
  K (.int .i64 (-1))

theorem union_Union_Find_r2_ok (F : Nat) (K : Value → M Value) : union_Union_Find_r2 F K = runK Try.prog TryG (union_Union_Find_env F) Try.f14.ntmps (opsOf Try.f14 2) (List.range (opsOf Try.f14 2).size) [] fun Γ => appK [4] Γ K := by kernel_rfl

def union_Union_Find_r1 (F : Nat) (x0 x1 : Value) (K : Value → Value → Value → M Value) : M Value :=
  bnd (opEq eqP false x0 (.pointer none)) fun v7 => onB v7 (K x0 x1 (.bool true)) (bnd (opBin .lss x1 (.int .i64 (0))) fun v10 => onB v10 (K x0 x1 (.bool true)) (bnd (opNil x0) fun v15 => bnd (opFieldAddr 0 v15) fun v16 => bnd (opLoad v16) fun v17 => bnd (opLen v17) fun v18 => bnd (opBin .geq x1 v18) fun v19 => K x0 x1 v19))

theorem union_Union_Find_r1_ok (F : Nat) (x0 x1 : Value) (K : Value → Value → Value → M Value) : union_Union_Find_r1 F x0 x1 K = runK Try.prog TryG (union_Union_Find_env F) Try.f14.ntmps (opsOf Try.f14 1) (List.range (opsOf Try.f14 1).size) [(1, x1), (0, x0)] fun Γ => appK [0, 1, 20] Γ K := by kernel_rfl

def union_Union_Find_r0 (F : Nat) (x0 x1 : Value) (K : Value → Value → M Value) : M Value :=
  K x0 x1

theorem union_Union_Find_r0_ok (F : Nat) (x0 x1 : Value) (K : Value → Value → M Value) : union_Union_Find_r0 F x0 x1 K = runK Try.prog TryG (union_Union_Find_env F) Try.f14.ntmps (opsOf Try.f14 0) (List.range (opsOf Try.f14 0).size) [(1, x1), (0, x0)] fun Γ => appK [0, 1] Γ K := by kernel_rfl

def union_Union_Find (F : Nat) (x0 x1 : Value) : M Value :=
  union_Union_Find_r0 F x0 x1 (fun x0 x1 => union_Union_Find_r1 F x0 x1 (fun x0 x1 x20 => onB x20 (union_Union_Find_r2 F (fun x4 => ret x4)) (union_Union_Find_r3 F x0 x1 (fun x0 x1 x5 => union_Union_Find_l3 F (fun x0 x1 x5 => union_Union_Find_k2 F x0 x1 x5) F x0 x1 x5))))

def union_Union_Find_m (F : Nat) : List Value → M Value
  | [x0, x1] => union_Union_Find F x0 x1
  | _ => fail

theorem union_Union_Find_body : Try.f14.body = some (.seq (.region 0 (opsOf Try.f14 0) false) (.seq (.seq (.region 1 (opsOf Try.f14 1) false) (.cond (.tmp 20) (.seq (.region 2 (opsOf Try.f14 2) false) .ret) .skip)) (.seq (.region 3 (opsOf Try.f14 3) false) (.seq (.block 0 (.loop (.seq (.seq (.region 4 (opsOf Try.f14 4) false) (.cond (.tmp 30) .skip (.exit 0))) (.block 1 (.region 5 (opsOf Try.f14 5) false))))) (.seq (.block 2 (.loop (.seq (.seq (.region 6 (opsOf Try.f14 6) false) (.cond (.tmp 46) .skip (.exit 2))) (.block 3 (.region 7 (opsOf Try.f14 7) true))))) (.seq (.region 8 (opsOf Try.f14 8) false) .ret)))))) := by kernel_rfl

theorem union_Union_Find_ok (F : Nat) : Sim Try.prog TryG 14 (union_Union_Find_m F) := by
  have hE : EnvOK Try.prog TryG (union_Union_Find_env F) := EnvOK.nil
  refine Sim.of_body (E := union_Union_Find_env F) Try.func14 union_Union_Find_body Try.call14 ?_ ?_
  · intro args hl; unfold union_Union_Find_m; split
    · exact absurd hl (Nat.not_lt.2 (Nat.le_of_ble_eq_true rfl))
    · rfl
  · intro args ρ h w z; unfold union_Union_Find_m; split
    · rename_i x0 x1; show OKc _ _ [(0, x0), (1, x1)] _ _
      refine rSeq ?_
      refine cLess [1, 0] ?_
      refine xRegion hE [0, 1] (union_Union_Find_r0_ok F _ _ _) ?_
      intro x0 x1
      show OKq _ _ _ [(1, x1), (0, x0)] _
      refine rThen ?_
      refine rSeq ?_
      refine rSeq ?_
      refine cLess [1, 0] ?_
      refine xRegion hE [0, 1, 20] (union_Union_Find_r1_ok F _ _ _) ?_
      intro x0 x1 x20
      show OKq _ _ _ [(20, x20), (1, x1), (0, x0)] _
      refine rThen ?_
      refine xCond rfl rfl ?_ ?_
      · refine rSeq ?_
        refine cLess [] ?_
        refine xRegion hE [4] (union_Union_Find_r2_ok F _) ?_
        intro x4
        show OKq _ _ _ [(4, x4)] _
        refine rThen ?_
        refine rRet ?_
        refine xThenR ?_
        exact rDone (.inr rfl) rfl
      · refine rSkip ?_
        refine rThen ?_
        refine rSeq ?_
        refine cLess [1, 0] ?_
        refine xRegion hE [0, 1, 5] (union_Union_Find_r3_ok F _ _ _) ?_
        intro x0 x1 x5
        show OKq _ _ _ [(5, x5), (1, x1), (0, x0)] _
        refine rThen ?_
        refine xSeq [0, 1, 5] (union_Union_Find_k2 F ) ?_ fun hj2 => ?_
        · intro x0 x1 x5
          show OKc _ _ [(5, x5), (1, x1), (0, x0)] _ _
          refine xSeq [5] (union_Union_Find_k0 F ) ?_ fun hj0 => ?_
          · intro x5
            show OKc _ _ [(5, x5)] _ _
            refine rSeq ?_
            refine cLess [5] ?_
            refine xRegion hE [4] (union_Union_Find_r8_ok F _ _) ?_
            intro x4
            show OKq _ _ _ [(4, x4)] _
            refine rThen ?_
            refine rRet ?_
            exact rDone (.inr rfl) rfl
          · refine rBlock ?_
            refine cLess [5, 1, 0] ?_
            refine xLoopAt [0, 1, 5] [] (fun k1 => union_Union_Find_l1 F (fun x5 => union_Union_Find_k0 F x5) k1) F [x0, x1, x5] rfl rfl (fun _ _ _ => rfl) fun I hI1 k1 => ?_
            intro x0 x1 x5
            show OKc _ _ [(5, x5), (1, x1), (0, x0)] _ _
            refine cAs (union_Union_Find_l1_s F _ _ _ _ _) ?_
            refine rSeq ?_
            refine rSeq ?_
            refine cLess [5, 1, 0] ?_
            refine xRegion hE [0, 1, 5, 46] (union_Union_Find_r6_ok F _ _ _ _) ?_
            intro x0 x1 x5 x46
            show OKq _ _ _ [(46, x46), (5, x5), (1, x1), (0, x0)] _
            refine rThen ?_
            refine xCond rfl rfl ?_ ?_
            · refine rSkip ?_
              refine rThen ?_
              refine rBlock ?_
              refine cLess [5, 1, 0] ?_
              refine xDraw Trymix hE [0, 1, 5] union_Union_Find_r7_good (union_Union_Find_r7_ok F _ _ _ _) ?_
              intro x0 x1 x5
              show OKq _ _ _ [(5, x5), (1, x1), (0, x0)] _
              refine xBlockN ?_
              exact qLess [5, 1, 0] (hI1 k1 x0 x1 x5)
            · refine rExit ?_
              refine xThenX ?_
              refine xThenX ?_
              refine rOut ?_
              exact qLess [5] (hj0 x5)
        · refine rBlock ?_
          refine cLess [5, 1, 0] ?_
          refine xLoopAt [0, 1, 5] [] (fun k3 => union_Union_Find_l3 F (fun x0 x1 x5 => union_Union_Find_k2 F x0 x1 x5) k3) F [x0, x1, x5] rfl rfl (fun _ _ _ => rfl) fun I hI3 k3 => ?_
          intro x0 x1 x5
          show OKc _ _ [(5, x5), (1, x1), (0, x0)] _ _
          refine cAs (union_Union_Find_l3_s F _ _ _ _ _) ?_
          refine rSeq ?_
          refine rSeq ?_
          refine cLess [5, 1, 0] ?_
          refine xRegion hE [0, 1, 5, 30] (union_Union_Find_r4_ok F _ _ _ _) ?_
          intro x0 x1 x5 x30
          show OKq _ _ _ [(30, x30), (5, x5), (1, x1), (0, x0)] _
          refine rThen ?_
          refine xCond rfl rfl ?_ ?_
          · refine rSkip ?_
            refine rThen ?_
            refine rBlock ?_
            refine cLess [5, 1, 0] ?_
            refine xRegion hE [0, 1, 5] (union_Union_Find_r5_ok F _ _ _ _) ?_
            intro x0 x1 x5
            show OKq _ _ _ [(5, x5), (1, x1), (0, x0)] _
            refine xBlockN ?_
            exact qLess [5, 1, 0] (hI3 k3 x0 x1 x5)
          · refine rExit ?_
            refine xThenX ?_
            refine xThenX ?_
            refine rOut ?_
            exact qLess [5, 1, 0] (hj2 x0 x1 x5)
    · exact rFail


/-! ### haruspex/haruspexref1.Eq -/

def haruspexref1_Eq_env (F : Nat) : Env := envOf []

def haruspexref1_Eq_r8 (F : Nat) (K : Value → M Value) : M Value :=
  K (.bool true)

theorem haruspexref1_Eq_r8_ok (F : Nat) (K : Value → M Value) : haruspexref1_Eq_r8 F K = runK Try.prog TryG (haruspexref1_Eq_env F) Try.f17.ntmps (opsOf Try.f17 8) (List.range (opsOf Try.f17 8).size) [] fun Γ => appK [4] Γ K := by kernel_rfl

def haruspexref1_Eq_k0 (F : Nat) : M Value :=
  haruspexref1_Eq_r8 F (fun x4 => ret x4)

def haruspexref1_Eq_r5 (F : Nat) (x0 x1 x5 : Value) (K : Value → Value → Value → M Value) : M Value :=
  bnd (opBin .add x5 (.int .i64 (1))) fun v16 => K x0 x1 v16

theorem haruspexref1_Eq_r5_ok (F : Nat) (x0 x1 x5 : Value) (K : Value → Value → Value → M Value) : haruspexref1_Eq_r5 F x0 x1 x5 K = runK Try.prog TryG (haruspexref1_Eq_env F) Try.f17.ntmps (opsOf Try.f17 5) (List.range (opsOf Try.f17 5).size) [(5, x5), (1, x1), (0, x0)] fun Γ => appK [0, 1, 5] Γ K := by kernel_rfl

def haruspexref1_Eq_r7 (F : Nat) (K : Value → M Value) : M Value :=
  K (.bool false)

theorem haruspexref1_Eq_r7_ok (F : Nat) (K : Value → M Value) : haruspexref1_Eq_r7 F K = runK Try.prog TryG (haruspexref1_Eq_env F) Try.f17.ntmps (opsOf Try.f17 7) (List.range (opsOf Try.f17 7).size) [] fun Γ => appK [4] Γ K := by kernel_rfl

def haruspexref1_Eq_r6 (F : Nat) (x0 x1 x5 : Value) (K : Value → Value → Value → Value → M Value) : M Value :=
  bnd (opIndexAddr 1 x0 x5) fun v19 => bnd (opLoad v19) fun v20 => bnd (opIndexAddr 1 x1 x5) fun v23 => bnd (opLoad v23) fun v24 => bnd (opBin .neq v20 v24) fun v25 => K x0 x1 x5 v25

theorem haruspexref1_Eq_r6_ok (F : Nat) (x0 x1 x5 : Value) (K : Value → Value → Value → Value → M Value) : haruspexref1_Eq_r6 F x0 x1 x5 K = drawK Try.prog TryG (haruspexref1_Eq_env F) Try.f17.ntmps (opsOf Try.f17 6) (bef (opsOf Try.f17 6)) [0, 1, 2, 3, 4, 5, 6, 7, 8] [] [(5, x5), (1, x1), (0, x0)] fun Γ => appK [0, 1, 5, 25] Γ K := by kernel_rfl

theorem haruspexref1_Eq_r6_good : goodOrder (opsOf Try.f17 6) [0, 1, 2, 3, 4, 5, 6, 7, 8] = true := by kernel_rfl

def haruspexref1_Eq_r4 (F : Nat) (x0 x1 x5 : Value) (K : Value → Value → Value → Value → M Value) : M Value :=
  bnd (opLen x0) fun v13 => bnd (opBin .lss x5 v13) fun v14 => K x0 x1 x5 v14

theorem haruspexref1_Eq_r4_ok (F : Nat) (x0 x1 x5 : Value) (K : Value → Value → Value → Value → M Value) : haruspexref1_Eq_r4 F x0 x1 x5 K = runK Try.prog TryG (haruspexref1_Eq_env F) Try.f17.ntmps (opsOf Try.f17 4) (List.range (opsOf Try.f17 4).size) [(5, x5), (1, x1), (0, x0)] fun Γ => appK [0, 1, 5, 14] Γ K := by kernel_rfl

def haruspexref1_Eq_b1 (F : Nat) (E1_0 : M Value) (A1 : Value → Value → Value → M Value) (x0 x1 x5 : Value) : M Value :=
  haruspexref1_Eq_r4 F x0 x1 x5 (fun x0 x1 x5 x14 => onB x14 (haruspexref1_Eq_r6 F x0 x1 x5 (fun x0 x1 x5 x25 => onB x25 (haruspexref1_Eq_r7 F (fun x4 => ret x4)) (haruspexref1_Eq_r5 F x0 x1 x5 (fun x0 x1 x5 => A1 x0 x1 x5)))) (E1_0 ))

def haruspexref1_Eq_l1 (F : Nat) (E1_0 : M Value) : Nat → Value → Value → Value → M Value
  | 0, _, _, _ => fail
  | k1 + 1, x0, x1, x5 => haruspexref1_Eq_b1 F E1_0 (haruspexref1_Eq_l1 F E1_0 k1) x0 x1 x5

theorem haruspexref1_Eq_l1_s (F : Nat) (E1_0 : M Value) (k1 : Nat) (x0 x1 x5 : Value) : haruspexref1_Eq_l1 F E1_0 (k1 + 1) x0 x1 x5 = haruspexref1_Eq_b1 F E1_0 (haruspexref1_Eq_l1 F E1_0 k1) x0 x1 x5 := rfl

def haruspexref1_Eq_r3 (F : Nat) (x0 x1 : Value) (K : Value → Value → Value → M Value) : M Value :=
  K x0 x1 (.int .i64 (0))

theorem haruspexref1_Eq_r3_ok (F : Nat) (x0 x1 : Value) (K : Value → Value → Value → M Value) : haruspexref1_Eq_r3 F x0 x1 K = runK Try.prog TryG (haruspexref1_Eq_env F) Try.f17.ntmps (opsOf Try.f17 3) (List.range (opsOf Try.f17 3).size) [(1, x1), (0, x0)] fun Γ => appK [0, 1, 5] Γ K := by kernel_rfl

def haruspexref1_Eq_r2 (F : Nat) (K : Value → M Value) : M Value :=
  K (.bool false)

theorem haruspexref1_Eq_r2_ok (F : Nat) (K : Value → M Value) : haruspexref1_Eq_r2 F K = runK Try.prog TryG (haruspexref1_Eq_env F) Try.f17.ntmps (opsOf Try.f17 2) (List.range (opsOf Try.f17 2).size) [] fun Γ => appK [4] Γ K := by kernel_rfl

def haruspexref1_Eq_r1 (F : Nat) (x0 x1 : Value) (K : Value → Value → Value → M Value) : M Value :=
  bnd (opLen x0) fun v7 => bnd (opLen x1) fun v9 => bnd (opBin .neq v7 v9) fun v10 => K x0 x1 v10

theorem haruspexref1_Eq_r1_ok (F : Nat) (x0 x1 : Value) (K : Value → Value → Value → M Value) : haruspexref1_Eq_r1 F x0 x1 K = runK Try.prog TryG (haruspexref1_Eq_env F) Try.f17.ntmps (opsOf Try.f17 1) (List.range (opsOf Try.f17 1).size) [(1, x1), (0, x0)] fun Γ => appK [0, 1, 10] Γ K := by kernel_rfl

def haruspexref1_Eq_r0 (F : Nat) (x0 x1 : Value) (K : Value → Value → M Value) : M Value :=
  K x0 x1

theorem haruspexref1_Eq_r0_ok (F : Nat) (x0 x1 : Value) (K : Value → Value → M Value) : haruspexref1_Eq_r0 F x0 x1 K = runK Try.prog TryG (haruspexref1_Eq_env F) Try.f17.ntmps (opsOf Try.f17 0) (List.range (opsOf Try.f17 0).size) [(1, x1), (0, x0)] fun Γ => appK [0, 1] Γ K := by kernel_rfl

def haruspexref1_Eq (F : Nat) (x0 x1 : Value) : M Value :=
  haruspexref1_Eq_r0 F x0 x1 (fun x0 x1 => haruspexref1_Eq_r1 F x0 x1 (fun x0 x1 x10 => onB x10 (haruspexref1_Eq_r2 F (fun x4 => ret x4)) (haruspexref1_Eq_r3 F x0 x1 (fun x0 x1 x5 => haruspexref1_Eq_l1 F (haruspexref1_Eq_k0 F ) F x0 x1 x5))))

def haruspexref1_Eq_m (F : Nat) : List Value → M Value
  | [x0, x1] => haruspexref1_Eq F x0 x1
  | _ => fail

theorem haruspexref1_Eq_body : Try.f17.body = some (.seq (.region 0 (opsOf Try.f17 0) false) (.seq (.seq (.region 1 (opsOf Try.f17 1) false) (.cond (.tmp 10) (.seq (.region 2 (opsOf Try.f17 2) false) .ret) .skip)) (.seq (.seq (.region 3 (opsOf Try.f17 3) false) (.block 0 (.loop (.seq (.seq (.region 4 (opsOf Try.f17 4) false) (.cond (.tmp 14) .skip (.exit 0))) (.seq (.block 1 (.seq (.region 6 (opsOf Try.f17 6) true) (.cond (.tmp 25) (.seq (.region 7 (opsOf Try.f17 7) false) .ret) .skip))) (.region 5 (opsOf Try.f17 5) false)))))) (.seq (.region 8 (opsOf Try.f17 8) false) .ret)))) := by kernel_rfl

theorem haruspexref1_Eq_ok (F : Nat) : Sim Try.prog TryG 17 (haruspexref1_Eq_m F) := by
  have hE : EnvOK Try.prog TryG (haruspexref1_Eq_env F) := EnvOK.nil
  refine Sim.of_body (E := haruspexref1_Eq_env F) Try.func17 haruspexref1_Eq_body Try.call17 ?_ ?_
  · intro args hl; unfold haruspexref1_Eq_m; split
    · exact absurd hl (Nat.not_lt.2 (Nat.le_of_ble_eq_true rfl))
    · rfl
  · intro args ρ h w z; unfold haruspexref1_Eq_m; split
    · rename_i x0 x1; show OKc _ _ [(0, x0), (1, x1)] _ _
      refine rSeq ?_
      refine cLess [1, 0] ?_
      refine xRegion hE [0, 1] (haruspexref1_Eq_r0_ok F _ _ _) ?_
      intro x0 x1
      show OKq _ _ _ [(1, x1), (0, x0)] _
      refine rThen ?_
      refine rSeq ?_
      refine rSeq ?_
      refine cLess [1, 0] ?_
      refine xRegion hE [0, 1, 10] (haruspexref1_Eq_r1_ok F _ _ _) ?_
      intro x0 x1 x10
      show OKq _ _ _ [(10, x10), (1, x1), (0, x0)] _
      refine rThen ?_
      refine xCond rfl rfl ?_ ?_
      · refine rSeq ?_
        refine cLess [] ?_
        refine xRegion hE [4] (haruspexref1_Eq_r2_ok F _) ?_
        intro x4
        show OKq _ _ _ [(4, x4)] _
        refine rThen ?_
        refine rRet ?_
        refine xThenR ?_
        exact rDone (.inr rfl) rfl
      · refine rSkip ?_
        refine rThen ?_
        refine xSeq [] (haruspexref1_Eq_k0 F ) ?_ fun hj0 => ?_
        · show OKc _ _ [] _ _
          refine rSeq ?_
          refine cLess [] ?_
          refine xRegion hE [4] (haruspexref1_Eq_r8_ok F _) ?_
          intro x4
          show OKq _ _ _ [(4, x4)] _
          refine rThen ?_
          refine rRet ?_
          exact rDone (.inr rfl) rfl
        · refine rSeq ?_
          refine cLess [1, 0] ?_
          refine xRegion hE [0, 1, 5] (haruspexref1_Eq_r3_ok F _ _ _) ?_
          intro x0 x1 x5
          show OKq _ _ _ [(5, x5), (1, x1), (0, x0)] _
          refine rThen ?_
          refine rBlock ?_
          refine cLess [5, 1, 0] ?_
          refine xLoopAt [0, 1, 5] [] (fun k1 => haruspexref1_Eq_l1 F (haruspexref1_Eq_k0 F ) k1) F [x0, x1, x5] rfl rfl (fun _ _ _ => rfl) fun I hI1 k1 => ?_
          intro x0 x1 x5
          show OKc _ _ [(5, x5), (1, x1), (0, x0)] _ _
          refine cAs (haruspexref1_Eq_l1_s F _ _ _ _ _) ?_
          refine rSeq ?_
          refine rSeq ?_
          refine cLess [5, 1, 0] ?_
          refine xRegion hE [0, 1, 5, 14] (haruspexref1_Eq_r4_ok F _ _ _ _) ?_
          intro x0 x1 x5 x14
          show OKq _ _ _ [(14, x14), (5, x5), (1, x1), (0, x0)] _
          refine rThen ?_
          refine xCond rfl rfl ?_ ?_
          · refine rSkip ?_
            refine rThen ?_
            refine rSeq ?_
            refine rBlock ?_
            refine rSeq ?_
            refine cLess [5, 1, 0] ?_
            refine xDraw Trymix hE [0, 1, 5, 25] haruspexref1_Eq_r6_good (haruspexref1_Eq_r6_ok F _ _ _ _) ?_
            intro x0 x1 x5 x25
            show OKq _ _ _ [(25, x25), (5, x5), (1, x1), (0, x0)] _
            refine rThen ?_
            refine xCond rfl rfl ?_ ?_
            · refine rSeq ?_
              refine cLess [] ?_
              refine xRegion hE [4] (haruspexref1_Eq_r7_ok F _) ?_
              intro x4
              show OKq _ _ _ [(4, x4)] _
              refine rThen ?_
              refine rRet ?_
              refine xBlockR ?_
              refine xThenR ?_
              refine xThenR ?_
              refine xBlockR ?_
              refine xThenR ?_
              exact rDone (.inr rfl) rfl
            · refine rSkip ?_
              refine xBlockN ?_
              refine rThen ?_
              refine cLess [5, 1, 0] ?_
              refine xRegion hE [0, 1, 5] (haruspexref1_Eq_r5_ok F _ _ _ _) ?_
              intro x0 x1 x5
              show OKq _ _ _ [(5, x5), (1, x1), (0, x0)] _
              exact qLess [5, 1, 0] (hI1 k1 x0 x1 x5)
          · refine rExit ?_
            refine xThenX ?_
            refine xThenX ?_
            refine rOut ?_
            exact qLess [] (hj0 )
    · exact rFail


/-! ### (*haruspex/union.Union).Join -/

def union_Union_Join_env (F : Nat) : Env := envOf [(14, union_Union_Find_m F)]

def union_Union_Join_r5 (F : Nat) (K : Value → M Value) : M Value :=
  K (.bool true)

theorem union_Union_Join_r5_ok (F : Nat) (K : Value → M Value) : union_Union_Join_r5 F K = runK Try.prog TryG (union_Union_Join_env F) Try.f11.ntmps (opsOf Try.f11 5) (List.range (opsOf Try.f11 5).size) [] fun Γ => appK [6] Γ K := by kernel_rfl

def union_Union_Join_r4 (F : Nat) (x0 x7 x8 : Value) (K : M Value) : M Value :=
  bnd (opNil x0) fun v27 => bnd (opFieldAddr 0 v27) fun v28 => bnd (opLoad v28) fun v29 => bnd (opMax [x7, x8]) fun v32 => bnd (opMin [x7, x8]) fun v35 => bnd (opIndexAddr 1 v29 v32) fun v36 => bnd (opStore v36 v35) fun _ => K

theorem union_Union_Join_r4_ok (F : Nat) (x0 x7 x8 : Value) (K : M Value) : union_Union_Join_r4 F x0 x7 x8 K = runK Try.prog TryG (union_Union_Join_env F) Try.f11.ntmps (opsOf Try.f11 4) (List.range (opsOf Try.f11 4).size) [(8, x8), (7, x7), (0, x0)] fun Γ => appK [] Γ K := by kernel_rfl

def union_Union_Join_r3 (F : Nat) (K : Value → M Value) : M Value :=
  K (.bool false)

theorem union_Union_Join_r3_ok (F : Nat) (K : Value → M Value) : union_Union_Join_r3 F K = runK Try.prog TryG (union_Union_Join_env F) Try.f11.ntmps (opsOf Try.f11 3) (List.range (opsOf Try.f11 3).size) [] fun Γ => appK [6] Γ K := by kernel_rfl

def union_Union_Join_r2 (F : Nat) (x0 x7 x8 : Value) (K : Value → Value → Value → Value → M Value) : M Value :=
  bnd (opBin .lss x7 (.int .i64 (0))) fun v16 => onB v16 (K x0 x7 x8 (.bool true)) (bnd (opBin .lss x8 (.int .i64 (0))) fun v19 => onB v19 (K x0 x7 x8 (.bool true)) (bnd (opBin .eql x7 x8) fun v24 => K x0 x7 x8 v24))

theorem union_Union_Join_r2_ok (F : Nat) (x0 x7 x8 : Value) (K : Value → Value → Value → Value → M Value) : union_Union_Join_r2 F x0 x7 x8 K = runK Try.prog TryG (union_Union_Join_env F) Try.f11.ntmps (opsOf Try.f11 2) (List.range (opsOf Try.f11 2).size) [(8, x8), (7, x7), (0, x0)] fun Γ => appK [0, 7, 8, 25] Γ K := by kernel_rfl

def union_Union_Join_r1 (F : Nat) (x0 x1 x2 : Value) (K : Value → Value → Value → M Value) : M Value :=
  bnd (union_Union_Find F x0 x1) fun v11 => bnd (union_Union_Find F x0 x2) fun v14 => K x0 v11 v14

theorem union_Union_Join_r1_ok (F : Nat) (x0 x1 x2 : Value) (K : Value → Value → Value → M Value) : union_Union_Join_r1 F x0 x1 x2 K = runK Try.prog TryG (union_Union_Join_env F) Try.f11.ntmps (opsOf Try.f11 1) (List.range (opsOf Try.f11 1).size) [(2, x2), (1, x1), (0, x0)] fun Γ => appK [0, 7, 8] Γ K := by kernel_rfl

def union_Union_Join_r0 (F : Nat) (x0 x1 x2 : Value) (K : Value → Value → Value → M Value) : M Value :=
  K x0 x1 x2

theorem union_Union_Join_r0_ok (F : Nat) (x0 x1 x2 : Value) (K : Value → Value → Value → M Value) : union_Union_Join_r0 F x0 x1 x2 K = runK Try.prog TryG (union_Union_Join_env F) Try.f11.ntmps (opsOf Try.f11 0) (List.range (opsOf Try.f11 0).size) [(2, x2), (1, x1), (0, x0)] fun Γ => appK [0, 1, 2] Γ K := by kernel_rfl

def union_Union_Join (F : Nat) (x0 x1 x2 : Value) : M Value :=
  union_Union_Join_r0 F x0 x1 x2 (fun x0 x1 x2 => union_Union_Join_r1 F x0 x1 x2 (fun x0 x7 x8 => union_Union_Join_r2 F x0 x7 x8 (fun x0 x7 x8 x25 => onB x25 (union_Union_Join_r3 F (fun x6 => ret x6)) (union_Union_Join_r4 F x0 x7 x8 (union_Union_Join_r5 F (fun x6 => ret x6))))))

def union_Union_Join_m (F : Nat) : List Value → M Value
  | [x0, x1, x2] => union_Union_Join F x0 x1 x2
  | _ => fail

theorem union_Union_Join_body : Try.f11.body = some (.seq (.region 0 (opsOf Try.f11 0) false) (.seq (.region 1 (opsOf Try.f11 1) false) (.seq (.seq (.region 2 (opsOf Try.f11 2) false) (.cond (.tmp 25) (.seq (.region 3 (opsOf Try.f11 3) false) .ret) .skip)) (.seq (.region 4 (opsOf Try.f11 4) false) (.seq (.region 5 (opsOf Try.f11 5) false) .ret))))) := by kernel_rfl

theorem union_Union_Join_ok (F : Nat) : Sim Try.prog TryG 11 (union_Union_Join_m F) := by
  have hE : EnvOK Try.prog TryG (union_Union_Join_env F) := (EnvOK.cons (union_Union_Find_ok F) EnvOK.nil)
  refine Sim.of_body (E := union_Union_Join_env F) Try.func11 union_Union_Join_body Try.call11 ?_ ?_
  · intro args hl; unfold union_Union_Join_m; split
    · exact absurd hl (Nat.not_lt.2 (Nat.le_of_ble_eq_true rfl))
    · rfl
  · intro args ρ h w z; unfold union_Union_Join_m; split
    · rename_i x0 x1 x2; show OKc _ _ [(0, x0), (1, x1), (2, x2)] _ _
      refine rSeq ?_
      refine cLess [2, 1, 0] ?_
      refine xRegion hE [0, 1, 2] (union_Union_Join_r0_ok F _ _ _ _) ?_
      intro x0 x1 x2
      show OKq _ _ _ [(2, x2), (1, x1), (0, x0)] _
      refine rThen ?_
      refine rSeq ?_
      refine cLess [2, 1, 0] ?_
      refine xRegion hE [0, 7, 8] (union_Union_Join_r1_ok F _ _ _ _) ?_
      intro x0 x7 x8
      show OKq _ _ _ [(8, x8), (7, x7), (0, x0)] _
      refine rThen ?_
      refine rSeq ?_
      refine rSeq ?_
      refine cLess [8, 7, 0] ?_
      refine xRegion hE [0, 7, 8, 25] (union_Union_Join_r2_ok F _ _ _ _) ?_
      intro x0 x7 x8 x25
      show OKq _ _ _ [(25, x25), (8, x8), (7, x7), (0, x0)] _
      refine rThen ?_
      refine xCond rfl rfl ?_ ?_
      · refine rSeq ?_
        refine cLess [] ?_
        refine xRegion hE [6] (union_Union_Join_r3_ok F _) ?_
        intro x6
        show OKq _ _ _ [(6, x6)] _
        refine rThen ?_
        refine rRet ?_
        refine xThenR ?_
        exact rDone (.inr rfl) rfl
      · refine rSkip ?_
        refine rThen ?_
        refine rSeq ?_
        refine cLess [8, 7, 0] ?_
        refine xRegion hE [] (union_Union_Join_r4_ok F _ _ _ _) ?_
        show OKq _ _ _ [] _
        refine rThen ?_
        refine rSeq ?_
        refine cLess [] ?_
        refine xRegion hE [6] (union_Union_Join_r5_ok F _) ?_
        intro x6
        show OKq _ _ _ [(6, x6)] _
        refine rThen ?_
        refine rRet ?_
        exact rDone (.inr rfl) rfl
    · exact rFail


/-! ### haruspex/haruspexref1.EqAll -/

def haruspexref1_EqAll_env (F : Nat) : Env := envOf [(17, haruspexref1_Eq_m F)]

def haruspexref1_EqAll_r8 (F : Nat) (K : Value → M Value) : M Value :=
  K (.bool true)

theorem haruspexref1_EqAll_r8_ok (F : Nat) (K : Value → M Value) : haruspexref1_EqAll_r8 F K = runK Try.prog TryG (haruspexref1_EqAll_env F) Try.f12.ntmps (opsOf Try.f12 8) (List.range (opsOf Try.f12 8).size) [] fun Γ => appK [4] Γ K := by kernel_rfl

def haruspexref1_EqAll_k0 (F : Nat) : M Value :=
  haruspexref1_EqAll_r8 F (fun x4 => ret x4)

def haruspexref1_EqAll_r5 (F : Nat) (x0 x1 x5 : Value) (K : Value → Value → Value → M Value) : M Value :=
  bnd (opBin .add x5 (.int .i64 (1))) fun v16 => K x0 x1 v16

theorem haruspexref1_EqAll_r5_ok (F : Nat) (x0 x1 x5 : Value) (K : Value → Value → Value → M Value) : haruspexref1_EqAll_r5 F x0 x1 x5 K = runK Try.prog TryG (haruspexref1_EqAll_env F) Try.f12.ntmps (opsOf Try.f12 5) (List.range (opsOf Try.f12 5).size) [(5, x5), (1, x1), (0, x0)] fun Γ => appK [0, 1, 5] Γ K := by kernel_rfl

def haruspexref1_EqAll_r7 (F : Nat) (K : Value → M Value) : M Value :=
  K (.bool false)

theorem haruspexref1_EqAll_r7_ok (F : Nat) (K : Value → M Value) : haruspexref1_EqAll_r7 F K = runK Try.prog TryG (haruspexref1_EqAll_env F) Try.f12.ntmps (opsOf Try.f12 7) (List.range (opsOf Try.f12 7).size) [] fun Γ => appK [4] Γ K := by kernel_rfl

def haruspexref1_EqAll_r6 (F : Nat) (x0 x1 x5 : Value) (K : Value → Value → Value → Value → M Value) : M Value :=
  bnd (opIndexAddr 1 x0 x5) fun v19 => bnd (opLoad v19) fun v20 => bnd (opIndexAddr 1 x1 x5) fun v23 => bnd (opLoad v23) fun v24 => bnd (haruspexref1_Eq F v20 v24) fun v25 => bnd (opNot v25) fun v26 => K x0 x1 x5 v26

theorem haruspexref1_EqAll_r6_ok (F : Nat) (x0 x1 x5 : Value) (K : Value → Value → Value → Value → M Value) : haruspexref1_EqAll_r6 F x0 x1 x5 K = drawK Try.prog TryG (haruspexref1_EqAll_env F) Try.f12.ntmps (opsOf Try.f12 6) (bef (opsOf Try.f12 6)) [0, 1, 2, 3, 4, 5, 6, 7, 8, 9] [] [(5, x5), (1, x1), (0, x0)] fun Γ => appK [0, 1, 5, 26] Γ K := by kernel_rfl

theorem haruspexref1_EqAll_r6_good : goodOrder (opsOf Try.f12 6) [0, 1, 2, 3, 4, 5, 6, 7, 8, 9] = true := by kernel_rfl

def haruspexref1_EqAll_r4 (F : Nat) (x0 x1 x5 : Value) (K : Value → Value → Value → Value → M Value) : M Value :=
  bnd (opLen x0) fun v13 => bnd (opBin .lss x5 v13) fun v14 => K x0 x1 x5 v14

theorem haruspexref1_EqAll_r4_ok (F : Nat) (x0 x1 x5 : Value) (K : Value → Value → Value → Value → M Value) : haruspexref1_EqAll_r4 F x0 x1 x5 K = runK Try.prog TryG (haruspexref1_EqAll_env F) Try.f12.ntmps (opsOf Try.f12 4) (List.range (opsOf Try.f12 4).size) [(5, x5), (1, x1), (0, x0)] fun Γ => appK [0, 1, 5, 14] Γ K := by kernel_rfl

def haruspexref1_EqAll_b1 (F : Nat) (E1_0 : M Value) (A1 : Value → Value → Value → M Value) (x0 x1 x5 : Value) : M Value :=
  haruspexref1_EqAll_r4 F x0 x1 x5 (fun x0 x1 x5 x14 => onB x14 (haruspexref1_EqAll_r6 F x0 x1 x5 (fun x0 x1 x5 x26 => onB x26 (haruspexref1_EqAll_r7 F (fun x4 => ret x4)) (haruspexref1_EqAll_r5 F x0 x1 x5 (fun x0 x1 x5 => A1 x0 x1 x5)))) (E1_0 ))

def haruspexref1_EqAll_l1 (F : Nat) (E1_0 : M Value) : Nat → Value → Value → Value → M Value
  | 0, _, _, _ => fail
  | k1 + 1, x0, x1, x5 => haruspexref1_EqAll_b1 F E1_0 (haruspexref1_EqAll_l1 F E1_0 k1) x0 x1 x5

theorem haruspexref1_EqAll_l1_s (F : Nat) (E1_0 : M Value) (k1 : Nat) (x0 x1 x5 : Value) : haruspexref1_EqAll_l1 F E1_0 (k1 + 1) x0 x1 x5 = haruspexref1_EqAll_b1 F E1_0 (haruspexref1_EqAll_l1 F E1_0 k1) x0 x1 x5 := rfl

def haruspexref1_EqAll_r3 (F : Nat) (x0 x1 : Value) (K : Value → Value → Value → M Value) : M Value :=
  K x0 x1 (.int .i64 (0))

theorem haruspexref1_EqAll_r3_ok (F : Nat) (x0 x1 : Value) (K : Value → Value → Value → M Value) : haruspexref1_EqAll_r3 F x0 x1 K = runK Try.prog TryG (haruspexref1_EqAll_env F) Try.f12.ntmps (opsOf Try.f12 3) (List.range (opsOf Try.f12 3).size) [(1, x1), (0, x0)] fun Γ => appK [0, 1, 5] Γ K := by kernel_rfl

def haruspexref1_EqAll_r2 (F : Nat) (K : Value → M Value) : M Value :=
  K (.bool false)

theorem haruspexref1_EqAll_r2_ok (F : Nat) (K : Value → M Value) : haruspexref1_EqAll_r2 F K = runK Try.prog TryG (haruspexref1_EqAll_env F) Try.f12.ntmps (opsOf Try.f12 2) (List.range (opsOf Try.f12 2).size) [] fun Γ => appK [4] Γ K := by kernel_rfl

def haruspexref1_EqAll_r1 (F : Nat) (x0 x1 : Value) (K : Value → Value → Value → M Value) : M Value :=
  bnd (opLen x0) fun v7 => bnd (opLen x1) fun v9 => bnd (opBin .neq v7 v9) fun v10 => K x0 x1 v10

theorem haruspexref1_EqAll_r1_ok (F : Nat) (x0 x1 : Value) (K : Value → Value → Value → M Value) : haruspexref1_EqAll_r1 F x0 x1 K = runK Try.prog TryG (haruspexref1_EqAll_env F) Try.f12.ntmps (opsOf Try.f12 1) (List.range (opsOf Try.f12 1).size) [(1, x1), (0, x0)] fun Γ => appK [0, 1, 10] Γ K := by kernel_rfl

def haruspexref1_EqAll_r0 (F : Nat) (x0 x1 : Value) (K : Value → Value → M Value) : M Value :=
  K x0 x1

theorem haruspexref1_EqAll_r0_ok (F : Nat) (x0 x1 : Value) (K : Value → Value → M Value) : haruspexref1_EqAll_r0 F x0 x1 K = runK Try.prog TryG (haruspexref1_EqAll_env F) Try.f12.ntmps (opsOf Try.f12 0) (List.range (opsOf Try.f12 0).size) [(1, x1), (0, x0)] fun Γ => appK [0, 1] Γ K := by kernel_rfl

def haruspexref1_EqAll (F : Nat) (x0 x1 : Value) : M Value :=
  haruspexref1_EqAll_r0 F x0 x1 (fun x0 x1 => haruspexref1_EqAll_r1 F x0 x1 (fun x0 x1 x10 => onB x10 (haruspexref1_EqAll_r2 F (fun x4 => ret x4)) (haruspexref1_EqAll_r3 F x0 x1 (fun x0 x1 x5 => haruspexref1_EqAll_l1 F (haruspexref1_EqAll_k0 F ) F x0 x1 x5))))

def haruspexref1_EqAll_m (F : Nat) : List Value → M Value
  | [x0, x1] => haruspexref1_EqAll F x0 x1
  | _ => fail

theorem haruspexref1_EqAll_body : Try.f12.body = some (.seq (.region 0 (opsOf Try.f12 0) false) (.seq (.seq (.region 1 (opsOf Try.f12 1) false) (.cond (.tmp 10) (.seq (.region 2 (opsOf Try.f12 2) false) .ret) .skip)) (.seq (.seq (.region 3 (opsOf Try.f12 3) false) (.block 0 (.loop (.seq (.seq (.region 4 (opsOf Try.f12 4) false) (.cond (.tmp 14) .skip (.exit 0))) (.seq (.block 1 (.seq (.region 6 (opsOf Try.f12 6) true) (.cond (.tmp 26) (.seq (.region 7 (opsOf Try.f12 7) false) .ret) .skip))) (.region 5 (opsOf Try.f12 5) false)))))) (.seq (.region 8 (opsOf Try.f12 8) false) .ret)))) := by kernel_rfl

theorem haruspexref1_EqAll_ok (F : Nat) : Sim Try.prog TryG 12 (haruspexref1_EqAll_m F) := by
  have hE : EnvOK Try.prog TryG (haruspexref1_EqAll_env F) := (EnvOK.cons (haruspexref1_Eq_ok F) EnvOK.nil)
  refine Sim.of_body (E := haruspexref1_EqAll_env F) Try.func12 haruspexref1_EqAll_body Try.call12 ?_ ?_
  · intro args hl; unfold haruspexref1_EqAll_m; split
    · exact absurd hl (Nat.not_lt.2 (Nat.le_of_ble_eq_true rfl))
    · rfl
  · intro args ρ h w z; unfold haruspexref1_EqAll_m; split
    · rename_i x0 x1; show OKc _ _ [(0, x0), (1, x1)] _ _
      refine rSeq ?_
      refine cLess [1, 0] ?_
      refine xRegion hE [0, 1] (haruspexref1_EqAll_r0_ok F _ _ _) ?_
      intro x0 x1
      show OKq _ _ _ [(1, x1), (0, x0)] _
      refine rThen ?_
      refine rSeq ?_
      refine rSeq ?_
      refine cLess [1, 0] ?_
      refine xRegion hE [0, 1, 10] (haruspexref1_EqAll_r1_ok F _ _ _) ?_
      intro x0 x1 x10
      show OKq _ _ _ [(10, x10), (1, x1), (0, x0)] _
      refine rThen ?_
      refine xCond rfl rfl ?_ ?_
      · refine rSeq ?_
        refine cLess [] ?_
        refine xRegion hE [4] (haruspexref1_EqAll_r2_ok F _) ?_
        intro x4
        show OKq _ _ _ [(4, x4)] _
        refine rThen ?_
        refine rRet ?_
        refine xThenR ?_
        exact rDone (.inr rfl) rfl
      · refine rSkip ?_
        refine rThen ?_
        refine xSeq [] (haruspexref1_EqAll_k0 F ) ?_ fun hj0 => ?_
        · show OKc _ _ [] _ _
          refine rSeq ?_
          refine cLess [] ?_
          refine xRegion hE [4] (haruspexref1_EqAll_r8_ok F _) ?_
          intro x4
          show OKq _ _ _ [(4, x4)] _
          refine rThen ?_
          refine rRet ?_
          exact rDone (.inr rfl) rfl
        · refine rSeq ?_
          refine cLess [1, 0] ?_
          refine xRegion hE [0, 1, 5] (haruspexref1_EqAll_r3_ok F _ _ _) ?_
          intro x0 x1 x5
          show OKq _ _ _ [(5, x5), (1, x1), (0, x0)] _
          refine rThen ?_
          refine rBlock ?_
          refine cLess [5, 1, 0] ?_
          refine xLoopAt [0, 1, 5] [] (fun k1 => haruspexref1_EqAll_l1 F (haruspexref1_EqAll_k0 F ) k1) F [x0, x1, x5] rfl rfl (fun _ _ _ => rfl) fun I hI1 k1 => ?_
          intro x0 x1 x5
          show OKc _ _ [(5, x5), (1, x1), (0, x0)] _ _
          refine cAs (haruspexref1_EqAll_l1_s F _ _ _ _ _) ?_
          refine rSeq ?_
          refine rSeq ?_
          refine cLess [5, 1, 0] ?_
          refine xRegion hE [0, 1, 5, 14] (haruspexref1_EqAll_r4_ok F _ _ _ _) ?_
          intro x0 x1 x5 x14
          show OKq _ _ _ [(14, x14), (5, x5), (1, x1), (0, x0)] _
          refine rThen ?_
          refine xCond rfl rfl ?_ ?_
          · refine rSkip ?_
            refine rThen ?_
            refine rSeq ?_
            refine rBlock ?_
            refine rSeq ?_
            refine cLess [5, 1, 0] ?_
            refine xDraw Trymix hE [0, 1, 5, 26] haruspexref1_EqAll_r6_good (haruspexref1_EqAll_r6_ok F _ _ _ _) ?_
            intro x0 x1 x5 x26
            show OKq _ _ _ [(26, x26), (5, x5), (1, x1), (0, x0)] _
            refine rThen ?_
            refine xCond rfl rfl ?_ ?_
            · refine rSeq ?_
              refine cLess [] ?_
              refine xRegion hE [4] (haruspexref1_EqAll_r7_ok F _) ?_
              intro x4
              show OKq _ _ _ [(4, x4)] _
              refine rThen ?_
              refine rRet ?_
              refine xBlockR ?_
              refine xThenR ?_
              refine xThenR ?_
              refine xBlockR ?_
              refine xThenR ?_
              exact rDone (.inr rfl) rfl
            · refine rSkip ?_
              refine xBlockN ?_
              refine rThen ?_
              refine cLess [5, 1, 0] ?_
              refine xRegion hE [0, 1, 5] (haruspexref1_EqAll_r5_ok F _ _ _ _) ?_
              intro x0 x1 x5
              show OKq _ _ _ [(5, x5), (1, x1), (0, x0)] _
              exact qLess [5, 1, 0] (hI1 k1 x0 x1 x5)
          · refine rExit ?_
            refine xThenX ?_
            refine xThenX ?_
            refine rOut ?_
            exact qLess [] (hj0 )
    · exact rFail


/-! ### (*haruspex/union.Union).Groups -/

def union_Union_Groups_env (F : Nat) : Env := envOf [(14, union_Union_Find_m F)]

def union_Union_Groups_r14 (F : Nat) (x3 : Value) (K : Value → M Value) : M Value :=
  K x3

theorem union_Union_Groups_r14_ok (F : Nat) (x3 : Value) (K : Value → M Value) : union_Union_Groups_r14 F x3 K = runK Try.prog TryG (union_Union_Groups_env F) Try.f13.ntmps (opsOf Try.f13 14) (List.range (opsOf Try.f13 14).size) [(3, x3)] fun Γ => appK [2] Γ K := by kernel_rfl

def union_Union_Groups_k0 (F : Nat) (x3 : Value) : M Value :=
  union_Union_Groups_r14 F x3 (fun x2 => ret x2)

def union_Union_Groups_r13 (F : Nat) (x0 x3 x4 x19 x20 : Value) (K : Value → Value → Value → Value → Value → M Value) : M Value :=
  bnd (opBin .add x20 (.int .i64 (1))) fun v53 => K x0 x3 x4 x19 v53

theorem union_Union_Groups_r13_ok (F : Nat) (x0 x3 x4 x19 x20 : Value) (K : Value → Value → Value → Value → Value → M Value) : union_Union_Groups_r13 F x0 x3 x4 x19 x20 K = runK Try.prog TryG (union_Union_Groups_env F) Try.f13.ntmps (opsOf Try.f13 13) (List.range (opsOf Try.f13 13).size) [(20, x20), (19, x19), (4, x4), (3, x3), (0, x0)] fun Γ => appK [0, 3, 4, 19, 20] Γ K := by kernel_rfl

def union_Union_Groups_r12 (F : Nat) (x0 x3 x4 x5 x6 x19 x20 : Value) (K : Value → Value → Value → Value → Value → M Value) : M Value :=
  bnd (opIndexAddr 1 x4 x6) fun v40 => bnd (opLoad v40) fun v41 => bnd (opIndexAddr 1 x4 x6) fun v45 => bnd (opLoad v45) fun v46 => bnd (opIndexAddr 1 x3 v46) fun v47 => bnd (opLoad v47) fun v48 => bnd (opBuildSlice 1 (rep 1 [(.int .i64 (0))]) [(0, 1, false, x5)]) fun v50 => bnd (opAppend 1 8 v48 v50) fun v51 => bnd (opChk false v40 v41) fun _ => bnd (opIndexAddr 1 x3 v41) fun v52 => bnd (opStore v52 v51) fun _ => K x0 x3 x4 x19 x20

theorem union_Union_Groups_r12_ok (F : Nat) (x0 x3 x4 x5 x6 x19 x20 : Value) (K : Value → Value → Value → Value → Value → M Value) : union_Union_Groups_r12 F x0 x3 x4 x5 x6 x19 x20 K = drawK Try.prog TryG (union_Union_Groups_env F) Try.f13.ntmps (opsOf Try.f13 12) (bef (opsOf Try.f13 12)) [0, 1, 2, 3, 4, 5, 6, 7, 8, 9, 10, 11, 12, 13, 14, 15, 16] [] [(20, x20), (19, x19), (6, x6), (5, x5), (4, x4), (3, x3), (0, x0)] fun Γ => appK [0, 3, 4, 19, 20] Γ K := by kernel_rfl

theorem union_Union_Groups_r12_good : goodOrder (opsOf Try.f13 12) [0, 1, 2, 3, 4, 5, 6, 7, 8, 9, 10, 11, 12, 13, 14, 15, 16] = true := by kernel_rfl

def union_Union_Groups_k2 (F : Nat) (A1 : Value → Value → Value → Value → Value → M Value) (x0 x3 x4 x5 x6 x19 x20 : Value) : M Value :=
  union_Union_Groups_r12 F x0 x3 x4 x5 x6 x19 x20 (fun x0 x3 x4 x19 x20 => union_Union_Groups_r13 F x0 x3 x4 x19 x20 (fun x0 x3 x4 x19 x20 => A1 x0 x3 x4 x19 x20))

def union_Union_Groups_r11 (F : Nat) (x0 x3 x4 x5 x6 x19 x20 : Value) (K : Value → Value → Value → Value → Value → Value → Value → M Value) : M Value :=
  bnd (opBuildSlice 1 (rep 1 [(.slice none 0 0)]) [(0, 1, false, (.slice none 0 0))]) fun v35 => bnd (opAppend 1 24 x3 v35) fun v36 => K x0 v36 x4 x5 x6 x19 x20

theorem union_Union_Groups_r11_ok (F : Nat) (x0 x3 x4 x5 x6 x19 x20 : Value) (K : Value → Value → Value → Value → Value → Value → Value → M Value) : union_Union_Groups_r11 F x0 x3 x4 x5 x6 x19 x20 K = runK Try.prog TryG (union_Union_Groups_env F) Try.f13.ntmps (opsOf Try.f13 11) (List.range (opsOf Try.f13 11).size) [(20, x20), (19, x19), (6, x6), (5, x5), (4, x4), (3, x3), (0, x0)] fun Γ => appK [0, 3, 4, 5, 6, 19, 20] Γ K := by kernel_rfl

def union_Union_Groups_r10 (F : Nat) (x0 x3 x4 x5 x6 x19 x20 : Value) (K : Value → Value → Value → Value → Value → Value → Value → M Value) : M Value :=
  bnd (opLen x3) fun v32 => bnd (opIndexAddr 1 x4 x5) fun v33 => bnd (opStore v33 v32) fun _ => K x0 x3 x4 x5 x6 x19 x20

theorem union_Union_Groups_r10_ok (F : Nat) (x0 x3 x4 x5 x6 x19 x20 : Value) (K : Value → Value → Value → Value → Value → Value → Value → M Value) : union_Union_Groups_r10 F x0 x3 x4 x5 x6 x19 x20 K = runK Try.prog TryG (union_Union_Groups_env F) Try.f13.ntmps (opsOf Try.f13 10) (List.range (opsOf Try.f13 10).size) [(20, x20), (19, x19), (6, x6), (5, x5), (4, x4), (3, x3), (0, x0)] fun Γ => appK [0, 3, 4, 5, 6, 19, 20] Γ K := by kernel_rfl

def union_Union_Groups_r9 (F : Nat) (x0 x3 x4 x5 x6 x19 x20 : Value) (K : Value → Value → Value → Value → Value → Value → Value → Value → M Value) : M Value :=
  bnd (opBin .eql x6 x5) fun v28 => K x0 x3 x4 x5 x6 x19 x20 v28

theorem union_Union_Groups_r9_ok (F : Nat) (x0 x3 x4 x5 x6 x19 x20 : Value) (K : Value → Value → Value → Value → Value → Value → Value → Value → M Value) : union_Union_Groups_r9 F x0 x3 x4 x5 x6 x19 x20 K = runK Try.prog TryG (union_Union_Groups_env F) Try.f13.ntmps (opsOf Try.f13 9) (List.range (opsOf Try.f13 9).size) [(20, x20), (19, x19), (6, x6), (5, x5), (4, x4), (3, x3), (0, x0)] fun Γ => appK [0, 3, 4, 5, 6, 19, 20, 28] Γ K := by kernel_rfl

def union_Union_Groups_r8 (F : Nat) (x0 x3 x4 x5 x19 x20 : Value) (K : Value → Value → Value → Value → Value → Value → Value → M Value) : M Value :=
  bnd (union_Union_Find F x0 x5) fun v25 => K x0 x3 x4 x5 v25 x19 x20

theorem union_Union_Groups_r8_ok (F : Nat) (x0 x3 x4 x5 x19 x20 : Value) (K : Value → Value → Value → Value → Value → Value → Value → M Value) : union_Union_Groups_r8 F x0 x3 x4 x5 x19 x20 K = runK Try.prog TryG (union_Union_Groups_env F) Try.f13.ntmps (opsOf Try.f13 8) (List.range (opsOf Try.f13 8).size) [(20, x20), (19, x19), (5, x5), (4, x4), (3, x3), (0, x0)] fun Γ => appK [0, 3, 4, 5, 6, 19, 20] Γ K := by kernel_rfl

def union_Union_Groups_r7 (F : Nat) (x0 x3 x4 x19 x20 : Value) (K : Value → Value → Value → Value → Value → Value → M Value) : M Value :=
  K x0 x3 x4 x20 x19 x20

theorem union_Union_Groups_r7_ok (F : Nat) (x0 x3 x4 x19 x20 : Value) (K : Value → Value → Value → Value → Value → Value → M Value) : union_Union_Groups_r7 F x0 x3 x4 x19 x20 K = runK Try.prog TryG (union_Union_Groups_env F) Try.f13.ntmps (opsOf Try.f13 7) (List.range (opsOf Try.f13 7).size) [(20, x20), (19, x19), (4, x4), (3, x3), (0, x0)] fun Γ => appK [0, 3, 4, 5, 19, 20] Γ K := by kernel_rfl

def union_Union_Groups_r6 (F : Nat) (x0 x3 x4 x19 x20 : Value) (K : Value → Value → Value → Value → Value → Value → M Value) : M Value :=
  bnd (opBin .lss x20 x19) fun v21 => K x0 x3 x4 x19 x20 v21

theorem union_Union_Groups_r6_ok (F : Nat) (x0 x3 x4 x19 x20 : Value) (K : Value → Value → Value → Value → Value → Value → M Value) : union_Union_Groups_r6 F x0 x3 x4 x19 x20 K = runK Try.prog TryG (union_Union_Groups_env F) Try.f13.ntmps (opsOf Try.f13 6) (List.range (opsOf Try.f13 6).size) [(20, x20), (19, x19), (4, x4), (3, x3), (0, x0)] fun Γ => appK [0, 3, 4, 19, 20, 21] Γ K := by kernel_rfl

def union_Union_Groups_b1 (F : Nat) (E1_0 : Value → M Value) (A1 : Value → Value → Value → Value → Value → M Value) (x0 x3 x4 x19 x20 : Value) : M Value :=
  union_Union_Groups_r6 F x0 x3 x4 x19 x20 (fun x0 x3 x4 x19 x20 x21 => onB x21 (union_Union_Groups_r7 F x0 x3 x4 x19 x20 (fun x0 x3 x4 x5 x19 x20 => union_Union_Groups_r8 F x0 x3 x4 x5 x19 x20 (fun x0 x3 x4 x5 x6 x19 x20 => union_Union_Groups_r9 F x0 x3 x4 x5 x6 x19 x20 (fun x0 x3 x4 x5 x6 x19 x20 x28 => onB x28 (union_Union_Groups_r10 F x0 x3 x4 x5 x6 x19 x20 (fun x0 x3 x4 x5 x6 x19 x20 => union_Union_Groups_r11 F x0 x3 x4 x5 x6 x19 x20 (fun x0 x3 x4 x5 x6 x19 x20 => union_Union_Groups_k2 F A1 x0 x3 x4 x5 x6 x19 x20))) (union_Union_Groups_k2 F A1 x0 x3 x4 x5 x6 x19 x20))))) (E1_0 x3))

def union_Union_Groups_l1 (F : Nat) (E1_0 : Value → M Value) : Nat → Value → Value → Value → Value → Value → M Value
  | 0, _, _, _, _, _ => fail
  | k1 + 1, x0, x3, x4, x19, x20 => union_Union_Groups_b1 F E1_0 (union_Union_Groups_l1 F E1_0 k1) x0 x3 x4 x19 x20

theorem union_Union_Groups_l1_s (F : Nat) (E1_0 : Value → M Value) (k1 : Nat) (x0 x3 x4 x19 x20 : Value) : union_Union_Groups_l1 F E1_0 (k1 + 1) x0 x3 x4 x19 x20 = union_Union_Groups_b1 F E1_0 (union_Union_Groups_l1 F E1_0 k1) x0 x3 x4 x19 x20 := rfl

def union_Union_Groups_r5 (F : Nat) (x0 x3 x4 : Value) (K : Value → Value → Value → Value → Value → M Value) : M Value :=
  bnd (opNil x0) fun v16 => bnd (opFieldAddr 0 v16) fun v17 => bnd (opLoad v17) fun v18 => bnd (opLen v18) fun v19 => K x0 x3 x4 v19 (.int .i64 (0))

theorem union_Union_Groups_r5_ok (F : Nat) (x0 x3 x4 : Value) (K : Value → Value → Value → Value → Value → M Value) : union_Union_Groups_r5 F x0 x3 x4 K = runK Try.prog TryG (union_Union_Groups_env F) Try.f13.ntmps (opsOf Try.f13 5) (List.range (opsOf Try.f13 5).size) [(4, x4), (3, x3), (0, x0)] fun Γ => appK [0, 3, 4, 19, 20] Γ K := by kernel_rfl

def union_Union_Groups_r4 (F : Nat) (x0 x3 : Value) (K : Value → Value → Value → M Value) : M Value :=
  bnd (opNil x0) fun v10 => bnd (opFieldAddr 0 v10) fun v11 => bnd (opLoad v11) fun v12 => bnd (opLen v12) fun v13 => bnd (opMake 8 [(.int .i64 (0))] v13 v13) fun v14 => K x0 x3 v14

theorem union_Union_Groups_r4_ok (F : Nat) (x0 x3 : Value) (K : Value → Value → Value → M Value) : union_Union_Groups_r4 F x0 x3 K = runK Try.prog TryG (union_Union_Groups_env F) Try.f13.ntmps (opsOf Try.f13 4) (List.range (opsOf Try.f13 4).size) [(3, x3), (0, x0)] fun Γ => appK [0, 3, 4] Γ K := by kernel_rfl

def union_Union_Groups_r3 (F : Nat) (x0 : Value) (K : Value → Value → M Value) : M Value :=
  K x0 (.slice none 0 0)

theorem union_Union_Groups_r3_ok (F : Nat) (x0 : Value) (K : Value → Value → M Value) : union_Union_Groups_r3 F x0 K = runK Try.prog TryG (union_Union_Groups_env F) Try.f13.ntmps (opsOf Try.f13 3) (List.range (opsOf Try.f13 3).size) [(0, x0)] fun Γ => appK [0, 3] Γ K := by kernel_rfl

def union_Union_Groups_r2 (F : Nat) (K : Value → M Value) : M Value :=
  K (.slice none 0 0)

theorem union_Union_Groups_r2_ok (F : Nat) (K : Value → M Value) : union_Union_Groups_r2 F K = runK Try.prog TryG (union_Union_Groups_env F) Try.f13.ntmps (opsOf Try.f13 2) (List.range (opsOf Try.f13 2).size) [] fun Γ => appK [2] Γ K := by kernel_rfl

def union_Union_Groups_r1 (F : Nat) (x0 : Value) (K : Value → Value → M Value) : M Value :=
  bnd (opEq eqP false x0 (.pointer none)) fun v8 => K x0 v8

theorem union_Union_Groups_r1_ok (F : Nat) (x0 : Value) (K : Value → Value → M Value) : union_Union_Groups_r1 F x0 K = runK Try.prog TryG (union_Union_Groups_env F) Try.f13.ntmps (opsOf Try.f13 1) (List.range (opsOf Try.f13 1).size) [(0, x0)] fun Γ => appK [0, 8] Γ K := by kernel_rfl

def union_Union_Groups_r0 (F : Nat) (x0 : Value) (K : Value → M Value) : M Value :=
  K x0

theorem union_Union_Groups_r0_ok (F : Nat) (x0 : Value) (K : Value → M Value) : union_Union_Groups_r0 F x0 K = runK Try.prog TryG (union_Union_Groups_env F) Try.f13.ntmps (opsOf Try.f13 0) (List.range (opsOf Try.f13 0).size) [(0, x0)] fun Γ => appK [0] Γ K := by kernel_rfl

def union_Union_Groups (F : Nat) (x0 : Value) : M Value :=
  union_Union_Groups_r0 F x0 (fun x0 => union_Union_Groups_r1 F x0 (fun x0 x8 => onB x8 (union_Union_Groups_r2 F (fun x2 => ret x2)) (union_Union_Groups_r3 F x0 (fun x0 x3 => union_Union_Groups_r4 F x0 x3 (fun x0 x3 x4 => union_Union_Groups_r5 F x0 x3 x4 (fun x0 x3 x4 x19 x20 => union_Union_Groups_l1 F (fun x3 => union_Union_Groups_k0 F x3) F x0 x3 x4 x19 x20))))))

def union_Union_Groups_m (F : Nat) : List Value → M Value
  | [x0] => union_Union_Groups F x0
  | _ => fail

theorem union_Union_Groups_body : Try.f13.body = some (.seq (.region 0 (opsOf Try.f13 0) false) (.seq (.seq (.region 1 (opsOf Try.f13 1) false) (.cond (.tmp 8) (.seq (.region 2 (opsOf Try.f13 2) false) .ret) .skip)) (.seq (.region 3 (opsOf Try.f13 3) false) (.seq (.region 4 (opsOf Try.f13 4) false) (.seq (.seq (.region 5 (opsOf Try.f13 5) false) (.block 0 (.loop (.seq (.region 6 (opsOf Try.f13 6) false) (.seq (.cond (.tmp 21) .skip (.exit 0)) (.seq (.block 1 (.seq (.region 7 (opsOf Try.f13 7) false) (.seq (.region 8 (opsOf Try.f13 8) false) (.seq (.seq (.region 9 (opsOf Try.f13 9) false) (.cond (.tmp 28) (.seq (.region 10 (opsOf Try.f13 10) false) (.region 11 (opsOf Try.f13 11) false)) .skip)) (.region 12 (opsOf Try.f13 12) true))))) (.region 13 (opsOf Try.f13 13) false))))))) (.seq (.region 14 (opsOf Try.f13 14) false) .ret)))))) := by kernel_rfl

theorem union_Union_Groups_ok (F : Nat) : Sim Try.prog TryG 13 (union_Union_Groups_m F) := by
  have hE : EnvOK Try.prog TryG (union_Union_Groups_env F) := (EnvOK.cons (union_Union_Find_ok F) EnvOK.nil)
  refine Sim.of_body (E := union_Union_Groups_env F) Try.func13 union_Union_Groups_body Try.call13 ?_ ?_
  · intro args hl; unfold union_Union_Groups_m; split
    · exact absurd hl (Nat.not_lt.2 (Nat.le_of_ble_eq_true rfl))
    · rfl
  · intro args ρ h w z; unfold union_Union_Groups_m; split
    · rename_i x0; show OKc _ _ [(0, x0)] _ _
      refine rSeq ?_
      refine cLess [0] ?_
      refine xRegion hE [0] (union_Union_Groups_r0_ok F _ _) ?_
      intro x0
      show OKq _ _ _ [(0, x0)] _
      refine rThen ?_
      refine rSeq ?_
      refine rSeq ?_
      refine cLess [0] ?_
      refine xRegion hE [0, 8] (union_Union_Groups_r1_ok F _ _) ?_
      intro x0 x8
      show OKq _ _ _ [(8, x8), (0, x0)] _
      refine rThen ?_
      refine xCond rfl rfl ?_ ?_
      · refine rSeq ?_
        refine cLess [] ?_
        refine xRegion hE [2] (union_Union_Groups_r2_ok F _) ?_
        intro x2
        show OKq _ _ _ [(2, x2)] _
        refine rThen ?_
        refine rRet ?_
        refine xThenR ?_
        exact rDone (.inr rfl) rfl
      · refine rSkip ?_
        refine rThen ?_
        refine rSeq ?_
        refine cLess [0] ?_
        refine xRegion hE [0, 3] (union_Union_Groups_r3_ok F _ _) ?_
        intro x0 x3
        show OKq _ _ _ [(3, x3), (0, x0)] _
        refine rThen ?_
        refine rSeq ?_
        refine cLess [3, 0] ?_
        refine xRegion hE [0, 3, 4] (union_Union_Groups_r4_ok F _ _ _) ?_
        intro x0 x3 x4
        show OKq _ _ _ [(4, x4), (3, x3), (0, x0)] _
        refine rThen ?_
        refine xSeq [3] (union_Union_Groups_k0 F ) ?_ fun hj0 => ?_
        · intro x3
          show OKc _ _ [(3, x3)] _ _
          refine rSeq ?_
          refine cLess [3] ?_
          refine xRegion hE [2] (union_Union_Groups_r14_ok F _ _) ?_
          intro x2
          show OKq _ _ _ [(2, x2)] _
          refine rThen ?_
          refine rRet ?_
          exact rDone (.inr rfl) rfl
        · refine rSeq ?_
          refine cLess [4, 3, 0] ?_
          refine xRegion hE [0, 3, 4, 19, 20] (union_Union_Groups_r5_ok F _ _ _ _) ?_
          intro x0 x3 x4 x19 x20
          show OKq _ _ _ [(20, x20), (19, x19), (4, x4), (3, x3), (0, x0)] _
          refine rThen ?_
          refine rBlock ?_
          refine cLess [20, 19, 4, 3, 0] ?_
          refine xLoopAt [0, 3, 4, 19, 20] [] (fun k1 => union_Union_Groups_l1 F (fun x3 => union_Union_Groups_k0 F x3) k1) F [x0, x3, x4, x19, x20] rfl rfl (fun _ _ _ _ _ => rfl) fun I hI1 k1 => ?_
          intro x0 x3 x4 x19 x20
          show OKc _ _ [(20, x20), (19, x19), (4, x4), (3, x3), (0, x0)] _ _
          refine cAs (union_Union_Groups_l1_s F _ _ _ _ _ _ _) ?_
          refine rSeq ?_
          refine cLess [20, 19, 4, 3, 0] ?_
          refine xRegion hE [0, 3, 4, 19, 20, 21] (union_Union_Groups_r6_ok F _ _ _ _ _ _) ?_
          intro x0 x3 x4 x19 x20 x21
          show OKq _ _ _ [(21, x21), (20, x20), (19, x19), (4, x4), (3, x3), (0, x0)] _
          refine rThen ?_
          refine rSeq ?_
          refine xCond rfl rfl ?_ ?_
          · refine rSkip ?_
            refine rThen ?_
            refine rSeq ?_
            refine rBlock ?_
            refine rSeq ?_
            refine cLess [20, 19, 4, 3, 0] ?_
            refine xRegion hE [0, 3, 4, 5, 19, 20] (union_Union_Groups_r7_ok F _ _ _ _ _ _) ?_
            intro x0 x3 x4 x5 x19 x20
            show OKq _ _ _ [(20, x20), (19, x19), (5, x5), (4, x4), (3, x3), (0, x0)] _
            refine rThen ?_
            refine rSeq ?_
            refine cLess [20, 19, 5, 4, 3, 0] ?_
            refine xRegion hE [0, 3, 4, 5, 6, 19, 20] (union_Union_Groups_r8_ok F _ _ _ _ _ _ _) ?_
            intro x0 x3 x4 x5 x6 x19 x20
            show OKq _ _ _ [(20, x20), (19, x19), (6, x6), (5, x5), (4, x4), (3, x3), (0, x0)] _
            refine rThen ?_
            refine xSeq [0, 3, 4, 5, 6, 19, 20] (union_Union_Groups_k2 F (union_Union_Groups_l1 F (fun x3 => union_Union_Groups_k0 F x3) k1) ) ?_ fun hj2 => ?_
            · intro x0 x3 x4 x5 x6 x19 x20
              show OKc _ _ [(20, x20), (19, x19), (6, x6), (5, x5), (4, x4), (3, x3), (0, x0)] _ _
              refine cLess [20, 19, 6, 5, 4, 3, 0] ?_
              refine xDraw Trymix hE [0, 3, 4, 19, 20] union_Union_Groups_r12_good (union_Union_Groups_r12_ok F _ _ _ _ _ _ _ _) ?_
              intro x0 x3 x4 x19 x20
              show OKq _ _ _ [(20, x20), (19, x19), (4, x4), (3, x3), (0, x0)] _
              refine xBlockN ?_
              refine rThen ?_
              refine cLess [20, 19, 4, 3, 0] ?_
              refine xRegion hE [0, 3, 4, 19, 20] (union_Union_Groups_r13_ok F _ _ _ _ _ _) ?_
              intro x0 x3 x4 x19 x20
              show OKq _ _ _ [(20, x20), (19, x19), (4, x4), (3, x3), (0, x0)] _
              exact qLess [20, 19, 4, 3, 0] (hI1 k1 x0 x3 x4 x19 x20)
            · refine rSeq ?_
              refine cLess [20, 19, 6, 5, 4, 3, 0] ?_
              refine xRegion hE [0, 3, 4, 5, 6, 19, 20, 28] (union_Union_Groups_r9_ok F _ _ _ _ _ _ _ _) ?_
              intro x0 x3 x4 x5 x6 x19 x20 x28
              show OKq _ _ _ [(28, x28), (20, x20), (19, x19), (6, x6), (5, x5), (4, x4), (3, x3), (0, x0)] _
              refine rThen ?_
              refine xCond rfl rfl ?_ ?_
              · refine rSeq ?_
                refine cLess [20, 19, 6, 5, 4, 3, 0] ?_
                refine xRegion hE [0, 3, 4, 5, 6, 19, 20] (union_Union_Groups_r10_ok F _ _ _ _ _ _ _ _) ?_
                intro x0 x3 x4 x5 x6 x19 x20
                show OKq _ _ _ [(20, x20), (19, x19), (6, x6), (5, x5), (4, x4), (3, x3), (0, x0)] _
                refine rThen ?_
                refine cLess [20, 19, 6, 5, 4, 3, 0] ?_
                refine xRegion hE [0, 3, 4, 5, 6, 19, 20] (union_Union_Groups_r11_ok F _ _ _ _ _ _ _ _) ?_
                intro x0 x3 x4 x5 x6 x19 x20
                show OKq _ _ _ [(20, x20), (19, x19), (6, x6), (5, x5), (4, x4), (3, x3), (0, x0)] _
                exact qLess [20, 19, 6, 5, 4, 3, 0] (hj2 x0 x3 x4 x5 x6 x19 x20)
              · refine rSkip ?_
                exact qLess [20, 19, 6, 5, 4, 3, 0] (hj2 x0 x3 x4 x5 x6 x19 x20)
          · refine rExit ?_
            refine xThenX ?_
            refine xThenX ?_
            refine rOut ?_
            exact qLess [3] (hj0 x3)
    · exact rFail


/-! ### (*haruspex/union.Union).Same -/

def union_Union_Same_env (F : Nat) : Env := envOf [(14, union_Union_Find_m F)]

def union_Union_Same_r2 (F : Nat) (x0 x2 x7 : Value) (K : Value → M Value) : M Value :=
  bnd (opBin .geq x7 (.int .i64 (0))) fun v12 => onB v12 (bnd (union_Union_Find F x0 x2) fun v17 => bnd (opBin .eql x7 v17) fun v18 => K v18) (K (.bool false))

theorem union_Union_Same_r2_ok (F : Nat) (x0 x2 x7 : Value) (K : Value → M Value) : union_Union_Same_r2 F x0 x2 x7 K = runK Try.prog TryG (union_Union_Same_env F) Try.f15.ntmps (opsOf Try.f15 2) (List.range (opsOf Try.f15 2).size) [(7, x7), (2, x2), (0, x0)] fun Γ => appK [6] Γ K := by kernel_rfl

def union_Union_Same_r1 (F : Nat) (x0 x1 x2 : Value) (K : Value → Value → Value → M Value) : M Value :=
  bnd (union_Union_Find F x0 x1) fun v10 => K x0 x2 v10

theorem union_Union_Same_r1_ok (F : Nat) (x0 x1 x2 : Value) (K : Value → Value → Value → M Value) : union_Union_Same_r1 F x0 x1 x2 K = runK Try.prog TryG (union_Union_Same_env F) Try.f15.ntmps (opsOf Try.f15 1) (List.range (opsOf Try.f15 1).size) [(2, x2), (1, x1), (0, x0)] fun Γ => appK [0, 2, 7] Γ K := by kernel_rfl

def union_Union_Same_r0 (F : Nat) (x0 x1 x2 : Value) (K : Value → Value → Value → M Value) : M Value :=
  K x0 x1 x2

theorem union_Union_Same_r0_ok (F : Nat) (x0 x1 x2 : Value) (K : Value → Value → Value → M Value) : union_Union_Same_r0 F x0 x1 x2 K = runK Try.prog TryG (union_Union_Same_env F) Try.f15.ntmps (opsOf Try.f15 0) (List.range (opsOf Try.f15 0).size) [(2, x2), (1, x1), (0, x0)] fun Γ => appK [0, 1, 2] Γ K := by kernel_rfl

def union_Union_Same (F : Nat) (x0 x1 x2 : Value) : M Value :=
  union_Union_Same_r0 F x0 x1 x2 (fun x0 x1 x2 => union_Union_Same_r1 F x0 x1 x2 (fun x0 x2 x7 => union_Union_Same_r2 F x0 x2 x7 (fun x6 => ret x6)))

def union_Union_Same_m (F : Nat) : List Value → M Value
  | [x0, x1, x2] => union_Union_Same F x0 x1 x2
  | _ => fail

theorem union_Union_Same_body : Try.f15.body = some (.seq (.region 0 (opsOf Try.f15 0) false) (.seq (.region 1 (opsOf Try.f15 1) false) (.seq (.region 2 (opsOf Try.f15 2) false) .ret))) := by kernel_rfl

theorem union_Union_Same_ok (F : Nat) : Sim Try.prog TryG 15 (union_Union_Same_m F) := by
  have hE : EnvOK Try.prog TryG (union_Union_Same_env F) := (EnvOK.cons (union_Union_Find_ok F) EnvOK.nil)
  refine Sim.of_body (E := union_Union_Same_env F) Try.func15 union_Union_Same_body Try.call15 ?_ ?_
  · intro args hl; unfold union_Union_Same_m; split
    · exact absurd hl (Nat.not_lt.2 (Nat.le_of_ble_eq_true rfl))
    · rfl
  · intro args ρ h w z; unfold union_Union_Same_m; split
    · rename_i x0 x1 x2; show OKc _ _ [(0, x0), (1, x1), (2, x2)] _ _
      refine rSeq ?_
      refine cLess [2, 1, 0] ?_
      refine xRegion hE [0, 1, 2] (union_Union_Same_r0_ok F _ _ _ _) ?_
      intro x0 x1 x2
      show OKq _ _ _ [(2, x2), (1, x1), (0, x0)] _
      refine rThen ?_
      refine rSeq ?_
      refine cLess [2, 1, 0] ?_
      refine xRegion hE [0, 2, 7] (union_Union_Same_r1_ok F _ _ _ _) ?_
      intro x0 x2 x7
      show OKq _ _ _ [(7, x7), (2, x2), (0, x0)] _
      refine rThen ?_
      refine rSeq ?_
      refine cLess [7, 2, 0] ?_
      refine xRegion hE [6] (union_Union_Same_r2_ok F _ _ _ _) ?_
      intro x6
      show OKq _ _ _ [(6, x6)] _
      refine rThen ?_
      refine rRet ?_
      exact rDone (.inr rfl) rfl
    · exact rFail


/-! ### (*haruspex/union.Union).Len -/

def union_Union_Len_env (F : Nat) : Env := envOf [(13, union_Union_Groups_m F)]

def union_Union_Len_r1 (F : Nat) (x0 : Value) (K : Value → M Value) : M Value :=
  bnd (union_Union_Groups F x0) fun v4 => bnd (opLen v4) fun v5 => K v5

theorem union_Union_Len_r1_ok (F : Nat) (x0 : Value) (K : Value → M Value) : union_Union_Len_r1 F x0 K = runK Try.prog TryG (union_Union_Len_env F) Try.f16.ntmps (opsOf Try.f16 1) (List.range (opsOf Try.f16 1).size) [(0, x0)] fun Γ => appK [2] Γ K := by kernel_rfl

def union_Union_Len_r0 (F : Nat) (x0 : Value) (K : Value → M Value) : M Value :=
  K x0

theorem union_Union_Len_r0_ok (F : Nat) (x0 : Value) (K : Value → M Value) : union_Union_Len_r0 F x0 K = runK Try.prog TryG (union_Union_Len_env F) Try.f16.ntmps (opsOf Try.f16 0) (List.range (opsOf Try.f16 0).size) [(0, x0)] fun Γ => appK [0] Γ K := by kernel_rfl

def union_Union_Len (F : Nat) (x0 : Value) : M Value :=
  union_Union_Len_r0 F x0 (fun x0 => union_Union_Len_r1 F x0 (fun x2 => ret x2))

def union_Union_Len_m (F : Nat) : List Value → M Value
  | [x0] => union_Union_Len F x0
  | _ => fail

theorem union_Union_Len_body : Try.f16.body = some (.seq (.region 0 (opsOf Try.f16 0) false) (.seq (.region 1 (opsOf Try.f16 1) false) .ret)) := by kernel_rfl

theorem union_Union_Len_ok (F : Nat) : Sim Try.prog TryG 16 (union_Union_Len_m F) := by
  have hE : EnvOK Try.prog TryG (union_Union_Len_env F) := (EnvOK.cons (union_Union_Groups_ok F) EnvOK.nil)
  refine Sim.of_body (E := union_Union_Len_env F) Try.func16 union_Union_Len_body Try.call16 ?_ ?_
  · intro args hl; unfold union_Union_Len_m; split
    · exact absurd hl (Nat.not_lt.2 (Nat.le_of_ble_eq_true rfl))
    · rfl
  · intro args ρ h w z; unfold union_Union_Len_m; split
    · rename_i x0; show OKc _ _ [(0, x0)] _ _
      refine rSeq ?_
      refine cLess [0] ?_
      refine xRegion hE [0] (union_Union_Len_r0_ok F _ _) ?_
      intro x0
      show OKq _ _ _ [(0, x0)] _
      refine rThen ?_
      refine rSeq ?_
      refine cLess [0] ?_
      refine xRegion hE [2] (union_Union_Len_r1_ok F _ _) ?_
      intro x2
      show OKq _ _ _ [(2, x2)] _
      refine rThen ?_
      refine rRet ?_
      exact rDone (.inr rfl) rfl
    · exact rFail


/-! ### haruspex/haruspexlaw2.begun -/

def haruspexlaw2_begun_env (F : Nat) : Env := envOf [(10, union_New_m F), (11, union_Union_Join_m F), (12, haruspexref1_EqAll_m F), (13, union_Union_Groups_m F), (14, union_Union_Find_m F), (15, union_Union_Same_m F), (16, union_Union_Len_m F)]

def haruspexlaw2_begun_r5 (F : Nat) (x1 x2 x3 : Value) (K : Value → M Value) : M Value :=
  onB x2 (bnd (opNot x3) fun v14 => onB v14 (bnd (union_Union_Find F x1 (.int .i64 (3))) fun v18 => bnd (opBin .eql v18 (.int .i64 (1))) fun v19 => onB v19 (bnd (union_Union_Same F x1 (.int .i64 (1)) (.int .i64 (3))) fun v23 => onB v23 (bnd (union_Union_Len F x1) fun v27 => bnd (opBin .eql v27 (.int .i64 (3))) fun v28 => onB v28 (bnd (union_Union_Find F x1 (.int .i64 (9))) fun v32 => bnd (opBin .eql v32 (.int .i64 (-1))) fun v33 => onB v33 (bnd (union_Union_Groups F x1) fun v37 => bnd (opBuildSlice 1 (rep 1 [(.int .i64 (0))]) [(0, 1, false, (.int .i64 (0)))]) fun v38 => bnd (opBuildSlice 2 (rep 2 [(.int .i64 (0))]) [(0, 1, false, (.int .i64 (1))), (1, 1, false, (.int .i64 (3)))]) fun v39 => bnd (opBuildSlice 1 (rep 1 [(.int .i64 (0))]) [(0, 1, false, (.int .i64 (2)))]) fun v40 => bnd (opBuildSlice 3 (rep 3 [(.slice none 0 0)]) [(0, 1, false, v38), (1, 1, false, v39), (2, 1, false, v40)]) fun v41 => bnd (haruspexref1_EqAll F v37 v41) fun v42 => K v42) (K (.bool false))) (K (.bool false))) (K (.bool false))) (K (.bool false))) (K (.bool false))) (K (.bool false))

theorem haruspexlaw2_begun_r5_ok (F : Nat) (x1 x2 x3 : Value) (K : Value → M Value) : haruspexlaw2_begun_r5 F x1 x2 x3 K = runK Try.prog TryG (haruspexlaw2_begun_env F) Try.f9.ntmps (opsOf Try.f9 5) (List.range (opsOf Try.f9 5).size) [(3, x3), (2, x2), (1, x1)] fun Γ => appK [0] Γ K := by kernel_rfl

def haruspexlaw2_begun_r4 (F : Nat) (x1 : Value) (K : Value → Value → Value → M Value) : M Value :=
  bnd (union_Union_Join F x1 (.int .i64 (3)) (.int .i64 (1))) fun v8 => bnd (union_Union_Join F x1 (.int .i64 (1)) (.int .i64 (3))) fun v10 => K x1 v8 v10

theorem haruspexlaw2_begun_r4_ok (F : Nat) (x1 : Value) (K : Value → Value → Value → M Value) : haruspexlaw2_begun_r4 F x1 K = runK Try.prog TryG (haruspexlaw2_begun_env F) Try.f9.ntmps (opsOf Try.f9 4) (List.range (opsOf Try.f9 4).size) [(1, x1)] fun Γ => appK [1, 2, 3] Γ K := by kernel_rfl

def haruspexlaw2_begun_r3 (F : Nat) (K : Value → M Value) : M Value :=
  K (.bool false)

theorem haruspexlaw2_begun_r3_ok (F : Nat) (K : Value → M Value) : haruspexlaw2_begun_r3 F K = runK Try.prog TryG (haruspexlaw2_begun_env F) Try.f9.ntmps (opsOf Try.f9 3) (List.range (opsOf Try.f9 3).size) [] fun Γ => appK [0] Γ K := by kernel_rfl

def haruspexlaw2_begun_r2 (F : Nat) (x1 : Value) (K : Value → Value → M Value) : M Value :=
  bnd (opEq eqP false x1 (.pointer none)) fun v6 => K x1 v6

theorem haruspexlaw2_begun_r2_ok (F : Nat) (x1 : Value) (K : Value → Value → M Value) : haruspexlaw2_begun_r2 F x1 K = runK Try.prog TryG (haruspexlaw2_begun_env F) Try.f9.ntmps (opsOf Try.f9 2) (List.range (opsOf Try.f9 2).size) [(1, x1)] fun Γ => appK [1, 6] Γ K := by kernel_rfl

def haruspexlaw2_begun_r1 (F : Nat) (K : Value → M Value) : M Value :=
  bnd (union_New F (.int .i64 (4))) fun v4 => K v4

theorem haruspexlaw2_begun_r1_ok (F : Nat) (K : Value → M Value) : haruspexlaw2_begun_r1 F K = runK Try.prog TryG (haruspexlaw2_begun_env F) Try.f9.ntmps (opsOf Try.f9 1) (List.range (opsOf Try.f9 1).size) [] fun Γ => appK [1] Γ K := by kernel_rfl

def haruspexlaw2_begun_r0 (F : Nat) (K : M Value) : M Value :=
  K

theorem haruspexlaw2_begun_r0_ok (F : Nat) (K : M Value) : haruspexlaw2_begun_r0 F K = runK Try.prog TryG (haruspexlaw2_begun_env F) Try.f9.ntmps (opsOf Try.f9 0) (List.range (opsOf Try.f9 0).size) [] fun Γ => appK [] Γ K := by kernel_rfl

def haruspexlaw2_begun (F : Nat) : M Value :=
  haruspexlaw2_begun_r0 F (haruspexlaw2_begun_r1 F (fun x1 => haruspexlaw2_begun_r2 F x1 (fun x1 x6 => onB x6 (haruspexlaw2_begun_r3 F (fun x0 => ret x0)) (haruspexlaw2_begun_r4 F x1 (fun x1 x2 x3 => haruspexlaw2_begun_r5 F x1 x2 x3 (fun x0 => ret x0))))))

def haruspexlaw2_begun_m (F : Nat) : List Value → M Value
  | [] => haruspexlaw2_begun F
  | _ => fail

theorem haruspexlaw2_begun_body : Try.f9.body = some (.seq (.region 0 (opsOf Try.f9 0) false) (.seq (.region 1 (opsOf Try.f9 1) false) (.seq (.seq (.region 2 (opsOf Try.f9 2) false) (.cond (.tmp 6) (.seq (.region 3 (opsOf Try.f9 3) false) .ret) .skip)) (.seq (.region 4 (opsOf Try.f9 4) false) (.seq (.region 5 (opsOf Try.f9 5) false) .ret))))) := by kernel_rfl

theorem haruspexlaw2_begun_ok (F : Nat) : Sim Try.prog TryG 9 (haruspexlaw2_begun_m F) := by
  have hE : EnvOK Try.prog TryG (haruspexlaw2_begun_env F) := (EnvOK.cons (union_New_ok F) (EnvOK.cons (union_Union_Join_ok F) (EnvOK.cons (haruspexref1_EqAll_ok F) (EnvOK.cons (union_Union_Groups_ok F) (EnvOK.cons (union_Union_Find_ok F) (EnvOK.cons (union_Union_Same_ok F) (EnvOK.cons (union_Union_Len_ok F) EnvOK.nil)))))))
  refine Sim.of_body (E := haruspexlaw2_begun_env F) Try.func9 haruspexlaw2_begun_body Try.call9 ?_ ?_
  · intro args hl; unfold haruspexlaw2_begun_m; split
    · exact absurd hl (Nat.not_lt.2 (Nat.le_of_ble_eq_true rfl))
    · rfl
  · intro args ρ h w z; unfold haruspexlaw2_begun_m; split
    · show OKc _ _ [] _ _
      refine rSeq ?_
      refine cLess [] ?_
      refine xRegion hE [] (haruspexlaw2_begun_r0_ok F _) ?_
      show OKq _ _ _ [] _
      refine rThen ?_
      refine rSeq ?_
      refine cLess [] ?_
      refine xRegion hE [1] (haruspexlaw2_begun_r1_ok F _) ?_
      intro x1
      show OKq _ _ _ [(1, x1)] _
      refine rThen ?_
      refine rSeq ?_
      refine rSeq ?_
      refine cLess [1] ?_
      refine xRegion hE [1, 6] (haruspexlaw2_begun_r2_ok F _ _) ?_
      intro x1 x6
      show OKq _ _ _ [(6, x6), (1, x1)] _
      refine rThen ?_
      refine xCond rfl rfl ?_ ?_
      · refine rSeq ?_
        refine cLess [] ?_
        refine xRegion hE [0] (haruspexlaw2_begun_r3_ok F _) ?_
        intro x0
        show OKq _ _ _ [(0, x0)] _
        refine rThen ?_
        refine rRet ?_
        refine xThenR ?_
        exact rDone (.inr rfl) rfl
      · refine rSkip ?_
        refine rThen ?_
        refine rSeq ?_
        refine cLess [1] ?_
        refine xRegion hE [1, 2, 3] (haruspexlaw2_begun_r4_ok F _ _) ?_
        intro x1 x2 x3
        show OKq _ _ _ [(3, x3), (2, x2), (1, x1)] _
        refine rThen ?_
        refine rSeq ?_
        refine cLess [3, 2, 1] ?_
        refine xRegion hE [0] (haruspexlaw2_begun_r5_ok F _ _ _ _) ?_
        intro x0
        show OKq _ _ _ [(0, x0)] _
        refine rThen ?_
        refine rRet ?_
        exact rDone (.inr rfl) rfl
    · exact rFail


/-! ### haruspex/haruspexlaw2.UnionTurned -/

def haruspexlaw2_UnionTurned_env (F : Nat) : Env := envOf [(9, haruspexlaw2_begun_m F), (10, union_New_m F), (11, union_Union_Join_m F), (12, haruspexref1_EqAll_m F), (13, union_Union_Groups_m F)]

def haruspexlaw2_UnionTurned_r15 (F : Nat) (x6 x7 : Value) (K : Value → M Value) : M Value :=
  bnd (union_Union_Groups F x6) fun v60 => bnd (union_Union_Groups F x7) fun v62 => bnd (haruspexref1_EqAll F v60 v62) fun v63 => K v63

theorem haruspexlaw2_UnionTurned_r15_ok (F : Nat) (x6 x7 : Value) (K : Value → M Value) : haruspexlaw2_UnionTurned_r15 F x6 x7 K = runK Try.prog TryG (haruspexlaw2_UnionTurned_env F) Try.f4.ntmps (opsOf Try.f4 15) (List.range (opsOf Try.f4 15).size) [(7, x7), (6, x6)] fun Γ => appK [4] Γ K := by kernel_rfl

def haruspexlaw2_UnionTurned_k0 (F : Nat) (x6 x7 : Value) : M Value :=
  haruspexlaw2_UnionTurned_r15 F x6 x7 (fun x4 => ret x4)

def haruspexlaw2_UnionTurned_r11 (F : Nat) (x1 x6 x7 x8 : Value) (K : Value → Value → Value → Value → M Value) : M Value :=
  bnd (opBin .add x8 (.int .i64 (1))) fun v34 => K x1 x6 x7 v34

theorem haruspexlaw2_UnionTurned_r11_ok (F : Nat) (x1 x6 x7 x8 : Value) (K : Value → Value → Value → Value → M Value) : haruspexlaw2_UnionTurned_r11 F x1 x6 x7 x8 K = runK Try.prog TryG (haruspexlaw2_UnionTurned_env F) Try.f4.ntmps (opsOf Try.f4 11) (List.range (opsOf Try.f4 11).size) [(8, x8), (7, x7), (6, x6), (1, x1)] fun Γ => appK [1, 6, 7, 8] Γ K := by kernel_rfl

def haruspexlaw2_UnionTurned_r14 (F : Nat) (x1 x6 x7 x8 x10 : Value) (K : Value → Value → Value → Value → M Value) : M Value :=
  bnd (opIndexAddrA 2 1 x10 (.int .i64 (1))) fun v54 => bnd (opLoad v54) fun v55 => bnd (opIndexAddrA 2 1 x10 (.int .i64 (0))) fun v56 => bnd (opLoad v56) fun v57 => bnd (union_Union_Join F x7 v55 v57) fun v58 => K x1 x6 x7 x8

theorem haruspexlaw2_UnionTurned_r14_ok (F : Nat) (x1 x6 x7 x8 x10 : Value) (K : Value → Value → Value → Value → M Value) : haruspexlaw2_UnionTurned_r14 F x1 x6 x7 x8 x10 K = runK Try.prog TryG (haruspexlaw2_UnionTurned_env F) Try.f4.ntmps (opsOf Try.f4 14) (List.range (opsOf Try.f4 14).size) [(10, x10), (8, x8), (7, x7), (6, x6), (1, x1)] fun Γ => appK [1, 6, 7, 8] Γ K := by kernel_rfl

def haruspexlaw2_UnionTurned_r13 (F : Nat) (x1 x6 x7 x8 x9 x10 : Value) (K : Value → Value → Value → Value → Value → M Value) : M Value :=
  bnd (opIndexAddrA 2 1 x9 (.int .i64 (0))) fun v48 => bnd (opLoad v48) fun v49 => bnd (opIndexAddrA 2 1 x9 (.int .i64 (1))) fun v50 => bnd (opLoad v50) fun v51 => bnd (union_Union_Join F x6 v49 v51) fun v52 => K x1 x6 x7 x8 x10

theorem haruspexlaw2_UnionTurned_r13_ok (F : Nat) (x1 x6 x7 x8 x9 x10 : Value) (K : Value → Value → Value → Value → Value → M Value) : haruspexlaw2_UnionTurned_r13 F x1 x6 x7 x8 x9 x10 K = runK Try.prog TryG (haruspexlaw2_UnionTurned_env F) Try.f4.ntmps (opsOf Try.f4 13) (List.range (opsOf Try.f4 13).size) [(10, x10), (9, x9), (8, x8), (7, x7), (6, x6), (1, x1)] fun Γ => appK [1, 6, 7, 8, 10] Γ K := by kernel_rfl

def haruspexlaw2_UnionTurned_r12 (F : Nat) (x1 x6 x7 x8 : Value) (K : Value → Value → Value → Value → Value → Value → M Value) : M Value :=
  bnd (opIndexAddr 2 x1 x8) fun v37 => bnd (opLoadN 2 v37) fun v38 => bnd (opLen x1) fun v41 => bnd (opBin .sub v41 (.int .i64 (1))) fun v42 => bnd (opBin .sub v42 x8) fun v44 => bnd (opIndexAddr 2 x1 v44) fun v45 => bnd (opLoadN 2 v45) fun v46 => bnd (opPtr [(.int .i64 (0)), (.int .i64 (0))]) fun v9 => bnd (opPtr [(.int .i64 (0)), (.int .i64 (0))]) fun v10 => bnd (opStoreN 2 v9 v38) fun _ => bnd (opChk true v45 v46) fun _ => bnd (opStoreN 2 v10 v46) fun _ => K x1 x6 x7 x8 v9 v10

theorem haruspexlaw2_UnionTurned_r12_ok (F : Nat) (x1 x6 x7 x8 : Value) (K : Value → Value → Value → Value → Value → Value → M Value) : haruspexlaw2_UnionTurned_r12 F x1 x6 x7 x8 K = drawK Try.prog TryG (haruspexlaw2_UnionTurned_env F) Try.f4.ntmps (opsOf Try.f4 12) (bef (opsOf Try.f4 12)) [0, 1, 2, 3, 4, 5, 6, 7, 8, 9, 10, 11, 12, 13, 14, 15] [] [(8, x8), (7, x7), (6, x6), (1, x1)] fun Γ => appK [1, 6, 7, 8, 9, 10] Γ K := by kernel_rfl

theorem haruspexlaw2_UnionTurned_r12_good : goodOrder (opsOf Try.f4 12) [0, 1, 2, 3, 4, 5, 6, 7, 8, 9, 10, 11, 12, 13, 14, 15] = true := by kernel_rfl

def haruspexlaw2_UnionTurned_r10 (F : Nat) (x1 x6 x7 x8 : Value) (K : Value → Value → Value → Value → Value → M Value) : M Value :=
  bnd (opLen x1) fun v31 => bnd (opBin .lss x8 v31) fun v32 => K x1 x6 x7 x8 v32

theorem haruspexlaw2_UnionTurned_r10_ok (F : Nat) (x1 x6 x7 x8 : Value) (K : Value → Value → Value → Value → Value → M Value) : haruspexlaw2_UnionTurned_r10 F x1 x6 x7 x8 K = runK Try.prog TryG (haruspexlaw2_UnionTurned_env F) Try.f4.ntmps (opsOf Try.f4 10) (List.range (opsOf Try.f4 10).size) [(8, x8), (7, x7), (6, x6), (1, x1)] fun Γ => appK [1, 6, 7, 8, 32] Γ K := by kernel_rfl

def haruspexlaw2_UnionTurned_b1 (F : Nat) (E1_0 : Value → Value → M Value) (A1 : Value → Value → Value → Value → M Value) (x1 x6 x7 x8 : Value) : M Value :=
  haruspexlaw2_UnionTurned_r10 F x1 x6 x7 x8 (fun x1 x6 x7 x8 x32 => onB x32 (haruspexlaw2_UnionTurned_r12 F x1 x6 x7 x8 (fun x1 x6 x7 x8 x9 x10 => haruspexlaw2_UnionTurned_r13 F x1 x6 x7 x8 x9 x10 (fun x1 x6 x7 x8 x10 => haruspexlaw2_UnionTurned_r14 F x1 x6 x7 x8 x10 (fun x1 x6 x7 x8 => haruspexlaw2_UnionTurned_r11 F x1 x6 x7 x8 (fun x1 x6 x7 x8 => A1 x1 x6 x7 x8))))) (E1_0 x6 x7))

def haruspexlaw2_UnionTurned_l1 (F : Nat) (E1_0 : Value → Value → M Value) : Nat → Value → Value → Value → Value → M Value
  | 0, _, _, _, _ => fail
  | k1 + 1, x1, x6, x7, x8 => haruspexlaw2_UnionTurned_b1 F E1_0 (haruspexlaw2_UnionTurned_l1 F E1_0 k1) x1 x6 x7 x8

theorem haruspexlaw2_UnionTurned_l1_s (F : Nat) (E1_0 : Value → Value → M Value) (k1 : Nat) (x1 x6 x7 x8 : Value) : haruspexlaw2_UnionTurned_l1 F E1_0 (k1 + 1) x1 x6 x7 x8 = haruspexlaw2_UnionTurned_b1 F E1_0 (haruspexlaw2_UnionTurned_l1 F E1_0 k1) x1 x6 x7 x8 := rfl

def haruspexlaw2_UnionTurned_r9 (F : Nat) (x1 x6 x7 : Value) (K : Value → Value → Value → Value → M Value) : M Value :=
  K x1 x6 x7 (.int .i64 (0))

theorem haruspexlaw2_UnionTurned_r9_ok (F : Nat) (x1 x6 x7 : Value) (K : Value → Value → Value → Value → M Value) : haruspexlaw2_UnionTurned_r9 F x1 x6 x7 K = runK Try.prog TryG (haruspexlaw2_UnionTurned_env F) Try.f4.ntmps (opsOf Try.f4 9) (List.range (opsOf Try.f4 9).size) [(7, x7), (6, x6), (1, x1)] fun Γ => appK [1, 6, 7, 8] Γ K := by kernel_rfl

def haruspexlaw2_UnionTurned_r8 (F : Nat) (x0 x1 : Value) (K : Value → Value → Value → M Value) : M Value :=
  bnd (union_New F x0) fun v26 => bnd (union_New F x0) fun v28 => K x1 v26 v28

theorem haruspexlaw2_UnionTurned_r8_ok (F : Nat) (x0 x1 : Value) (K : Value → Value → Value → M Value) : haruspexlaw2_UnionTurned_r8 F x0 x1 K = runK Try.prog TryG (haruspexlaw2_UnionTurned_env F) Try.f4.ntmps (opsOf Try.f4 8) (List.range (opsOf Try.f4 8).size) [(1, x1), (0, x0)] fun Γ => appK [1, 6, 7] Γ K := by kernel_rfl

def haruspexlaw2_UnionTurned_k2 (F : Nat) (x0 x1 : Value) : M Value :=
  haruspexlaw2_UnionTurned_r8 F x0 x1 (fun x1 x6 x7 => haruspexlaw2_UnionTurned_r9 F x1 x6 x7 (fun x1 x6 x7 x8 => haruspexlaw2_UnionTurned_l1 F (fun x6 x7 => haruspexlaw2_UnionTurned_k0 F x6 x7) F x1 x6 x7 x8))

def haruspexlaw2_UnionTurned_r7 (F : Nat) (x0 x1 : Value) (K : Value → Value → M Value) : M Value :=
  bnd (opSlice 2 x1 none (some (.int .i64 (60))) none) fun v24 => K x0 v24

theorem haruspexlaw2_UnionTurned_r7_ok (F : Nat) (x0 x1 : Value) (K : Value → Value → M Value) : haruspexlaw2_UnionTurned_r7 F x0 x1 K = runK Try.prog TryG (haruspexlaw2_UnionTurned_env F) Try.f4.ntmps (opsOf Try.f4 7) (List.range (opsOf Try.f4 7).size) [(1, x1), (0, x0)] fun Γ => appK [0, 1] Γ K := by kernel_rfl

def haruspexlaw2_UnionTurned_r6 (F : Nat) (x0 x1 : Value) (K : Value → Value → Value → M Value) : M Value :=
  bnd (opLen x1) fun v21 => bnd (opBin .gtr v21 (.int .i64 (60))) fun v22 => K x0 x1 v22

theorem haruspexlaw2_UnionTurned_r6_ok (F : Nat) (x0 x1 : Value) (K : Value → Value → Value → M Value) : haruspexlaw2_UnionTurned_r6 F x0 x1 K = runK Try.prog TryG (haruspexlaw2_UnionTurned_env F) Try.f4.ntmps (opsOf Try.f4 6) (List.range (opsOf Try.f4 6).size) [(1, x1), (0, x0)] fun Γ => appK [0, 1, 22] Γ K := by kernel_rfl

def haruspexlaw2_UnionTurned_r5 (F : Nat) (K : Value → M Value) : M Value :=
  K (.bool true)

theorem haruspexlaw2_UnionTurned_r5_ok (F : Nat) (K : Value → M Value) : haruspexlaw2_UnionTurned_r5 F K = runK Try.prog TryG (haruspexlaw2_UnionTurned_env F) Try.f4.ntmps (opsOf Try.f4 5) (List.range (opsOf Try.f4 5).size) [] fun Γ => appK [4] Γ K := by kernel_rfl

def haruspexlaw2_UnionTurned_r4 (F : Nat) (x0 x1 : Value) (K : Value → Value → Value → M Value) : M Value :=
  bnd (opBin .lss x0 (.int .i64 (0))) fun v15 => onB v15 (K x0 x1 (.bool true)) (bnd (opBin .gtr x0 (.int .i64 (60))) fun v18 => K x0 x1 v18)

theorem haruspexlaw2_UnionTurned_r4_ok (F : Nat) (x0 x1 : Value) (K : Value → Value → Value → M Value) : haruspexlaw2_UnionTurned_r4 F x0 x1 K = runK Try.prog TryG (haruspexlaw2_UnionTurned_env F) Try.f4.ntmps (opsOf Try.f4 4) (List.range (opsOf Try.f4 4).size) [(1, x1), (0, x0)] fun Γ => appK [0, 1, 19] Γ K := by kernel_rfl

def haruspexlaw2_UnionTurned_r3 (F : Nat) (K : Value → M Value) : M Value :=
  K (.bool false)

theorem haruspexlaw2_UnionTurned_r3_ok (F : Nat) (K : Value → M Value) : haruspexlaw2_UnionTurned_r3 F K = runK Try.prog TryG (haruspexlaw2_UnionTurned_env F) Try.f4.ntmps (opsOf Try.f4 3) (List.range (opsOf Try.f4 3).size) [] fun Γ => appK [4] Γ K := by kernel_rfl

def haruspexlaw2_UnionTurned_r2 (F : Nat) (x0 x1 x5 : Value) (K : Value → Value → Value → M Value) : M Value :=
  bnd (opNot x5) fun v13 => K x0 x1 v13

theorem haruspexlaw2_UnionTurned_r2_ok (F : Nat) (x0 x1 x5 : Value) (K : Value → Value → Value → M Value) : haruspexlaw2_UnionTurned_r2 F x0 x1 x5 K = runK Try.prog TryG (haruspexlaw2_UnionTurned_env F) Try.f4.ntmps (opsOf Try.f4 2) (List.range (opsOf Try.f4 2).size) [(5, x5), (1, x1), (0, x0)] fun Γ => appK [0, 1, 13] Γ K := by kernel_rfl

def haruspexlaw2_UnionTurned_r1 (F : Nat) (x0 x1 : Value) (K : Value → Value → Value → M Value) : M Value :=
  bnd (haruspexlaw2_begun F) fun v11 => K x0 x1 v11

theorem haruspexlaw2_UnionTurned_r1_ok (F : Nat) (x0 x1 : Value) (K : Value → Value → Value → M Value) : haruspexlaw2_UnionTurned_r1 F x0 x1 K = runK Try.prog TryG (haruspexlaw2_UnionTurned_env F) Try.f4.ntmps (opsOf Try.f4 1) (List.range (opsOf Try.f4 1).size) [(1, x1), (0, x0)] fun Γ => appK [0, 1, 5] Γ K := by kernel_rfl

def haruspexlaw2_UnionTurned_r0 (F : Nat) (x0 x1 : Value) (K : Value → Value → M Value) : M Value :=
  K x0 x1

theorem haruspexlaw2_UnionTurned_r0_ok (F : Nat) (x0 x1 : Value) (K : Value → Value → M Value) : haruspexlaw2_UnionTurned_r0 F x0 x1 K = runK Try.prog TryG (haruspexlaw2_UnionTurned_env F) Try.f4.ntmps (opsOf Try.f4 0) (List.range (opsOf Try.f4 0).size) [(1, x1), (0, x0)] fun Γ => appK [0, 1] Γ K := by kernel_rfl

def haruspexlaw2_UnionTurned (F : Nat) (x0 x1 : Value) : M Value :=
  haruspexlaw2_UnionTurned_r0 F x0 x1 (fun x0 x1 => haruspexlaw2_UnionTurned_r1 F x0 x1 (fun x0 x1 x5 => haruspexlaw2_UnionTurned_r2 F x0 x1 x5 (fun x0 x1 x13 => onB x13 (haruspexlaw2_UnionTurned_r3 F (fun x4 => ret x4)) (haruspexlaw2_UnionTurned_r4 F x0 x1 (fun x0 x1 x19 => onB x19 (haruspexlaw2_UnionTurned_r5 F (fun x4 => ret x4)) (haruspexlaw2_UnionTurned_r6 F x0 x1 (fun x0 x1 x22 => onB x22 (haruspexlaw2_UnionTurned_r7 F x0 x1 (fun x0 x1 => haruspexlaw2_UnionTurned_k2 F x0 x1)) (haruspexlaw2_UnionTurned_k2 F x0 x1))))))))

def haruspexlaw2_UnionTurned_m (F : Nat) : List Value → M Value
  | [x0, x1] => haruspexlaw2_UnionTurned F x0 x1
  | _ => fail

theorem haruspexlaw2_UnionTurned_body : Try.f4.body = some (.seq (.region 0 (opsOf Try.f4 0) false) (.seq (.region 1 (opsOf Try.f4 1) false) (.seq (.seq (.region 2 (opsOf Try.f4 2) false) (.cond (.tmp 13) (.seq (.region 3 (opsOf Try.f4 3) false) .ret) .skip)) (.seq (.seq (.region 4 (opsOf Try.f4 4) false) (.cond (.tmp 19) (.seq (.region 5 (opsOf Try.f4 5) false) .ret) .skip)) (.seq (.seq (.region 6 (opsOf Try.f4 6) false) (.cond (.tmp 22) (.region 7 (opsOf Try.f4 7) false) .skip)) (.seq (.region 8 (opsOf Try.f4 8) false) (.seq (.seq (.region 9 (opsOf Try.f4 9) false) (.block 0 (.loop (.seq (.seq (.region 10 (opsOf Try.f4 10) false) (.cond (.tmp 32) .skip (.exit 0))) (.seq (.block 1 (.seq (.region 12 (opsOf Try.f4 12) true) (.seq (.region 13 (opsOf Try.f4 13) false) (.region 14 (opsOf Try.f4 14) false)))) (.region 11 (opsOf Try.f4 11) false)))))) (.seq (.region 15 (opsOf Try.f4 15) false) .ret)))))))) := by kernel_rfl

theorem haruspexlaw2_UnionTurned_ok (F : Nat) : Sim Try.prog TryG 4 (haruspexlaw2_UnionTurned_m F) := by
  have hE : EnvOK Try.prog TryG (haruspexlaw2_UnionTurned_env F) := (EnvOK.cons (haruspexlaw2_begun_ok F) (EnvOK.cons (union_New_ok F) (EnvOK.cons (union_Union_Join_ok F) (EnvOK.cons (haruspexref1_EqAll_ok F) (EnvOK.cons (union_Union_Groups_ok F) EnvOK.nil)))))
  refine Sim.of_body (E := haruspexlaw2_UnionTurned_env F) Try.func4 haruspexlaw2_UnionTurned_body Try.call4 ?_ ?_
  · intro args hl; unfold haruspexlaw2_UnionTurned_m; split
    · exact absurd hl (Nat.not_lt.2 (Nat.le_of_ble_eq_true rfl))
    · rfl
  · intro args ρ h w z; unfold haruspexlaw2_UnionTurned_m; split
    · rename_i x0 x1; show OKc _ _ [(0, x0), (1, x1)] _ _
      refine rSeq ?_
      refine cLess [1, 0] ?_
      refine xRegion hE [0, 1] (haruspexlaw2_UnionTurned_r0_ok F _ _ _) ?_
      intro x0 x1
      show OKq _ _ _ [(1, x1), (0, x0)] _
      refine rThen ?_
      refine rSeq ?_
      refine cLess [1, 0] ?_
      refine xRegion hE [0, 1, 5] (haruspexlaw2_UnionTurned_r1_ok F _ _ _) ?_
      intro x0 x1 x5
      show OKq _ _ _ [(5, x5), (1, x1), (0, x0)] _
      refine rThen ?_
      refine rSeq ?_
      refine rSeq ?_
      refine cLess [5, 1, 0] ?_
      refine xRegion hE [0, 1, 13] (haruspexlaw2_UnionTurned_r2_ok F _ _ _ _) ?_
      intro x0 x1 x13
      show OKq _ _ _ [(13, x13), (1, x1), (0, x0)] _
      refine rThen ?_
      refine xCond rfl rfl ?_ ?_
      · refine rSeq ?_
        refine cLess [] ?_
        refine xRegion hE [4] (haruspexlaw2_UnionTurned_r3_ok F _) ?_
        intro x4
        show OKq _ _ _ [(4, x4)] _
        refine rThen ?_
        refine rRet ?_
        refine xThenR ?_
        exact rDone (.inr rfl) rfl
      · refine rSkip ?_
        refine rThen ?_
        refine rSeq ?_
        refine rSeq ?_
        refine cLess [1, 0] ?_
        refine xRegion hE [0, 1, 19] (haruspexlaw2_UnionTurned_r4_ok F _ _ _) ?_
        intro x0 x1 x19
        show OKq _ _ _ [(19, x19), (1, x1), (0, x0)] _
        refine rThen ?_
        refine xCond rfl rfl ?_ ?_
        · refine rSeq ?_
          refine cLess [] ?_
          refine xRegion hE [4] (haruspexlaw2_UnionTurned_r5_ok F _) ?_
          intro x4
          show OKq _ _ _ [(4, x4)] _
          refine rThen ?_
          refine rRet ?_
          refine xThenR ?_
          exact rDone (.inr rfl) rfl
        · refine rSkip ?_
          refine rThen ?_
          refine xSeq [0, 1] (haruspexlaw2_UnionTurned_k2 F ) ?_ fun hj2 => ?_
          · intro x0 x1
            show OKc _ _ [(1, x1), (0, x0)] _ _
            refine rSeq ?_
            refine cLess [1, 0] ?_
            refine xRegion hE [1, 6, 7] (haruspexlaw2_UnionTurned_r8_ok F _ _ _) ?_
            intro x1 x6 x7
            show OKq _ _ _ [(7, x7), (6, x6), (1, x1)] _
            refine rThen ?_
            refine xSeq [6, 7] (haruspexlaw2_UnionTurned_k0 F ) ?_ fun hj0 => ?_
            · intro x6 x7
              show OKc _ _ [(7, x7), (6, x6)] _ _
              refine rSeq ?_
              refine cLess [7, 6] ?_
              refine xRegion hE [4] (haruspexlaw2_UnionTurned_r15_ok F _ _ _) ?_
              intro x4
              show OKq _ _ _ [(4, x4)] _
              refine rThen ?_
              refine rRet ?_
              exact rDone (.inr rfl) rfl
            · refine rSeq ?_
              refine cLess [7, 6, 1] ?_
              refine xRegion hE [1, 6, 7, 8] (haruspexlaw2_UnionTurned_r9_ok F _ _ _ _) ?_
              intro x1 x6 x7 x8
              show OKq _ _ _ [(8, x8), (7, x7), (6, x6), (1, x1)] _
              refine rThen ?_
              refine rBlock ?_
              refine cLess [8, 7, 6, 1] ?_
              refine xLoopAt [1, 6, 7, 8] [] (fun k1 => haruspexlaw2_UnionTurned_l1 F (fun x6 x7 => haruspexlaw2_UnionTurned_k0 F x6 x7) k1) F [x1, x6, x7, x8] rfl rfl (fun _ _ _ _ => rfl) fun I hI1 k1 => ?_
              intro x1 x6 x7 x8
              show OKc _ _ [(8, x8), (7, x7), (6, x6), (1, x1)] _ _
              refine cAs (haruspexlaw2_UnionTurned_l1_s F _ _ _ _ _ _) ?_
              refine rSeq ?_
              refine rSeq ?_
              refine cLess [8, 7, 6, 1] ?_
              refine xRegion hE [1, 6, 7, 8, 32] (haruspexlaw2_UnionTurned_r10_ok F _ _ _ _ _) ?_
              intro x1 x6 x7 x8 x32
              show OKq _ _ _ [(32, x32), (8, x8), (7, x7), (6, x6), (1, x1)] _
              refine rThen ?_
              refine xCond rfl rfl ?_ ?_
              · refine rSkip ?_
                refine rThen ?_
                refine rSeq ?_
                refine rBlock ?_
                refine rSeq ?_
                refine cLess [8, 7, 6, 1] ?_
                refine xDraw Trymix hE [1, 6, 7, 8, 9, 10] haruspexlaw2_UnionTurned_r12_good (haruspexlaw2_UnionTurned_r12_ok F _ _ _ _ _) ?_
                intro x1 x6 x7 x8 x9 x10
                show OKq _ _ _ [(10, x10), (9, x9), (8, x8), (7, x7), (6, x6), (1, x1)] _
                refine rThen ?_
                refine rSeq ?_
                refine cLess [10, 9, 8, 7, 6, 1] ?_
                refine xRegion hE [1, 6, 7, 8, 10] (haruspexlaw2_UnionTurned_r13_ok F _ _ _ _ _ _ _) ?_
                intro x1 x6 x7 x8 x10
                show OKq _ _ _ [(10, x10), (8, x8), (7, x7), (6, x6), (1, x1)] _
                refine rThen ?_
                refine cLess [10, 8, 7, 6, 1] ?_
                refine xRegion hE [1, 6, 7, 8] (haruspexlaw2_UnionTurned_r14_ok F _ _ _ _ _ _) ?_
                intro x1 x6 x7 x8
                show OKq _ _ _ [(8, x8), (7, x7), (6, x6), (1, x1)] _
                refine xBlockN ?_
                refine rThen ?_
                refine cLess [8, 7, 6, 1] ?_
                refine xRegion hE [1, 6, 7, 8] (haruspexlaw2_UnionTurned_r11_ok F _ _ _ _ _) ?_
                intro x1 x6 x7 x8
                show OKq _ _ _ [(8, x8), (7, x7), (6, x6), (1, x1)] _
                exact qLess [8, 7, 6, 1] (hI1 k1 x1 x6 x7 x8)
              · refine rExit ?_
                refine xThenX ?_
                refine xThenX ?_
                refine rOut ?_
                exact qLess [7, 6] (hj0 x6 x7)
          · refine rSeq ?_
            refine cLess [1, 0] ?_
            refine xRegion hE [0, 1, 22] (haruspexlaw2_UnionTurned_r6_ok F _ _ _) ?_
            intro x0 x1 x22
            show OKq _ _ _ [(22, x22), (1, x1), (0, x0)] _
            refine rThen ?_
            refine xCond rfl rfl ?_ ?_
            · refine cLess [1, 0] ?_
              refine xRegion hE [0, 1] (haruspexlaw2_UnionTurned_r7_ok F _ _ _) ?_
              intro x0 x1
              show OKq _ _ _ [(1, x1), (0, x0)] _
              exact qLess [1, 0] (hj2 x0 x1)
            · refine rSkip ?_
              exact qLess [1, 0] (hj2 x0 x1)
    · exact rFail


/-! ### haruspex/haruspexlaw2.UnionNone -/

def haruspexlaw2_UnionNone_env (F : Nat) : Env := envOf [(9, haruspexlaw2_begun_m F), (10, union_New_m F), (11, union_Union_Join_m F), (13, union_Union_Groups_m F), (14, union_Union_Find_m F), (15, union_Union_Same_m F), (16, union_Union_Len_m F)]

def haruspexlaw2_UnionNone_r2 (F : Nat) (x1 : Value) (K : Value → M Value) : M Value :=
  bnd (haruspexlaw2_begun F) fun v2 => onB v2 (bnd (union_Union_Find F x1 (.int .i64 (0))) fun v5 => bnd (opBin .eql v5 (.int .i64 (-1))) fun v6 => onB v6 (bnd (union_Union_Join F x1 (.int .i64 (0)) (.int .i64 (1))) fun v10 => bnd (opNot v10) fun v11 => onB v11 (bnd (union_Union_Same F x1 (.int .i64 (0)) (.int .i64 (0))) fun v15 => bnd (opNot v15) fun v16 => onB v16 (bnd (union_Union_Groups F x1) fun v20 => bnd (opLen v20) fun v21 => bnd (opBin .eql v21 (.int .i64 (0))) fun v22 => onB v22 (bnd (union_Union_Len F x1) fun v26 => bnd (opBin .eql v26 (.int .i64 (0))) fun v27 => onB v27 (bnd (union_New F (.int .i64 (-5))) fun v30 => bnd (union_Union_Len F v30) fun v31 => bnd (opBin .eql v31 (.int .i64 (0))) fun v32 => onB v32 (bnd (union_New F (.int .i64 (9999))) fun v35 => bnd (union_Union_Len F v35) fun v36 => bnd (opBin .eql v36 (.int .i64 (5000))) fun v37 => K v37) (K (.bool false))) (K (.bool false))) (K (.bool false))) (K (.bool false))) (K (.bool false))) (K (.bool false))) (K (.bool false))

theorem haruspexlaw2_UnionNone_r2_ok (F : Nat) (x1 : Value) (K : Value → M Value) : haruspexlaw2_UnionNone_r2 F x1 K = runK Try.prog TryG (haruspexlaw2_UnionNone_env F) Try.f5.ntmps (opsOf Try.f5 2) (List.range (opsOf Try.f5 2).size) [(1, x1)] fun Γ => appK [0] Γ K := by kernel_rfl

def haruspexlaw2_UnionNone_r1 (F : Nat) (K : Value → M Value) : M Value :=
  K (.pointer none)

theorem haruspexlaw2_UnionNone_r1_ok (F : Nat) (K : Value → M Value) : haruspexlaw2_UnionNone_r1 F K = runK Try.prog TryG (haruspexlaw2_UnionNone_env F) Try.f5.ntmps (opsOf Try.f5 1) (List.range (opsOf Try.f5 1).size) [] fun Γ => appK [1] Γ K := by kernel_rfl

def haruspexlaw2_UnionNone_r0 (F : Nat) (K : M Value) : M Value :=
  K

theorem haruspexlaw2_UnionNone_r0_ok (F : Nat) (K : M Value) : haruspexlaw2_UnionNone_r0 F K = runK Try.prog TryG (haruspexlaw2_UnionNone_env F) Try.f5.ntmps (opsOf Try.f5 0) (List.range (opsOf Try.f5 0).size) [] fun Γ => appK [] Γ K := by kernel_rfl

def haruspexlaw2_UnionNone (F : Nat) : M Value :=
  haruspexlaw2_UnionNone_r0 F (haruspexlaw2_UnionNone_r1 F (fun x1 => haruspexlaw2_UnionNone_r2 F x1 (fun x0 => ret x0)))

def haruspexlaw2_UnionNone_m (F : Nat) : List Value → M Value
  | [] => haruspexlaw2_UnionNone F
  | _ => fail

theorem haruspexlaw2_UnionNone_body : Try.f5.body = some (.seq (.region 0 (opsOf Try.f5 0) false) (.seq (.region 1 (opsOf Try.f5 1) false) (.seq (.region 2 (opsOf Try.f5 2) false) .ret))) := by kernel_rfl

theorem haruspexlaw2_UnionNone_ok (F : Nat) : Sim Try.prog TryG 5 (haruspexlaw2_UnionNone_m F) := by
  have hE : EnvOK Try.prog TryG (haruspexlaw2_UnionNone_env F) := (EnvOK.cons (haruspexlaw2_begun_ok F) (EnvOK.cons (union_New_ok F) (EnvOK.cons (union_Union_Join_ok F) (EnvOK.cons (union_Union_Groups_ok F) (EnvOK.cons (union_Union_Find_ok F) (EnvOK.cons (union_Union_Same_ok F) (EnvOK.cons (union_Union_Len_ok F) EnvOK.nil)))))))
  refine Sim.of_body (E := haruspexlaw2_UnionNone_env F) Try.func5 haruspexlaw2_UnionNone_body Try.call5 ?_ ?_
  · intro args hl; unfold haruspexlaw2_UnionNone_m; split
    · exact absurd hl (Nat.not_lt.2 (Nat.le_of_ble_eq_true rfl))
    · rfl
  · intro args ρ h w z; unfold haruspexlaw2_UnionNone_m; split
    · show OKc _ _ [] _ _
      refine rSeq ?_
      refine cLess [] ?_
      refine xRegion hE [] (haruspexlaw2_UnionNone_r0_ok F _) ?_
      show OKq _ _ _ [] _
      refine rThen ?_
      refine rSeq ?_
      refine cLess [] ?_
      refine xRegion hE [1] (haruspexlaw2_UnionNone_r1_ok F _) ?_
      intro x1
      show OKq _ _ _ [(1, x1)] _
      refine rThen ?_
      refine rSeq ?_
      refine cLess [1] ?_
      refine xRegion hE [0] (haruspexlaw2_UnionNone_r2_ok F _ _) ?_
      intro x0
      show OKq _ _ _ [(0, x0)] _
      refine rThen ?_
      refine rRet ?_
      exact rDone (.inr rfl) rfl
    · exact rFail


/-! ### haruspex/haruspexlaw2.UnionFind -/

def haruspexlaw2_UnionFind_env (F : Nat) : Env := envOf [(9, haruspexlaw2_begun_m F), (10, union_New_m F), (11, union_Union_Join_m F), (14, union_Union_Find_m F), (15, union_Union_Same_m F)]

def haruspexlaw2_UnionFind_r12 (F : Nat) (x2 x3 x10 x12 x13 : Value) (K : Value → M Value) : M Value :=
  bnd (union_Union_Find F x10 x12) fun v73 => bnd (opBin .eql v73 x12) fun v75 => onB v75 (bnd (opBin .leq x12 x2) fun v79 => onB v79 (bnd (union_Union_Same F x10 x2 x3) fun v85 => bnd (opBin .eql x12 x13) fun v88 => bnd (opEq eqB false v85 v88) fun v89 => onB v89 (bnd (union_Union_Same F x10 x2 x12) fun v95 => onB v95 (bnd (union_Union_Join F x10 x2 x3) fun v101 => bnd (opBin .neq x12 x13) fun v104 => bnd (opEq eqB false v101 v104) fun v105 => onB v105 (bnd (union_Union_Find F x10 x2) fun v110 => bnd (opMin [x12, x13]) fun v113 => bnd (opBin .eql v110 v113) fun v114 => onB v114 (bnd (union_Union_Find F x10 x3) fun v119 => bnd (opMin [x12, x13]) fun v122 => bnd (opBin .eql v119 v122) fun v123 => K v123) (K (.bool false))) (K (.bool false))) (K (.bool false))) (K (.bool false))) (K (.bool false))) (K (.bool false))

theorem haruspexlaw2_UnionFind_r12_ok (F : Nat) (x2 x3 x10 x12 x13 : Value) (K : Value → M Value) : haruspexlaw2_UnionFind_r12 F x2 x3 x10 x12 x13 K = runK Try.prog TryG (haruspexlaw2_UnionFind_env F) Try.f6.ntmps (opsOf Try.f6 12) (List.range (opsOf Try.f6 12).size) [(13, x13), (12, x12), (10, x10), (3, x3), (2, x2)] fun Γ => appK [8] Γ K := by kernel_rfl

def haruspexlaw2_UnionFind_r11 (F : Nat) (x2 x3 x10 : Value) (K : Value → Value → Value → Value → Value → M Value) : M Value :=
  bnd (union_Union_Find F x10 x2) fun v67 => bnd (union_Union_Find F x10 x3) fun v70 => K x2 x3 x10 v67 v70

theorem haruspexlaw2_UnionFind_r11_ok (F : Nat) (x2 x3 x10 : Value) (K : Value → Value → Value → Value → Value → M Value) : haruspexlaw2_UnionFind_r11 F x2 x3 x10 K = runK Try.prog TryG (haruspexlaw2_UnionFind_env F) Try.f6.ntmps (opsOf Try.f6 11) (List.range (opsOf Try.f6 11).size) [(10, x10), (3, x3), (2, x2)] fun Γ => appK [2, 3, 10, 12, 13] Γ K := by kernel_rfl

def haruspexlaw2_UnionFind_k0 (F : Nat) (x2 x3 x10 : Value) : M Value :=
  haruspexlaw2_UnionFind_r11 F x2 x3 x10 (fun x2 x3 x10 x12 x13 => haruspexlaw2_UnionFind_r12 F x2 x3 x10 x12 x13 (fun x8 => ret x8))

def haruspexlaw2_UnionFind_r9 (F : Nat) (x1 x2 x3 x10 x11 : Value) (K : Value → Value → Value → Value → Value → M Value) : M Value :=
  bnd (opBin .add x11 (.int .i64 (1))) fun v52 => K x1 x2 x3 x10 v52

theorem haruspexlaw2_UnionFind_r9_ok (F : Nat) (x1 x2 x3 x10 x11 : Value) (K : Value → Value → Value → Value → Value → M Value) : haruspexlaw2_UnionFind_r9 F x1 x2 x3 x10 x11 K = runK Try.prog TryG (haruspexlaw2_UnionFind_env F) Try.f6.ntmps (opsOf Try.f6 9) (List.range (opsOf Try.f6 9).size) [(11, x11), (10, x10), (3, x3), (2, x2), (1, x1)] fun Γ => appK [1, 2, 3, 10, 11] Γ K := by kernel_rfl

def haruspexlaw2_UnionFind_r10 (F : Nat) (x1 x2 x3 x10 x11 : Value) (K : Value → Value → Value → Value → Value → M Value) : M Value :=
  bnd (opIndexAddr 2 x1 x11) fun v56 => bnd (opIndexAddrA 2 1 v56 (.int .i64 (0))) fun v57 => bnd (opLoad v57) fun v58 => bnd (opIndexAddr 2 x1 x11) fun v61 => bnd (opIndexAddrA 2 1 v61 (.int .i64 (1))) fun v62 => bnd (opLoad v62) fun v63 => bnd (union_Union_Join F x10 v58 v63) fun v64 => K x1 x2 x3 x10 x11

theorem haruspexlaw2_UnionFind_r10_ok (F : Nat) (x1 x2 x3 x10 x11 : Value) (K : Value → Value → Value → Value → Value → M Value) : haruspexlaw2_UnionFind_r10 F x1 x2 x3 x10 x11 K = drawK Try.prog TryG (haruspexlaw2_UnionFind_env F) Try.f6.ntmps (opsOf Try.f6 10) (bef (opsOf Try.f6 10)) [0, 1, 2, 3, 4, 5, 6, 7, 8, 9, 10, 11] [] [(11, x11), (10, x10), (3, x3), (2, x2), (1, x1)] fun Γ => appK [1, 2, 3, 10, 11] Γ K := by kernel_rfl

theorem haruspexlaw2_UnionFind_r10_good : goodOrder (opsOf Try.f6 10) [0, 1, 2, 3, 4, 5, 6, 7, 8, 9, 10, 11] = true := by kernel_rfl

def haruspexlaw2_UnionFind_r8 (F : Nat) (x1 x2 x3 x10 x11 : Value) (K : Value → Value → Value → Value → Value → Value → M Value) : M Value :=
  bnd (opLen x1) fun v45 => bnd (opBin .lss x11 v45) fun v46 => onB v46 (bnd (opBin .lss x11 (.int .i64 (40))) fun v49 => K x1 x2 x3 x10 x11 v49) (K x1 x2 x3 x10 x11 (.bool false))

theorem haruspexlaw2_UnionFind_r8_ok (F : Nat) (x1 x2 x3 x10 x11 : Value) (K : Value → Value → Value → Value → Value → Value → M Value) : haruspexlaw2_UnionFind_r8 F x1 x2 x3 x10 x11 K = runK Try.prog TryG (haruspexlaw2_UnionFind_env F) Try.f6.ntmps (opsOf Try.f6 8) (List.range (opsOf Try.f6 8).size) [(11, x11), (10, x10), (3, x3), (2, x2), (1, x1)] fun Γ => appK [1, 2, 3, 10, 11, 50] Γ K := by kernel_rfl

def haruspexlaw2_UnionFind_b1 (F : Nat) (E1_0 : Value → Value → Value → M Value) (A1 : Value → Value → Value → Value → Value → M Value) (x1 x2 x3 x10 x11 : Value) : M Value :=
  haruspexlaw2_UnionFind_r8 F x1 x2 x3 x10 x11 (fun x1 x2 x3 x10 x11 x50 => onB x50 (haruspexlaw2_UnionFind_r10 F x1 x2 x3 x10 x11 (fun x1 x2 x3 x10 x11 => haruspexlaw2_UnionFind_r9 F x1 x2 x3 x10 x11 (fun x1 x2 x3 x10 x11 => A1 x1 x2 x3 x10 x11))) (E1_0 x2 x3 x10))

def haruspexlaw2_UnionFind_l1 (F : Nat) (E1_0 : Value → Value → Value → M Value) : Nat → Value → Value → Value → Value → Value → M Value
  | 0, _, _, _, _, _ => fail
  | k1 + 1, x1, x2, x3, x10, x11 => haruspexlaw2_UnionFind_b1 F E1_0 (haruspexlaw2_UnionFind_l1 F E1_0 k1) x1 x2 x3 x10 x11

theorem haruspexlaw2_UnionFind_l1_s (F : Nat) (E1_0 : Value → Value → Value → M Value) (k1 : Nat) (x1 x2 x3 x10 x11 : Value) : haruspexlaw2_UnionFind_l1 F E1_0 (k1 + 1) x1 x2 x3 x10 x11 = haruspexlaw2_UnionFind_b1 F E1_0 (haruspexlaw2_UnionFind_l1 F E1_0 k1) x1 x2 x3 x10 x11 := rfl

def haruspexlaw2_UnionFind_r7 (F : Nat) (x1 x2 x3 x10 : Value) (K : Value → Value → Value → Value → Value → M Value) : M Value :=
  K x1 x2 x3 x10 (.int .i64 (0))

theorem haruspexlaw2_UnionFind_r7_ok (F : Nat) (x1 x2 x3 x10 : Value) (K : Value → Value → Value → Value → Value → M Value) : haruspexlaw2_UnionFind_r7 F x1 x2 x3 x10 K = runK Try.prog TryG (haruspexlaw2_UnionFind_env F) Try.f6.ntmps (opsOf Try.f6 7) (List.range (opsOf Try.f6 7).size) [(10, x10), (3, x3), (2, x2), (1, x1)] fun Γ => appK [1, 2, 3, 10, 11] Γ K := by kernel_rfl

def haruspexlaw2_UnionFind_r6 (F : Nat) (x0 x1 x2 x3 : Value) (K : Value → Value → Value → Value → M Value) : M Value :=
  bnd (union_New F x0) fun v42 => K x1 x2 x3 v42

theorem haruspexlaw2_UnionFind_r6_ok (F : Nat) (x0 x1 x2 x3 : Value) (K : Value → Value → Value → Value → M Value) : haruspexlaw2_UnionFind_r6 F x0 x1 x2 x3 K = runK Try.prog TryG (haruspexlaw2_UnionFind_env F) Try.f6.ntmps (opsOf Try.f6 6) (List.range (opsOf Try.f6 6).size) [(3, x3), (2, x2), (1, x1), (0, x0)] fun Γ => appK [1, 2, 3, 10] Γ K := by kernel_rfl

def haruspexlaw2_UnionFind_r5 (F : Nat) (K : Value → M Value) : M Value :=
  K (.bool true)

theorem haruspexlaw2_UnionFind_r5_ok (F : Nat) (K : Value → M Value) : haruspexlaw2_UnionFind_r5 F K = runK Try.prog TryG (haruspexlaw2_UnionFind_env F) Try.f6.ntmps (opsOf Try.f6 5) (List.range (opsOf Try.f6 5).size) [] fun Γ => appK [8] Γ K := by kernel_rfl

def haruspexlaw2_UnionFind_r4 (F : Nat) (x0 x1 x2 x3 : Value) (K : Value → Value → Value → Value → Value → M Value) : M Value :=
  bnd (opBin .lss x0 (.int .i64 (1))) fun v18 => onB v18 (K x0 x1 x2 x3 (.bool true)) (bnd (opBin .gtr x0 (.int .i64 (60))) fun v21 => onB v21 (K x0 x1 x2 x3 (.bool true)) (bnd (opBin .lss x2 (.int .i64 (0))) fun v25 => onB v25 (K x0 x1 x2 x3 (.bool true)) (bnd (opBin .geq x2 x0) fun v30 => onB v30 (K x0 x1 x2 x3 (.bool true)) (bnd (opBin .lss x3 (.int .i64 (0))) fun v34 => onB v34 (K x0 x1 x2 x3 (.bool true)) (bnd (opBin .geq x3 x0) fun v39 => K x0 x1 x2 x3 v39)))))

theorem haruspexlaw2_UnionFind_r4_ok (F : Nat) (x0 x1 x2 x3 : Value) (K : Value → Value → Value → Value → Value → M Value) : haruspexlaw2_UnionFind_r4 F x0 x1 x2 x3 K = runK Try.prog TryG (haruspexlaw2_UnionFind_env F) Try.f6.ntmps (opsOf Try.f6 4) (List.range (opsOf Try.f6 4).size) [(3, x3), (2, x2), (1, x1), (0, x0)] fun Γ => appK [0, 1, 2, 3, 40] Γ K := by kernel_rfl

def haruspexlaw2_UnionFind_r3 (F : Nat) (K : Value → M Value) : M Value :=
  K (.bool false)

theorem haruspexlaw2_UnionFind_r3_ok (F : Nat) (K : Value → M Value) : haruspexlaw2_UnionFind_r3 F K = runK Try.prog TryG (haruspexlaw2_UnionFind_env F) Try.f6.ntmps (opsOf Try.f6 3) (List.range (opsOf Try.f6 3).size) [] fun Γ => appK [8] Γ K := by kernel_rfl

def haruspexlaw2_UnionFind_r2 (F : Nat) (x0 x1 x2 x3 x9 : Value) (K : Value → Value → Value → Value → Value → M Value) : M Value :=
  bnd (opNot x9) fun v16 => K x0 x1 x2 x3 v16

theorem haruspexlaw2_UnionFind_r2_ok (F : Nat) (x0 x1 x2 x3 x9 : Value) (K : Value → Value → Value → Value → Value → M Value) : haruspexlaw2_UnionFind_r2 F x0 x1 x2 x3 x9 K = runK Try.prog TryG (haruspexlaw2_UnionFind_env F) Try.f6.ntmps (opsOf Try.f6 2) (List.range (opsOf Try.f6 2).size) [(9, x9), (3, x3), (2, x2), (1, x1), (0, x0)] fun Γ => appK [0, 1, 2, 3, 16] Γ K := by kernel_rfl

def haruspexlaw2_UnionFind_r1 (F : Nat) (x0 x1 x2 x3 : Value) (K : Value → Value → Value → Value → Value → M Value) : M Value :=
  bnd (haruspexlaw2_begun F) fun v14 => K x0 x1 x2 x3 v14

theorem haruspexlaw2_UnionFind_r1_ok (F : Nat) (x0 x1 x2 x3 : Value) (K : Value → Value → Value → Value → Value → M Value) : haruspexlaw2_UnionFind_r1 F x0 x1 x2 x3 K = runK Try.prog TryG (haruspexlaw2_UnionFind_env F) Try.f6.ntmps (opsOf Try.f6 1) (List.range (opsOf Try.f6 1).size) [(3, x3), (2, x2), (1, x1), (0, x0)] fun Γ => appK [0, 1, 2, 3, 9] Γ K := by kernel_rfl

def haruspexlaw2_UnionFind_r0 (F : Nat) (x0 x1 x2 x3 : Value) (K : Value → Value → Value → Value → M Value) : M Value :=
  K x0 x1 x2 x3

theorem haruspexlaw2_UnionFind_r0_ok (F : Nat) (x0 x1 x2 x3 : Value) (K : Value → Value → Value → Value → M Value) : haruspexlaw2_UnionFind_r0 F x0 x1 x2 x3 K = runK Try.prog TryG (haruspexlaw2_UnionFind_env F) Try.f6.ntmps (opsOf Try.f6 0) (List.range (opsOf Try.f6 0).size) [(3, x3), (2, x2), (1, x1), (0, x0)] fun Γ => appK [0, 1, 2, 3] Γ K := by kernel_rfl

def haruspexlaw2_UnionFind (F : Nat) (x0 x1 x2 x3 : Value) : M Value :=
  haruspexlaw2_UnionFind_r0 F x0 x1 x2 x3 (fun x0 x1 x2 x3 => haruspexlaw2_UnionFind_r1 F x0 x1 x2 x3 (fun x0 x1 x2 x3 x9 => haruspexlaw2_UnionFind_r2 F x0 x1 x2 x3 x9 (fun x0 x1 x2 x3 x16 => onB x16 (haruspexlaw2_UnionFind_r3 F (fun x8 => ret x8)) (haruspexlaw2_UnionFind_r4 F x0 x1 x2 x3 (fun x0 x1 x2 x3 x40 => onB x40 (haruspexlaw2_UnionFind_r5 F (fun x8 => ret x8)) (haruspexlaw2_UnionFind_r6 F x0 x1 x2 x3 (fun x1 x2 x3 x10 => haruspexlaw2_UnionFind_r7 F x1 x2 x3 x10 (fun x1 x2 x3 x10 x11 => haruspexlaw2_UnionFind_l1 F (fun x2 x3 x10 => haruspexlaw2_UnionFind_k0 F x2 x3 x10) F x1 x2 x3 x10 x11))))))))

def haruspexlaw2_UnionFind_m (F : Nat) : List Value → M Value
  | [x0, x1, x2, x3] => haruspexlaw2_UnionFind F x0 x1 x2 x3
  | _ => fail

theorem haruspexlaw2_UnionFind_body : Try.f6.body = some (.seq (.region 0 (opsOf Try.f6 0) false) (.seq (.region 1 (opsOf Try.f6 1) false) (.seq (.seq (.region 2 (opsOf Try.f6 2) false) (.cond (.tmp 16) (.seq (.region 3 (opsOf Try.f6 3) false) .ret) .skip)) (.seq (.seq (.region 4 (opsOf Try.f6 4) false) (.cond (.tmp 40) (.seq (.region 5 (opsOf Try.f6 5) false) .ret) .skip)) (.seq (.region 6 (opsOf Try.f6 6) false) (.seq (.seq (.region 7 (opsOf Try.f6 7) false) (.block 0 (.loop (.seq (.seq (.region 8 (opsOf Try.f6 8) false) (.cond (.tmp 50) .skip (.exit 0))) (.seq (.block 1 (.region 10 (opsOf Try.f6 10) true)) (.region 9 (opsOf Try.f6 9) false)))))) (.seq (.region 11 (opsOf Try.f6 11) false) (.seq (.region 12 (opsOf Try.f6 12) false) .ret)))))))) := by kernel_rfl

theorem haruspexlaw2_UnionFind_ok (F : Nat) : Sim Try.prog TryG 6 (haruspexlaw2_UnionFind_m F) := by
  have hE : EnvOK Try.prog TryG (haruspexlaw2_UnionFind_env F) := (EnvOK.cons (haruspexlaw2_begun_ok F) (EnvOK.cons (union_New_ok F) (EnvOK.cons (union_Union_Join_ok F) (EnvOK.cons (union_Union_Find_ok F) (EnvOK.cons (union_Union_Same_ok F) EnvOK.nil)))))
  refine Sim.of_body (E := haruspexlaw2_UnionFind_env F) Try.func6 haruspexlaw2_UnionFind_body Try.call6 ?_ ?_
  · intro args hl; unfold haruspexlaw2_UnionFind_m; split
    · exact absurd hl (Nat.not_lt.2 (Nat.le_of_ble_eq_true rfl))
    · rfl
  · intro args ρ h w z; unfold haruspexlaw2_UnionFind_m; split
    · rename_i x0 x1 x2 x3; show OKc _ _ [(0, x0), (1, x1), (2, x2), (3, x3)] _ _
      refine rSeq ?_
      refine cLess [3, 2, 1, 0] ?_
      refine xRegion hE [0, 1, 2, 3] (haruspexlaw2_UnionFind_r0_ok F _ _ _ _ _) ?_
      intro x0 x1 x2 x3
      show OKq _ _ _ [(3, x3), (2, x2), (1, x1), (0, x0)] _
      refine rThen ?_
      refine rSeq ?_
      refine cLess [3, 2, 1, 0] ?_
      refine xRegion hE [0, 1, 2, 3, 9] (haruspexlaw2_UnionFind_r1_ok F _ _ _ _ _) ?_
      intro x0 x1 x2 x3 x9
      show OKq _ _ _ [(9, x9), (3, x3), (2, x2), (1, x1), (0, x0)] _
      refine rThen ?_
      refine rSeq ?_
      refine rSeq ?_
      refine cLess [9, 3, 2, 1, 0] ?_
      refine xRegion hE [0, 1, 2, 3, 16] (haruspexlaw2_UnionFind_r2_ok F _ _ _ _ _ _) ?_
      intro x0 x1 x2 x3 x16
      show OKq _ _ _ [(16, x16), (3, x3), (2, x2), (1, x1), (0, x0)] _
      refine rThen ?_
      refine xCond rfl rfl ?_ ?_
      · refine rSeq ?_
        refine cLess [] ?_
        refine xRegion hE [8] (haruspexlaw2_UnionFind_r3_ok F _) ?_
        intro x8
        show OKq _ _ _ [(8, x8)] _
        refine rThen ?_
        refine rRet ?_
        refine xThenR ?_
        exact rDone (.inr rfl) rfl
      · refine rSkip ?_
        refine rThen ?_
        refine rSeq ?_
        refine rSeq ?_
        refine cLess [3, 2, 1, 0] ?_
        refine xRegion hE [0, 1, 2, 3, 40] (haruspexlaw2_UnionFind_r4_ok F _ _ _ _ _) ?_
        intro x0 x1 x2 x3 x40
        show OKq _ _ _ [(40, x40), (3, x3), (2, x2), (1, x1), (0, x0)] _
        refine rThen ?_
        refine xCond rfl rfl ?_ ?_
        · refine rSeq ?_
          refine cLess [] ?_
          refine xRegion hE [8] (haruspexlaw2_UnionFind_r5_ok F _) ?_
          intro x8
          show OKq _ _ _ [(8, x8)] _
          refine rThen ?_
          refine rRet ?_
          refine xThenR ?_
          exact rDone (.inr rfl) rfl
        · refine rSkip ?_
          refine rThen ?_
          refine rSeq ?_
          refine cLess [3, 2, 1, 0] ?_
          refine xRegion hE [1, 2, 3, 10] (haruspexlaw2_UnionFind_r6_ok F _ _ _ _ _) ?_
          intro x1 x2 x3 x10
          show OKq _ _ _ [(10, x10), (3, x3), (2, x2), (1, x1)] _
          refine rThen ?_
          refine xSeq [2, 3, 10] (haruspexlaw2_UnionFind_k0 F ) ?_ fun hj0 => ?_
          · intro x2 x3 x10
            show OKc _ _ [(10, x10), (3, x3), (2, x2)] _ _
            refine rSeq ?_
            refine cLess [10, 3, 2] ?_
            refine xRegion hE [2, 3, 10, 12, 13] (haruspexlaw2_UnionFind_r11_ok F _ _ _ _) ?_
            intro x2 x3 x10 x12 x13
            show OKq _ _ _ [(13, x13), (12, x12), (10, x10), (3, x3), (2, x2)] _
            refine rThen ?_
            refine rSeq ?_
            refine cLess [13, 12, 10, 3, 2] ?_
            refine xRegion hE [8] (haruspexlaw2_UnionFind_r12_ok F _ _ _ _ _ _) ?_
            intro x8
            show OKq _ _ _ [(8, x8)] _
            refine rThen ?_
            refine rRet ?_
            exact rDone (.inr rfl) rfl
          · refine rSeq ?_
            refine cLess [10, 3, 2, 1] ?_
            refine xRegion hE [1, 2, 3, 10, 11] (haruspexlaw2_UnionFind_r7_ok F _ _ _ _ _) ?_
            intro x1 x2 x3 x10 x11
            show OKq _ _ _ [(11, x11), (10, x10), (3, x3), (2, x2), (1, x1)] _
            refine rThen ?_
            refine rBlock ?_
            refine cLess [11, 10, 3, 2, 1] ?_
            refine xLoopAt [1, 2, 3, 10, 11] [] (fun k1 => haruspexlaw2_UnionFind_l1 F (fun x2 x3 x10 => haruspexlaw2_UnionFind_k0 F x2 x3 x10) k1) F [x1, x2, x3, x10, x11] rfl rfl (fun _ _ _ _ _ => rfl) fun I hI1 k1 => ?_
            intro x1 x2 x3 x10 x11
            show OKc _ _ [(11, x11), (10, x10), (3, x3), (2, x2), (1, x1)] _ _
            refine cAs (haruspexlaw2_UnionFind_l1_s F _ _ _ _ _ _ _) ?_
            refine rSeq ?_
            refine rSeq ?_
            refine cLess [11, 10, 3, 2, 1] ?_
            refine xRegion hE [1, 2, 3, 10, 11, 50] (haruspexlaw2_UnionFind_r8_ok F _ _ _ _ _ _) ?_
            intro x1 x2 x3 x10 x11 x50
            show OKq _ _ _ [(50, x50), (11, x11), (10, x10), (3, x3), (2, x2), (1, x1)] _
            refine rThen ?_
            refine xCond rfl rfl ?_ ?_
            · refine rSkip ?_
              refine rThen ?_
              refine rSeq ?_
              refine rBlock ?_
              refine cLess [11, 10, 3, 2, 1] ?_
              refine xDraw Trymix hE [1, 2, 3, 10, 11] haruspexlaw2_UnionFind_r10_good (haruspexlaw2_UnionFind_r10_ok F _ _ _ _ _ _) ?_
              intro x1 x2 x3 x10 x11
              show OKq _ _ _ [(11, x11), (10, x10), (3, x3), (2, x2), (1, x1)] _
              refine xBlockN ?_
              refine rThen ?_
              refine cLess [11, 10, 3, 2, 1] ?_
              refine xRegion hE [1, 2, 3, 10, 11] (haruspexlaw2_UnionFind_r9_ok F _ _ _ _ _ _) ?_
              intro x1 x2 x3 x10 x11
              show OKq _ _ _ [(11, x11), (10, x10), (3, x3), (2, x2), (1, x1)] _
              exact qLess [11, 10, 3, 2, 1] (hI1 k1 x1 x2 x3 x10 x11)
            · refine rExit ?_
              refine xThenX ?_
              refine xThenX ?_
              refine rOut ?_
              exact qLess [10, 3, 2] (hj0 x2 x3 x10)
    · exact rFail


/-! ### haruspex/haruspexlaw2.UnionChain -/

def haruspexlaw2_UnionChain_env (F : Nat) : Env := envOf [(9, haruspexlaw2_begun_m F), (10, union_New_m F), (11, union_Union_Join_m F), (14, union_Union_Find_m F), (16, union_Union_Len_m F)]

def haruspexlaw2_UnionChain_r18 (F : Nat) (x4 x5 : Value) (K : Value → M Value) : M Value :=
  bnd (union_Union_Len F x4) fun v56 => bnd (opBin .eql v56 (.int .i64 (1))) fun v57 => onB v57 (bnd (union_Union_Len F x5) fun v60 => bnd (opBin .eql v60 (.int .i64 (2))) fun v61 => K v61) (K (.bool false))

theorem haruspexlaw2_UnionChain_r18_ok (F : Nat) (x4 x5 : Value) (K : Value → M Value) : haruspexlaw2_UnionChain_r18 F x4 x5 K = runK Try.prog TryG (haruspexlaw2_UnionChain_env F) Try.f7.ntmps (opsOf Try.f7 18) (List.range (opsOf Try.f7 18).size) [(5, x5), (4, x4)] fun Γ => appK [2] Γ K := by kernel_rfl

def haruspexlaw2_UnionChain_k0 (F : Nat) (x4 x5 : Value) : M Value :=
  haruspexlaw2_UnionChain_r18 F x4 x5 (fun x2 => ret x2)

def haruspexlaw2_UnionChain_r15 (F : Nat) (x0 x4 x5 x7 : Value) (K : Value → Value → Value → Value → M Value) : M Value :=
  bnd (opBin .add x7 (.int .i64 (1))) fun v42 => K x0 x4 x5 v42

theorem haruspexlaw2_UnionChain_r15_ok (F : Nat) (x0 x4 x5 x7 : Value) (K : Value → Value → Value → Value → M Value) : haruspexlaw2_UnionChain_r15 F x0 x4 x5 x7 K = runK Try.prog TryG (haruspexlaw2_UnionChain_env F) Try.f7.ntmps (opsOf Try.f7 15) (List.range (opsOf Try.f7 15).size) [(7, x7), (5, x5), (4, x4), (0, x0)] fun Γ => appK [0, 4, 5, 7] Γ K := by kernel_rfl

def haruspexlaw2_UnionChain_r17 (F : Nat) (K : Value → M Value) : M Value :=
  K (.bool false)

theorem haruspexlaw2_UnionChain_r17_ok (F : Nat) (K : Value → M Value) : haruspexlaw2_UnionChain_r17 F K = runK Try.prog TryG (haruspexlaw2_UnionChain_env F) Try.f7.ntmps (opsOf Try.f7 17) (List.range (opsOf Try.f7 17).size) [] fun Γ => appK [2] Γ K := by kernel_rfl

def haruspexlaw2_UnionChain_r16 (F : Nat) (x0 x4 x5 x7 : Value) (K : Value → Value → Value → Value → Value → M Value) : M Value :=
  bnd (union_Union_Find F x4 x7) fun v45 => bnd (opBin .neq v45 (.int .i64 (0))) fun v46 => onB v46 (K x0 x4 x5 x7 (.bool true)) (bnd (union_Union_Find F x5 x7) fun v50 => bnd (opBin .rem x7 (.int .i64 (2))) fun v52 => bnd (opBin .neq v50 v52) fun v53 => K x0 x4 x5 x7 v53)

theorem haruspexlaw2_UnionChain_r16_ok (F : Nat) (x0 x4 x5 x7 : Value) (K : Value → Value → Value → Value → Value → M Value) : haruspexlaw2_UnionChain_r16 F x0 x4 x5 x7 K = runK Try.prog TryG (haruspexlaw2_UnionChain_env F) Try.f7.ntmps (opsOf Try.f7 16) (List.range (opsOf Try.f7 16).size) [(7, x7), (5, x5), (4, x4), (0, x0)] fun Γ => appK [0, 4, 5, 7, 54] Γ K := by kernel_rfl

def haruspexlaw2_UnionChain_r14 (F : Nat) (x0 x4 x5 x7 : Value) (K : Value → Value → Value → Value → Value → M Value) : M Value :=
  bnd (opBin .lss x7 x0) fun v40 => K x0 x4 x5 x7 v40

theorem haruspexlaw2_UnionChain_r14_ok (F : Nat) (x0 x4 x5 x7 : Value) (K : Value → Value → Value → Value → Value → M Value) : haruspexlaw2_UnionChain_r14 F x0 x4 x5 x7 K = runK Try.prog TryG (haruspexlaw2_UnionChain_env F) Try.f7.ntmps (opsOf Try.f7 14) (List.range (opsOf Try.f7 14).size) [(7, x7), (5, x5), (4, x4), (0, x0)] fun Γ => appK [0, 4, 5, 7, 40] Γ K := by kernel_rfl

def haruspexlaw2_UnionChain_b1 (F : Nat) (E1_2 : Value → Value → M Value) (A1 : Value → Value → Value → Value → M Value) (x0 x4 x5 x7 : Value) : M Value :=
  haruspexlaw2_UnionChain_r14 F x0 x4 x5 x7 (fun x0 x4 x5 x7 x40 => onB x40 (haruspexlaw2_UnionChain_r16 F x0 x4 x5 x7 (fun x0 x4 x5 x7 x54 => onB x54 (haruspexlaw2_UnionChain_r17 F (fun x2 => ret x2)) (haruspexlaw2_UnionChain_r15 F x0 x4 x5 x7 (fun x0 x4 x5 x7 => A1 x0 x4 x5 x7)))) (E1_2 x4 x5))

def haruspexlaw2_UnionChain_l1 (F : Nat) (E1_2 : Value → Value → M Value) : Nat → Value → Value → Value → Value → M Value
  | 0, _, _, _, _ => fail
  | k1 + 1, x0, x4, x5, x7 => haruspexlaw2_UnionChain_b1 F E1_2 (haruspexlaw2_UnionChain_l1 F E1_2 k1) x0 x4 x5 x7

theorem haruspexlaw2_UnionChain_l1_s (F : Nat) (E1_2 : Value → Value → M Value) (k1 : Nat) (x0 x4 x5 x7 : Value) : haruspexlaw2_UnionChain_l1 F E1_2 (k1 + 1) x0 x4 x5 x7 = haruspexlaw2_UnionChain_b1 F E1_2 (haruspexlaw2_UnionChain_l1 F E1_2 k1) x0 x4 x5 x7 := rfl

def haruspexlaw2_UnionChain_r13 (F : Nat) (x0 x4 x5 : Value) (K : Value → Value → Value → Value → M Value) : M Value :=
  K x0 x4 x5 (.int .i64 (0))

theorem haruspexlaw2_UnionChain_r13_ok (F : Nat) (x0 x4 x5 : Value) (K : Value → Value → Value → Value → M Value) : haruspexlaw2_UnionChain_r13 F x0 x4 x5 K = runK Try.prog TryG (haruspexlaw2_UnionChain_env F) Try.f7.ntmps (opsOf Try.f7 13) (List.range (opsOf Try.f7 13).size) [(5, x5), (4, x4), (0, x0)] fun Γ => appK [0, 4, 5, 7] Γ K := by kernel_rfl

def haruspexlaw2_UnionChain_k2 (F : Nat) (x0 x4 x5 : Value) : M Value :=
  haruspexlaw2_UnionChain_r13 F x0 x4 x5 (fun x0 x4 x5 x7 => haruspexlaw2_UnionChain_l1 F (fun x4 x5 => haruspexlaw2_UnionChain_k0 F x4 x5) F x0 x4 x5 x7)

def haruspexlaw2_UnionChain_r9 (F : Nat) (x0 x4 x5 x6 : Value) (K : Value → Value → Value → Value → M Value) : M Value :=
  bnd (opBin .add x6 (.int .i64 (1))) fun v25 => K x0 x4 x5 v25

theorem haruspexlaw2_UnionChain_r9_ok (F : Nat) (x0 x4 x5 x6 : Value) (K : Value → Value → Value → Value → M Value) : haruspexlaw2_UnionChain_r9 F x0 x4 x5 x6 K = runK Try.prog TryG (haruspexlaw2_UnionChain_env F) Try.f7.ntmps (opsOf Try.f7 9) (List.range (opsOf Try.f7 9).size) [(6, x6), (5, x5), (4, x4), (0, x0)] fun Γ => appK [0, 4, 5, 6] Γ K := by kernel_rfl

def haruspexlaw2_UnionChain_k4 (F : Nat) (A3 : Value → Value → Value → Value → M Value) (x0 x4 x5 x6 : Value) : M Value :=
  haruspexlaw2_UnionChain_r9 F x0 x4 x5 x6 (fun x0 x4 x5 x6 => A3 x0 x4 x5 x6)

def haruspexlaw2_UnionChain_r12 (F : Nat) (x0 x4 x5 x6 : Value) (K : Value → Value → Value → Value → M Value) : M Value :=
  bnd (opBin .sub x6 (.int .i64 (2))) fun v36 => bnd (union_Union_Join F x5 x6 v36) fun v37 => K x0 x4 x5 x6

theorem haruspexlaw2_UnionChain_r12_ok (F : Nat) (x0 x4 x5 x6 : Value) (K : Value → Value → Value → Value → M Value) : haruspexlaw2_UnionChain_r12 F x0 x4 x5 x6 K = runK Try.prog TryG (haruspexlaw2_UnionChain_env F) Try.f7.ntmps (opsOf Try.f7 12) (List.range (opsOf Try.f7 12).size) [(6, x6), (5, x5), (4, x4), (0, x0)] fun Γ => appK [0, 4, 5, 6] Γ K := by kernel_rfl

def haruspexlaw2_UnionChain_r11 (F : Nat) (x0 x4 x5 x6 : Value) (K : Value → Value → Value → Value → Value → M Value) : M Value :=
  bnd (opBin .gtr x6 (.int .i64 (1))) fun v32 => K x0 x4 x5 x6 v32

theorem haruspexlaw2_UnionChain_r11_ok (F : Nat) (x0 x4 x5 x6 : Value) (K : Value → Value → Value → Value → Value → M Value) : haruspexlaw2_UnionChain_r11 F x0 x4 x5 x6 K = runK Try.prog TryG (haruspexlaw2_UnionChain_env F) Try.f7.ntmps (opsOf Try.f7 11) (List.range (opsOf Try.f7 11).size) [(6, x6), (5, x5), (4, x4), (0, x0)] fun Γ => appK [0, 4, 5, 6, 32] Γ K := by kernel_rfl

def haruspexlaw2_UnionChain_r10 (F : Nat) (x0 x4 x5 x6 : Value) (K : Value → Value → Value → Value → M Value) : M Value :=
  bnd (opBin .sub x6 (.int .i64 (1))) fun v29 => bnd (union_Union_Join F x4 x6 v29) fun v30 => K x0 x4 x5 x6

theorem haruspexlaw2_UnionChain_r10_ok (F : Nat) (x0 x4 x5 x6 : Value) (K : Value → Value → Value → Value → M Value) : haruspexlaw2_UnionChain_r10 F x0 x4 x5 x6 K = runK Try.prog TryG (haruspexlaw2_UnionChain_env F) Try.f7.ntmps (opsOf Try.f7 10) (List.range (opsOf Try.f7 10).size) [(6, x6), (5, x5), (4, x4), (0, x0)] fun Γ => appK [0, 4, 5, 6] Γ K := by kernel_rfl

def haruspexlaw2_UnionChain_r8 (F : Nat) (x0 x4 x5 x6 : Value) (K : Value → Value → Value → Value → Value → M Value) : M Value :=
  bnd (opBin .lss x6 x0) fun v23 => K x0 x4 x5 x6 v23

theorem haruspexlaw2_UnionChain_r8_ok (F : Nat) (x0 x4 x5 x6 : Value) (K : Value → Value → Value → Value → Value → M Value) : haruspexlaw2_UnionChain_r8 F x0 x4 x5 x6 K = runK Try.prog TryG (haruspexlaw2_UnionChain_env F) Try.f7.ntmps (opsOf Try.f7 8) (List.range (opsOf Try.f7 8).size) [(6, x6), (5, x5), (4, x4), (0, x0)] fun Γ => appK [0, 4, 5, 6, 23] Γ K := by kernel_rfl

def haruspexlaw2_UnionChain_b3 (F : Nat) (E3_0 : Value → Value → Value → M Value) (A3 : Value → Value → Value → Value → M Value) (x0 x4 x5 x6 : Value) : M Value :=
  haruspexlaw2_UnionChain_r8 F x0 x4 x5 x6 (fun x0 x4 x5 x6 x23 => onB x23 (haruspexlaw2_UnionChain_r10 F x0 x4 x5 x6 (fun x0 x4 x5 x6 => haruspexlaw2_UnionChain_r11 F x0 x4 x5 x6 (fun x0 x4 x5 x6 x32 => onB x32 (haruspexlaw2_UnionChain_r12 F x0 x4 x5 x6 (fun x0 x4 x5 x6 => haruspexlaw2_UnionChain_k4 F A3 x0 x4 x5 x6)) (haruspexlaw2_UnionChain_k4 F A3 x0 x4 x5 x6)))) (E3_0 x0 x4 x5))

def haruspexlaw2_UnionChain_l3 (F : Nat) (E3_0 : Value → Value → Value → M Value) : Nat → Value → Value → Value → Value → M Value
  | 0, _, _, _, _ => fail
  | k3 + 1, x0, x4, x5, x6 => haruspexlaw2_UnionChain_b3 F E3_0 (haruspexlaw2_UnionChain_l3 F E3_0 k3) x0 x4 x5 x6

theorem haruspexlaw2_UnionChain_l3_s (F : Nat) (E3_0 : Value → Value → Value → M Value) (k3 : Nat) (x0 x4 x5 x6 : Value) : haruspexlaw2_UnionChain_l3 F E3_0 (k3 + 1) x0 x4 x5 x6 = haruspexlaw2_UnionChain_b3 F E3_0 (haruspexlaw2_UnionChain_l3 F E3_0 k3) x0 x4 x5 x6 := rfl

def haruspexlaw2_UnionChain_r7 (F : Nat) (x0 x4 x5 : Value) (K : Value → Value → Value → Value → M Value) : M Value :=
  K x0 x4 x5 (.int .i64 (1))

theorem haruspexlaw2_UnionChain_r7_ok (F : Nat) (x0 x4 x5 : Value) (K : Value → Value → Value → Value → M Value) : haruspexlaw2_UnionChain_r7 F x0 x4 x5 K = runK Try.prog TryG (haruspexlaw2_UnionChain_env F) Try.f7.ntmps (opsOf Try.f7 7) (List.range (opsOf Try.f7 7).size) [(5, x5), (4, x4), (0, x0)] fun Γ => appK [0, 4, 5, 6] Γ K := by kernel_rfl

def haruspexlaw2_UnionChain_r6 (F : Nat) (x0 : Value) (K : Value → Value → Value → M Value) : M Value :=
  bnd (union_New F x0) fun v18 => bnd (union_New F x0) fun v20 => K x0 v18 v20

theorem haruspexlaw2_UnionChain_r6_ok (F : Nat) (x0 : Value) (K : Value → Value → Value → M Value) : haruspexlaw2_UnionChain_r6 F x0 K = runK Try.prog TryG (haruspexlaw2_UnionChain_env F) Try.f7.ntmps (opsOf Try.f7 6) (List.range (opsOf Try.f7 6).size) [(0, x0)] fun Γ => appK [0, 4, 5] Γ K := by kernel_rfl

def haruspexlaw2_UnionChain_r5 (F : Nat) (K : Value → M Value) : M Value :=
  K (.bool true)

theorem haruspexlaw2_UnionChain_r5_ok (F : Nat) (K : Value → M Value) : haruspexlaw2_UnionChain_r5 F K = runK Try.prog TryG (haruspexlaw2_UnionChain_env F) Try.f7.ntmps (opsOf Try.f7 5) (List.range (opsOf Try.f7 5).size) [] fun Γ => appK [2] Γ K := by kernel_rfl

def haruspexlaw2_UnionChain_r4 (F : Nat) (x0 : Value) (K : Value → Value → M Value) : M Value :=
  bnd (opBin .lss x0 (.int .i64 (3))) fun v12 => onB v12 (K x0 (.bool true)) (bnd (opBin .gtr x0 (.int .i64 (400))) fun v15 => K x0 v15)

theorem haruspexlaw2_UnionChain_r4_ok (F : Nat) (x0 : Value) (K : Value → Value → M Value) : haruspexlaw2_UnionChain_r4 F x0 K = runK Try.prog TryG (haruspexlaw2_UnionChain_env F) Try.f7.ntmps (opsOf Try.f7 4) (List.range (opsOf Try.f7 4).size) [(0, x0)] fun Γ => appK [0, 16] Γ K := by kernel_rfl

def haruspexlaw2_UnionChain_r3 (F : Nat) (K : Value → M Value) : M Value :=
  K (.bool false)

theorem haruspexlaw2_UnionChain_r3_ok (F : Nat) (K : Value → M Value) : haruspexlaw2_UnionChain_r3 F K = runK Try.prog TryG (haruspexlaw2_UnionChain_env F) Try.f7.ntmps (opsOf Try.f7 3) (List.range (opsOf Try.f7 3).size) [] fun Γ => appK [2] Γ K := by kernel_rfl

def haruspexlaw2_UnionChain_r2 (F : Nat) (x0 x3 : Value) (K : Value → Value → M Value) : M Value :=
  bnd (opNot x3) fun v10 => K x0 v10

theorem haruspexlaw2_UnionChain_r2_ok (F : Nat) (x0 x3 : Value) (K : Value → Value → M Value) : haruspexlaw2_UnionChain_r2 F x0 x3 K = runK Try.prog TryG (haruspexlaw2_UnionChain_env F) Try.f7.ntmps (opsOf Try.f7 2) (List.range (opsOf Try.f7 2).size) [(3, x3), (0, x0)] fun Γ => appK [0, 10] Γ K := by kernel_rfl

def haruspexlaw2_UnionChain_r1 (F : Nat) (x0 : Value) (K : Value → Value → M Value) : M Value :=
  bnd (haruspexlaw2_begun F) fun v8 => K x0 v8

theorem haruspexlaw2_UnionChain_r1_ok (F : Nat) (x0 : Value) (K : Value → Value → M Value) : haruspexlaw2_UnionChain_r1 F x0 K = runK Try.prog TryG (haruspexlaw2_UnionChain_env F) Try.f7.ntmps (opsOf Try.f7 1) (List.range (opsOf Try.f7 1).size) [(0, x0)] fun Γ => appK [0, 3] Γ K := by kernel_rfl

def haruspexlaw2_UnionChain_r0 (F : Nat) (x0 : Value) (K : Value → M Value) : M Value :=
  K x0

theorem haruspexlaw2_UnionChain_r0_ok (F : Nat) (x0 : Value) (K : Value → M Value) : haruspexlaw2_UnionChain_r0 F x0 K = runK Try.prog TryG (haruspexlaw2_UnionChain_env F) Try.f7.ntmps (opsOf Try.f7 0) (List.range (opsOf Try.f7 0).size) [(0, x0)] fun Γ => appK [0] Γ K := by kernel_rfl

def haruspexlaw2_UnionChain (F : Nat) (x0 : Value) : M Value :=
  haruspexlaw2_UnionChain_r0 F x0 (fun x0 => haruspexlaw2_UnionChain_r1 F x0 (fun x0 x3 => haruspexlaw2_UnionChain_r2 F x0 x3 (fun x0 x10 => onB x10 (haruspexlaw2_UnionChain_r3 F (fun x2 => ret x2)) (haruspexlaw2_UnionChain_r4 F x0 (fun x0 x16 => onB x16 (haruspexlaw2_UnionChain_r5 F (fun x2 => ret x2)) (haruspexlaw2_UnionChain_r6 F x0 (fun x0 x4 x5 => haruspexlaw2_UnionChain_r7 F x0 x4 x5 (fun x0 x4 x5 x6 => haruspexlaw2_UnionChain_l3 F (fun x0 x4 x5 => haruspexlaw2_UnionChain_k2 F x0 x4 x5) F x0 x4 x5 x6))))))))

def haruspexlaw2_UnionChain_m (F : Nat) : List Value → M Value
  | [x0] => haruspexlaw2_UnionChain F x0
  | _ => fail

theorem haruspexlaw2_UnionChain_body : Try.f7.body = some (.seq (.region 0 (opsOf Try.f7 0) false) (.seq (.region 1 (opsOf Try.f7 1) false) (.seq (.seq (.region 2 (opsOf Try.f7 2) false) (.cond (.tmp 10) (.seq (.region 3 (opsOf Try.f7 3) false) .ret) .skip)) (.seq (.seq (.region 4 (opsOf Try.f7 4) false) (.cond (.tmp 16) (.seq (.region 5 (opsOf Try.f7 5) false) .ret) .skip)) (.seq (.region 6 (opsOf Try.f7 6) false) (.seq (.seq (.region 7 (opsOf Try.f7 7) false) (.block 0 (.loop (.seq (.seq (.region 8 (opsOf Try.f7 8) false) (.cond (.tmp 23) .skip (.exit 0))) (.seq (.block 1 (.seq (.region 10 (opsOf Try.f7 10) false) (.seq (.region 11 (opsOf Try.f7 11) false) (.cond (.tmp 32) (.region 12 (opsOf Try.f7 12) false) .skip)))) (.region 9 (opsOf Try.f7 9) false)))))) (.seq (.seq (.region 13 (opsOf Try.f7 13) false) (.block 2 (.loop (.seq (.seq (.region 14 (opsOf Try.f7 14) false) (.cond (.tmp 40) .skip (.exit 2))) (.seq (.block 3 (.seq (.region 16 (opsOf Try.f7 16) false) (.cond (.tmp 54) (.seq (.region 17 (opsOf Try.f7 17) false) .ret) .skip))) (.region 15 (opsOf Try.f7 15) false)))))) (.seq (.region 18 (opsOf Try.f7 18) false) .ret)))))))) := by kernel_rfl

theorem haruspexlaw2_UnionChain_ok (F : Nat) : Sim Try.prog TryG 7 (haruspexlaw2_UnionChain_m F) := by
  have hE : EnvOK Try.prog TryG (haruspexlaw2_UnionChain_env F) := (EnvOK.cons (haruspexlaw2_begun_ok F) (EnvOK.cons (union_New_ok F) (EnvOK.cons (union_Union_Join_ok F) (EnvOK.cons (union_Union_Find_ok F) (EnvOK.cons (union_Union_Len_ok F) EnvOK.nil)))))
  refine Sim.of_body (E := haruspexlaw2_UnionChain_env F) Try.func7 haruspexlaw2_UnionChain_body Try.call7 ?_ ?_
  · intro args hl; unfold haruspexlaw2_UnionChain_m; split
    · exact absurd hl (Nat.not_lt.2 (Nat.le_of_ble_eq_true rfl))
    · rfl
  · intro args ρ h w z; unfold haruspexlaw2_UnionChain_m; split
    · rename_i x0; show OKc _ _ [(0, x0)] _ _
      refine rSeq ?_
      refine cLess [0] ?_
      refine xRegion hE [0] (haruspexlaw2_UnionChain_r0_ok F _ _) ?_
      intro x0
      show OKq _ _ _ [(0, x0)] _
      refine rThen ?_
      refine rSeq ?_
      refine cLess [0] ?_
      refine xRegion hE [0, 3] (haruspexlaw2_UnionChain_r1_ok F _ _) ?_
      intro x0 x3
      show OKq _ _ _ [(3, x3), (0, x0)] _
      refine rThen ?_
      refine rSeq ?_
      refine rSeq ?_
      refine cLess [3, 0] ?_
      refine xRegion hE [0, 10] (haruspexlaw2_UnionChain_r2_ok F _ _ _) ?_
      intro x0 x10
      show OKq _ _ _ [(10, x10), (0, x0)] _
      refine rThen ?_
      refine xCond rfl rfl ?_ ?_
      · refine rSeq ?_
        refine cLess [] ?_
        refine xRegion hE [2] (haruspexlaw2_UnionChain_r3_ok F _) ?_
        intro x2
        show OKq _ _ _ [(2, x2)] _
        refine rThen ?_
        refine rRet ?_
        refine xThenR ?_
        exact rDone (.inr rfl) rfl
      · refine rSkip ?_
        refine rThen ?_
        refine rSeq ?_
        refine rSeq ?_
        refine cLess [0] ?_
        refine xRegion hE [0, 16] (haruspexlaw2_UnionChain_r4_ok F _ _) ?_
        intro x0 x16
        show OKq _ _ _ [(16, x16), (0, x0)] _
        refine rThen ?_
        refine xCond rfl rfl ?_ ?_
        · refine rSeq ?_
          refine cLess [] ?_
          refine xRegion hE [2] (haruspexlaw2_UnionChain_r5_ok F _) ?_
          intro x2
          show OKq _ _ _ [(2, x2)] _
          refine rThen ?_
          refine rRet ?_
          refine xThenR ?_
          exact rDone (.inr rfl) rfl
        · refine rSkip ?_
          refine rThen ?_
          refine rSeq ?_
          refine cLess [0] ?_
          refine xRegion hE [0, 4, 5] (haruspexlaw2_UnionChain_r6_ok F _ _) ?_
          intro x0 x4 x5
          show OKq _ _ _ [(5, x5), (4, x4), (0, x0)] _
          refine rThen ?_
          refine xSeq [0, 4, 5] (haruspexlaw2_UnionChain_k2 F ) ?_ fun hj2 => ?_
          · intro x0 x4 x5
            show OKc _ _ [(5, x5), (4, x4), (0, x0)] _ _
            refine xSeq [4, 5] (haruspexlaw2_UnionChain_k0 F ) ?_ fun hj0 => ?_
            · intro x4 x5
              show OKc _ _ [(5, x5), (4, x4)] _ _
              refine rSeq ?_
              refine cLess [5, 4] ?_
              refine xRegion hE [2] (haruspexlaw2_UnionChain_r18_ok F _ _ _) ?_
              intro x2
              show OKq _ _ _ [(2, x2)] _
              refine rThen ?_
              refine rRet ?_
              exact rDone (.inr rfl) rfl
            · refine rSeq ?_
              refine cLess [5, 4, 0] ?_
              refine xRegion hE [0, 4, 5, 7] (haruspexlaw2_UnionChain_r13_ok F _ _ _ _) ?_
              intro x0 x4 x5 x7
              show OKq _ _ _ [(7, x7), (5, x5), (4, x4), (0, x0)] _
              refine rThen ?_
              refine rBlock ?_
              refine cLess [7, 5, 4, 0] ?_
              refine xLoopAt [0, 4, 5, 7] [] (fun k1 => haruspexlaw2_UnionChain_l1 F (fun x4 x5 => haruspexlaw2_UnionChain_k0 F x4 x5) k1) F [x0, x4, x5, x7] rfl rfl (fun _ _ _ _ => rfl) fun I hI1 k1 => ?_
              intro x0 x4 x5 x7
              show OKc _ _ [(7, x7), (5, x5), (4, x4), (0, x0)] _ _
              refine cAs (haruspexlaw2_UnionChain_l1_s F _ _ _ _ _ _) ?_
              refine rSeq ?_
              refine rSeq ?_
              refine cLess [7, 5, 4, 0] ?_
              refine xRegion hE [0, 4, 5, 7, 40] (haruspexlaw2_UnionChain_r14_ok F _ _ _ _ _) ?_
              intro x0 x4 x5 x7 x40
              show OKq _ _ _ [(40, x40), (7, x7), (5, x5), (4, x4), (0, x0)] _
              refine rThen ?_
              refine xCond rfl rfl ?_ ?_
              · refine rSkip ?_
                refine rThen ?_
                refine rSeq ?_
                refine rBlock ?_
                refine rSeq ?_
                refine cLess [7, 5, 4, 0] ?_
                refine xRegion hE [0, 4, 5, 7, 54] (haruspexlaw2_UnionChain_r16_ok F _ _ _ _ _) ?_
                intro x0 x4 x5 x7 x54
                show OKq _ _ _ [(54, x54), (7, x7), (5, x5), (4, x4), (0, x0)] _
                refine rThen ?_
                refine xCond rfl rfl ?_ ?_
                · refine rSeq ?_
                  refine cLess [] ?_
                  refine xRegion hE [2] (haruspexlaw2_UnionChain_r17_ok F _) ?_
                  intro x2
                  show OKq _ _ _ [(2, x2)] _
                  refine rThen ?_
                  refine rRet ?_
                  refine xBlockR ?_
                  refine xThenR ?_
                  refine xThenR ?_
                  refine xBlockR ?_
                  refine xThenR ?_
                  exact rDone (.inr rfl) rfl
                · refine rSkip ?_
                  refine xBlockN ?_
                  refine rThen ?_
                  refine cLess [7, 5, 4, 0] ?_
                  refine xRegion hE [0, 4, 5, 7] (haruspexlaw2_UnionChain_r15_ok F _ _ _ _ _) ?_
                  intro x0 x4 x5 x7
                  show OKq _ _ _ [(7, x7), (5, x5), (4, x4), (0, x0)] _
                  exact qLess [7, 5, 4, 0] (hI1 k1 x0 x4 x5 x7)
              · refine rExit ?_
                refine xThenX ?_
                refine xThenX ?_
                refine rOut ?_
                exact qLess [5, 4] (hj0 x4 x5)
          · refine rSeq ?_
            refine cLess [5, 4, 0] ?_
            refine xRegion hE [0, 4, 5, 6] (haruspexlaw2_UnionChain_r7_ok F _ _ _ _) ?_
            intro x0 x4 x5 x6
            show OKq _ _ _ [(6, x6), (5, x5), (4, x4), (0, x0)] _
            refine rThen ?_
            refine rBlock ?_
            refine cLess [6, 5, 4, 0] ?_
            refine xLoopAt [0, 4, 5, 6] [] (fun k3 => haruspexlaw2_UnionChain_l3 F (fun x0 x4 x5 => haruspexlaw2_UnionChain_k2 F x0 x4 x5) k3) F [x0, x4, x5, x6] rfl rfl (fun _ _ _ _ => rfl) fun I hI3 k3 => ?_
            intro x0 x4 x5 x6
            show OKc _ _ [(6, x6), (5, x5), (4, x4), (0, x0)] _ _
            refine cAs (haruspexlaw2_UnionChain_l3_s F _ _ _ _ _ _) ?_
            refine rSeq ?_
            refine rSeq ?_
            refine cLess [6, 5, 4, 0] ?_
            refine xRegion hE [0, 4, 5, 6, 23] (haruspexlaw2_UnionChain_r8_ok F _ _ _ _ _) ?_
            intro x0 x4 x5 x6 x23
            show OKq _ _ _ [(23, x23), (6, x6), (5, x5), (4, x4), (0, x0)] _
            refine rThen ?_
            refine xCond rfl rfl ?_ ?_
            · refine rSkip ?_
              refine rThen ?_
              refine xSeq [0, 4, 5, 6] (haruspexlaw2_UnionChain_k4 F (haruspexlaw2_UnionChain_l3 F (fun x0 x4 x5 => haruspexlaw2_UnionChain_k2 F x0 x4 x5) k3) ) ?_ fun hj4 => ?_
              · intro x0 x4 x5 x6
                show OKc _ _ [(6, x6), (5, x5), (4, x4), (0, x0)] _ _
                refine cLess [6, 5, 4, 0] ?_
                refine xRegion hE [0, 4, 5, 6] (haruspexlaw2_UnionChain_r9_ok F _ _ _ _ _) ?_
                intro x0 x4 x5 x6
                show OKq _ _ _ [(6, x6), (5, x5), (4, x4), (0, x0)] _
                exact qLess [6, 5, 4, 0] (hI3 k3 x0 x4 x5 x6)
              · refine rBlock ?_
                refine rSeq ?_
                refine cLess [6, 5, 4, 0] ?_
                refine xRegion hE [0, 4, 5, 6] (haruspexlaw2_UnionChain_r10_ok F _ _ _ _ _) ?_
                intro x0 x4 x5 x6
                show OKq _ _ _ [(6, x6), (5, x5), (4, x4), (0, x0)] _
                refine rThen ?_
                refine rSeq ?_
                refine cLess [6, 5, 4, 0] ?_
                refine xRegion hE [0, 4, 5, 6, 32] (haruspexlaw2_UnionChain_r11_ok F _ _ _ _ _) ?_
                intro x0 x4 x5 x6 x32
                show OKq _ _ _ [(32, x32), (6, x6), (5, x5), (4, x4), (0, x0)] _
                refine rThen ?_
                refine xCond rfl rfl ?_ ?_
                · refine cLess [6, 5, 4, 0] ?_
                  refine xRegion hE [0, 4, 5, 6] (haruspexlaw2_UnionChain_r12_ok F _ _ _ _ _) ?_
                  intro x0 x4 x5 x6
                  show OKq _ _ _ [(6, x6), (5, x5), (4, x4), (0, x0)] _
                  refine xBlockN ?_
                  exact qLess [6, 5, 4, 0] (hj4 x0 x4 x5 x6)
                · refine rSkip ?_
                  refine xBlockN ?_
                  exact qLess [6, 5, 4, 0] (hj4 x0 x4 x5 x6)
            · refine rExit ?_
              refine xThenX ?_
              refine xThenX ?_
              refine rOut ?_
              exact qLess [5, 4, 0] (hj2 x0 x4 x5)
    · exact rFail


/-! ### haruspex/haruspexlaw2.UnionOwn -/

def haruspexlaw2_UnionOwn_env (F : Nat) : Env := envOf [(9, haruspexlaw2_begun_m F), (10, union_New_m F), (11, union_Union_Join_m F), (12, haruspexref1_EqAll_m F), (13, union_Union_Groups_m F)]

def haruspexlaw2_UnionOwn_r20 (F : Nat) (x6 x9 : Value) (K : Value → M Value) : M Value :=
  bnd (union_Union_Groups F x6) fun v71 => bnd (haruspexref1_EqAll F v71 x9) fun v73 => K v73

theorem haruspexlaw2_UnionOwn_r20_ok (F : Nat) (x6 x9 : Value) (K : Value → M Value) : haruspexlaw2_UnionOwn_r20 F x6 x9 K = runK Try.prog TryG (haruspexlaw2_UnionOwn_env F) Try.f8.ntmps (opsOf Try.f8 20) (List.range (opsOf Try.f8 20).size) [(9, x9), (6, x6)] fun Γ => appK [4] Γ K := by kernel_rfl

def haruspexlaw2_UnionOwn_k0 (F : Nat) (x6 x9 : Value) : M Value :=
  haruspexlaw2_UnionOwn_r20 F x6 x9 (fun x4 => ret x4)

def haruspexlaw2_UnionOwn_r15 (F : Nat) (x6 x8 x9 x10 : Value) (K : Value → Value → Value → Value → M Value) : M Value :=
  bnd (opBin .add x10 (.int .i64 (1))) fun v54 => K x6 x8 x9 v54

theorem haruspexlaw2_UnionOwn_r15_ok (F : Nat) (x6 x8 x9 x10 : Value) (K : Value → Value → Value → Value → M Value) : haruspexlaw2_UnionOwn_r15 F x6 x8 x9 x10 K = runK Try.prog TryG (haruspexlaw2_UnionOwn_env F) Try.f8.ntmps (opsOf Try.f8 15) (List.range (opsOf Try.f8 15).size) [(10, x10), (9, x9), (8, x8), (6, x6)] fun Γ => appK [6, 8, 9, 10] Γ K := by kernel_rfl

def haruspexlaw2_UnionOwn_k2 (F : Nat) (A1 : Value → Value → Value → Value → M Value) (x6 x8 x9 x10 : Value) : M Value :=
  haruspexlaw2_UnionOwn_r15 F x6 x8 x9 x10 (fun x6 x8 x9 x10 => A1 x6 x8 x9 x10)

def haruspexlaw2_UnionOwn_r18 (F : Nat) (x6 x8 x9 x10 x11 : Value) (K : Value → Value → Value → Value → Value → M Value) : M Value :=
  bnd (opBin .add x11 (.int .i64 (1))) fun v63 => K x6 x8 x9 x10 v63

theorem haruspexlaw2_UnionOwn_r18_ok (F : Nat) (x6 x8 x9 x10 x11 : Value) (K : Value → Value → Value → Value → Value → M Value) : haruspexlaw2_UnionOwn_r18 F x6 x8 x9 x10 x11 K = runK Try.prog TryG (haruspexlaw2_UnionOwn_env F) Try.f8.ntmps (opsOf Try.f8 18) (List.range (opsOf Try.f8 18).size) [(11, x11), (10, x10), (9, x9), (8, x8), (6, x6)] fun Γ => appK [6, 8, 9, 10, 11] Γ K := by kernel_rfl

def haruspexlaw2_UnionOwn_r19 (F : Nat) (x6 x8 x9 x10 x11 : Value) (K : Value → Value → Value → Value → Value → M Value) : M Value :=
  bnd (opIndexAddr 1 x8 x10) fun v66 => bnd (opLoad v66) fun v67 => bnd (opIndexAddr 1 v67 x11) fun v69 => bnd (opStore v69 (.int .i64 (-7))) fun _ => K x6 x8 x9 x10 x11

theorem haruspexlaw2_UnionOwn_r19_ok (F : Nat) (x6 x8 x9 x10 x11 : Value) (K : Value → Value → Value → Value → Value → M Value) : haruspexlaw2_UnionOwn_r19 F x6 x8 x9 x10 x11 K = runK Try.prog TryG (haruspexlaw2_UnionOwn_env F) Try.f8.ntmps (opsOf Try.f8 19) (List.range (opsOf Try.f8 19).size) [(11, x11), (10, x10), (9, x9), (8, x8), (6, x6)] fun Γ => appK [6, 8, 9, 10, 11] Γ K := by kernel_rfl

def haruspexlaw2_UnionOwn_r17 (F : Nat) (x6 x8 x9 x10 x11 : Value) (K : Value → Value → Value → Value → Value → Value → M Value) : M Value :=
  bnd (opIndexAddr 1 x8 x10) fun v58 => bnd (opLoad v58) fun v59 => bnd (opLen v59) fun v60 => bnd (opBin .lss x11 v60) fun v61 => K x6 x8 x9 x10 x11 v61

theorem haruspexlaw2_UnionOwn_r17_ok (F : Nat) (x6 x8 x9 x10 x11 : Value) (K : Value → Value → Value → Value → Value → Value → M Value) : haruspexlaw2_UnionOwn_r17 F x6 x8 x9 x10 x11 K = runK Try.prog TryG (haruspexlaw2_UnionOwn_env F) Try.f8.ntmps (opsOf Try.f8 17) (List.range (opsOf Try.f8 17).size) [(11, x11), (10, x10), (9, x9), (8, x8), (6, x6)] fun Γ => appK [6, 8, 9, 10, 11, 61] Γ K := by kernel_rfl

def haruspexlaw2_UnionOwn_b3 (F : Nat) (E3_4 : Value → Value → Value → Value → M Value) (A3 : Value → Value → Value → Value → Value → M Value) (x6 x8 x9 x10 x11 : Value) : M Value :=
  haruspexlaw2_UnionOwn_r17 F x6 x8 x9 x10 x11 (fun x6 x8 x9 x10 x11 x61 => onB x61 (haruspexlaw2_UnionOwn_r19 F x6 x8 x9 x10 x11 (fun x6 x8 x9 x10 x11 => haruspexlaw2_UnionOwn_r18 F x6 x8 x9 x10 x11 (fun x6 x8 x9 x10 x11 => A3 x6 x8 x9 x10 x11))) (E3_4 x6 x8 x9 x10))

def haruspexlaw2_UnionOwn_l3 (F : Nat) (E3_4 : Value → Value → Value → Value → M Value) : Nat → Value → Value → Value → Value → Value → M Value
  | 0, _, _, _, _, _ => fail
  | k3 + 1, x6, x8, x9, x10, x11 => haruspexlaw2_UnionOwn_b3 F E3_4 (haruspexlaw2_UnionOwn_l3 F E3_4 k3) x6 x8 x9 x10 x11

theorem haruspexlaw2_UnionOwn_l3_s (F : Nat) (E3_4 : Value → Value → Value → Value → M Value) (k3 : Nat) (x6 x8 x9 x10 x11 : Value) : haruspexlaw2_UnionOwn_l3 F E3_4 (k3 + 1) x6 x8 x9 x10 x11 = haruspexlaw2_UnionOwn_b3 F E3_4 (haruspexlaw2_UnionOwn_l3 F E3_4 k3) x6 x8 x9 x10 x11 := rfl

def haruspexlaw2_UnionOwn_r16 (F : Nat) (x6 x8 x9 x10 : Value) (K : Value → Value → Value → Value → Value → M Value) : M Value :=
  K x6 x8 x9 x10 (.int .i64 (0))

theorem haruspexlaw2_UnionOwn_r16_ok (F : Nat) (x6 x8 x9 x10 : Value) (K : Value → Value → Value → Value → Value → M Value) : haruspexlaw2_UnionOwn_r16 F x6 x8 x9 x10 K = runK Try.prog TryG (haruspexlaw2_UnionOwn_env F) Try.f8.ntmps (opsOf Try.f8 16) (List.range (opsOf Try.f8 16).size) [(10, x10), (9, x9), (8, x8), (6, x6)] fun Γ => appK [6, 8, 9, 10, 11] Γ K := by kernel_rfl

def haruspexlaw2_UnionOwn_r14 (F : Nat) (x6 x8 x9 x10 : Value) (K : Value → Value → Value → Value → Value → M Value) : M Value :=
  bnd (opLen x8) fun v51 => bnd (opBin .lss x10 v51) fun v52 => K x6 x8 x9 x10 v52

theorem haruspexlaw2_UnionOwn_r14_ok (F : Nat) (x6 x8 x9 x10 : Value) (K : Value → Value → Value → Value → Value → M Value) : haruspexlaw2_UnionOwn_r14 F x6 x8 x9 x10 K = runK Try.prog TryG (haruspexlaw2_UnionOwn_env F) Try.f8.ntmps (opsOf Try.f8 14) (List.range (opsOf Try.f8 14).size) [(10, x10), (9, x9), (8, x8), (6, x6)] fun Γ => appK [6, 8, 9, 10, 52] Γ K := by kernel_rfl

def haruspexlaw2_UnionOwn_b1 (F : Nat) (E1_2 : Value → Value → M Value) (A1 : Value → Value → Value → Value → M Value) (x6 x8 x9 x10 : Value) : M Value :=
  haruspexlaw2_UnionOwn_r14 F x6 x8 x9 x10 (fun x6 x8 x9 x10 x52 => onB x52 (haruspexlaw2_UnionOwn_r16 F x6 x8 x9 x10 (fun x6 x8 x9 x10 x11 => haruspexlaw2_UnionOwn_l3 F (fun x6 x8 x9 x10 => haruspexlaw2_UnionOwn_k2 F A1 x6 x8 x9 x10) F x6 x8 x9 x10 x11)) (E1_2 x6 x9))

def haruspexlaw2_UnionOwn_l1 (F : Nat) (E1_2 : Value → Value → M Value) : Nat → Value → Value → Value → Value → M Value
  | 0, _, _, _, _ => fail
  | k1 + 1, x6, x8, x9, x10 => haruspexlaw2_UnionOwn_b1 F E1_2 (haruspexlaw2_UnionOwn_l1 F E1_2 k1) x6 x8 x9 x10

theorem haruspexlaw2_UnionOwn_l1_s (F : Nat) (E1_2 : Value → Value → M Value) (k1 : Nat) (x6 x8 x9 x10 : Value) : haruspexlaw2_UnionOwn_l1 F E1_2 (k1 + 1) x6 x8 x9 x10 = haruspexlaw2_UnionOwn_b1 F E1_2 (haruspexlaw2_UnionOwn_l1 F E1_2 k1) x6 x8 x9 x10 := rfl

def haruspexlaw2_UnionOwn_r13 (F : Nat) (x6 x8 x9 : Value) (K : Value → Value → Value → Value → M Value) : M Value :=
  K x6 x8 x9 (.int .i64 (0))

theorem haruspexlaw2_UnionOwn_r13_ok (F : Nat) (x6 x8 x9 : Value) (K : Value → Value → Value → Value → M Value) : haruspexlaw2_UnionOwn_r13 F x6 x8 x9 K = runK Try.prog TryG (haruspexlaw2_UnionOwn_env F) Try.f8.ntmps (opsOf Try.f8 13) (List.range (opsOf Try.f8 13).size) [(9, x9), (8, x8), (6, x6)] fun Γ => appK [6, 8, 9, 10] Γ K := by kernel_rfl

def haruspexlaw2_UnionOwn_r12 (F : Nat) (x6 x8 : Value) (K : Value → Value → Value → M Value) : M Value :=
  bnd (union_Union_Groups F x6) fun v48 => K x6 x8 v48

theorem haruspexlaw2_UnionOwn_r12_ok (F : Nat) (x6 x8 : Value) (K : Value → Value → Value → M Value) : haruspexlaw2_UnionOwn_r12 F x6 x8 K = runK Try.prog TryG (haruspexlaw2_UnionOwn_env F) Try.f8.ntmps (opsOf Try.f8 12) (List.range (opsOf Try.f8 12).size) [(8, x8), (6, x6)] fun Γ => appK [6, 8, 9] Γ K := by kernel_rfl

def haruspexlaw2_UnionOwn_r11 (F : Nat) (x6 : Value) (K : Value → Value → M Value) : M Value :=
  bnd (union_Union_Groups F x6) fun v46 => K x6 v46

theorem haruspexlaw2_UnionOwn_r11_ok (F : Nat) (x6 : Value) (K : Value → Value → M Value) : haruspexlaw2_UnionOwn_r11 F x6 K = runK Try.prog TryG (haruspexlaw2_UnionOwn_env F) Try.f8.ntmps (opsOf Try.f8 11) (List.range (opsOf Try.f8 11).size) [(6, x6)] fun Γ => appK [6, 8] Γ K := by kernel_rfl

def haruspexlaw2_UnionOwn_k4 (F : Nat) (x6 : Value) : M Value :=
  haruspexlaw2_UnionOwn_r11 F x6 (fun x6 x8 => haruspexlaw2_UnionOwn_r12 F x6 x8 (fun x6 x8 x9 => haruspexlaw2_UnionOwn_r13 F x6 x8 x9 (fun x6 x8 x9 x10 => haruspexlaw2_UnionOwn_l1 F (fun x6 x9 => haruspexlaw2_UnionOwn_k0 F x6 x9) F x6 x8 x9 x10)))

def haruspexlaw2_UnionOwn_r9 (F : Nat) (x1 x6 x7 : Value) (K : Value → Value → Value → M Value) : M Value :=
  bnd (opBin .add x7 (.int .i64 (1))) fun v32 => K x1 x6 v32

theorem haruspexlaw2_UnionOwn_r9_ok (F : Nat) (x1 x6 x7 : Value) (K : Value → Value → Value → M Value) : haruspexlaw2_UnionOwn_r9 F x1 x6 x7 K = runK Try.prog TryG (haruspexlaw2_UnionOwn_env F) Try.f8.ntmps (opsOf Try.f8 9) (List.range (opsOf Try.f8 9).size) [(7, x7), (6, x6), (1, x1)] fun Γ => appK [1, 6, 7] Γ K := by kernel_rfl

def haruspexlaw2_UnionOwn_r10 (F : Nat) (x1 x6 x7 : Value) (K : Value → Value → Value → M Value) : M Value :=
  bnd (opIndexAddr 2 x1 x7) fun v36 => bnd (opIndexAddrA 2 1 v36 (.int .i64 (0))) fun v37 => bnd (opLoad v37) fun v38 => bnd (opIndexAddr 2 x1 x7) fun v41 => bnd (opIndexAddrA 2 1 v41 (.int .i64 (1))) fun v42 => bnd (opLoad v42) fun v43 => bnd (union_Union_Join F x6 v38 v43) fun v44 => K x1 x6 x7

theorem haruspexlaw2_UnionOwn_r10_ok (F : Nat) (x1 x6 x7 : Value) (K : Value → Value → Value → M Value) : haruspexlaw2_UnionOwn_r10 F x1 x6 x7 K = drawK Try.prog TryG (haruspexlaw2_UnionOwn_env F) Try.f8.ntmps (opsOf Try.f8 10) (bef (opsOf Try.f8 10)) [0, 1, 2, 3, 4, 5, 6, 7, 8, 9, 10, 11] [] [(7, x7), (6, x6), (1, x1)] fun Γ => appK [1, 6, 7] Γ K := by kernel_rfl

theorem haruspexlaw2_UnionOwn_r10_good : goodOrder (opsOf Try.f8 10) [0, 1, 2, 3, 4, 5, 6, 7, 8, 9, 10, 11] = true := by kernel_rfl

def haruspexlaw2_UnionOwn_r8 (F : Nat) (x1 x6 x7 : Value) (K : Value → Value → Value → Value → M Value) : M Value :=
  bnd (opLen x1) fun v25 => bnd (opBin .lss x7 v25) fun v26 => onB v26 (bnd (opBin .lss x7 (.int .i64 (20))) fun v29 => K x1 x6 x7 v29) (K x1 x6 x7 (.bool false))

theorem haruspexlaw2_UnionOwn_r8_ok (F : Nat) (x1 x6 x7 : Value) (K : Value → Value → Value → Value → M Value) : haruspexlaw2_UnionOwn_r8 F x1 x6 x7 K = runK Try.prog TryG (haruspexlaw2_UnionOwn_env F) Try.f8.ntmps (opsOf Try.f8 8) (List.range (opsOf Try.f8 8).size) [(7, x7), (6, x6), (1, x1)] fun Γ => appK [1, 6, 7, 30] Γ K := by kernel_rfl

def haruspexlaw2_UnionOwn_b5 (F : Nat) (E5_0 : Value → M Value) (A5 : Value → Value → Value → M Value) (x1 x6 x7 : Value) : M Value :=
  haruspexlaw2_UnionOwn_r8 F x1 x6 x7 (fun x1 x6 x7 x30 => onB x30 (haruspexlaw2_UnionOwn_r10 F x1 x6 x7 (fun x1 x6 x7 => haruspexlaw2_UnionOwn_r9 F x1 x6 x7 (fun x1 x6 x7 => A5 x1 x6 x7))) (E5_0 x6))

def haruspexlaw2_UnionOwn_l5 (F : Nat) (E5_0 : Value → M Value) : Nat → Value → Value → Value → M Value
  | 0, _, _, _ => fail
  | k5 + 1, x1, x6, x7 => haruspexlaw2_UnionOwn_b5 F E5_0 (haruspexlaw2_UnionOwn_l5 F E5_0 k5) x1 x6 x7

theorem haruspexlaw2_UnionOwn_l5_s (F : Nat) (E5_0 : Value → M Value) (k5 : Nat) (x1 x6 x7 : Value) : haruspexlaw2_UnionOwn_l5 F E5_0 (k5 + 1) x1 x6 x7 = haruspexlaw2_UnionOwn_b5 F E5_0 (haruspexlaw2_UnionOwn_l5 F E5_0 k5) x1 x6 x7 := rfl

def haruspexlaw2_UnionOwn_r7 (F : Nat) (x1 x6 : Value) (K : Value → Value → Value → M Value) : M Value :=
  K x1 x6 (.int .i64 (0))

theorem haruspexlaw2_UnionOwn_r7_ok (F : Nat) (x1 x6 : Value) (K : Value → Value → Value → M Value) : haruspexlaw2_UnionOwn_r7 F x1 x6 K = runK Try.prog TryG (haruspexlaw2_UnionOwn_env F) Try.f8.ntmps (opsOf Try.f8 7) (List.range (opsOf Try.f8 7).size) [(6, x6), (1, x1)] fun Γ => appK [1, 6, 7] Γ K := by kernel_rfl

def haruspexlaw2_UnionOwn_r6 (F : Nat) (x0 x1 : Value) (K : Value → Value → M Value) : M Value :=
  bnd (union_New F x0) fun v22 => K x1 v22

theorem haruspexlaw2_UnionOwn_r6_ok (F : Nat) (x0 x1 : Value) (K : Value → Value → M Value) : haruspexlaw2_UnionOwn_r6 F x0 x1 K = runK Try.prog TryG (haruspexlaw2_UnionOwn_env F) Try.f8.ntmps (opsOf Try.f8 6) (List.range (opsOf Try.f8 6).size) [(1, x1), (0, x0)] fun Γ => appK [1, 6] Γ K := by kernel_rfl

def haruspexlaw2_UnionOwn_r5 (F : Nat) (K : Value → M Value) : M Value :=
  K (.bool true)

theorem haruspexlaw2_UnionOwn_r5_ok (F : Nat) (K : Value → M Value) : haruspexlaw2_UnionOwn_r5 F K = runK Try.prog TryG (haruspexlaw2_UnionOwn_env F) Try.f8.ntmps (opsOf Try.f8 5) (List.range (opsOf Try.f8 5).size) [] fun Γ => appK [4] Γ K := by kernel_rfl

def haruspexlaw2_UnionOwn_r4 (F : Nat) (x0 x1 : Value) (K : Value → Value → Value → M Value) : M Value :=
  bnd (opBin .lss x0 (.int .i64 (1))) fun v16 => onB v16 (K x0 x1 (.bool true)) (bnd (opBin .gtr x0 (.int .i64 (40))) fun v19 => K x0 x1 v19)

theorem haruspexlaw2_UnionOwn_r4_ok (F : Nat) (x0 x1 : Value) (K : Value → Value → Value → M Value) : haruspexlaw2_UnionOwn_r4 F x0 x1 K = runK Try.prog TryG (haruspexlaw2_UnionOwn_env F) Try.f8.ntmps (opsOf Try.f8 4) (List.range (opsOf Try.f8 4).size) [(1, x1), (0, x0)] fun Γ => appK [0, 1, 20] Γ K := by kernel_rfl

def haruspexlaw2_UnionOwn_r3 (F : Nat) (K : Value → M Value) : M Value :=
  K (.bool false)

theorem haruspexlaw2_UnionOwn_r3_ok (F : Nat) (K : Value → M Value) : haruspexlaw2_UnionOwn_r3 F K = runK Try.prog TryG (haruspexlaw2_UnionOwn_env F) Try.f8.ntmps (opsOf Try.f8 3) (List.range (opsOf Try.f8 3).size) [] fun Γ => appK [4] Γ K := by kernel_rfl

def haruspexlaw2_UnionOwn_r2 (F : Nat) (x0 x1 x5 : Value) (K : Value → Value → Value → M Value) : M Value :=
  bnd (opNot x5) fun v14 => K x0 x1 v14

theorem haruspexlaw2_UnionOwn_r2_ok (F : Nat) (x0 x1 x5 : Value) (K : Value → Value → Value → M Value) : haruspexlaw2_UnionOwn_r2 F x0 x1 x5 K = runK Try.prog TryG (haruspexlaw2_UnionOwn_env F) Try.f8.ntmps (opsOf Try.f8 2) (List.range (opsOf Try.f8 2).size) [(5, x5), (1, x1), (0, x0)] fun Γ => appK [0, 1, 14] Γ K := by kernel_rfl

def haruspexlaw2_UnionOwn_r1 (F : Nat) (x0 x1 : Value) (K : Value → Value → Value → M Value) : M Value :=
  bnd (haruspexlaw2_begun F) fun v12 => K x0 x1 v12

theorem haruspexlaw2_UnionOwn_r1_ok (F : Nat) (x0 x1 : Value) (K : Value → Value → Value → M Value) : haruspexlaw2_UnionOwn_r1 F x0 x1 K = runK Try.prog TryG (haruspexlaw2_UnionOwn_env F) Try.f8.ntmps (opsOf Try.f8 1) (List.range (opsOf Try.f8 1).size) [(1, x1), (0, x0)] fun Γ => appK [0, 1, 5] Γ K := by kernel_rfl

def haruspexlaw2_UnionOwn_r0 (F : Nat) (x0 x1 : Value) (K : Value → Value → M Value) : M Value :=
  K x0 x1

theorem haruspexlaw2_UnionOwn_r0_ok (F : Nat) (x0 x1 : Value) (K : Value → Value → M Value) : haruspexlaw2_UnionOwn_r0 F x0 x1 K = runK Try.prog TryG (haruspexlaw2_UnionOwn_env F) Try.f8.ntmps (opsOf Try.f8 0) (List.range (opsOf Try.f8 0).size) [(1, x1), (0, x0)] fun Γ => appK [0, 1] Γ K := by kernel_rfl

def haruspexlaw2_UnionOwn (F : Nat) (x0 x1 : Value) : M Value :=
  haruspexlaw2_UnionOwn_r0 F x0 x1 (fun x0 x1 => haruspexlaw2_UnionOwn_r1 F x0 x1 (fun x0 x1 x5 => haruspexlaw2_UnionOwn_r2 F x0 x1 x5 (fun x0 x1 x14 => onB x14 (haruspexlaw2_UnionOwn_r3 F (fun x4 => ret x4)) (haruspexlaw2_UnionOwn_r4 F x0 x1 (fun x0 x1 x20 => onB x20 (haruspexlaw2_UnionOwn_r5 F (fun x4 => ret x4)) (haruspexlaw2_UnionOwn_r6 F x0 x1 (fun x1 x6 => haruspexlaw2_UnionOwn_r7 F x1 x6 (fun x1 x6 x7 => haruspexlaw2_UnionOwn_l5 F (fun x6 => haruspexlaw2_UnionOwn_k4 F x6) F x1 x6 x7))))))))

def haruspexlaw2_UnionOwn_m (F : Nat) : List Value → M Value
  | [x0, x1] => haruspexlaw2_UnionOwn F x0 x1
  | _ => fail

theorem haruspexlaw2_UnionOwn_body : Try.f8.body = some (.seq (.region 0 (opsOf Try.f8 0) false) (.seq (.region 1 (opsOf Try.f8 1) false) (.seq (.seq (.region 2 (opsOf Try.f8 2) false) (.cond (.tmp 14) (.seq (.region 3 (opsOf Try.f8 3) false) .ret) .skip)) (.seq (.seq (.region 4 (opsOf Try.f8 4) false) (.cond (.tmp 20) (.seq (.region 5 (opsOf Try.f8 5) false) .ret) .skip)) (.seq (.region 6 (opsOf Try.f8 6) false) (.seq (.seq (.region 7 (opsOf Try.f8 7) false) (.block 0 (.loop (.seq (.seq (.region 8 (opsOf Try.f8 8) false) (.cond (.tmp 30) .skip (.exit 0))) (.seq (.block 1 (.region 10 (opsOf Try.f8 10) true)) (.region 9 (opsOf Try.f8 9) false)))))) (.seq (.region 11 (opsOf Try.f8 11) false) (.seq (.region 12 (opsOf Try.f8 12) false) (.seq (.seq (.region 13 (opsOf Try.f8 13) false) (.block 2 (.loop (.seq (.seq (.region 14 (opsOf Try.f8 14) false) (.cond (.tmp 52) .skip (.exit 2))) (.seq (.block 3 (.seq (.region 16 (opsOf Try.f8 16) false) (.block 4 (.loop (.seq (.seq (.region 17 (opsOf Try.f8 17) false) (.cond (.tmp 61) .skip (.exit 4))) (.seq (.block 5 (.region 19 (opsOf Try.f8 19) false)) (.region 18 (opsOf Try.f8 18) false))))))) (.region 15 (opsOf Try.f8 15) false)))))) (.seq (.region 20 (opsOf Try.f8 20) false) .ret)))))))))) := by kernel_rfl

theorem haruspexlaw2_UnionOwn_ok (F : Nat) : Sim Try.prog TryG 8 (haruspexlaw2_UnionOwn_m F) := by
  have hE : EnvOK Try.prog TryG (haruspexlaw2_UnionOwn_env F) := (EnvOK.cons (haruspexlaw2_begun_ok F) (EnvOK.cons (union_New_ok F) (EnvOK.cons (union_Union_Join_ok F) (EnvOK.cons (haruspexref1_EqAll_ok F) (EnvOK.cons (union_Union_Groups_ok F) EnvOK.nil)))))
  refine Sim.of_body (E := haruspexlaw2_UnionOwn_env F) Try.func8 haruspexlaw2_UnionOwn_body Try.call8 ?_ ?_
  · intro args hl; unfold haruspexlaw2_UnionOwn_m; split
    · exact absurd hl (Nat.not_lt.2 (Nat.le_of_ble_eq_true rfl))
    · rfl
  · intro args ρ h w z; unfold haruspexlaw2_UnionOwn_m; split
    · rename_i x0 x1; show OKc _ _ [(0, x0), (1, x1)] _ _
      refine rSeq ?_
      refine cLess [1, 0] ?_
      refine xRegion hE [0, 1] (haruspexlaw2_UnionOwn_r0_ok F _ _ _) ?_
      intro x0 x1
      show OKq _ _ _ [(1, x1), (0, x0)] _
      refine rThen ?_
      refine rSeq ?_
      refine cLess [1, 0] ?_
      refine xRegion hE [0, 1, 5] (haruspexlaw2_UnionOwn_r1_ok F _ _ _) ?_
      intro x0 x1 x5
      show OKq _ _ _ [(5, x5), (1, x1), (0, x0)] _
      refine rThen ?_
      refine rSeq ?_
      refine rSeq ?_
      refine cLess [5, 1, 0] ?_
      refine xRegion hE [0, 1, 14] (haruspexlaw2_UnionOwn_r2_ok F _ _ _ _) ?_
      intro x0 x1 x14
      show OKq _ _ _ [(14, x14), (1, x1), (0, x0)] _
      refine rThen ?_
      refine xCond rfl rfl ?_ ?_
      · refine rSeq ?_
        refine cLess [] ?_
        refine xRegion hE [4] (haruspexlaw2_UnionOwn_r3_ok F _) ?_
        intro x4
        show OKq _ _ _ [(4, x4)] _
        refine rThen ?_
        refine rRet ?_
        refine xThenR ?_
        exact rDone (.inr rfl) rfl
      · refine rSkip ?_
        refine rThen ?_
        refine rSeq ?_
        refine rSeq ?_
        refine cLess [1, 0] ?_
        refine xRegion hE [0, 1, 20] (haruspexlaw2_UnionOwn_r4_ok F _ _ _) ?_
        intro x0 x1 x20
        show OKq _ _ _ [(20, x20), (1, x1), (0, x0)] _
        refine rThen ?_
        refine xCond rfl rfl ?_ ?_
        · refine rSeq ?_
          refine cLess [] ?_
          refine xRegion hE [4] (haruspexlaw2_UnionOwn_r5_ok F _) ?_
          intro x4
          show OKq _ _ _ [(4, x4)] _
          refine rThen ?_
          refine rRet ?_
          refine xThenR ?_
          exact rDone (.inr rfl) rfl
        · refine rSkip ?_
          refine rThen ?_
          refine rSeq ?_
          refine cLess [1, 0] ?_
          refine xRegion hE [1, 6] (haruspexlaw2_UnionOwn_r6_ok F _ _ _) ?_
          intro x1 x6
          show OKq _ _ _ [(6, x6), (1, x1)] _
          refine rThen ?_
          refine xSeq [6] (haruspexlaw2_UnionOwn_k4 F ) ?_ fun hj4 => ?_
          · intro x6
            show OKc _ _ [(6, x6)] _ _
            refine rSeq ?_
            refine cLess [6] ?_
            refine xRegion hE [6, 8] (haruspexlaw2_UnionOwn_r11_ok F _ _) ?_
            intro x6 x8
            show OKq _ _ _ [(8, x8), (6, x6)] _
            refine rThen ?_
            refine rSeq ?_
            refine cLess [8, 6] ?_
            refine xRegion hE [6, 8, 9] (haruspexlaw2_UnionOwn_r12_ok F _ _ _) ?_
            intro x6 x8 x9
            show OKq _ _ _ [(9, x9), (8, x8), (6, x6)] _
            refine rThen ?_
            refine xSeq [6, 9] (haruspexlaw2_UnionOwn_k0 F ) ?_ fun hj0 => ?_
            · intro x6 x9
              show OKc _ _ [(9, x9), (6, x6)] _ _
              refine rSeq ?_
              refine cLess [9, 6] ?_
              refine xRegion hE [4] (haruspexlaw2_UnionOwn_r20_ok F _ _ _) ?_
              intro x4
              show OKq _ _ _ [(4, x4)] _
              refine rThen ?_
              refine rRet ?_
              exact rDone (.inr rfl) rfl
            · refine rSeq ?_
              refine cLess [9, 8, 6] ?_
              refine xRegion hE [6, 8, 9, 10] (haruspexlaw2_UnionOwn_r13_ok F _ _ _ _) ?_
              intro x6 x8 x9 x10
              show OKq _ _ _ [(10, x10), (9, x9), (8, x8), (6, x6)] _
              refine rThen ?_
              refine rBlock ?_
              refine cLess [10, 9, 8, 6] ?_
              refine xLoopAt [6, 8, 9, 10] [] (fun k1 => haruspexlaw2_UnionOwn_l1 F (fun x6 x9 => haruspexlaw2_UnionOwn_k0 F x6 x9) k1) F [x6, x8, x9, x10] rfl rfl (fun _ _ _ _ => rfl) fun I hI1 k1 => ?_
              intro x6 x8 x9 x10
              show OKc _ _ [(10, x10), (9, x9), (8, x8), (6, x6)] _ _
              refine cAs (haruspexlaw2_UnionOwn_l1_s F _ _ _ _ _ _) ?_
              refine rSeq ?_
              refine rSeq ?_
              refine cLess [10, 9, 8, 6] ?_
              refine xRegion hE [6, 8, 9, 10, 52] (haruspexlaw2_UnionOwn_r14_ok F _ _ _ _ _) ?_
              intro x6 x8 x9 x10 x52
              show OKq _ _ _ [(52, x52), (10, x10), (9, x9), (8, x8), (6, x6)] _
              refine rThen ?_
              refine xCond rfl rfl ?_ ?_
              · refine rSkip ?_
                refine rThen ?_
                refine xSeq [6, 8, 9, 10] (haruspexlaw2_UnionOwn_k2 F (haruspexlaw2_UnionOwn_l1 F (fun x6 x9 => haruspexlaw2_UnionOwn_k0 F x6 x9) k1) ) ?_ fun hj2 => ?_
                · intro x6 x8 x9 x10
                  show OKc _ _ [(10, x10), (9, x9), (8, x8), (6, x6)] _ _
                  refine cLess [10, 9, 8, 6] ?_
                  refine xRegion hE [6, 8, 9, 10] (haruspexlaw2_UnionOwn_r15_ok F _ _ _ _ _) ?_
                  intro x6 x8 x9 x10
                  show OKq _ _ _ [(10, x10), (9, x9), (8, x8), (6, x6)] _
                  exact qLess [10, 9, 8, 6] (hI1 k1 x6 x8 x9 x10)
                · refine rBlock ?_
                  refine rSeq ?_
                  refine cLess [10, 9, 8, 6] ?_
                  refine xRegion hE [6, 8, 9, 10, 11] (haruspexlaw2_UnionOwn_r16_ok F _ _ _ _ _) ?_
                  intro x6 x8 x9 x10 x11
                  show OKq _ _ _ [(11, x11), (10, x10), (9, x9), (8, x8), (6, x6)] _
                  refine rThen ?_
                  refine rBlock ?_
                  refine cLess [11, 10, 9, 8, 6] ?_
                  refine xLoopAt [6, 8, 9, 10, 11] [] (fun k3 => haruspexlaw2_UnionOwn_l3 F (fun x6 x8 x9 x10 => haruspexlaw2_UnionOwn_k2 F (haruspexlaw2_UnionOwn_l1 F (fun x6 x9 => haruspexlaw2_UnionOwn_k0 F x6 x9) k1) x6 x8 x9 x10) k3) F [x6, x8, x9, x10, x11] rfl rfl (fun _ _ _ _ _ => rfl) fun I hI3 k3 => ?_
                  intro x6 x8 x9 x10 x11
                  show OKc _ _ [(11, x11), (10, x10), (9, x9), (8, x8), (6, x6)] _ _
                  refine cAs (haruspexlaw2_UnionOwn_l3_s F _ _ _ _ _ _ _) ?_
                  refine rSeq ?_
                  refine rSeq ?_
                  refine cLess [11, 10, 9, 8, 6] ?_
                  refine xRegion hE [6, 8, 9, 10, 11, 61] (haruspexlaw2_UnionOwn_r17_ok F _ _ _ _ _ _) ?_
                  intro x6 x8 x9 x10 x11 x61
                  show OKq _ _ _ [(61, x61), (11, x11), (10, x10), (9, x9), (8, x8), (6, x6)] _
                  refine rThen ?_
                  refine xCond rfl rfl ?_ ?_
                  · refine rSkip ?_
                    refine rThen ?_
                    refine rSeq ?_
                    refine rBlock ?_
                    refine cLess [11, 10, 9, 8, 6] ?_
                    refine xRegion hE [6, 8, 9, 10, 11] (haruspexlaw2_UnionOwn_r19_ok F _ _ _ _ _ _) ?_
                    intro x6 x8 x9 x10 x11
                    show OKq _ _ _ [(11, x11), (10, x10), (9, x9), (8, x8), (6, x6)] _
                    refine xBlockN ?_
                    refine rThen ?_
                    refine cLess [11, 10, 9, 8, 6] ?_
                    refine xRegion hE [6, 8, 9, 10, 11] (haruspexlaw2_UnionOwn_r18_ok F _ _ _ _ _ _) ?_
                    intro x6 x8 x9 x10 x11
                    show OKq _ _ _ [(11, x11), (10, x10), (9, x9), (8, x8), (6, x6)] _
                    exact qLess [11, 10, 9, 8, 6] (hI3 k3 x6 x8 x9 x10 x11)
                  · refine rExit ?_
                    refine xThenX ?_
                    refine xThenX ?_
                    refine rOut ?_
                    refine xBlockN ?_
                    exact qLess [10, 9, 8, 6] (hj2 x6 x8 x9 x10)
              · refine rExit ?_
                refine xThenX ?_
                refine xThenX ?_
                refine rOut ?_
                exact qLess [9, 6] (hj0 x6 x9)
          · refine rSeq ?_
            refine cLess [6, 1] ?_
            refine xRegion hE [1, 6, 7] (haruspexlaw2_UnionOwn_r7_ok F _ _ _) ?_
            intro x1 x6 x7
            show OKq _ _ _ [(7, x7), (6, x6), (1, x1)] _
            refine rThen ?_
            refine rBlock ?_
            refine cLess [7, 6, 1] ?_
            refine xLoopAt [1, 6, 7] [] (fun k5 => haruspexlaw2_UnionOwn_l5 F (fun x6 => haruspexlaw2_UnionOwn_k4 F x6) k5) F [x1, x6, x7] rfl rfl (fun _ _ _ => rfl) fun I hI5 k5 => ?_
            intro x1 x6 x7
            show OKc _ _ [(7, x7), (6, x6), (1, x1)] _ _
            refine cAs (haruspexlaw2_UnionOwn_l5_s F _ _ _ _ _) ?_
            refine rSeq ?_
            refine rSeq ?_
            refine cLess [7, 6, 1] ?_
            refine xRegion hE [1, 6, 7, 30] (haruspexlaw2_UnionOwn_r8_ok F _ _ _ _) ?_
            intro x1 x6 x7 x30
            show OKq _ _ _ [(30, x30), (7, x7), (6, x6), (1, x1)] _
            refine rThen ?_
            refine xCond rfl rfl ?_ ?_
            · refine rSkip ?_
              refine rThen ?_
              refine rSeq ?_
              refine rBlock ?_
              refine cLess [7, 6, 1] ?_
              refine xDraw Trymix hE [1, 6, 7] haruspexlaw2_UnionOwn_r10_good (haruspexlaw2_UnionOwn_r10_ok F _ _ _ _) ?_
              intro x1 x6 x7
              show OKq _ _ _ [(7, x7), (6, x6), (1, x1)] _
              refine xBlockN ?_
              refine rThen ?_
              refine cLess [7, 6, 1] ?_
              refine xRegion hE [1, 6, 7] (haruspexlaw2_UnionOwn_r9_ok F _ _ _ _) ?_
              intro x1 x6 x7
              show OKq _ _ _ [(7, x7), (6, x6), (1, x1)] _
              exact qLess [7, 6, 1] (hI5 k5 x1 x6 x7)
            · refine rExit ?_
              refine xThenX ?_
              refine xThenX ?_
              refine rOut ?_
              exact qLess [6] (hj4 x6)
    · exact rFail

end Go.Fw
