/-
  The framework by which the law is proved: TzSr, TzSrL, TzSrM, TzMk, TzCo, TzMkK, TzCoW, TzSrK.
-/
import Derived.Test.YtmdifacbhodikaaGreatDoorProg
import Derived.Test.YtmdifacbhodikaaGreatDoorHwk2
import Derived.KernelRfl
import Derived.Test.YtmdifacbhodikaaGreatDoorHwk4
set_option linter.all false
section
set_option linter.unusedVariables false
set_option maxRecDepth 20000
noncomputable section
namespace Go.Fw
open Go.Proofs

theorem Tzmix : Tryz.prog.follows .mixedOrders = true := by kernel_rfl
/-! ### cmp.Or[int] -/
def m100_env (F : Nat) : Env := envOf []
def m100_R (F : Nat) := rK Tryz.prog 2 (m100_env F) Tryz.f100
def m100_r8 (F : Nat) (x3 : Value) (K : Value → M Value) : M Value :=
  K x3
theorem m100_r8_ok (F : Nat) (x3 : Value) (K : Value → M Value) : m100_r8 F x3 K = m100_R F 8 [(3,x3)] [2] K := by kernel_rfl
def m100_k0 (F : Nat) (x3 : Value) : M Value :=
  m100_r8 F x3 (fun x2 => ret x2)
def m100_r7 (F : Nat) (x3 x6 x7 x8 : Value) (K : Value → Value → Value → Value → M Value) : M Value :=
  bnd (opBin .add x8 (.int .i64 (1))) fun v16 => K x3 x6 x7 v16
theorem m100_r7_ok (F : Nat) (x3 x6 x7 x8 : Value) (K : Value → Value → Value → Value → M Value) : m100_r7 F x3 x6 x7 x8 K = m100_R F 7 [(8,x8),(7,x7),(6,x6),(3,x3)] [3,6,7,8] K := by kernel_rfl
def m100_r6 (F : Nat) (x5 : Value) (K : Value → M Value) : M Value :=
  K x5
theorem m100_r6_ok (F : Nat) (x5 : Value) (K : Value → M Value) : m100_r6 F x5 K = m100_R F 6 [(5,x5)] [2] K := by kernel_rfl
def m100_r5 (F : Nat) (x3 x5 x6 x7 x8 : Value) (K : Value → Value → Value → Value → Value → Value → M Value) : M Value :=
  bnd (opBin .neq x5 x3) fun v14 => K x3 x5 x6 x7 x8 v14
theorem m100_r5_ok (F : Nat) (x3 x5 x6 x7 x8 : Value) (K : Value → Value → Value → Value → Value → Value → M Value) : m100_r5 F x3 x5 x6 x7 x8 K = m100_R F 5 [(8,x8),(7,x7),(6,x6),(5,x5),(3,x3)] [3,5,6,7,8,14] K := by kernel_rfl
def m100_r4 (F : Nat) (x3 x6 x7 x8 : Value) (K : Value → Value → Value → Value → Value → M Value) : M Value :=
  bnd (opIndexAddr 1 x6 x8) fun v10 => bnd (opLoad v10) fun v11 => K x3 v11 x6 x7 x8
theorem m100_r4_ok (F : Nat) (x3 x6 x7 x8 : Value) (K : Value → Value → Value → Value → Value → M Value) : m100_r4 F x3 x6 x7 x8 K = m100_R F 4 [(8,x8),(7,x7),(6,x6),(3,x3)] [3,5,6,7,8] K := by kernel_rfl
def m100_r3 (F : Nat) (x3 x6 x7 x8 : Value) (K : Value → Value → Value → Value → Value → M Value) : M Value :=
  bnd (opBin .lss x8 x7) fun v9 => K x3 x6 x7 x8 v9
theorem m100_r3_ok (F : Nat) (x3 x6 x7 x8 : Value) (K : Value → Value → Value → Value → Value → M Value) : m100_r3 F x3 x6 x7 x8 K = m100_R F 3 [(8,x8),(7,x7),(6,x6),(3,x3)] [3,6,7,8,9] K := by kernel_rfl
def m100_b1 (F : Nat) (E1_0 : Value → M Value) (A1 : Value → Value → Value → Value → M Value) (x3 x6 x7 x8 : Value) : M Value :=
  m100_r3 F x3 x6 x7 x8 (fun x3 x6 x7 x8 x9 => onB x9 (m100_r4 F x3 x6 x7 x8 (fun x3 x5 x6 x7 x8 => m100_r5 F x3 x5 x6 x7 x8 (fun x3 x5 x6 x7 x8 x14 => onB x14 (m100_r6 F x5 (fun x2 => ret x2)) (m100_r7 F x3 x6 x7 x8 (fun x3 x6 x7 x8 => A1 x3 x6 x7 x8))))) (E1_0 x3))
def m100_l1 (F : Nat) (E1_0 : Value → M Value) : Nat → Value → Value → Value → Value → M Value
  | 0, _, _, _, _ => fail
  | k1 + 1, x3, x6, x7, x8 => m100_b1 F E1_0 (m100_l1 F E1_0 k1) x3 x6 x7 x8
theorem m100_l1_s (F : Nat) (E1_0 : Value → M Value) (k1 : Nat) (x3 x6 x7 x8 : Value) : m100_l1 F E1_0 (k1 + 1) x3 x6 x7 x8 = m100_b1 F E1_0 (m100_l1 F E1_0 k1) x3 x6 x7 x8 := rfl
def m100_r2 (F : Nat) (x0 x3 : Value) (K : Value → Value → Value → Value → M Value) : M Value :=
  bnd (opLen x0) fun v7 => K x3 x0 v7 (.int .i64 (0))
theorem m100_r2_ok (F : Nat) (x0 x3 : Value) (K : Value → Value → Value → Value → M Value) : m100_r2 F x0 x3 K = m100_R F 2 [(3,x3),(0,x0)] [3,6,7,8] K := by kernel_rfl
def m100_r1 (F : Nat) (x0 : Value) (K : Value → Value → M Value) : M Value :=
  K x0 (.int .i64 (0))
theorem m100_r1_ok (F : Nat) (x0 : Value) (K : Value → Value → M Value) : m100_r1 F x0 K = m100_R F 1 [(0,x0)] [0,3] K := by kernel_rfl
def m100_r0 (F : Nat) (x0 : Value) (K : Value → M Value) : M Value :=
  K x0
theorem m100_r0_ok (F : Nat) (x0 : Value) (K : Value → M Value) : m100_r0 F x0 K = m100_R F 0 [(0,x0)] [0] K := by kernel_rfl
def m100 (F : Nat) (x0 : Value) : M Value :=
  m100_r0 F x0 (fun x0 => m100_r1 F x0 (fun x0 x3 => m100_r2 F x0 x3 (fun x3 x6 x7 x8 => m100_l1 F (fun x3 => m100_k0 F x3) F x3 x6 x7 x8)))
def m100_m (F : Nat) : List Value → M Value
  | [x0] => m100 F x0
  | _ => fail
theorem m100_body : Tryz.f100.body = some (.seq (.region 0 (opsOf Tryz.f100 0) false) (.seq (.region 1 (opsOf Tryz.f100 1) false) (.seq (.seq (.region 2 (opsOf Tryz.f100 2) false) (.block 0 (.loop (.seq (.region 3 (opsOf Tryz.f100 3) false) (.seq (.cond (.tmp 9) .skip (.exit 0)) (.seq (.block 1 (.seq (.region 4 (opsOf Tryz.f100 4) false) (.seq (.region 5 (opsOf Tryz.f100 5) false) (.cond (.tmp 14) (.seq (.region 6 (opsOf Tryz.f100 6) false) .ret) .skip)))) (.region 7 (opsOf Tryz.f100 7) false))))))) (.seq (.region 8 (opsOf Tryz.f100 8) false) .ret)))) := by kernel_rfl
theorem m100_ok (F : Nat) : Sim Tryz.prog 2 100 (m100_m F) := by
 have hE : EnvOK Tryz.prog 2 (m100_env F) := EnvOK.nil
 refine Sim.of_body (E := m100_env F) Tryz.func100 m100_body Tryz.call100 ?_ ?_
 · intro args hl; unfold m100_m; split
   · exact absurd hl (Nat.not_lt.2 (Nat.le_of_ble_eq_true rfl))
   · rfl
 · intro args ρ h w z; unfold m100_m; split
   · rename_i x0; show OKc _ _ [(0,x0)] _ _
     refine rSeq ?_
     refine cLess [0] ?_
     refine xR hE [0] rfl (m100_r0_ok F _ _) ?_
     intro x0
     show OKq _ _ _ [(0,x0)] _
     refine rThen ?_
     refine rSeq ?_
     refine cLess [0] ?_
     refine xR hE [0,3] rfl (m100_r1_ok F _ _) ?_
     intro x0 x3
     show OKq _ _ _ [(3,x3),(0,x0)] _
     refine rThen ?_
     refine xSeq [3] (m100_k0 F ) ?_ fun hj0 => ?_
     · intro x3
       show OKc _ _ [(3,x3)] _ _
       refine rSeq ?_
       refine cLess [3] ?_
       refine xR hE [2] rfl (m100_r8_ok F _ _) ?_
       intro x2
       show OKq _ _ _ [(2,x2)] _
       refine rThen ?_
       refine rRet ?_
       exact rDone (.inr rfl) rfl
     · refine rSeq ?_
       refine cLess [3,0] ?_
       refine xR hE [3,6,7,8] rfl (m100_r2_ok F _ _ _) ?_
       intro x3 x6 x7 x8
       show OKq _ _ _ [(8,x8),(7,x7),(6,x6),(3,x3)] _
       refine rThen ?_
       refine rBlock ?_
       refine cLess [8,7,6,3] ?_
       refine xLoopAt [3,6,7,8] [] (fun k1 => m100_l1 F (fun x3 => m100_k0 F x3) k1) F [x3,x6,x7,x8] rfl rfl (fun _ _ _ _ => rfl) fun I hI1 k1 => ?_
       intro x3 x6 x7 x8
       show OKc _ _ [(8,x8),(7,x7),(6,x6),(3,x3)] _ _
       refine cAs (m100_l1_s F _ _ _ _ _ _) ?_
       refine rSeq ?_
       refine cLess [8,7,6,3] ?_
       refine xR hE [3,6,7,8,9] rfl (m100_r3_ok F _ _ _ _ _) ?_
       intro x3 x6 x7 x8 x9
       show OKq _ _ _ [(9,x9),(8,x8),(7,x7),(6,x6),(3,x3)] _
       refine rThen ?_
       refine rSeq ?_
       refine xCond rfl rfl ?_ ?_
       · refine rSkip ?_
         refine rThen ?_
         refine rSeq ?_
         refine rBlock ?_
         refine rSeq ?_
         refine cLess [8,7,6,3] ?_
         refine xR hE [3,5,6,7,8] rfl (m100_r4_ok F _ _ _ _ _) ?_
         intro x3 x5 x6 x7 x8
         show OKq _ _ _ [(8,x8),(7,x7),(6,x6),(5,x5),(3,x3)] _
         refine rThen ?_
         refine rSeq ?_
         refine cLess [8,7,6,5,3] ?_
         refine xR hE [3,5,6,7,8,14] rfl (m100_r5_ok F _ _ _ _ _ _) ?_
         intro x3 x5 x6 x7 x8 x14
         show OKq _ _ _ [(14,x14),(8,x8),(7,x7),(6,x6),(5,x5),(3,x3)] _
         refine rThen ?_
         refine xCond rfl rfl ?_ ?_
         · refine rSeq ?_
           refine cLess [5] ?_
           refine xR hE [2] rfl (m100_r6_ok F _ _) ?_
           intro x2
           show OKq _ _ _ [(2,x2)] _
           refine rThen ?_
           refine rRet ?_
           refine xBlockR ?_
           refine xThenR ?_
           refine xThenR ?_
           refine xBlockR ?_
           refine xThenR ?_
           exact rDone (.inr rfl) rfl
         · refine rSkip ?_
           refine xBlockN ?_
           refine rThen ?_
           refine cLess [8,7,6,3] ?_
           refine xR hE [3,6,7,8] rfl (m100_r7_ok F _ _ _ _ _) ?_
           intro x3 x6 x7 x8
           show OKq _ _ _ [(8,x8),(7,x7),(6,x6),(3,x3)] _
           exact qLess [8,7,6,3] (hI1 k1 x3 x6 x7 x8)
       · refine rExit ?_
         refine xThenX ?_
         refine xThenX ?_
         refine rOut ?_
         exact qLess [3] (hj0 x3)
   · exact rFail
/-! ### cmp.isNaN[int] -/
def m162_env (F : Nat) : Env := envOf []
def m162_R (F : Nat) := rK Tryz.prog 2 (m162_env F) Tryz.f162
def m162_r1 (F : Nat) (x0 : Value) (K : Value → M Value) : M Value :=
  bnd (opBin .neq x0 x0) fun v5 => K v5
theorem m162_r1_ok (F : Nat) (x0 : Value) (K : Value → M Value) : m162_r1 F x0 K = m162_R F 1 [(0,x0)] [2] K := by kernel_rfl
def m162_r0 (F : Nat) (x0 : Value) (K : Value → M Value) : M Value :=
  K x0
theorem m162_r0_ok (F : Nat) (x0 : Value) (K : Value → M Value) : m162_r0 F x0 K = m162_R F 0 [(0,x0)] [0] K := by kernel_rfl
def m162 (F : Nat) (x0 : Value) : M Value :=
  m162_r0 F x0 (fun x0 => m162_r1 F x0 (fun x2 => ret x2))
def m162_m (F : Nat) : List Value → M Value
  | [x0] => m162 F x0
  | _ => fail
theorem m162_body : Tryz.f162.body = some (.seq (.region 0 (opsOf Tryz.f162 0) false) (.seq (.region 1 (opsOf Tryz.f162 1) false) .ret)) := by kernel_rfl
theorem m162_ok (F : Nat) : Sim Tryz.prog 2 162 (m162_m F) := by
 have hE : EnvOK Tryz.prog 2 (m162_env F) := EnvOK.nil
 refine Sim.of_body (E := m162_env F) Tryz.func162 m162_body Tryz.call162 ?_ ?_
 · intro args hl; unfold m162_m; split
   · exact absurd hl (Nat.not_lt.2 (Nat.le_of_ble_eq_true rfl))
   · rfl
 · intro args ρ h w z; unfold m162_m; split
   · rename_i x0; show OKc _ _ [(0,x0)] _ _
     refine rSeq ?_
     refine cLess [0] ?_
     refine xR hE [0] rfl (m162_r0_ok F _ _) ?_
     intro x0
     show OKq _ _ _ [(0,x0)] _
     refine rThen ?_
     refine rSeq ?_
     refine cLess [0] ?_
     refine xR hE [2] rfl (m162_r1_ok F _ _) ?_
     intro x2
     show OKq _ _ _ [(2,x2)] _
     refine rThen ?_
     refine rRet ?_
     exact rDone (.inr rfl) rfl
   · exact rFail
/-! ### math/bits.Len32 -/
def m240_env (F : Nat) : Env := envOf []
def m240_R (F : Nat) := rK Tryz.prog 2 (m240_env F) Tryz.f240
def m240_r7 (F : Nat) (x0 x2 : Value) (K : Value → M Value) : M Value :=
  bnd (opConv .u8 x0) fun v15 => bnd (opIndexS (.string ⟨#[0,1,2,2,3,3,3,3,4,4,4,4,4,4,4,4,5,5,5,5,5,5,5,5,5,5,5,5,5,5,5,5,6,6,6,6,6,6,6,6,6,6,6,6,6,6,6,6,6,6,6,6,6,6,6,6,6,6,6,6,6,6,6,6,7,7,7,7,7,7,7,7,7,7,7,7,7,7,7,7,7,7,7,7,7,7,7,7,7,7,7,7,7,7,7,7,7,7,7,7,7,7,7,7,7,7,7,7,7,7,7,7,7,7,7,7,7,7,7,7,7,7,7,7,7,7,7,7,8,8,8,8,8,8,8,8,8,8,8,8,8,8,8,8,8,8,8,8,8,8,8,8,8,8,8,8,8,8,8,8,8,8,8,8,8,8,8,8,8,8,8,8,8,8,8,8,8,8,8,8,8,8,8,8,8,8,8,8,8,8,8,8,8,8,8,8,8,8,8,8,8,8,8,8,8,8,8,8,8,8,8,8,8,8,8,8,8,8,8,8,8,8,8,8,8,8,8,8,8,8,8,8,8,8,8,8,8,8,8,8,8,8,8,8,8,8,8,8,8,8,8,8,8,8,8,8]⟩) v15) fun v16 => bnd (opConv .i64 v16) fun v17 => bnd (opBin .add x2 v17) fun v18 => K v18
theorem m240_r7_ok (F : Nat) (x0 x2 : Value) (K : Value → M Value) : m240_r7 F x0 x2 K = m240_R F 7 [(2,x2),(0,x0)] [2] K := by kernel_rfl
def m240_k0 (F : Nat) (x0 x2 : Value) : M Value :=
  m240_r7 F x0 x2 (fun x2 => ret x2)
def m240_r6 (F : Nat) (x0 x2 : Value) (K : Value → Value → M Value) : M Value :=
  bnd (opBin .add x2 (.int .i64 (8))) fun v12 => K x0 v12
theorem m240_r6_ok (F : Nat) (x0 x2 : Value) (K : Value → Value → M Value) : m240_r6 F x0 x2 K = m240_R F 6 [(2,x2),(0,x0)] [0,2] K := by kernel_rfl
def m240_r5 (F : Nat) (x0 x2 : Value) (K : Value → Value → M Value) : M Value :=
  bnd (opBin .shr x0 (.int .u64 (8))) fun v10 => K v10 x2
theorem m240_r5_ok (F : Nat) (x0 x2 : Value) (K : Value → Value → M Value) : m240_r5 F x0 x2 K = m240_R F 5 [(2,x2),(0,x0)] [0,2] K := by kernel_rfl
def m240_r4 (F : Nat) (x0 x2 : Value) (K : Value → Value → Value → M Value) : M Value :=
  bnd (opBin .geq x0 (.int .u32 (256))) fun v8 => K x0 x2 v8
theorem m240_r4_ok (F : Nat) (x0 x2 : Value) (K : Value → Value → Value → M Value) : m240_r4 F x0 x2 K = m240_R F 4 [(2,x2),(0,x0)] [0,2,8] K := by kernel_rfl
def m240_k1 (F : Nat) (x0 x2 : Value) : M Value :=
  m240_r4 F x0 x2 (fun x0 x2 x8 => onB x8 (m240_r5 F x0 x2 (fun x0 x2 => m240_r6 F x0 x2 (fun x0 x2 => m240_k0 F x0 x2))) (m240_k0 F x0 x2))
def m240_r3 (F : Nat) (x0 : Value) (K : Value → Value → M Value) : M Value :=
  K x0 (.int .i64 (16))
theorem m240_r3_ok (F : Nat) (x0 : Value) (K : Value → Value → M Value) : m240_r3 F x0 K = m240_R F 3 [(0,x0)] [0,2] K := by kernel_rfl
def m240_r2 (F : Nat) (x0 : Value) (K : Value → M Value) : M Value :=
  bnd (opBin .shr x0 (.int .u64 (16))) fun v6 => K v6
theorem m240_r2_ok (F : Nat) (x0 : Value) (K : Value → M Value) : m240_r2 F x0 K = m240_R F 2 [(0,x0)] [0] K := by kernel_rfl
def m240_r1 (F : Nat) (x0 x2 : Value) (K : Value → Value → Value → M Value) : M Value :=
  bnd (opBin .geq x0 (.int .u32 (65536))) fun v4 => K x0 x2 v4
theorem m240_r1_ok (F : Nat) (x0 x2 : Value) (K : Value → Value → Value → M Value) : m240_r1 F x0 x2 K = m240_R F 1 [(2,x2),(0,x0)] [0,2,4] K := by kernel_rfl
def m240_r0 (F : Nat) (x0 : Value) (K : Value → Value → M Value) : M Value :=
  K x0 (.int .i64 (0))
theorem m240_r0_ok (F : Nat) (x0 : Value) (K : Value → Value → M Value) : m240_r0 F x0 K = m240_R F 0 [(0,x0)] [0,2] K := by kernel_rfl
def m240 (F : Nat) (x0 : Value) : M Value :=
  m240_r0 F x0 (fun x0 x2 => m240_r1 F x0 x2 (fun x0 x2 x4 => onB x4 (m240_r2 F x0 (fun x0 => m240_r3 F x0 (fun x0 x2 => m240_k1 F x0 x2))) (m240_k1 F x0 x2)))
def m240_m (F : Nat) : List Value → M Value
  | [x0] => m240 F x0
  | _ => fail
theorem m240_body : Tryz.f240.body = some (.seq (.region 0 (opsOf Tryz.f240 0) false) (.seq (.seq (.region 1 (opsOf Tryz.f240 1) false) (.cond (.tmp 4) (.seq (.region 2 (opsOf Tryz.f240 2) false) (.region 3 (opsOf Tryz.f240 3) false)) .skip)) (.seq (.seq (.region 4 (opsOf Tryz.f240 4) false) (.cond (.tmp 8) (.seq (.region 5 (opsOf Tryz.f240 5) false) (.region 6 (opsOf Tryz.f240 6) false)) .skip)) (.seq (.region 7 (opsOf Tryz.f240 7) false) .ret)))) := by kernel_rfl
theorem m240_ok (F : Nat) : Sim Tryz.prog 2 240 (m240_m F) := by
 have hE : EnvOK Tryz.prog 2 (m240_env F) := EnvOK.nil
 refine Sim.of_body (E := m240_env F) Tryz.func240 m240_body Tryz.call240 ?_ ?_
 · intro args hl; unfold m240_m; split
   · exact absurd hl (Nat.not_lt.2 (Nat.le_of_ble_eq_true rfl))
   · rfl
 · intro args ρ h w z; unfold m240_m; split
   · rename_i x0; show OKc _ _ [(0,x0)] _ _
     refine rSeq ?_
     refine cLess [0] ?_
     refine xR hE [0,2] rfl (m240_r0_ok F _ _) ?_
     intro x0 x2
     show OKq _ _ _ [(2,x2),(0,x0)] _
     refine rThen ?_
     refine xSeq [0,2] (m240_k1 F ) ?_ fun hj1 => ?_
     · intro x0 x2
       show OKc _ _ [(2,x2),(0,x0)] _ _
       refine xSeq [0,2] (m240_k0 F ) ?_ fun hj0 => ?_
       · intro x0 x2
         show OKc _ _ [(2,x2),(0,x0)] _ _
         refine rSeq ?_
         refine cLess [2,0] ?_
         refine xR hE [2] rfl (m240_r7_ok F _ _ _) ?_
         intro x2
         show OKq _ _ _ [(2,x2)] _
         refine rThen ?_
         refine rRet ?_
         exact rDone (.inr rfl) rfl
       · refine rSeq ?_
         refine cLess [2,0] ?_
         refine xR hE [0,2,8] rfl (m240_r4_ok F _ _ _) ?_
         intro x0 x2 x8
         show OKq _ _ _ [(8,x8),(2,x2),(0,x0)] _
         refine rThen ?_
         refine xCond rfl rfl ?_ ?_
         · refine rSeq ?_
           refine cLess [2,0] ?_
           refine xR hE [0,2] rfl (m240_r5_ok F _ _ _) ?_
           intro x0 x2
           show OKq _ _ _ [(2,x2),(0,x0)] _
           refine rThen ?_
           refine cLess [2,0] ?_
           refine xR hE [0,2] rfl (m240_r6_ok F _ _ _) ?_
           intro x0 x2
           show OKq _ _ _ [(2,x2),(0,x0)] _
           exact qLess [2,0] (hj0 x0 x2)
         · refine rSkip ?_
           exact qLess [2,0] (hj0 x0 x2)
     · refine rSeq ?_
       refine cLess [2,0] ?_
       refine xR hE [0,2,4] rfl (m240_r1_ok F _ _ _) ?_
       intro x0 x2 x4
       show OKq _ _ _ [(4,x4),(2,x2),(0,x0)] _
       refine rThen ?_
       refine xCond rfl rfl ?_ ?_
       · refine rSeq ?_
         refine cLess [0] ?_
         refine xR hE [0] rfl (m240_r2_ok F _ _) ?_
         intro x0
         show OKq _ _ _ [(0,x0)] _
         refine rThen ?_
         refine cLess [0] ?_
         refine xR hE [0,2] rfl (m240_r3_ok F _ _) ?_
         intro x0 x2
         show OKq _ _ _ [(2,x2),(0,x0)] _
         exact qLess [2,0] (hj1 x0 x2)
       · refine rSkip ?_
         exact qLess [2,0] (hj1 x0 x2)
   · exact rFail
/-! ### math/bits.Len64 -/
def m241_env (F : Nat) : Env := envOf []
def m241_R (F : Nat) := rK Tryz.prog 2 (m241_env F) Tryz.f241
def m241_r10 (F : Nat) (x0 x2 : Value) (K : Value → M Value) : M Value :=
  bnd (opConv .u8 x0) fun v21 => bnd (opIndexS (.string ⟨#[0,1,2,2,3,3,3,3,4,4,4,4,4,4,4,4,5,5,5,5,5,5,5,5,5,5,5,5,5,5,5,5,6,6,6,6,6,6,6,6,6,6,6,6,6,6,6,6,6,6,6,6,6,6,6,6,6,6,6,6,6,6,6,6,7,7,7,7,7,7,7,7,7,7,7,7,7,7,7,7,7,7,7,7,7,7,7,7,7,7,7,7,7,7,7,7,7,7,7,7,7,7,7,7,7,7,7,7,7,7,7,7,7,7,7,7,7,7,7,7,7,7,7,7,7,7,7,7,8,8,8,8,8,8,8,8,8,8,8,8,8,8,8,8,8,8,8,8,8,8,8,8,8,8,8,8,8,8,8,8,8,8,8,8,8,8,8,8,8,8,8,8,8,8,8,8,8,8,8,8,8,8,8,8,8,8,8,8,8,8,8,8,8,8,8,8,8,8,8,8,8,8,8,8,8,8,8,8,8,8,8,8,8,8,8,8,8,8,8,8,8,8,8,8,8,8,8,8,8,8,8,8,8,8,8,8,8,8,8,8,8,8,8,8,8,8,8,8,8,8,8,8,8,8,8,8]⟩) v21) fun v22 => bnd (opConv .i64 v22) fun v23 => bnd (opBin .add x2 v23) fun v24 => K v24
theorem m241_r10_ok (F : Nat) (x0 x2 : Value) (K : Value → M Value) : m241_r10 F x0 x2 K = m241_R F 10 [(2,x2),(0,x0)] [2] K := by kernel_rfl
def m241_k0 (F : Nat) (x0 x2 : Value) : M Value :=
  m241_r10 F x0 x2 (fun x2 => ret x2)
def m241_r9 (F : Nat) (x0 x2 : Value) (K : Value → Value → M Value) : M Value :=
  bnd (opBin .add x2 (.int .i64 (8))) fun v18 => K x0 v18
theorem m241_r9_ok (F : Nat) (x0 x2 : Value) (K : Value → Value → M Value) : m241_r9 F x0 x2 K = m241_R F 9 [(2,x2),(0,x0)] [0,2] K := by kernel_rfl
def m241_r8 (F : Nat) (x0 x2 : Value) (K : Value → Value → M Value) : M Value :=
  bnd (opBin .shr x0 (.int .u64 (8))) fun v16 => K v16 x2
theorem m241_r8_ok (F : Nat) (x0 x2 : Value) (K : Value → Value → M Value) : m241_r8 F x0 x2 K = m241_R F 8 [(2,x2),(0,x0)] [0,2] K := by kernel_rfl
def m241_r7 (F : Nat) (x0 x2 : Value) (K : Value → Value → Value → M Value) : M Value :=
  bnd (opBin .geq x0 (.int .u64 (256))) fun v14 => K x0 x2 v14
theorem m241_r7_ok (F : Nat) (x0 x2 : Value) (K : Value → Value → Value → M Value) : m241_r7 F x0 x2 K = m241_R F 7 [(2,x2),(0,x0)] [0,2,14] K := by kernel_rfl
def m241_k1 (F : Nat) (x0 x2 : Value) : M Value :=
  m241_r7 F x0 x2 (fun x0 x2 x14 => onB x14 (m241_r8 F x0 x2 (fun x0 x2 => m241_r9 F x0 x2 (fun x0 x2 => m241_k0 F x0 x2))) (m241_k0 F x0 x2))
def m241_r6 (F : Nat) (x0 x2 : Value) (K : Value → Value → M Value) : M Value :=
  bnd (opBin .add x2 (.int .i64 (16))) fun v12 => K x0 v12
theorem m241_r6_ok (F : Nat) (x0 x2 : Value) (K : Value → Value → M Value) : m241_r6 F x0 x2 K = m241_R F 6 [(2,x2),(0,x0)] [0,2] K := by kernel_rfl
def m241_r5 (F : Nat) (x0 x2 : Value) (K : Value → Value → M Value) : M Value :=
  bnd (opBin .shr x0 (.int .u64 (16))) fun v10 => K v10 x2
theorem m241_r5_ok (F : Nat) (x0 x2 : Value) (K : Value → Value → M Value) : m241_r5 F x0 x2 K = m241_R F 5 [(2,x2),(0,x0)] [0,2] K := by kernel_rfl
def m241_r4 (F : Nat) (x0 x2 : Value) (K : Value → Value → Value → M Value) : M Value :=
  bnd (opBin .geq x0 (.int .u64 (65536))) fun v8 => K x0 x2 v8
theorem m241_r4_ok (F : Nat) (x0 x2 : Value) (K : Value → Value → Value → M Value) : m241_r4 F x0 x2 K = m241_R F 4 [(2,x2),(0,x0)] [0,2,8] K := by kernel_rfl
def m241_k2 (F : Nat) (x0 x2 : Value) : M Value :=
  m241_r4 F x0 x2 (fun x0 x2 x8 => onB x8 (m241_r5 F x0 x2 (fun x0 x2 => m241_r6 F x0 x2 (fun x0 x2 => m241_k1 F x0 x2))) (m241_k1 F x0 x2))
def m241_r3 (F : Nat) (x0 : Value) (K : Value → Value → M Value) : M Value :=
  K x0 (.int .i64 (32))
theorem m241_r3_ok (F : Nat) (x0 : Value) (K : Value → Value → M Value) : m241_r3 F x0 K = m241_R F 3 [(0,x0)] [0,2] K := by kernel_rfl
def m241_r2 (F : Nat) (x0 : Value) (K : Value → M Value) : M Value :=
  bnd (opBin .shr x0 (.int .u64 (32))) fun v6 => K v6
theorem m241_r2_ok (F : Nat) (x0 : Value) (K : Value → M Value) : m241_r2 F x0 K = m241_R F 2 [(0,x0)] [0] K := by kernel_rfl
def m241_r1 (F : Nat) (x0 x2 : Value) (K : Value → Value → Value → M Value) : M Value :=
  bnd (opBin .geq x0 (.int .u64 (4294967296))) fun v4 => K x0 x2 v4
theorem m241_r1_ok (F : Nat) (x0 x2 : Value) (K : Value → Value → Value → M Value) : m241_r1 F x0 x2 K = m241_R F 1 [(2,x2),(0,x0)] [0,2,4] K := by kernel_rfl
def m241_r0 (F : Nat) (x0 : Value) (K : Value → Value → M Value) : M Value :=
  K x0 (.int .i64 (0))
theorem m241_r0_ok (F : Nat) (x0 : Value) (K : Value → Value → M Value) : m241_r0 F x0 K = m241_R F 0 [(0,x0)] [0,2] K := by kernel_rfl
def m241 (F : Nat) (x0 : Value) : M Value :=
  m241_r0 F x0 (fun x0 x2 => m241_r1 F x0 x2 (fun x0 x2 x4 => onB x4 (m241_r2 F x0 (fun x0 => m241_r3 F x0 (fun x0 x2 => m241_k2 F x0 x2))) (m241_k2 F x0 x2)))
def m241_m (F : Nat) : List Value → M Value
  | [x0] => m241 F x0
  | _ => fail
theorem m241_body : Tryz.f241.body = some (.seq (.region 0 (opsOf Tryz.f241 0) false) (.seq (.seq (.region 1 (opsOf Tryz.f241 1) false) (.cond (.tmp 4) (.seq (.region 2 (opsOf Tryz.f241 2) false) (.region 3 (opsOf Tryz.f241 3) false)) .skip)) (.seq (.seq (.region 4 (opsOf Tryz.f241 4) false) (.cond (.tmp 8) (.seq (.region 5 (opsOf Tryz.f241 5) false) (.region 6 (opsOf Tryz.f241 6) false)) .skip)) (.seq (.seq (.region 7 (opsOf Tryz.f241 7) false) (.cond (.tmp 14) (.seq (.region 8 (opsOf Tryz.f241 8) false) (.region 9 (opsOf Tryz.f241 9) false)) .skip)) (.seq (.region 10 (opsOf Tryz.f241 10) false) .ret))))) := by kernel_rfl
theorem m241_ok (F : Nat) : Sim Tryz.prog 2 241 (m241_m F) := by
 have hE : EnvOK Tryz.prog 2 (m241_env F) := EnvOK.nil
 refine Sim.of_body (E := m241_env F) Tryz.func241 m241_body Tryz.call241 ?_ ?_
 · intro args hl; unfold m241_m; split
   · exact absurd hl (Nat.not_lt.2 (Nat.le_of_ble_eq_true rfl))
   · rfl
 · intro args ρ h w z; unfold m241_m; split
   · rename_i x0; show OKc _ _ [(0,x0)] _ _
     refine rSeq ?_
     refine cLess [0] ?_
     refine xR hE [0,2] rfl (m241_r0_ok F _ _) ?_
     intro x0 x2
     show OKq _ _ _ [(2,x2),(0,x0)] _
     refine rThen ?_
     refine xSeq [0,2] (m241_k2 F ) ?_ fun hj2 => ?_
     · intro x0 x2
       show OKc _ _ [(2,x2),(0,x0)] _ _
       refine xSeq [0,2] (m241_k1 F ) ?_ fun hj1 => ?_
       · intro x0 x2
         show OKc _ _ [(2,x2),(0,x0)] _ _
         refine xSeq [0,2] (m241_k0 F ) ?_ fun hj0 => ?_
         · intro x0 x2
           show OKc _ _ [(2,x2),(0,x0)] _ _
           refine rSeq ?_
           refine cLess [2,0] ?_
           refine xR hE [2] rfl (m241_r10_ok F _ _ _) ?_
           intro x2
           show OKq _ _ _ [(2,x2)] _
           refine rThen ?_
           refine rRet ?_
           exact rDone (.inr rfl) rfl
         · refine rSeq ?_
           refine cLess [2,0] ?_
           refine xR hE [0,2,14] rfl (m241_r7_ok F _ _ _) ?_
           intro x0 x2 x14
           show OKq _ _ _ [(14,x14),(2,x2),(0,x0)] _
           refine rThen ?_
           refine xCond rfl rfl ?_ ?_
           · refine rSeq ?_
             refine cLess [2,0] ?_
             refine xR hE [0,2] rfl (m241_r8_ok F _ _ _) ?_
             intro x0 x2
             show OKq _ _ _ [(2,x2),(0,x0)] _
             refine rThen ?_
             refine cLess [2,0] ?_
             refine xR hE [0,2] rfl (m241_r9_ok F _ _ _) ?_
             intro x0 x2
             show OKq _ _ _ [(2,x2),(0,x0)] _
             exact qLess [2,0] (hj0 x0 x2)
           · refine rSkip ?_
             exact qLess [2,0] (hj0 x0 x2)
       · refine rSeq ?_
         refine cLess [2,0] ?_
         refine xR hE [0,2,8] rfl (m241_r4_ok F _ _ _) ?_
         intro x0 x2 x8
         show OKq _ _ _ [(8,x8),(2,x2),(0,x0)] _
         refine rThen ?_
         refine xCond rfl rfl ?_ ?_
         · refine rSeq ?_
           refine cLess [2,0] ?_
           refine xR hE [0,2] rfl (m241_r5_ok F _ _ _) ?_
           intro x0 x2
           show OKq _ _ _ [(2,x2),(0,x0)] _
           refine rThen ?_
           refine cLess [2,0] ?_
           refine xR hE [0,2] rfl (m241_r6_ok F _ _ _) ?_
           intro x0 x2
           show OKq _ _ _ [(2,x2),(0,x0)] _
           exact qLess [2,0] (hj1 x0 x2)
         · refine rSkip ?_
           exact qLess [2,0] (hj1 x0 x2)
     · refine rSeq ?_
       refine cLess [2,0] ?_
       refine xR hE [0,2,4] rfl (m241_r1_ok F _ _ _) ?_
       intro x0 x2 x4
       show OKq _ _ _ [(4,x4),(2,x2),(0,x0)] _
       refine rThen ?_
       refine xCond rfl rfl ?_ ?_
       · refine rSeq ?_
         refine cLess [0] ?_
         refine xR hE [0] rfl (m241_r2_ok F _ _) ?_
         intro x0
         show OKq _ _ _ [(0,x0)] _
         refine rThen ?_
         refine cLess [0] ?_
         refine xR hE [0,2] rfl (m241_r3_ok F _ _) ?_
         intro x0 x2
         show OKq _ _ _ [(2,x2),(0,x0)] _
         exact qLess [2,0] (hj2 x0 x2)
       · refine rSkip ?_
         exact qLess [2,0] (hj2 x0 x2)
   · exact rFail
/-! ### cmp.Compare[int] -/
def m101_env (F : Nat) : Env := envOf [(162,m162_m F)]
def m101_R (F : Nat) := rK Tryz.prog 2 (m101_env F) Tryz.f101
def m101_r13 (F : Nat) (K : Value → M Value) : M Value :=
  K (.int .i64 (0))
theorem m101_r13_ok (F : Nat) (K : Value → M Value) : m101_r13 F K = m101_R F 13 [] [4] K := by kernel_rfl
def m101_r12 (F : Nat) (K : Value → M Value) : M Value :=
  K (.int .i64 (1))
theorem m101_r12_ok (F : Nat) (K : Value → M Value) : m101_r12 F K = m101_R F 12 [] [4] K := by kernel_rfl
def m101_r11 (F : Nat) (x0 x1 : Value) (K : Value → M Value) : M Value :=
  bnd (opBin .gtr x0 x1) fun v19 => K v19
theorem m101_r11_ok (F : Nat) (x0 x1 : Value) (K : Value → M Value) : m101_r11 F x0 x1 K = m101_R F 11 [(1,x1),(0,x0)] [19] K := by kernel_rfl
def m101_r10 (F : Nat) (K : Value → M Value) : M Value :=
  K (.int .i64 (-1))
theorem m101_r10_ok (F : Nat) (K : Value → M Value) : m101_r10 F K = m101_R F 10 [] [4] K := by kernel_rfl
def m101_r9 (F : Nat) (x0 x1 : Value) (K : Value → Value → Value → M Value) : M Value :=
  bnd (opBin .lss x0 x1) fun v16 => K x0 x1 v16
theorem m101_r9_ok (F : Nat) (x0 x1 : Value) (K : Value → Value → Value → M Value) : m101_r9 F x0 x1 K = m101_R F 9 [(1,x1),(0,x0)] [0,1,16] K := by kernel_rfl
def m101_r8 (F : Nat) (K : Value → M Value) : M Value :=
  K (.int .i64 (1))
theorem m101_r8_ok (F : Nat) (K : Value → M Value) : m101_r8 F K = m101_R F 8 [] [4] K := by kernel_rfl
def m101_r7 (F : Nat) (x0 x1 x6 : Value) (K : Value → Value → Value → M Value) : M Value :=
  K x0 x1 x6
theorem m101_r7_ok (F : Nat) (x0 x1 x6 : Value) (K : Value → Value → Value → M Value) : m101_r7 F x0 x1 x6 K = m101_R F 7 [(6,x6),(1,x1),(0,x0)] [0,1,13] K := by kernel_rfl
def m101_r6 (F : Nat) (K : Value → M Value) : M Value :=
  K (.int .i64 (-1))
theorem m101_r6_ok (F : Nat) (K : Value → M Value) : m101_r6 F K = m101_R F 6 [] [4] K := by kernel_rfl
def m101_r5 (F : Nat) (K : Value → M Value) : M Value :=
  K (.int .i64 (0))
theorem m101_r5_ok (F : Nat) (K : Value → M Value) : m101_r5 F K = m101_R F 5 [] [4] K := by kernel_rfl
def m101_r4 (F : Nat) (x6 : Value) (K : Value → M Value) : M Value :=
  K x6
theorem m101_r4_ok (F : Nat) (x6 : Value) (K : Value → M Value) : m101_r4 F x6 K = m101_R F 4 [(6,x6)] [12] K := by kernel_rfl
def m101_r3 (F : Nat) (x0 x1 x5 x6 : Value) (K : Value → Value → Value → Value → M Value) : M Value :=
  K x0 x1 x6 x5
theorem m101_r3_ok (F : Nat) (x0 x1 x5 x6 : Value) (K : Value → Value → Value → Value → M Value) : m101_r3 F x0 x1 x5 x6 K = m101_R F 3 [(6,x6),(5,x5),(1,x1),(0,x0)] [0,1,6,11] K := by kernel_rfl
def m101_r2 (F : Nat) (x0 x1 x5 : Value) (K : Value → Value → Value → Value → M Value) : M Value :=
  bnd (m162 F x1) fun v10 => K x0 x1 x5 v10
theorem m101_r2_ok (F : Nat) (x0 x1 x5 : Value) (K : Value → Value → Value → Value → M Value) : m101_r2 F x0 x1 x5 K = m101_R F 2 [(5,x5),(1,x1),(0,x0)] [0,1,5,6] K := by kernel_rfl
def m101_r1 (F : Nat) (x0 x1 : Value) (K : Value → Value → Value → M Value) : M Value :=
  bnd (m162 F x0) fun v8 => K x0 x1 v8
theorem m101_r1_ok (F : Nat) (x0 x1 : Value) (K : Value → Value → Value → M Value) : m101_r1 F x0 x1 K = m101_R F 1 [(1,x1),(0,x0)] [0,1,5] K := by kernel_rfl
def m101_r0 (F : Nat) (x0 x1 : Value) (K : Value → Value → M Value) : M Value :=
  K x0 x1
theorem m101_r0_ok (F : Nat) (x0 x1 : Value) (K : Value → Value → M Value) : m101_r0 F x0 x1 K = m101_R F 0 [(1,x1),(0,x0)] [0,1] K := by kernel_rfl
def m101 (F : Nat) (x0 x1 : Value) : M Value :=
  m101_r0 F x0 x1 (fun x0 x1 => m101_r1 F x0 x1 (fun x0 x1 x5 => m101_r2 F x0 x1 x5 (fun x0 x1 x5 x6 => m101_r3 F x0 x1 x5 x6 (fun x0 x1 x6 x11 => onB x11 (m101_r4 F x6 (fun x12 => onB x12 (m101_r5 F (fun x4 => ret x4)) (m101_r6 F (fun x4 => ret x4)))) (m101_r7 F x0 x1 x6 (fun x0 x1 x13 => onB x13 (m101_r8 F (fun x4 => ret x4)) (m101_r9 F x0 x1 (fun x0 x1 x16 => onB x16 (m101_r10 F (fun x4 => ret x4)) (m101_r11 F x0 x1 (fun x19 => onB x19 (m101_r12 F (fun x4 => ret x4)) (m101_r13 F (fun x4 => ret x4))))))))))))
def m101_m (F : Nat) : List Value → M Value
  | [x0,x1] => m101 F x0 x1
  | _ => fail
theorem m101_body : Tryz.f101.body = some (.seq (.region 0 (opsOf Tryz.f101 0) false) (.seq (.region 1 (opsOf Tryz.f101 1) false) (.seq (.region 2 (opsOf Tryz.f101 2) false) (.seq (.seq (.region 3 (opsOf Tryz.f101 3) false) (.cond (.tmp 11) (.seq (.seq (.region 4 (opsOf Tryz.f101 4) false) (.cond (.tmp 12) (.seq (.region 5 (opsOf Tryz.f101 5) false) .ret) .skip)) (.seq (.region 6 (opsOf Tryz.f101 6) false) .ret)) .skip)) (.seq (.seq (.region 7 (opsOf Tryz.f101 7) false) (.cond (.tmp 13) (.seq (.region 8 (opsOf Tryz.f101 8) false) .ret) .skip)) (.seq (.seq (.region 9 (opsOf Tryz.f101 9) false) (.cond (.tmp 16) (.seq (.region 10 (opsOf Tryz.f101 10) false) .ret) .skip)) (.seq (.seq (.region 11 (opsOf Tryz.f101 11) false) (.cond (.tmp 19) (.seq (.region 12 (opsOf Tryz.f101 12) false) .ret) .skip)) (.seq (.region 13 (opsOf Tryz.f101 13) false) .ret)))))))) := by kernel_rfl
theorem m101_ok (F : Nat) : Sim Tryz.prog 2 101 (m101_m F) := by
 have hE : EnvOK Tryz.prog 2 (m101_env F) := (EnvOK.cons (m162_ok F) EnvOK.nil)
 refine Sim.of_body (E := m101_env F) Tryz.func101 m101_body Tryz.call101 ?_ ?_
 · intro args hl; unfold m101_m; split
   · exact absurd hl (Nat.not_lt.2 (Nat.le_of_ble_eq_true rfl))
   · rfl
 · intro args ρ h w z; unfold m101_m; split
   · rename_i x0 x1; show OKc _ _ [(0,x0),(1,x1)] _ _
     refine rSeq ?_
     refine cLess [1,0] ?_
     refine xR hE [0,1] rfl (m101_r0_ok F _ _ _) ?_
     intro x0 x1
     show OKq _ _ _ [(1,x1),(0,x0)] _
     refine rThen ?_
     refine rSeq ?_
     refine cLess [1,0] ?_
     refine xR hE [0,1,5] rfl (m101_r1_ok F _ _ _) ?_
     intro x0 x1 x5
     show OKq _ _ _ [(5,x5),(1,x1),(0,x0)] _
     refine rThen ?_
     refine rSeq ?_
     refine cLess [5,1,0] ?_
     refine xR hE [0,1,5,6] rfl (m101_r2_ok F _ _ _ _) ?_
     intro x0 x1 x5 x6
     show OKq _ _ _ [(6,x6),(5,x5),(1,x1),(0,x0)] _
     refine rThen ?_
     refine rSeq ?_
     refine rSeq ?_
     refine cLess [6,5,1,0] ?_
     refine xR hE [0,1,6,11] rfl (m101_r3_ok F _ _ _ _ _) ?_
     intro x0 x1 x6 x11
     show OKq _ _ _ [(11,x11),(6,x6),(1,x1),(0,x0)] _
     refine rThen ?_
     refine xCond rfl rfl ?_ ?_
     · refine rSeq ?_
       refine rSeq ?_
       refine cLess [6] ?_
       refine xR hE [12] rfl (m101_r4_ok F _ _) ?_
       intro x12
       show OKq _ _ _ [(12,x12)] _
       refine rThen ?_
       refine xCond rfl rfl ?_ ?_
       · refine rSeq ?_
         refine cLess [] ?_
         refine xR hE [4] rfl (m101_r5_ok F _) ?_
         intro x4
         show OKq _ _ _ [(4,x4)] _
         refine rThen ?_
         refine rRet ?_
         refine xThenR ?_
         refine xThenR ?_
         exact rDone (.inr rfl) rfl
       · refine rSkip ?_
         refine rThen ?_
         refine rSeq ?_
         refine cLess [] ?_
         refine xR hE [4] rfl (m101_r6_ok F _) ?_
         intro x4
         show OKq _ _ _ [(4,x4)] _
         refine rThen ?_
         refine rRet ?_
         refine xThenR ?_
         exact rDone (.inr rfl) rfl
     · refine rSkip ?_
       refine rThen ?_
       refine rSeq ?_
       refine rSeq ?_
       refine cLess [6,1,0] ?_
       refine xR hE [0,1,13] rfl (m101_r7_ok F _ _ _ _) ?_
       intro x0 x1 x13
       show OKq _ _ _ [(13,x13),(1,x1),(0,x0)] _
       refine rThen ?_
       refine xCond rfl rfl ?_ ?_
       · refine rSeq ?_
         refine cLess [] ?_
         refine xR hE [4] rfl (m101_r8_ok F _) ?_
         intro x4
         show OKq _ _ _ [(4,x4)] _
         refine rThen ?_
         refine rRet ?_
         refine xThenR ?_
         exact rDone (.inr rfl) rfl
       · refine rSkip ?_
         refine rThen ?_
         refine rSeq ?_
         refine rSeq ?_
         refine cLess [1,0] ?_
         refine xR hE [0,1,16] rfl (m101_r9_ok F _ _ _) ?_
         intro x0 x1 x16
         show OKq _ _ _ [(16,x16),(1,x1),(0,x0)] _
         refine rThen ?_
         refine xCond rfl rfl ?_ ?_
         · refine rSeq ?_
           refine cLess [] ?_
           refine xR hE [4] rfl (m101_r10_ok F _) ?_
           intro x4
           show OKq _ _ _ [(4,x4)] _
           refine rThen ?_
           refine rRet ?_
           refine xThenR ?_
           exact rDone (.inr rfl) rfl
         · refine rSkip ?_
           refine rThen ?_
           refine rSeq ?_
           refine rSeq ?_
           refine cLess [1,0] ?_
           refine xR hE [19] rfl (m101_r11_ok F _ _ _) ?_
           intro x19
           show OKq _ _ _ [(19,x19)] _
           refine rThen ?_
           refine xCond rfl rfl ?_ ?_
           · refine rSeq ?_
             refine cLess [] ?_
             refine xR hE [4] rfl (m101_r12_ok F _) ?_
             intro x4
             show OKq _ _ _ [(4,x4)] _
             refine rThen ?_
             refine rRet ?_
             refine xThenR ?_
             exact rDone (.inr rfl) rfl
           · refine rSkip ?_
             refine rThen ?_
             refine rSeq ?_
             refine cLess [] ?_
             refine xR hE [4] rfl (m101_r13_ok F _) ?_
             intro x4
             show OKq _ _ _ [(4,x4)] _
             refine rThen ?_
             refine rRet ?_
             exact rDone (.inr rfl) rfl
   · exact rFail
/-! ### math/bits.Len -/
def m154_env (F : Nat) : Env := envOf [(240,m240_m F),(241,m241_m F)]
def m154_R (F : Nat) := rK Tryz.prog 2 (m154_env F) Tryz.f154
def m154_r2 (F : Nat) (x0 : Value) (K : Value → M Value) : M Value :=
  bnd (m241 F x0) fun v7 => K v7
theorem m154_r2_ok (F : Nat) (x0 : Value) (K : Value → M Value) : m154_r2 F x0 K = m154_R F 2 [(0,x0)] [2] K := by kernel_rfl
def m154_r1 (F : Nat) (x0 : Value) (K : Value → M Value) : M Value :=
  bnd (opConv .u32 x0) fun v4 => bnd (m240 F v4) fun v5 => K v5
theorem m154_r1_ok (F : Nat) (x0 : Value) (K : Value → M Value) : m154_r1 F x0 K = m154_R F 1 [(0,x0)] [2] K := by kernel_rfl
def m154_r0 (F : Nat) (x0 : Value) (K : Value → M Value) : M Value :=
  K x0
theorem m154_r0_ok (F : Nat) (x0 : Value) (K : Value → M Value) : m154_r0 F x0 K = m154_R F 0 [(0,x0)] [0] K := by kernel_rfl
def m154 (F : Nat) (x0 : Value) : M Value :=
  m154_r0 F x0 (fun x0 => onB (.bool false) (m154_r1 F x0 (fun x2 => ret x2)) (m154_r2 F x0 (fun x2 => ret x2)))
def m154_m (F : Nat) : List Value → M Value
  | [x0] => m154 F x0
  | _ => fail
theorem m154_body : Tryz.f154.body = some (.seq (.region 0 (opsOf Tryz.f154 0) false) (.seq (.cond (.const (.bool false)) (.seq (.region 1 (opsOf Tryz.f154 1) false) .ret) .skip) (.seq (.region 2 (opsOf Tryz.f154 2) false) .ret))) := by kernel_rfl
theorem m154_ok (F : Nat) : Sim Tryz.prog 2 154 (m154_m F) := by
 have hE : EnvOK Tryz.prog 2 (m154_env F) := (EnvOK.cons (m240_ok F) (EnvOK.cons (m241_ok F) EnvOK.nil))
 refine Sim.of_body (E := m154_env F) Tryz.func154 m154_body Tryz.call154 ?_ ?_
 · intro args hl; unfold m154_m; split
   · exact absurd hl (Nat.not_lt.2 (Nat.le_of_ble_eq_true rfl))
   · rfl
 · intro args ρ h w z; unfold m154_m; split
   · rename_i x0; show OKc _ _ [(0,x0)] _ _
     refine rSeq ?_
     refine cLess [0] ?_
     refine xR hE [0] rfl (m154_r0_ok F _ _) ?_
     intro x0
     show OKq _ _ _ [(0,x0)] _
     refine rThen ?_
     refine rSeq ?_
     refine xCond rfl rfl ?_ ?_
     · refine rSeq ?_
       refine cLess [0] ?_
       refine xR hE [2] rfl (m154_r1_ok F _ _) ?_
       intro x2
       show OKq _ _ _ [(2,x2)] _
       refine rThen ?_
       refine rRet ?_
       refine xThenR ?_
       exact rDone (.inr rfl) rfl
     · refine rSkip ?_
       refine rThen ?_
       refine rSeq ?_
       refine cLess [0] ?_
       refine xR hE [2] rfl (m154_r2_ok F _ _) ?_
       intro x2
       show OKq _ _ _ [(2,x2)] _
       refine rThen ?_
       refine rRet ?_
       exact rDone (.inr rfl) rfl
   · exact rFail
/-! ### (*haruspex/solve.Solution).Edges$1 -/
def m99_env (F : Nat) : Env := envOf [(100,m100_m F),(101,m101_m F)]
def m99_R (F : Nat) := rK Tryz.prog 2 (m99_env F) Tryz.f99
def m99_D (F : Nat) := dK Tryz.prog 2 (m99_env F) Tryz.f99
def m99_r1 (F : Nat) (x2 x3 : Value) (K : Value → M Value) : M Value :=
  bnd (opFieldAddr 0 x2) fun v5 => bnd (opLoad v5) fun v6 => bnd (opFieldAddr 0 x3) fun v7 => bnd (opLoad v7) fun v8 => bnd (opFieldAddr 1 x2) fun v10 => bnd (opLoad v10) fun v11 => bnd (opFieldAddr 1 x3) fun v12 => bnd (opLoad v12) fun v13 => bnd (m101 F v6 v8) fun v9 => bnd (opChk false v10 v11) fun _ => bnd (opChk false v12 v13) fun _ => bnd (m101 F v11 v13) fun v14 => bnd (opBuildSlice 2 (rep 2 [(.int .i64 (0))]) [(0,1,false,v9),(1,1,false,v14)]) fun v15 => bnd (m100 F v15) fun v16 => K v16
theorem m99_r1_ok (F : Nat) (x2 x3 : Value) (K : Value → M Value) : m99_r1 F x2 x3 K = m99_D F 1 [0,1,2,3,5,6,7,8,4,9,10,11,12] [(3,x3),(2,x2)] [4] K := by kernel_rfl
theorem m99_r1_good : goodOrder (opsOf Tryz.f99 1) [0,1,2,3,5,6,7,8,4,9,10,11,12] = true := by kernel_rfl
def m99_r0 (F : Nat) (x0 x1 : Value) (K : Value → Value → M Value) : M Value :=
  bnd (opBoxN x0) fun v2 => bnd (opBoxN x1) fun v3 => K v2 v3
theorem m99_r0_ok (F : Nat) (x0 x1 : Value) (K : Value → Value → M Value) : m99_r0 F x0 x1 K = m99_R F 0 [(1,x1),(0,x0)] [2,3] K := by kernel_rfl
def m99 (F : Nat) (x0 x1 : Value) : M Value :=
  m99_r0 F x0 x1 (fun x2 x3 => m99_r1 F x2 x3 (fun x4 => ret x4))
def m99_m (F : Nat) : List Value → M Value
  | [x0,x1] => m99 F x0 x1
  | _ => fail
theorem m99_body : Tryz.f99.body = some (.seq (.region 0 (opsOf Tryz.f99 0) false) (.seq (.region 1 (opsOf Tryz.f99 1) true) .ret)) := by kernel_rfl
theorem m99_ok (F : Nat) : Sim Tryz.prog 2 99 (m99_m F) := by
 have hE : EnvOK Tryz.prog 2 (m99_env F) := (EnvOK.cons (m100_ok F) (EnvOK.cons (m101_ok F) EnvOK.nil))
 refine Sim.of_body (E := m99_env F) Tryz.func99 m99_body Tryz.call99 ?_ ?_
 · intro args hl; unfold m99_m; split
   · exact absurd hl (Nat.not_lt.2 (Nat.le_of_ble_eq_true rfl))
   · rfl
 · intro args ρ h w z; unfold m99_m; split
   · rename_i x0 x1; show OKc _ _ [(0,x0),(1,x1)] _ _
     refine rSeq ?_
     refine cLess [1,0] ?_
     refine xR hE [2,3] rfl (m99_r0_ok F _ _ _) ?_
     intro x2 x3
     show OKq _ _ _ [(3,x3),(2,x2)] _
     refine rThen ?_
     refine rSeq ?_
     refine cLess [3,2] ?_
     refine xD Tzmix hE [4] rfl m99_r1_good (m99_r1_ok F _ _ _) ?_
     intro x4
     show OKq _ _ _ [(4,x4)] _
     refine rThen ?_
     refine rRet ?_
     exact rDone (.inr rfl) rfl
   · exact rFail
/-! ### slices.insertionSortCmpFunc[haruspex/api.Edge] -/
def m248_env (F : Nat) : Env := envOf [(99, m99_m F)]
def m248_R (F : Nat) := rK Tryz.prog 2 (m248_env F) Tryz.f248
def m248_D (F : Nat) := dK Tryz.prog 2 (m248_env F) Tryz.f248
def m248_r2 (F : Nat) (x0 x1 x2 x3 x8 : Value) (K : Value → Value → Value → Value → Value → M Value) : M Value :=
  bnd (opBin .add x8 (.int .i64 (1))) fun v16 => K x0 x1 x2 x3 v16
theorem m248_r2_ok (F : Nat) (x0 x1 x2 x3 x8 : Value) (K : Value → Value → Value → Value → Value → M Value) : m248_r2 F x0 x1 x2 x3 x8 K = m248_R F 2 [(8,x8),(3,x3),(2,x2),(1,x1),(0,x0)] [0,1,2,3,8] K := by kernel_rfl
def m248_k1 (F : Nat) (A0 : Value → Value → Value → Value → Value → M Value) (x0 x1 x2 x3 x8 : Value) : M Value :=
  m248_r2 F x0 x1 x2 x3 x8 (fun x0 x1 x2 x3 x8 => A0 x0 x1 x2 x3 x8)
def m248_r5 (F : Nat) (x0 x1 x2 x3 x8 x9 : Value) (K : Value → Value → Value → Value → Value → Value → M Value) : M Value :=
  bnd (opBin .sub x9 (.int .i64 (1))) fun v36 => K x0 x1 x2 x3 x8 v36
theorem m248_r5_ok (F : Nat) (x0 x1 x2 x3 x8 x9 : Value) (K : Value → Value → Value → Value → Value → Value → M Value) : m248_r5 F x0 x1 x2 x3 x8 x9 K = m248_R F 5 [(9,x9),(8,x8),(3,x3),(2,x2),(1,x1),(0,x0)] [0,1,2,3,8,9] K := by kernel_rfl
def m248_r6 (F : Nat) (x0 x1 x2 x3 x8 x9 : Value) (K : Value → Value → Value → Value → Value → Value → M Value) : M Value :=
  bnd (opBin .sub x9 (.int .i64 (1))) fun v41 => bnd (opBin .sub x9 (.int .i64 (1))) fun v44 => bnd (opIndexAddr 2 x0 v44) fun v45 => bnd (opLoadN 2 v45) fun v46 => bnd (opIndexAddr 2 x0 x9) fun v49 => bnd (opLoadN 2 v49) fun v50 => bnd (opIndexAddr 2 x0 x9) fun v51 => bnd (opStoreN 2 v51 v46) fun _ => bnd (opIndexAddr 2 x0 v41) fun v52 => bnd (opStoreN 2 v52 v50) fun _ => K x0 x1 x2 x3 x8 x9
theorem m248_r6_ok (F : Nat) (x0 x1 x2 x3 x8 x9 : Value) (K : Value → Value → Value → Value → Value → Value → M Value) : m248_r6 F x0 x1 x2 x3 x8 x9 K = m248_D F 6 [0,1,2,3,4,5,6,7,8,9,10,11,12,13,14,15,16,17] [(9,x9),(8,x8),(3,x3),(2,x2),(1,x1),(0,x0)] [0,1,2,3,8,9] K := by kernel_rfl
theorem m248_r6_good : goodOrder (opsOf Tryz.f248 6) [0,1,2,3,4,5,6,7,8,9,10,11,12,13,14,15,16,17] = true := by kernel_rfl
def m248_r4 (F : Nat) (x0 x1 x2 x3 x8 x9 : Value) (K : Value → Value → Value → Value → Value → Value → Value → M Value) : M Value :=
  bnd (opBin .gtr x9 x1) fun v20 => onB v20 (bnd (opIndexAddr 2 x0 x9) fun v25 => bnd (opLoadN 2 v25) fun v26 => bnd (opBin .sub x9 (.int .i64 (1))) fun v29 => bnd (opIndexAddr 2 x0 v29) fun v30 => bnd (opLoadN 2 v30) fun v31 => bnd (opCall (m248_env F) x3 [v26,v31]) fun v32 => bnd (opBin .lss v32 (.int .i64 (0))) fun v33 => K x0 x1 x2 x3 x8 x9 v33) (K x0 x1 x2 x3 x8 x9 (.bool false))
theorem m248_r4_ok (F : Nat) (x0 x1 x2 x3 x8 x9 : Value) (K : Value → Value → Value → Value → Value → Value → Value → M Value) : m248_r4 F x0 x1 x2 x3 x8 x9 K = m248_D F 4 [0,1,2,3,4,5,6,7,8,9,10,11,12,13,14,15,16] [(9,x9),(8,x8),(3,x3),(2,x2),(1,x1),(0,x0)] [0,1,2,3,8,9,34] K := by kernel_rfl
theorem m248_r4_good : goodOrder (opsOf Tryz.f248 4) [0,1,2,3,4,5,6,7,8,9,10,11,12,13,14,15,16] = true := by kernel_rfl
def m248_b2 (F : Nat) (E2_2 : Value → Value → Value → Value → Value → M Value) (A2 : Value → Value → Value → Value → Value → Value → M Value) (x0 x1 x2 x3 x8 x9 : Value) : M Value :=
  m248_r4 F x0 x1 x2 x3 x8 x9 (fun x0 x1 x2 x3 x8 x9 x34 => onB x34 (m248_r6 F x0 x1 x2 x3 x8 x9 (fun x0 x1 x2 x3 x8 x9 => m248_r5 F x0 x1 x2 x3 x8 x9 (fun x0 x1 x2 x3 x8 x9 => A2 x0 x1 x2 x3 x8 x9))) (E2_2 x0 x1 x2 x3 x8))
def m248_l2 (F : Nat) (E2_2 : Value → Value → Value → Value → Value → M Value) : Nat → Value → Value → Value → Value → Value → Value → M Value
  | 0, _, _, _, _, _, _ => fail
  | k2 + 1, x0, x1, x2, x3, x8, x9 => m248_b2 F E2_2 (m248_l2 F E2_2 k2) x0 x1 x2 x3 x8 x9
theorem m248_l2_s (F : Nat) (E2_2 : Value → Value → Value → Value → Value → M Value) (k2 : Nat) (x0 x1 x2 x3 x8 x9 : Value) : m248_l2 F E2_2 (k2 + 1) x0 x1 x2 x3 x8 x9 = m248_b2 F E2_2 (m248_l2 F E2_2 k2) x0 x1 x2 x3 x8 x9 := rfl
def m248_r3 (F : Nat) (x0 x1 x2 x3 x8 : Value) (K : Value → Value → Value → Value → Value → Value → M Value) : M Value :=
  K x0 x1 x2 x3 x8 x8
theorem m248_r3_ok (F : Nat) (x0 x1 x2 x3 x8 : Value) (K : Value → Value → Value → Value → Value → Value → M Value) : m248_r3 F x0 x1 x2 x3 x8 K = m248_R F 3 [(8,x8),(3,x3),(2,x2),(1,x1),(0,x0)] [0,1,2,3,8,9] K := by kernel_rfl
def m248_r1 (F : Nat) (x0 x1 x2 x3 x8 : Value) (K : Value → Value → Value → Value → Value → Value → M Value) : M Value :=
  bnd (opBin .lss x8 x2) fun v14 => K x0 x1 x2 x3 x8 v14
theorem m248_r1_ok (F : Nat) (x0 x1 x2 x3 x8 : Value) (K : Value → Value → Value → Value → Value → Value → M Value) : m248_r1 F x0 x1 x2 x3 x8 K = m248_R F 1 [(8,x8),(3,x3),(2,x2),(1,x1),(0,x0)] [0,1,2,3,8,14] K := by kernel_rfl
def m248_b0 (F : Nat) (E0_0 : M Value) (A0 : Value → Value → Value → Value → Value → M Value) (x0 x1 x2 x3 x8 : Value) : M Value :=
  m248_r1 F x0 x1 x2 x3 x8 (fun x0 x1 x2 x3 x8 x14 => onB x14 (m248_r3 F x0 x1 x2 x3 x8 (fun x0 x1 x2 x3 x8 x9 => m248_l2 F (fun x0 x1 x2 x3 x8 => m248_k1 F A0 x0 x1 x2 x3 x8) F x0 x1 x2 x3 x8 x9)) (E0_0 ))
def m248_l0 (F : Nat) (E0_0 : M Value) : Nat → Value → Value → Value → Value → Value → M Value
  | 0, _, _, _, _, _ => fail
  | k0 + 1, x0, x1, x2, x3, x8 => m248_b0 F E0_0 (m248_l0 F E0_0 k0) x0 x1 x2 x3 x8
theorem m248_l0_s (F : Nat) (E0_0 : M Value) (k0 : Nat) (x0 x1 x2 x3 x8 : Value) : m248_l0 F E0_0 (k0 + 1) x0 x1 x2 x3 x8 = m248_b0 F E0_0 (m248_l0 F E0_0 k0) x0 x1 x2 x3 x8 := rfl
def m248_r0 (F : Nat) (x0 x1 x2 x3 : Value) (K : Value → Value → Value → Value → Value → M Value) : M Value :=
  bnd (opBin .add x1 (.int .i64 (1))) fun v11 => K x0 x1 x2 x3 v11
theorem m248_r0_ok (F : Nat) (x0 x1 x2 x3 : Value) (K : Value → Value → Value → Value → Value → M Value) : m248_r0 F x0 x1 x2 x3 K = m248_R F 0 [(3,x3),(2,x2),(1,x1),(0,x0)] [0,1,2,3,8] K := by kernel_rfl
def m248 (F : Nat) (x0 x1 x2 x3 : Value) : M Value :=
  m248_r0 F x0 x1 x2 x3 (fun x0 x1 x2 x3 x8 => m248_l0 F (tupK []) F x0 x1 x2 x3 x8)
def m248_m (F : Nat) : List Value → M Value
  | [x0,x1,x2,x3] => m248 F x0 x1 x2 x3
  | _ => fail
theorem m248_body : Tryz.f248.body = some (.seq (.region 0 (opsOf Tryz.f248 0) false) (.block 0 (.loop (.seq (.seq (.region 1 (opsOf Tryz.f248 1) false) (.cond (.tmp 14) .skip (.exit 0))) (.seq (.block 1 (.seq (.region 3 (opsOf Tryz.f248 3) false) (.block 2 (.loop (.seq (.seq (.region 4 (opsOf Tryz.f248 4) true) (.cond (.tmp 34) .skip (.exit 2))) (.seq (.block 3 (.region 6 (opsOf Tryz.f248 6) true)) (.region 5 (opsOf Tryz.f248 5) false))))))) (.region 2 (opsOf Tryz.f248 2) false)))))) := by kernel_rfl
theorem m248_ok (F : Nat) : Sim Tryz.prog 2 248 (m248_m F) := by
 have hE : EnvOK Tryz.prog 2 (m248_env F) := EnvOK.cons (m99_ok F) EnvOK.nil
 refine Sim.of_body (E := m248_env F) Tryz.func248 m248_body Tryz.call248 ?_ ?_
 · intro args hl; unfold m248_m; split
   · exact absurd hl (Nat.not_lt.2 (Nat.le_of_ble_eq_true rfl))
   · rfl
 · intro args ρ h w z; unfold m248_m; split
   · rename_i x0 x1 x2 x3; show OKc _ _ [(0,x0),(1,x1),(2,x2),(3,x3)] _ _
     refine rSeq ?_
     refine cLess [3,2,1,0] ?_
     refine xR hE [0,1,2,3,8] rfl (m248_r0_ok F _ _ _ _ _) ?_
     intro x0 x1 x2 x3 x8
     show OKq _ _ _ [(8,x8),(3,x3),(2,x2),(1,x1),(0,x0)] _
     refine rThen ?_
     refine rBlock ?_
     refine cLess [8,3,2,1,0] ?_
     refine xLoopAt [0,1,2,3,8] [] (fun k0 => m248_l0 F (tupK []) k0) F [x0,x1,x2,x3,x8] rfl rfl (fun _ _ _ _ _ => rfl) fun I hI0 k0 => ?_
     intro x0 x1 x2 x3 x8
     show OKc _ _ [(8,x8),(3,x3),(2,x2),(1,x1),(0,x0)] _ _
     refine cAs (m248_l0_s F _ _ _ _ _ _ _) ?_
     refine rSeq ?_
     refine rSeq ?_
     refine cLess [8,3,2,1,0] ?_
     refine xR hE [0,1,2,3,8,14] rfl (m248_r1_ok F _ _ _ _ _ _) ?_
     intro x0 x1 x2 x3 x8 x14
     show OKq _ _ _ [(14,x14),(8,x8),(3,x3),(2,x2),(1,x1),(0,x0)] _
     refine rThen ?_
     refine xCond rfl rfl ?_ ?_
     · refine rSkip ?_
       refine rThen ?_
       refine xSeq [0,1,2,3,8] (m248_k1 F (m248_l0 F (tupK []) k0) ) ?_ fun hj1 => ?_
       · intro x0 x1 x2 x3 x8
         show OKc _ _ [(8,x8),(3,x3),(2,x2),(1,x1),(0,x0)] _ _
         refine cLess [8,3,2,1,0] ?_
         refine xR hE [0,1,2,3,8] rfl (m248_r2_ok F _ _ _ _ _ _) ?_
         intro x0 x1 x2 x3 x8
         show OKq _ _ _ [(8,x8),(3,x3),(2,x2),(1,x1),(0,x0)] _
         exact qLess [8,3,2,1,0] (hI0 k0 x0 x1 x2 x3 x8)
       · refine rBlock ?_
         refine rSeq ?_
         refine cLess [8,3,2,1,0] ?_
         refine xR hE [0,1,2,3,8,9] rfl (m248_r3_ok F _ _ _ _ _ _) ?_
         intro x0 x1 x2 x3 x8 x9
         show OKq _ _ _ [(9,x9),(8,x8),(3,x3),(2,x2),(1,x1),(0,x0)] _
         refine rThen ?_
         refine rBlock ?_
         refine cLess [9,8,3,2,1,0] ?_
         refine xLoopAt [0,1,2,3,8,9] [] (fun k2 => m248_l2 F (fun x0 x1 x2 x3 x8 => m248_k1 F (m248_l0 F (tupK []) k0) x0 x1 x2 x3 x8) k2) F [x0,x1,x2,x3,x8,x9] rfl rfl (fun _ _ _ _ _ _ => rfl) fun I hI2 k2 => ?_
         intro x0 x1 x2 x3 x8 x9
         show OKc _ _ [(9,x9),(8,x8),(3,x3),(2,x2),(1,x1),(0,x0)] _ _
         refine cAs (m248_l2_s F _ _ _ _ _ _ _ _) ?_
         refine rSeq ?_
         refine rSeq ?_
         refine cLess [9,8,3,2,1,0] ?_
         refine xD Tzmix hE [0,1,2,3,8,9,34] rfl m248_r4_good (m248_r4_ok F _ _ _ _ _ _ _) ?_
         intro x0 x1 x2 x3 x8 x9 x34
         show OKq _ _ _ [(34,x34),(9,x9),(8,x8),(3,x3),(2,x2),(1,x1),(0,x0)] _
         refine rThen ?_
         refine xCond rfl rfl ?_ ?_
         · refine rSkip ?_
           refine rThen ?_
           refine rSeq ?_
           refine rBlock ?_
           refine cLess [9,8,3,2,1,0] ?_
           refine xD Tzmix hE [0,1,2,3,8,9] rfl m248_r6_good (m248_r6_ok F _ _ _ _ _ _ _) ?_
           intro x0 x1 x2 x3 x8 x9
           show OKq _ _ _ [(9,x9),(8,x8),(3,x3),(2,x2),(1,x1),(0,x0)] _
           refine xBlockN ?_
           refine rThen ?_
           refine cLess [9,8,3,2,1,0] ?_
           refine xR hE [0,1,2,3,8,9] rfl (m248_r5_ok F _ _ _ _ _ _ _) ?_
           intro x0 x1 x2 x3 x8 x9
           show OKq _ _ _ [(9,x9),(8,x8),(3,x3),(2,x2),(1,x1),(0,x0)] _
           exact qLess [9,8,3,2,1,0] (hI2 k2 x0 x1 x2 x3 x8 x9)
         · refine rExit ?_
           refine xThenX ?_
           refine xThenX ?_
           refine rOut ?_
           refine xBlockN ?_
           exact qLess [8,3,2,1,0] (hj1 x0 x1 x2 x3 x8)
     · refine rExit ?_
       refine xThenX ?_
       refine xThenX ?_
       refine rOut ?_
       exact rDone (.inl rfl) rfl
   · exact rFail
/-! slices.pdqsortCmpFunc[haruspex/api.Edge] -/
def m161_env (F : Nat) : Env := envOf [(248,m248_m F)]
def m161_R (F : Nat) := rK Tryz.prog 2 (m161_env F) Tryz.f161
def m161_r4 (F : Nat) (x0 x1 x2 x4 : Value) (K : M Value) : M Value :=
  bnd (m248 F x0 x1 x2 x4) fun v30 => K
theorem m161_r4_ok (F : Nat) (x0 x1 x2 x4 : Value) (K : M Value) : m161_r4 F x0 x1 x2 x4 K = m161_R F 4 [(4,x4),(2,x2),(1,x1),(0,x0)] [] K := by kernel_rfl
def m161_r3 (F : Nat) (x0 x1 x2 x3 x4 x10 x11 x12 : Value) (K : Value → Value → Value → Value → Value → Value → Value → Value → Value → M Value) : M Value :=
  bnd (opBin .leq x12 (.int .i64 (12))) fun v25 => K x0 x1 x2 x3 x4 x10 x11 x12 v25
theorem m161_r3_ok (F : Nat) (x0 x1 x2 x3 x4 x10 x11 x12 : Value) (K : Value → Value → Value → Value → Value → Value → Value → Value → Value → M Value) : m161_r3 F x0 x1 x2 x3 x4 x10 x11 x12 K = m161_R F 3 [(12,x12),(11,x11),(10,x10),(4,x4),(3,x3),(2,x2),(1,x1),(0,x0)] [0,1,2,3,4,10,11,12,25] K := by kernel_rfl
def m161_r2 (F : Nat) (x0 x1 x2 x3 x4 x10 x11 : Value) (K : Value → Value → Value → Value → Value → Value → Value → Value → M Value) : M Value :=
  bnd (opBin .sub x2 x1) fun v23 => K x0 x1 x2 x3 x4 x10 x11 v23
theorem m161_r2_ok (F : Nat) (x0 x1 x2 x3 x4 x10 x11 : Value) (K : Value → Value → Value → Value → Value → Value → Value → Value → M Value) : m161_r2 F x0 x1 x2 x3 x4 x10 x11 K = m161_R F 2 [(11,x11),(10,x10),(4,x4),(3,x3),(2,x2),(1,x1),(0,x0)] [0,1,2,3,4,10,11,12] K := by kernel_rfl
def m161_b0 (F : Nat) (x0 x1 x2 x3 x4 x10 x11 : Value) : M Value :=
  m161_r2 F x0 x1 x2 x3 x4 x10 x11 (fun x0 x1 x2 x3 x4 x10 x11 x12 => m161_r3 F x0 x1 x2 x3 x4 x10 x11 x12 (fun x0 x1 x2 x3 x4 x10 x11 x12 x25 => onB x25 (m161_r4 F x0 x1 x2 x4 (tupK [])) fail))
def m161_l0 (F : Nat) : Nat → Value → Value → Value → Value → Value → Value → Value → M Value
  | 0, _, _, _, _, _, _, _ => fail
  | k0 + 1, x0, x1, x2, x3, x4, x10, x11 => m161_b0 F x0 x1 x2 x3 x4 x10 x11
theorem m161_l0_s (F : Nat) (k0 : Nat) (x0 x1 x2 x3 x4 x10 x11 : Value) : m161_l0 F (k0 + 1) x0 x1 x2 x3 x4 x10 x11 = m161_b0 F x0 x1 x2 x3 x4 x10 x11 := rfl
def m161_r1 (F : Nat) (x0 x1 x2 x3 x4 x10 : Value) (K : Value → Value → Value → Value → Value → Value → Value → M Value) : M Value :=
  K x0 x1 x2 x3 x4 x10 (.bool true)
theorem m161_r1_ok (F : Nat) (x0 x1 x2 x3 x4 x10 : Value) (K : Value → Value → Value → Value → Value → Value → Value → M Value) : m161_r1 F x0 x1 x2 x3 x4 x10 K = m161_R F 1 [(10,x10),(4,x4),(3,x3),(2,x2),(1,x1),(0,x0)] [0,1,2,3,4,10,11] K := by kernel_rfl
def m161_r0 (F : Nat) (x0 x1 x2 x3 x4 : Value) (K : Value → Value → Value → Value → Value → Value → M Value) : M Value :=
  K x0 x1 x2 x3 x4 (.bool true)
theorem m161_r0_ok (F : Nat) (x0 x1 x2 x3 x4 : Value) (K : Value → Value → Value → Value → Value → Value → M Value) : m161_r0 F x0 x1 x2 x3 x4 K = m161_R F 0 [(4,x4),(3,x3),(2,x2),(1,x1),(0,x0)] [0,1,2,3,4,10] K := by kernel_rfl
def m161 (F : Nat) (x0 x1 x2 x3 x4 : Value) : M Value :=
  m161_r0 F x0 x1 x2 x3 x4 (fun x0 x1 x2 x3 x4 x10 => m161_r1 F x0 x1 x2 x3 x4 x10 (fun x0 x1 x2 x3 x4 x10 x11 => m161_l0 F F x0 x1 x2 x3 x4 x10 x11))
def m161_m (F : Nat) : List Value → M Value
  | [x0,x1,x2,x3,x4] => m161 F x0 x1 x2 x3 x4
  | _ => fail
theorem m161_body : Tryz.f161.body = some (.seq (.region 0 (opsOf Tryz.f161 0) false) (.seq (.region 1 (opsOf Tryz.f161 1) false) (.block 0 (.loop (.block 1 (.seq (.region 2 (opsOf Tryz.f161 2) false) (.seq (.seq (.region 3 (opsOf Tryz.f161 3) false) (.cond (.tmp 25) (.seq (.region 4 (opsOf Tryz.f161 4) false) .ret) .skip)) (.seq (.seq (.region 5 (opsOf Tryz.f161 5) false) (.cond (.tmp 32) (.seq (.region 6 (opsOf Tryz.f161 6) false) .ret) .skip)) (.seq (.seq (.region 7 (opsOf Tryz.f161 7) false) (.cond (.tmp 39) (.seq (.region 8 (opsOf Tryz.f161 8) false) (.region 9 (opsOf Tryz.f161 9) false)) .skip)) (.seq (.region 10 (opsOf Tryz.f161 10) false) (.seq (.seq (.region 11 (opsOf Tryz.f161 11) false) (.cond (.tmp 56) (.seq (.region 12 (opsOf Tryz.f161 12) false) (.seq (.region 13 (opsOf Tryz.f161 13) false) (.region 14 (opsOf Tryz.f161 14) false))) .skip)) (.seq (.seq (.region 15 (opsOf Tryz.f161 15) false) (.cond (.tmp 75) (.seq (.region 16 (opsOf Tryz.f161 16) false) (.cond (.tmp 80) .ret .skip)) .skip)) (.seq (.seq (.region 17 (opsOf Tryz.f161 17) true) (.cond (.tmp 97) (.seq (.region 18 (opsOf Tryz.f161 18) false) (.seq (.region 19 (opsOf Tryz.f161 19) false) (.exit 1))) .skip)) (.seq (.region 20 (opsOf Tryz.f161 20) false) (.seq (.region 21 (opsOf Tryz.f161 21) false) (.seq (.region 22 (opsOf Tryz.f161 22) false) (.seq (.region 23 (opsOf Tryz.f161 23) false) (.seq (.region 24 (opsOf Tryz.f161 24) false) (.cond (.tmp 125) (.seq (.region 25 (opsOf Tryz.f161 25) false) (.seq (.region 26 (opsOf Tryz.f161 26) false) (.region 27 (opsOf Tryz.f161 27) false))) (.seq (.region 28 (opsOf Tryz.f161 28) false) (.seq (.region 29 (opsOf Tryz.f161 29) false) (.region 30 (opsOf Tryz.f161 30) false)))))))))))))))))))))) := by kernel_rfl
theorem m161_ok (F : Nat) : Sim Tryz.prog 2 161 (m161_m F) := by
  have hE : EnvOK Tryz.prog 2 (m161_env F) := EnvOK.cons (m248_ok F) EnvOK.nil
  refine Sim.of_body (E := m161_env F) Tryz.func161 m161_body Tryz.call161 ?_ ?_
  · intro args hl; unfold m161_m; split
    · exact absurd hl (Nat.not_lt.2 (Nat.le_of_ble_eq_true rfl))
    · rfl
  · intro args ρ h w z; unfold m161_m; split
    · rename_i x0 x1 x2 x3 x4; show OKc _ _ [(0,x0),(1,x1),(2,x2),(3,x3),(4,x4)] (m161 F x0 x1 x2 x3 x4) _
      refine rSeq ?_
      refine cLess [4,3,2,1,0] ?_
      refine xR hE [0,1,2,3,4,10] rfl (m161_r0_ok F _ _ _ _ _ _) ?_
      intro x0 x1 x2 x3 x4 x10
      show OKq _ _ _ [(10,x10),(4,x4),(3,x3),(2,x2),(1,x1),(0,x0)] _
      refine rThen ?_
      refine rSeq ?_
      refine cLess [10,4,3,2,1,0] ?_
      refine xR hE [0,1,2,3,4,10,11] rfl (m161_r1_ok F _ _ _ _ _ _ _) ?_
      intro x0 x1 x2 x3 x4 x10 x11
      show OKq _ _ _ [(11,x11),(10,x10),(4,x4),(3,x3),(2,x2),(1,x1),(0,x0)] _
      refine rThen ?_
      refine rBlock ?_
      refine cLess [11,10,4,3,2,1,0] ?_
      refine xLoopAt [0,1,2,3,4,10,11] [] (fun k0 => m161_l0 F k0) F [x0,x1,x2,x3,x4,x10,x11] rfl rfl (fun _ _ _ _ _ _ _ => rfl) fun I hI0 k0 => ?_
      intro x0 x1 x2 x3 x4 x10 x11
      show OKc _ _ [(11,x11),(10,x10),(4,x4),(3,x3),(2,x2),(1,x1),(0,x0)] _ _
      refine cAs (m161_l0_s F _ _ _ _ _ _ _ _) ?_
      refine rBlock ?_
      refine rSeq ?_
      refine cLess [11,10,4,3,2,1,0] ?_
      refine xR hE [0,1,2,3,4,10,11,12] rfl (m161_r2_ok F _ _ _ _ _ _ _ _) ?_
      intro x0 x1 x2 x3 x4 x10 x11 x12
      show OKq _ _ _ [(12,x12),(11,x11),(10,x10),(4,x4),(3,x3),(2,x2),(1,x1),(0,x0)] _
      refine rThen ?_
      refine rSeq ?_
      refine rSeq ?_
      refine cLess [12,11,10,4,3,2,1,0] ?_
      refine xR hE [0,1,2,3,4,10,11,12,25] rfl (m161_r3_ok F _ _ _ _ _ _ _ _ _) ?_
      intro x0 x1 x2 x3 x4 x10 x11 x12 x25
      show OKq _ _ _ [(25,x25),(12,x12),(11,x11),(10,x10),(4,x4),(3,x3),(2,x2),(1,x1),(0,x0)] _
      refine rThen ?_
      refine xCond rfl rfl ?_ ?_
      · refine rSeq ?_
        refine cLess [4,2,1,0] ?_
        refine xR hE [] rfl (m161_r4_ok F _ _ _ _ _) ?_
        show OKq _ _ _ [] _
        refine rThen ?_
        refine rRet ?_
        refine xThenR ?_
        refine xBlockR ?_
        refine xThenR ?_
        refine xBlockR ?_
        exact rDone (.inr rfl) rfl
      · exact rFail
    · exact rFail
/-! ### slices.SortFunc[[]haruspex/api.Edge,haruspex/api.Edge] -/
def m98_env (F : Nat) : Env := envOf [(154,m154_m F),(161,m161_m F)]
def m98_R (F : Nat) := rK Tryz.prog 2 (m98_env F) Tryz.f98
def m98_r1 (F : Nat) (x0 x1 x4 : Value) (K : M Value) : M Value :=
  bnd (opConv .u64 x4) fun v10 => bnd (m154 F v10) fun v11 => bnd (m161 F x0 (.int .i64 (0)) x4 v11 x1) fun v13 => K
theorem m98_r1_ok (F : Nat) (x0 x1 x4 : Value) (K : M Value) : m98_r1 F x0 x1 x4 K = m98_R F 1 [(4,x4),(1,x1),(0,x0)] [] K := by kernel_rfl
def m98_r0 (F : Nat) (x0 x1 : Value) (K : Value → Value → Value → M Value) : M Value :=
  bnd (opLen x0) fun v6 => K x0 x1 v6
theorem m98_r0_ok (F : Nat) (x0 x1 : Value) (K : Value → Value → Value → M Value) : m98_r0 F x0 x1 K = m98_R F 0 [(1,x1),(0,x0)] [0,1,4] K := by kernel_rfl
def m98 (F : Nat) (x0 x1 : Value) : M Value :=
  m98_r0 F x0 x1 (fun x0 x1 x4 => m98_r1 F x0 x1 x4 (tupK []))
def m98_m (F : Nat) : List Value → M Value
  | [x0,x1] => m98 F x0 x1
  | _ => fail
theorem m98_body : Tryz.f98.body = some (.seq (.region 0 (opsOf Tryz.f98 0) false) (.region 1 (opsOf Tryz.f98 1) false)) := by kernel_rfl
theorem m98_ok (F : Nat) : Sim Tryz.prog 2 98 (m98_m F) := by
 have hE : EnvOK Tryz.prog 2 (m98_env F) := (EnvOK.cons (m154_ok F) (EnvOK.cons (m161_ok F) EnvOK.nil))
 refine Sim.of_body (E := m98_env F) Tryz.func98 m98_body Tryz.call98 ?_ ?_
 · intro args hl; unfold m98_m; split
   · exact absurd hl (Nat.not_lt.2 (Nat.le_of_ble_eq_true rfl))
   · rfl
 · intro args ρ h w z; unfold m98_m; split
   · rename_i x0 x1; show OKc _ _ [(0,x0),(1,x1)] _ _
     refine rSeq ?_
     refine cLess [1,0] ?_
     refine xR hE [0,1,4] rfl (m98_r0_ok F _ _ _) ?_
     intro x0 x1 x4
     show OKq _ _ _ [(4,x4),(1,x1),(0,x0)] _
     refine rThen ?_
     refine cLess [4,1,0] ?_
     refine xR hE [] rfl (m98_r1_ok F _ _ _ _) ?_
     show OKq _ _ _ [] _
     exact rDone (.inl rfl) rfl
   · exact rFail

end Go.Fw
end
end
section
set_option linter.unusedVariables false
set_option maxRecDepth 20000
namespace Go.Fw
open Go.Proofs
open Go.Fk (rd_of rdN_of wr1_of wrN_of new_of)

abbrev Pr := Int × Int
def ltP (a b : Pr) : Bool := decide (a.1 < b.1) || (decide (a.1 = b.1) && decide (a.2 < b.2))
def aggP (p : Pr) : Value := .agg #[.int .i64 p.1, .int .i64 p.2]
def pcs (l : List Pr) : List Value := flatK (l.map aggP)
theorem pcs_cons (p : Pr) (l : List Pr) : pcs (p :: l) = .int .i64 p.1 :: .int .i64 p.2 :: pcs l := rfl
theorem pcs_app (l m : List Pr) : pcs (l ++ m) = pcs l ++ pcs m := by unfold pcs flatK; simp
theorem pcs_len : ∀ l : List Pr, (pcs l).length = l.length * 2
  | [] => rfl
  | p :: l => by rw [pcs_cons, List.length_cons, List.length_cons, pcs_len l, List.length_cons]; omega
theorem pcs_at {pre suf : List Pr} {p : Pr} {j : Nat} (hj : pre.length = j) : ((pcs (pre ++ p :: suf)).drop (j * 2)).take 2 = [.int .i64 p.1, .int .i64 p.2] := by
  rw [pcs_app, List.drop_append, pcs_len, hj, Nat.sub_self, List.drop_of_length_le (by rw [pcs_len, hj]; exact Nat.le_refl _)]
  rfl
theorem pcs_over {pre suf : List Pr} {p q : Pr} {j : Nat} (hj : pre.length = j) : over (pcs (pre ++ p :: suf)) (j * 2) [.int .i64 q.1, .int .i64 q.2] = pcs (pre ++ q :: suf) := by
  unfold over
  rw [pcs_app, pcs_app, List.take_append, List.drop_append, pcs_len, hj, Nat.sub_self, List.take_of_length_le (by rw [pcs_len, hj]; exact Nat.le_refl _)]
  have h1 : (pcs pre).drop (j * 2 + [Value.int .i64 q.1, .int .i64 q.2].length) = [] := List.drop_of_length_le (by rw [pcs_len, hj]; simp)
  have h2 : j * 2 + [Value.int .i64 q.1, .int .i64 q.2].length - j * 2 = 2 := by simp
  rw [h1, h2]
  simp [pcs_cons]

section
variable {α : Type} {K : Value → M α} {n : Nat} {h : H}
theorem r_ia {b len cap j : Nat} (hj : j < len) : bnd (opIndexAddr 2 (.slice (some ⟨b, 0, none⟩) len cap) (.int .i64 (j : Nat))) K = K (pn b (j * 2)) := by
  have := @st_ix α K 2 b 0 len cap .i64 (j : Int)
  rw [if_pos (by omega)] at this
  refine this.trans ?_
  show K (.pointer (some ⟨b, 0 + ((j : Int)).toNat * 2, none⟩)) = _
  rw [Int.toNat_natCast, Nat.zero_add]
theorem r_ld {b j : Nat} {pre suf : List Pr} {p : Pr} {kd : Kind} (hb : h.get b = some ⟨pcs (pre ++ p :: suf), kd⟩) (hk : kd ≠ .dead) (hj : pre.length = j) : bnd (opLoadN 2 (pn b (j * 2))) K n h = K (aggP p) n h := by
  show bnd (bnd (rdN b (j * 2) 2) _) K n h = _
  rw [bnd_assoc, bnd_of (rdN_of hb hk (by rw [pcs_len, List.length_append, List.length_cons, hj]; omega)), pcs_at hj]
  rfl
theorem r_st {b j : Nat} {pre suf : List Pr} {p q : Pr} {kd : Kind} (hb : h.get b = some ⟨pcs (pre ++ p :: suf), kd⟩) (hk : kd = .own ∨ kd = .grow) (hj : pre.length = j) : bnd (opStoreN 2 (pn b (j * 2)) (aggP q)) K n h = K undef n (h.set b ⟨pcs (pre ++ q :: suf), kd⟩) := by
  show bnd (bnd (wrN b (j * 2) [.int .i64 q.1, .int .i64 q.2]) (fun _ => ret undef)) K n h = _
  rw [bnd_assoc, bnd_of (wrN_of hb hk rfl (by rw [pcs_len, List.length_append, List.length_cons, hj]; simp; omega)), pcs_over hj]
  rfl
theorem r_sub {j : Nat} (hj : 0 < j) (hj2 : j < 1000000) : bnd (opBin .sub (.int .i64 (j : Nat)) (.int .i64 (1))) K = K (.int .i64 ((j - 1 : Nat) : Int)) := by
  rw [st_sub, wrap64 (by omega)]
  congr 2
  omega
theorem r_add {j : Nat} (hj2 : j < 1000000) : bnd (opBin .add (.int .i64 (j : Nat)) (.int .i64 (1))) K = K (.int .i64 ((j + 1 : Nat) : Int)) := by
  rw [st_add, wrap64 (by omega)]
  congr 2
end

/-! ## The compare -/

def sgn (a b : Int) : Int := if a < b then -1 else if b < a then 1 else 0
theorem m101_eq (F : Nat) (a b : Int) : m101 F (.int .i64 a) (.int .i64 b) = ret (.int .i64 (sgn a b)) := by
  have h162 : ∀ (x : Int), m162 F (.int .i64 x) = ret (.bool false) := fun x => by
    show bnd (opBin .neq (.int .i64 x) (.int .i64 x)) (fun v => ret v) = _
    rw [st_neq]
    simp
  have e : m101 F (.int .i64 a) (.int .i64 b) = bnd (m162 F (.int .i64 a)) fun v8 => bnd (m162 F (.int .i64 b)) fun v10 => onB v8 (onB v10 (ret (Value.int .i64 0)) (ret (Value.int .i64 (-1)))) (onB v10 (ret (Value.int .i64 1)) (bnd (opBin .lss (.int .i64 a) (.int .i64 b)) fun v16 => onB v16 (ret (Value.int .i64 (-1))) (bnd (opBin .gtr (.int .i64 a) (.int .i64 b)) fun v19 => onB v19 (ret (Value.int .i64 1)) (ret (Value.int .i64 0))))) := rfl
  rw [e, h162, h162]
  show (bnd (opBin .lss (.int .i64 a) (.int .i64 b)) fun v16 => onB v16 (ret (Value.int .i64 (-1))) (bnd (opBin .gtr (.int .i64 a) (.int .i64 b)) fun v19 => onB v19 (ret (Value.int .i64 1)) (ret (Value.int .i64 0)))) = _
  rw [st_lss, st_gtr]
  unfold sgn
  by_cases h1 : a < b
  · rw [decide_eq_true h1, if_pos h1]; rfl
  · rw [decide_eq_false h1, if_neg h1]
    by_cases h2 : b < a
    · rw [decide_eq_true h2, if_pos h2]; rfl
    · rw [decide_eq_false h2, if_neg h2]; rfl

theorem m100_run {F : Nat} (hF : 3 ≤ F) {c n : Nat} {h : H} {x y : Int} (hc : h.get c = some ⟨[.int .i64 x, .int .i64 y], .own⟩) : m100 F (.slice (some ⟨c, 0, none⟩) 2 2) n h = some (.int .i64 (if x ≠ 0 then x else y), n, h) := by
  obtain ⟨F', rfl⟩ : ∃ F', F = F' + 3 := ⟨F - 3, by omega⟩
  have hk : (Kind.own) ≠ .dead := by simp
  have ix : ∀ (j : Nat) (hj : j < 2) (K : Value → M Value), bnd (opIndexAddr 1 (.slice (some ⟨c, 0, none⟩) 2 2) (.int .i64 (j : Int))) K = K (pn c j) := fun j hj K => by
    have := @st_ix Value K 1 c 0 2 2 .i64 (j : Int)
    rw [if_pos (by omega)] at this
    refine this.trans ?_
    show K (.pointer (some ⟨c, 0 + ((j : Int)).toNat * 1, none⟩)) = _
    rw [Int.toNat_natCast, Nat.zero_add, Nat.mul_one]
  -- a round
  have rnd : ∀ (k j : Nat) (v : Int), (hj : j < 2) → [Value.int .i64 x, .int .i64 y][j]? = some (.int .i64 v) → m100_l1 (F' + 3) (fun x3 => m100_k0 (F' + 3) x3) (k + 1) (.int .i64 0) (.slice (some ⟨c, 0, none⟩) 2 2) (.int .i64 2) (.int .i64 (j : Int)) n h =
      if v ≠ 0 then some (.int .i64 v, n, h) else m100_l1 (F' + 3) (fun x3 => m100_k0 (F' + 3) x3) k (.int .i64 0) (.slice (some ⟨c, 0, none⟩) 2 2) (.int .i64 2) (.int .i64 ((j + 1 : Nat) : Int)) n h := by
    intro k j v hj hv
    rw [m100_l1_s]
    show bnd (opBin .lss (.int .i64 (j : Int)) (.int .i64 2)) (fun v9 => onB v9 (bnd (opIndexAddr 1 (.slice (some ⟨c, 0, none⟩) 2 2) (.int .i64 (j : Int))) fun v10 => bnd (opLoad v10) fun v11 => bnd (opBin .neq v11 (.int .i64 0)) fun v14 => onB v14 (ret v11) (bnd (opBin .add (.int .i64 (j : Int)) (.int .i64 1)) fun v16 => m100_l1 (F' + 3) (fun x3 => m100_k0 (F' + 3) x3) k (.int .i64 0) (.slice (some ⟨c, 0, none⟩) 2 2) (.int .i64 2) v16)) (m100_k0 (F' + 3) (.int .i64 0))) n h = _
    rw [st_lss, decide_eq_true (by omega : (j : Int) < 2)]
    show bnd (opIndexAddr 1 (.slice (some ⟨c, 0, none⟩) 2 2) (.int .i64 (j : Int))) _ n h = _
    rw [ix j hj, q_ld hc hk hv, st_neq]
    by_cases h0 : v = 0
    · subst h0
      rw [if_neg (by simp)]
      show bnd (opBin .add (.int .i64 (j : Int)) (.int .i64 1)) _ n h = _
      rw [st_add, wrap64 (by omega)]
      rfl
    · rw [if_pos h0]
      have : (v != 0) = true := by simp [h0]
      rw [this]
      rfl
  show m100_l1 (F' + 3) (fun x3 => m100_k0 (F' + 3) x3) (F' + 2 + 1) (.int .i64 0) (.slice (some ⟨c, 0, none⟩) 2 2) (.int .i64 ((2 : Nat) : Int)) (.int .i64 ((0 : Nat) : Int)) n h = _
  have e1 := rnd (F' + 2) 0 x (by omega) rfl
  have e2 := rnd (F' + 1) 1 y (by omega) rfl
  refine e1.trans ?_
  by_cases hx : x = 0
  · rw [if_neg (by simp [hx]), if_neg (by simp [hx])]
    refine e2.trans ?_
    by_cases hy : y = 0
    · rw [if_neg (by simp [hy])]
      show m100_l1 (F' + 3) (fun x3 => m100_k0 (F' + 3) x3) (F' + 1) (.int .i64 0) (.slice (some ⟨c, 0, none⟩) 2 2) (.int .i64 2) (.int .i64 2) n h = _
      rw [m100_l1_s]
      show bnd (opBin .lss (.int .i64 2) (.int .i64 2)) _ n h = _
      rw [st_lss]
      subst hy
      rfl
    · rw [if_pos hy]
  · rw [if_pos hx, if_pos hx]

/-- The closure that compares. -/
theorem m99_run {F : Nat} (hF : 3 ≤ F) {n : Nat} {h : H} (p q : Pr) (hf : Fr n h) : ∃ z n' h', m99 F (aggP p) (aggP q) n h = some (.int .i64 z, n', h') ∧ (z < 0 ↔ ltP p q = true) ∧ Fr n' h' ∧ n ≤ n' ∧ ∀ x, x < n → h'.get x = h.get x := by
  let h1 := h.set n ⟨[.int .i64 p.1, .int .i64 p.2], .own⟩
  let h2 := h1.set (n + 1) ⟨[.int .i64 q.1, .int .i64 q.2], .own⟩
  let h3 := h2.set (n + 2) ⟨[.int .i64 (sgn p.1 q.1), .int .i64 (sgn p.2 q.2)], .own⟩
  have hk : (Kind.own) ≠ .dead := by simp
  have g1 : h2.get n = some ⟨[.int .i64 p.1, .int .i64 p.2], .own⟩ := by show (h1.set _ _).get n = _; rw [H.get_set_ne _ _ (by omega)]; exact H.get_set_same _ _ _
  have g2 : h2.get (n + 1) = some ⟨[.int .i64 q.1, .int .i64 q.2], .own⟩ := H.get_set_same _ _ _
  refine ⟨if sgn p.1 q.1 ≠ 0 then sgn p.1 q.1 else sgn p.2 q.2, n + 3, h3, ?_, ?_, ?_, by omega, ?_⟩
  · show bnd (bnd (new [.int .i64 p.1, .int .i64 p.2] .own) fun b => ret (Value.pointer (some ⟨b, 0, none⟩))) (fun v2 => bnd (bnd (new [.int .i64 q.1, .int .i64 q.2] .own) fun b => ret (Value.pointer (some ⟨b, 0, none⟩))) fun v3 => m99_r1 F v2 v3 (fun x4 => ret x4)) n h = _
    rw [bnd_assoc, bnd_of (new_of (hf n (Nat.le_refl _)) rfl)]
    show bnd (bnd (new [.int .i64 q.1, .int .i64 q.2] .own) fun b => ret (Value.pointer (some ⟨b, 0, none⟩))) (fun v3 => m99_r1 F (pn n 0) v3 (fun x4 => ret x4)) (n + 1) h1 = _
    rw [bnd_assoc, bnd_of (new_of (by show (h.set _ _).get (n + 1) = none; rw [H.get_set_ne _ _ (by omega)]; exact hf _ (by omega)) rfl)]
    show m99_r1 F (pn n 0) (pn (n + 1) 0) (fun x4 => ret x4) (n + 2) h2 = _
    unfold m99_r1
    rw [q_fa, q_ld g1 hk (v := .int .i64 p.1) rfl, q_fa, q_ld g2 hk (v := .int .i64 q.1) rfl, q_fa, q_ld g1 hk (v := .int .i64 p.2) rfl, q_fa, q_ld g2 hk (v := .int .i64 q.2) rfl, m101_eq]
    show bnd (opChk false (pn n (0 + 1)) (.int .i64 p.2)) (fun _ => bnd (opChk false (pn (n + 1) (0 + 1)) (.int .i64 q.2)) fun _ => bnd (m101 F (.int .i64 p.2) (.int .i64 q.2)) fun v14 => bnd (opBuildSlice 2 (rep 2 [(.int .i64 (0))]) [(0, 1, false, .int .i64 (sgn p.1 q.1)), (1, 1, false, v14)]) fun v15 => bnd (m100 F v15) fun v16 => ret v16) (n + 2) h2 = _
    rw [q_ck g1 hk (v := .int .i64 p.2) rfl (by simp [veq]), q_ck g2 hk (v := .int .i64 q.2) rfl (by simp [veq]), m101_eq]
    show bnd (bnd (new [.int .i64 (sgn p.1 q.1), .int .i64 (sgn p.2 q.2)] .own) fun b => ret (Value.slice (some ⟨b, 0, none⟩) 2 2)) (fun v15 => bnd (m100 F v15) fun v16 => ret v16) (n + 2) h2 = _
    rw [bnd_assoc, bnd_of (new_of (by show ((h.set _ _).set _ _).get (n + 2) = none; rw [H.get_set_ne _ _ (by omega), H.get_set_ne _ _ (by omega)]; exact hf _ (by omega)) rfl)]
    show bnd (m100 F (.slice (some ⟨n + 2, 0, none⟩) 2 2)) (fun v16 => ret v16) (n + 3) h3 = _
    rw [bnd_of (m100_run hF (c := n + 2) (H.get_set_same _ _ _))]
    rfl
  · unfold sgn ltP
    simp only [Bool.or_eq_true, Bool.and_eq_true, decide_eq_true_eq]
    by_cases a1 : p.1 < q.1
    · simp [a1]
    · by_cases a2 : q.1 < p.1
      · have : ¬ (p.1 = q.1) := by omega
        simp [a1, a2, this]
      · have a3 : p.1 = q.1 := by omega
        by_cases b1 : p.2 < q.2
        · simp [a1, a2, a3, b1]
        · by_cases b2 : q.2 < p.2
          · simp [a1, a2, a3, b1, b2]
          · simp [a1, a2, a3, b1, b2]
  · intro b hb
    show (((h.set _ _).set _ _).set _ _).get b = none
    rw [H.get_set_ne _ _ (by omega), H.get_set_ne _ _ (by omega), H.get_set_ne _ _ (by omega)]
    exact hf b (by omega)
  · intro x hx
    show (((h.set _ _).set _ _).set _ _).get x = _
    rw [H.get_set_ne _ _ (by omega), H.get_set_ne _ _ (by omega), H.get_set_ne _ _ (by omega)]
end Go.Fw
end
section
set_option linter.unusedVariables false
set_option maxRecDepth 20000
namespace Go.Fw
open Go.Proofs
open Go.Fk (rd_of rdN_of wr1_of wrN_of new_of)

def sf99 : Value := .func (.func 99) #[] #[]
/-- Into a list that is sorted, the greatest first. -/
def insR (p : Pr) : List Pr → List Pr
  | [] => [p]
  | q :: rq => if ltP p q = true then q :: insR p rq else p :: q :: rq
def insAll (rs rest : List Pr) : List Pr := rest.foldl (fun rs p => insR p rs) rs
def isort : List Pr → List Pr
  | [] => []
  | p :: r => (insAll [p] r).reverse
theorem insR_len (p : Pr) : ∀ l, (insR p l).length = l.length + 1
  | [] => rfl
  | q :: rq => by
    unfold insR
    split
    · rw [List.length_cons, insR_len p rq, List.length_cons]
    · rfl
theorem insR_perm (p : Pr) : ∀ l, List.Perm (insR p l) (p :: l)
  | [] => List.Perm.refl _
  | q :: rq => by
    unfold insR
    split
    · exact ((insR_perm p rq).cons q).trans (List.Perm.swap p q rq)
    · exact List.Perm.refl _
theorem insAll_perm : ∀ (rest rs : List Pr), List.Perm (insAll rs rest) (rs ++ rest)
  | [], rs => by rw [List.append_nil]; exact List.Perm.refl _
  | p :: rest, rs => by
    refine (insAll_perm rest (insR p rs)).trans ?_
    exact (List.Perm.append_right rest (insR_perm p rs)).trans (List.perm_middle.symm.trans (List.Perm.refl _))
def geP (a b : Pr) : Prop := ltP a b = false
theorem ltP_false {a b : Pr} : ltP a b = false ↔ b.1 < a.1 ∨ (a.1 = b.1 ∧ b.2 ≤ a.2) := by
  unfold ltP
  simp only [Bool.or_eq_false_iff, Bool.and_eq_false_iff, decide_eq_false_iff_not]
  omega
theorem insR_sorted (p : Pr) : ∀ l, l.Pairwise geP → (insR p l).Pairwise geP
  | [], _ => by simp [insR]
  | q :: rq, h => by
    rw [List.pairwise_cons] at h
    unfold insR
    split
    · rename_i hlt
      rw [List.pairwise_cons]
      refine ⟨fun x hx => ?_, insR_sorted p rq h.2⟩
      rcases List.mem_cons.1 ((insR_perm p rq).mem_iff.1 hx) with rfl | hx
      · unfold geP
        rw [ltP_false]
        unfold ltP at hlt
        simp only [Bool.or_eq_true, Bool.and_eq_true, decide_eq_true_eq] at hlt
        omega
      · exact h.1 x hx
    · rename_i hlt
      have hlt : ltP p q = false := by simpa using hlt
      rw [List.pairwise_cons, List.pairwise_cons]
      refine ⟨fun x hx => ?_, h⟩
      rcases List.mem_cons.1 hx with rfl | hx
      · exact hlt
      · have h2 := h.1 x hx
        unfold geP at h2 ⊢
        rw [ltP_false] at h2 hlt ⊢
        omega
theorem insAll_sorted : ∀ (rest rs : List Pr), rs.Pairwise geP → (insAll rs rest).Pairwise geP
  | [], rs, h => h
  | p :: rest, rs, h => insAll_sorted rest (insR p rs) (insR_sorted p rs h)
theorem isort_perm : ∀ l, List.Perm (isort l) l
  | [] => List.Perm.refl _
  | p :: r => (List.reverse_perm _).trans (insAll_perm r [p])
theorem isort_sorted : ∀ l, (isort l).Pairwise fun a b => geP b a
  | [] => List.Pairwise.nil
  | p :: r => by
    unfold isort
    rw [List.pairwise_reverse]
    exact insAll_sorted r [p] (by simp)
theorem isort_same {l l' : List Pr} (h : List.Perm l' l) : isort l' = isort l := by
  refine List.Perm.eq_of_pairwise (le := fun a b => geP b a) (fun a b _ _ h1 h2 => ?_) (isort_sorted l') (isort_sorted l) (((isort_perm l').trans h).trans (isort_perm l).symm)
  unfold geP at h1 h2
  rw [ltP_false] at h1 h2
  obtain ⟨a1, a2⟩ := a
  obtain ⟨b1, b2⟩ := b
  simp only at h1 h2
  congr 1 <;> omega

/-! ## The loops -/

def swM (F k : Nat) (E : Value → Value → Value → Value → Value → M Value) (X0 A X2 X3 X8 X9 : Value) : M Value :=
  bnd (opBin .sub X9 (.int .i64 (1))) fun v41 => bnd (opBin .sub X9 (.int .i64 (1))) fun v44 => bnd (opIndexAddr 2 X0 v44) fun v45 => bnd (opLoadN 2 v45) fun v46 => bnd (opIndexAddr 2 X0 X9) fun v49 => bnd (opLoadN 2 v49) fun v50 => bnd (opIndexAddr 2 X0 X9) fun v51 => bnd (opStoreN 2 v51 v46) fun _ => bnd (opIndexAddr 2 X0 v41) fun v52 => bnd (opStoreN 2 v52 v50) fun _ => bnd (opBin .sub X9 (.int .i64 (1))) fun v36 => m248_l2 F E k X0 A X2 X3 X8 v36
theorem l2_eq (F k : Nat) (E : Value → Value → Value → Value → Value → M Value) (X0 A X2 X3 X8 X9 : Value) : m248_l2 F E (k + 1) X0 A X2 X3 X8 X9 =
    bnd (opBin .gtr X9 A) fun v20 => onB v20 (bnd (opIndexAddr 2 X0 X9) fun v25 => bnd (opLoadN 2 v25) fun v26 => bnd (opBin .sub X9 (.int .i64 (1))) fun v29 => bnd (opIndexAddr 2 X0 v29) fun v30 => bnd (opLoadN 2 v30) fun v31 => bnd (opCall (m248_env F) X3 [v26, v31]) fun v32 => bnd (opBin .lss v32 (.int .i64 (0))) fun v33 => onB v33 (swM F k E X0 A X2 X3 X8 X9) (E X0 A X2 X3 X8)) (onB (.bool false) (swM F k E X0 A X2 X3 X8 X9) (E X0 A X2 X3 X8)) := rfl

theorem inner_run {F : Nat} (hF : 3 ≤ F) {b len cap : Nat} {kd : Kind} (hkd : kd = .own ∨ kd = .grow) (hlen : len < 1000000) {E : Value → Value → Value → Value → Value → M Value} {X2 X8 : Value} :
    ∀ (rp : List Pr) (p : Pr) (suf : List Pr) (k n : Nat) (h : H), rp.length < k → rp.length < len → b < n → Fr n h → h.get b = some ⟨pcs (rp.reverse ++ p :: suf), kd⟩ →
      ∃ n' h', m248_l2 F E k (.slice (some ⟨b, 0, none⟩) len cap) (.int .i64 0) X2 sf99 X8 (.int .i64 (rp.length : Nat)) n h = E (.slice (some ⟨b, 0, none⟩) len cap) (.int .i64 0) X2 sf99 X8 n' h' ∧ Fr n' h' ∧ n ≤ n' ∧ h'.get b = some ⟨pcs ((insR p rp).reverse ++ suf), kd⟩
  | [], p, suf, k, n, h, hk, hl, hbn, hf, hb => by
    obtain ⟨k, rfl⟩ : ∃ j, k = j + 1 := ⟨k - 1, by have : ([] : List Pr).length = 0 := rfl; omega⟩
    refine ⟨n, h, ?_, hf, Nat.le_refl _, hb⟩
    rw [l2_eq, st_gtr]
    rfl
  | q :: rq, p, suf, k, n, h, hk, hl, hbn, hf, hb => by
    have hln : (q :: rq).length = rq.length + 1 := rfl
    obtain ⟨k, rfl⟩ : ∃ j, k = j + 1 := ⟨k - 1, by omega⟩
    have hkd' : kd ≠ .dead := by rcases hkd with e | e <;> rw [e] <;> simp
    have hrev : (q :: rq).reverse ++ p :: suf = rq.reverse ++ q :: p :: suf := by simp
    have hj : (q :: rq).reverse.length = rq.length + 1 := by rw [List.length_reverse]; rfl
    have hj' : rq.reverse.length = rq.length := List.length_reverse
    have hb2 : h.get b = some ⟨pcs (rq.reverse ++ q :: p :: suf), kd⟩ := by rw [hb, hrev]
    obtain ⟨z, n1, h1, c1, c2, c3, c4, c5⟩ := m99_run hF p q hf
    have hcall : ∀ K : Value → M Value, bnd (opCall (m248_env F) sf99 [aggP p, aggP q]) K n h = K (.int .i64 z) n1 h1 := fun K => by
      show bnd (m99 F (aggP p) (aggP q)) K n h = _
      rw [bnd_of c1]
    have hb1 : h1.get b = some ⟨pcs (rq.reverse ++ q :: p :: suf), kd⟩ := by rw [c5 b hbn, hb2]
    have hb1' : h1.get b = some ⟨pcs ((q :: rq).reverse ++ p :: suf), kd⟩ := by rw [hb1, hrev]
    have hsub : rq.length + 1 - 1 = rq.length := by omega
    have step : ∀ r, onB (.bool (decide (z < 0))) (swM F k E (.slice (some ⟨b, 0, none⟩) len cap) (.int .i64 0) X2 sf99 X8 (.int .i64 ((rq.length + 1 : Nat) : Int))) (E (.slice (some ⟨b, 0, none⟩) len cap) (.int .i64 0) X2 sf99 X8) n1 h1 = r →
        m248_l2 F E (k + 1) (.slice (some ⟨b, 0, none⟩) len cap) (.int .i64 0) X2 sf99 X8 (.int .i64 (((q :: rq).length : Nat) : Int)) n h = r := by
      intro r hr
      rw [hln, l2_eq, st_gtr, decide_eq_true (by omega)]
      show bnd (opIndexAddr 2 (.slice (some ⟨b, 0, none⟩) len cap) (.int .i64 ((rq.length + 1 : Nat) : Int))) _ n h = r
      rw [r_ia (by omega), r_ld hb hkd' hj, r_sub (j := rq.length + 1) (by omega) (by omega), hsub, r_ia (j := rq.length) (by omega), r_ld hb2 hkd' hj', hcall, st_lss]
      exact hr
    cases hlt : ltP p q with
    | false =>
      have hz : ¬ z < 0 := fun q => by rw [c2, hlt] at q; cases q
      refine ⟨n1, h1, step _ ?_, c3, c4, ?_⟩
      · rw [decide_eq_false hz]; rfl
      · unfold insR
        rw [if_neg (by rw [hlt]; simp), hb1]
        simp
    | true =>
      have hz : z < 0 := c2.2 hlt
      have s1 : ∀ r, m248_l2 F E k (.slice (some ⟨b, 0, none⟩) len cap) (.int .i64 0) X2 sf99 X8 (.int .i64 ((rq.length : Nat) : Int)) n1 ((h1.set b ⟨pcs ((q :: rq).reverse ++ q :: suf), kd⟩).set b ⟨pcs (rq.reverse ++ p :: q :: suf), kd⟩) = r →
          swM F k E (.slice (some ⟨b, 0, none⟩) len cap) (.int .i64 0) X2 sf99 X8 (.int .i64 ((rq.length + 1 : Nat) : Int)) n1 h1 = r := by
        intro r hr
        unfold swM
        rw [r_sub (by omega) (by omega), hsub, r_sub (by omega) (by omega), hsub, r_ia (by omega), r_ld hb1 hkd' hj', r_ia (by omega), r_ld hb1' hkd' hj, r_ia (by omega), r_st hb1' hkd hj, r_ia (by omega)]
        rw [r_st (pre := rq.reverse) (p := q) (suf := q :: suf) (kd := kd) (by rw [H.get_set_same]; simp) hkd hj', r_sub (by omega) (by omega), hsub]
        exact hr
      obtain ⟨n2, h2, e1, e2, e3, e4⟩ := inner_run hF hkd hlen rq p (q :: suf) k n1 ((h1.set b ⟨pcs ((q :: rq).reverse ++ q :: suf), kd⟩).set b ⟨pcs (rq.reverse ++ p :: q :: suf), kd⟩) (by omega) (by omega) (by omega) (fun x hx => by
        rw [H.get_set_ne _ _ (by omega), H.get_set_ne _ _ (by omega)]; exact c3 x hx) (H.get_set_same _ _ _)
      refine ⟨n2, h2, step _ ?_, e2, by omega, ?_⟩
      · rw [decide_eq_true hz]
        exact s1 _ e1
      · unfold insR
        rw [if_pos hlt, e4]
        simp

theorem l0_eq (F k : Nat) (E0 : M Value) (X0 A X2 X3 X8 : Value) : m248_l0 F E0 (k + 1) X0 A X2 X3 X8 = bnd (opBin .lss X8 X2) fun v14 => onB v14 (m248_l2 F (fun x0 x1 x2 x3 x8 => bnd (opBin .add x8 (.int .i64 (1))) fun v16 => m248_l0 F E0 k x0 x1 x2 x3 v16) F X0 A X2 X3 X8 X8) E0 := rfl
theorem outer_run {F : Nat} (hF : 20 ≤ F) {b len cap : Nat} {kd : Kind} (hkd : kd = .own ∨ kd = .grow) (hlen : len ≤ 12) {E0 : M Value} :
    ∀ (rest rs : List Pr) (k n : Nat) (h : H), rest.length < k → rs.length + rest.length = len → b < n → Fr n h → h.get b = some ⟨pcs (rs.reverse ++ rest), kd⟩ →
      ∃ n' h', m248_l0 F E0 k (.slice (some ⟨b, 0, none⟩) len cap) (.int .i64 0) (.int .i64 (len : Nat)) sf99 (.int .i64 (rs.length : Nat)) n h = E0 n' h' ∧ h'.get b = some ⟨pcs (insAll rs rest).reverse, kd⟩
  | [], rs, k, n, h, hk, hl, hbn, hf, hb => by
    obtain ⟨k, rfl⟩ : ∃ j, k = j + 1 := ⟨k - 1, by have : ([] : List Pr).length = 0 := rfl; omega⟩
    have hrl : rs.length = len := by simpa using hl
    refine ⟨n, h, ?_, ?_⟩
    · rw [l0_eq, st_lss, decide_eq_false (by omega)]
      rfl
    · rw [hb, List.append_nil]; rfl
  | p :: rest, rs, k, n, h, hk, hl, hbn, hf, hb => by
    have hll : (p :: rest).length = rest.length + 1 := rfl
    obtain ⟨k, rfl⟩ : ∃ j, k = j + 1 := ⟨k - 1, by omega⟩
    obtain ⟨n1, h1, e1, e2, e3, e4⟩ := inner_run (by omega : 3 ≤ F) (cap := cap) hkd (by omega : len < 1000000) (E := fun x0 x1 x2 x3 x8 => bnd (opBin .add x8 (.int .i64 (1))) fun v16 => m248_l0 F E0 k x0 x1 x2 x3 v16) (X2 := .int .i64 (len : Nat)) (X8 := .int .i64 (rs.length : Nat)) rs p rest F n h (by omega) (by omega) hbn hf hb
    obtain ⟨n2, h2, f1, f2⟩ := outer_run hF hkd hlen rest (insR p rs) k n1 h1 (by omega) (by rw [insR_len]; omega) (by omega) e2 e4
    refine ⟨n2, h2, ?_, f2⟩
    rw [l0_eq, st_lss, decide_eq_true (by omega)]
    show m248_l2 F _ F (.slice (some ⟨b, 0, none⟩) len cap) (.int .i64 0) (.int .i64 (len : Nat)) sf99 (.int .i64 (rs.length : Nat)) (.int .i64 (rs.length : Nat)) n h = _
    rw [e1, r_add (by omega)]
    rw [insR_len] at f1
    exact f1

theorem m248_run {F : Nat} (hF : 20 ≤ F) {b len cap : Nat} {kd : Kind} (hkd : kd = .own ∨ kd = .grow) (hlen : len ≤ 12) {l : List Pr} (hl : l.length = len) {n : Nat} {h : H} (hbn : b < n) (hf : Fr n h) (hb : h.get b = some ⟨pcs l, kd⟩) :
    ∃ n' h', m248 F (.slice (some ⟨b, 0, none⟩) len cap) (.int .i64 0) (.int .i64 (len : Nat)) sf99 n h = tupK [] n' h' ∧ h'.get b = some ⟨pcs (isort l), kd⟩ := by
  have hadd : ∀ K : Value → M Value, bnd (opBin .add (.int .i64 0) (.int .i64 (1))) K = K (.int .i64 ((1 : Nat) : Int)) := fun K => r_add (j := 0) (by omega)
  have h0 : m248 F (.slice (some ⟨b, 0, none⟩) len cap) (.int .i64 0) (.int .i64 (len : Nat)) sf99 = m248_l0 F (tupK []) F (.slice (some ⟨b, 0, none⟩) len cap) (.int .i64 0) (.int .i64 (len : Nat)) sf99 (.int .i64 ((1 : Nat) : Int)) := by
    show bnd (opBin .add (.int .i64 0) (.int .i64 (1))) _ = _
    rw [hadd]
  rw [h0]
  cases l with
  | nil =>
    obtain ⟨F', rfl⟩ : ∃ j, F = j + 1 := ⟨F - 1, by omega⟩
    refine ⟨n, h, ?_, hb⟩
    have hz : len = 0 := hl.symm
    rw [l0_eq, st_lss, decide_eq_false (by omega)]
    rfl
  | cons p r =>
    exact outer_run hF hkd hlen r [p] F n h (by have : (p :: r).length = r.length + 1 := rfl; omega) (by have : (p :: r).length = r.length + 1 := rfl; have h1 : [p].length = 1 := rfl; omega) hbn hf hb

theorem len_ok (F : Nat) : ∀ n : Nat, n ≤ 12 → ∃ v, m154 F (.int .u64 (n : Nat)) = ret v := by
  intro n hn
  match n, hn with
  | 0, _ => exact ⟨_, rfl⟩
  | 1, _ => exact ⟨_, rfl⟩
  | 2, _ => exact ⟨_, rfl⟩
  | 3, _ => exact ⟨_, rfl⟩
  | 4, _ => exact ⟨_, rfl⟩
  | 5, _ => exact ⟨_, rfl⟩
  | 6, _ => exact ⟨_, rfl⟩
  | 7, _ => exact ⟨_, rfl⟩
  | 8, _ => exact ⟨_, rfl⟩
  | 9, _ => exact ⟨_, rfl⟩
  | 10, _ => exact ⟨_, rfl⟩
  | 11, _ => exact ⟨_, rfl⟩
  | 12, _ => exact ⟨_, rfl⟩
  | n + 13, h => omega

theorem m98_eq {F : Nat} (hF : 20 ≤ F) {a : Option Addr} {len cap : Nat} (hlen : len ≤ 12) : m98 F (.slice a len cap) sf99 = bnd (m248 F (.slice a len cap) (.int .i64 0) (.int .i64 (len : Nat)) sf99) fun _ => tupK [] := by
  obtain ⟨F', rfl⟩ : ∃ j, F = j + 1 := ⟨F - 1, by omega⟩
  obtain ⟨v, hv⟩ := len_ok (F' + 1) len hlen
  have hw : IntKind.u64.wrap (len : Int) = (len : Int) := by rw [wrapU (by omega)]
  show bnd (opLen (.slice a len cap)) (fun x4 => bnd (opConv .u64 x4) fun v10 => bnd (m154 (F' + 1) v10) fun v11 => bnd (m161 (F' + 1) (.slice a len cap) (.int .i64 (0)) x4 v11 sf99) fun v13 => tupK []) = _
  rw [st_len, st_conv, hw, hv]
  have h161 : m161 (F' + 1) (.slice a len cap) (.int .i64 (0)) (.int .i64 (len : Nat)) v sf99 = bnd (m248 (F' + 1) (.slice a len cap) (.int .i64 0) (.int .i64 (len : Nat)) sf99) fun _ => tupK [] := by
    show bnd (opBin .sub (.int .i64 (len : Nat)) (.int .i64 0)) (fun x12 => bnd (opBin .leq x12 (.int .i64 (12))) fun x25 => onB x25 (bnd (m248 (F' + 1) (.slice a len cap) (.int .i64 0) (.int .i64 (len : Nat)) sf99) fun _ => tupK []) fail) = _
    rw [st_sub, st_leq, wrap64 (by omega), decide_eq_true (by omega)]
    rfl
  show bnd (m161 (F' + 1) (.slice a len cap) (.int .i64 (0)) (.int .i64 (len : Nat)) v sf99) (fun v13 => tupK []) = _
  rw [h161, bnd_assoc]
  rfl

/-- THE SORT, beside the heap. -/
theorem sort_run {F : Nat} (hF : 20 ≤ F) {b len cap : Nat} {kd : Kind} (hkd : kd = .own ∨ kd = .grow) (hlen : len ≤ 12) {l : List Pr} (hl : l.length = len) (h2b : 2 ≤ b) {n : Nat} {h : H} (hb : h.get b = some ⟨pcs l, kd⟩) :
    gcM 2 (m98_m F) [.slice (some ⟨b, 0, none⟩) len cap, sf99] n h = some (undef, n, h.set b ⟨pcs (isort l), kd⟩) := by
  have hok : ∀ l : List Pr, (pcs l).all okC0 = true := fun l => by
    induction l with
    | nil => rfl
    | cons p l ih => rw [pcs_cons]; show (true && (true && (pcs l).all okC0)) = true; rw [ih]; rfl
  obtain ⟨n1, h1, e1, e2⟩ := m248_run hF (cap := cap) (b := 2) hkd hlen hl (n := 3) (h := (deads 2).set 2 ⟨pcs l, kd⟩) (by omega) (fun x hx => by rw [H.get_set_ne _ _ (by omega), deads_get, if_neg (by omega)]) (H.get_set_same _ _ _)
  have hrun : (m98_m F [.slice (some ⟨2, 0, none⟩) len cap, sf99]).run (2 + 1) ((deads 2).set 2 ⟨pcs l, kd⟩) = some (undef, n1, h1) := by
    show m98 F (.slice (some ⟨2, 0, none⟩) len cap) sf99 3 ((deads 2).set 2 ⟨pcs l, kd⟩) = _
    rw [m98_eq hF hlen]
    have e3 : m248 F (.slice (some ⟨2, 0, none⟩) len cap) (.int .i64 0) (.int .i64 (len : Nat)) sf99 3 ((deads 2).set 2 ⟨pcs l, kd⟩) = some (undef, n1, h1) := e1
    rw [bnd_of e3]
    rfl
  show gcF 2 (m98_m F) [.slice (some ⟨b, 0, none⟩) len cap, sf99] n h = _
  unfold gcF
  simp only [hb]
  rw [if_pos ⟨hkd, hok l, rfl, h2b⟩]
  simp only [hrun, e2]
  rw [if_pos ⟨trivial, hok _⟩]
  rfl
theorem sort_nil {F : Nat} (hF : 20 ≤ F) {n : Nat} {h : H} : ∃ v, gcM 2 (m98_m F) [.slice none 0 0, sf99] n h = some (v, n, h) := by
  have hrun : (m98_m F [.slice none 0 0, sf99]).run 2 (deads 2) = some (undef, 2, deads 2) := by
    show m98 F (.slice none 0 0) sf99 2 (deads 2) = _
    rw [m98_eq hF (by omega)]
    have h0 : m248 F (.slice none 0 0) (.int .i64 0) (.int .i64 ((0 : Nat) : Int)) sf99 = tupK [] := by
      obtain ⟨F', rfl⟩ : ∃ j, F = j + 1 := ⟨F - 1, by omega⟩
      have hadd : ∀ K : Value → M Value, bnd (opBin .add (.int .i64 0) (.int .i64 (1))) K = K (.int .i64 ((1 : Nat) : Int)) := fun K => r_add (j := 0) (by omega)
      show bnd (opBin .add (.int .i64 0) (.int .i64 (1))) (fun v => m248_l0 (F' + 1) (tupK []) (F' + 1) (.slice none 0 0) (.int .i64 0) (.int .i64 ((0 : Nat) : Int)) sf99 v) = _
      rw [hadd, l0_eq, st_lss, decide_eq_false (by omega)]
      rfl
    rw [h0]
    rfl
  refine ⟨gcV 2 2 (if (undef : Value).cells.toList.all okC0 = true then undef else undef), ?_⟩
  show gcF 2 (m98_m F) [.slice none 0 0, sf99] n h = _
  unfold gcF
  have hp : [sf99].all plainA = true := rfl
  simp only [hp, hrun, if_true]
end Go.Fw
end
section
set_option linter.unusedVariables false
set_option maxRecDepth 20000
namespace Go.Fk
open Go Go.Fw Go.Proofs

def TryzG' : Nat := 2
def mkRest : AC := .seq (.reg 25 [5, 12, 13, 120]) (.seq (.drw 26 [0, 1, 2, 3, 4, 5, 6, 7, 8, 9, 10] [5, 12, 120]) (.drw 27 [0, 1, 2, 3, 4, 5, 6, 7, 8, 9, 10, 11, 12, 13, 14, 15, 16, 17, 18, 19, 20] [5, 120]))
noncomputable def mkE (S C : List Value → M Value) : Fw.Env := fun g => if g = 91 then some S else if g = 93 then some C else none
noncomputable def mkWalk (S C : List Value → M Value) (F : Nat) : Walk where
  P := Tryz.prog
  G := TryzG'
  E := mkE S C
  N := Tryz.f45.ntmps
  ops1 := opsOf Tryz.f45 23
  ops2 := opsOf Tryz.f45 24
  rest := mkRest
  opsR := opsOf Tryz.f45
  sp := noSp
  F := F
  B := 4
  B1 := 5
  r1 := 23
  r2 := 24
  ti := 120
  tn := 121
  tok := 122
  te := 123
  ts := [5, 120]
  clean := fun q _ g => deadR [q] g
def f92 : Value := .func (.func 92) #[] #[]

theorem mk_body_eq (S C : List Value → M Value) (F : Nat) (k v x it : Value) : (mkWalk S C F).bodyK k v [x, it] = mkT S C f92 k v x it := by kernel_rfl

def rangeT (x : Value) (Γ : List (Nat × Value)) : M (List (Nat × Value)) :=
  bnd (opNil x) fun a => bnd (opFieldAddr 3 a) fun b => bnd (opLoad b) fun c => bnd (opNil c) fun d => bnd (opFieldAddr 0 d) fun e => bnd (opLoad e) fun f => bnd (opRange f) fun g =>
    ret ((120, g) :: (119, f) :: (118, e) :: (117, d) :: (116, c) :: (115, b) :: (114, a) :: (113, x) :: Γ)
def noE : Fw.Env := fun _ => none
theorem mk_range_eq (Γ : List (Nat × Value)) : runK Tryz.prog TryzG' noE Tryz.f45.ntmps (opsOf Tryz.f45 22) (List.range (opsOf Tryz.f45 22).size) Γ (fun Γ' => ret Γ') = rangeT (Fw.look Γ 5) Γ := by kernel_rfl

theorem mk_OK {S C : List Value → M Value} {F : Nat} (hE : EnvOK Tryz.prog TryzG' (mkE S C)) (hm : Tryz.prog.follows .mixedOrders = true) : (mkWalk S C F).OK where
  hE := hE
  hm := hm
  hs := noSpM
  ha := by kernel_rfl
  hw := fun n n1 h => deadR_weak _ _
  o0 := ⟨((opsOf Tryz.f45 23)[0]?).getD default, by kernel_rfl, by kernel_rfl, by kernel_rfl, by kernel_rfl⟩
  o1 := ⟨((opsOf Tryz.f45 23)[1]?).getD default, by kernel_rfl, by kernel_rfl, by kernel_rfl, by kernel_rfl⟩
  sz1 := by kernel_rfl
  o2 := ⟨((opsOf Tryz.f45 24)[0]?).getD default, by kernel_rfl, by kernel_rfl, by kernel_rfl, by kernel_rfl⟩
  ntn := Nat.le_of_ble_eq_true (by kernel_rfl)
  ntok := Nat.le_of_ble_eq_true (by kernel_rfl)
  nte := Nat.le_of_ble_eq_true (by kernel_rfl)
  d1 := by show (121 : Nat) ≠ 122; omega
  d2 := by show (120 : Nat) ≠ 121; omega
  d3 := by show (120 : Nat) ≠ 122; omega
  m1 := by show (121 : Nat) ∉ [5, 120]; simp
  m2 := by show (122 : Nat) ∉ [5, 120]; simp


theorem Rounds.mono {good good' : List Value → Prop} (hg : ∀ s, good s → good' s) {body : Value → Value → List Value → M Value} {clean : Nat → Nat → H → H} {i m sz cl : Nat} {bs : List Nat} {π seen : List Nat} {s s' : List Value} {n n' : Nat} {h h' : H}
    (r : Rounds good body clean i m sz cl bs π seen s n h s' n' h') : Rounds good' body clean i m sz cl bs π seen s n h s' n' h' := by
  induction r with
  | nil => exact .nil
  | cons a b c d e f g _ ih => exact .cons a b c d e f (hg _ g) ih

theorem mk_body {S C : List Value → M Value} {F : Nat} (x it k v : Value) (q : Nat) (g : H) (r : Value × Nat × H) (e : mkT S C f92 k v x it q g = some r) : (mkWalk S C F).body k v [x, it] q g = some r := by
  exact Walk.bodyK_body _ ((congrArg (fun m : M Value => m.run q g) (mk_body_eq S C F k v x it)).trans e)

/-- The piece: the region that begins the walk, and the walk. -/
noncomputable def mkSp (S C : List Value → M Value) (F : Nat) (k : List (Nat × V) → (List (Nat × V) → St) → St) : Sp where
  code := fun _ => .seq (.region 22 (opsOf Tryz.f45 22) false) (mkWalk S C F).code
  m := fun _ Γ => bnd (mkM S C f92 (Fw.look Γ 5)) fun _ => ret [(5, Fw.look Γ 5)]
  k := fun _ => k
  ex := fun _ => .normal

theorem mk_maps {G : Nat} {ρ : Map} {h : H} {w : World} (r : Fw.R G ρ h w) (m sz cl : Nat) (E : List (Value × Value × Nat)) (hm : h.get m = some (mapB sz cl E)) : (∀ p, p ∈ E → ikey sz p.1 = true) ∧ E.Pairwise fun p q => p.1 ≠ q.1 := by
  obtain ⟨L, hL⟩ := r.loc hm
  rcases (r.maps m _ L hm (isMap_mapB _ _ _) hL).obj with ⟨n, E', es, clock, e1, e2, e3, e4, e5, e6⟩ | ⟨_, _, _, _, _, e1, _⟩ | ⟨e1, _⟩ | ⟨_, _, _, _, _, e1, _⟩
  · have h1 : sz = n ∧ E = E' := by
      unfold mapB at e1
      simp only [Blk.mk.injEq, List.cons.injEq, Value.int.injEq, true_and, and_true] at e1
      exact ⟨by omega, flatE_inj e1.2.2⟩
    obtain ⟨rfl, rfl⟩ := h1
    exact ⟨e4, e5⟩
  · unfold mapB iterB at e1; simp at e1
  · unfold mapB iterNB at e1; simp at e1
  · unfold mapB lookB at e1; simp at e1

theorem mkSp_M {mS mC : List Value → M Value} {F : Nat} {k : List (Nat × V) → (List (Nat × V) → St) → St} (hm : Tryz.prog.follows .mixedOrders = true) (hS : Sim Tryz.prog TryzG' 91 mS) (hC : Sim Tryz.prog TryzG' 93 mC) :
    SpM Tryz.prog TryzG' Tryz.f45.ntmps (mkSp (gcM TryzG' mS) (gcM TryzG' mC) F k) := by
  intro i c Q Γ K hP hG hN hK
  have hE : EnvOK Tryz.prog TryzG' (mkE (gcM TryzG' mS) (gcM TryzG' mC)) := by
    intro f m hf
    unfold mkE at hf
    split at hf
    · rename_i e; subst e; cases hf; exact gc_sim hS
    · split at hf
      · rename_i e; subst e; cases hf; exact gc_sim hC
      · cases hf
  have hE0 : EnvOK Tryz.prog TryzG' noE := fun f m hf => by cases hf
  have hx := mk_OK (F := F) hE hm
  obtain ⟨cP, cG, cE, cN, cρ, ch, cw, cz⟩ := c
  dsimp only at hP hG hN
  subst hP hG hN
  intro n h ρ w a e r x l d
  replace e : bnd (bnd (mkM (gcM TryzG' mS) (gcM TryzG' mC) f92 (Fw.look Γ 5)) fun _ => ret [(5, Fw.look Γ 5)]) K n h = some cz := e
  rw [bnd_assoc] at e
  obtain ⟨u, n1, h1, e1, e2⟩ := bnd_some e
  replace e2 : K [(5, Fw.look Γ 5)] n1 h1 = some cz := e2
  obtain ⟨mb, gb, m, cl, L, tot, gr, gk, hxe, X, hcl, hall⟩ := mk_all e1 fun m sz cl E hm => mk_maps r m sz cl E hm
  obtain ⟨mcs, mk, hmx, hmk, h3⟩ := X.hx
  have hgk : gk ≠ .dead := by rcases X.gk with q | q <;> rw [q] <;> simp
  -- the region ahead of the walk
  have hrun : runK Tryz.prog TryzG' noE Tryz.f45.ntmps (opsOf Tryz.f45 22) (List.range (opsOf Tryz.f45 22).size) Γ (fun Γ' => ret Γ') n h =
      some ((120, pn n 0) :: (119, .map (some m)) :: (118, pn gb 0) :: (117, pn gb 0) :: (116, pn gb 0) :: (115, pn mb 3) :: (114, pn mb 0) :: (113, pn mb 0) :: Γ, n + 1, h.set n (iterB m cl cl [])) := by
    rw [mk_range_eq, hxe]
    unfold rangeT
    rw [q_nil, q_fa, q_ld hmx hmk h3, q_nil, q_fa, q_ld X.hg hgk (v := .map (some m)) rfl]
    have hr : ∀ K : Value → M (List (Nat × Value)), bnd (opRange (.map (some m))) K n h = K (pn n 0) (n + 1) (h.set n (iterB m cl cl [])) := fun K => by
      show bnd (bnd (mpGet m) _) K n h = _
      rw [bnd_assoc, bnd_of (mpGet_of (cs := .int .u64 (Int.ofNat 5) :: .int .u64 (Int.ofNat cl) :: flatE (entS L [])) X.hm)]
      dsimp only
      rw [bnd_assoc, bnd_of (new_of (X.fresh n (Nat.le_refl _) (by omega)) rfl)]
      rfl
    rw [hr]
    rfl
  obtain ⟨Γ', n', h', hl, hz⟩ := runK_runL _ _ _ _ hrun
  obtain ⟨rfl, rfl, rfl⟩ := ret_some hz
  have hnm : n ≠ m := fun q => by have := X.fresh n (Nat.le_refl _) (by omega); rw [q, X.hm] at this; cases this
  have hi : (h.set n (iterB m cl cl [])).get n = some (iterB m cl cl []) := H.get_set_same _ _ _
  have hm' : (h.set n (iterB m cl cl [])).get m = some (mapB 5 cl (entS L [])) := by rw [H.get_set_ne _ _ (Ne.symm hnm)]; exact X.hm
  refine wp_seq (wp_region (runL_wpOps hE0 _ ρ h w Γ _ a n _ _ r l hl fun a' ρ' w' l' d' r' x' => ?_))
  show (mkWalk (gcM TryzG' mS) (gcM TryzG' mC) F).code.wp Tryz.prog Q a' w'
  obtain ⟨Li, hLi⟩ := r'.loc hi
  have hoff := r'.iterOff hi (isMap_iterB _ _ _ _) (fun sz c E q => by unfold iterB mapB at q; simp at q) (fun sz E q => by unfold iterB lookB at q; simp at q) hLi
  refine walk_ok hx (c := ⟨Tryz.prog, TryzG', cE, Tryz.f45.ntmps, cρ, ch, cw, cz⟩) rfl rfl rfl hoff X.borns (fun t ht => ?_) (fun s q g => s = [pn mb 0, pn n 0] ∧ q = n1 ∧ g.set n dead = h1 ∧ (g.get n).isSome = true) ?_
    (s := [pn mb 0, pn n 0]) (n := n + 1) hi hm' (borns_entS L []) hLi rfl (fun t ht => .inr ht) (fun t ht => ⟨ht, by simp⟩) X.borns ?_ r' (x.trans x') ?_ (d'.trans d)
  · obtain ⟨e, he, rfl⟩ := List.mem_map.1 ht
    exact hcl e he
  · rintro s q g ρ2 w2 a2 ⟨rfl, rfl, rfl, hs⟩ r2 x2 l2 d2
    have hW : Weak g (g.set n dead) := fun y => by
      rw [H.get_set]
      split
      · rename_i hy; subst hy; exact .inr ⟨hs, rfl⟩
      · exact .inl rfl
    refine hK _ _ _ _ _ _ e2 (r2.weak hW) (x2.trans (Ext.weak hW)) ?_ d2
    rw [hxe]
    exact l2.some [5]
  · intro π hπ
    obtain ⟨s', n'', h'', h1', h2', h3', h4', h5'⟩ := hall (fun k v q g r e => mk_body _ _ k v q g r e) π hπ
    exact ⟨s', n'', h'', Rounds.mono (fun s hs => by rw [hs]; rfl) h1', h2', h3', h4', h5'⟩
  · have := l'.some [5, 120]
    have e5 : Fw.look ((120, pn n 0) :: (119, .map (some m)) :: (118, pn gb 0) :: (117, pn gb 0) :: (116, pn gb 0) :: (115, pn mb 3) :: (114, pn mb 0) :: (113, pn mb 0) :: Γ) 5 = pn mb 0 := hxe
    simp only [List.map_cons, List.map_nil, e5] at this
    exact this

end Go.Fk
end
section
set_option linter.unusedVariables false
set_option maxRecDepth 20000
namespace Go.Fk
open Go Go.Fw Go.Proofs

theorem pure_nil {x v : Value} {n n' : Nat} {h h' : H} (e : opNil x n h = some (v, n', h')) : n' = n ∧ h' = h := by
  unfold opNil at e
  split at e <;> first | (obtain ⟨_, rfl, rfl⟩ := ret_some e; exact ⟨rfl, rfl⟩) | cases e
theorem pure_fa {f : Nat} {x v : Value} {n n' : Nat} {h h' : H} (e : opFieldAddr f x n h = some (v, n', h')) : n' = n ∧ h' = h := by
  unfold opFieldAddr at e
  split at e <;> first | (obtain ⟨_, rfl, rfl⟩ := ret_some e; exact ⟨rfl, rfl⟩) | cases e
theorem pure_ld {x v : Value} {n n' : Nat} {h h' : H} (e : opLoad x n h = some (v, n', h')) : n' = n ∧ h' = h := by
  unfold opLoad at e
  split at e
  · obtain ⟨rfl, rfl, _⟩ := rd_some e; exact ⟨rfl, rfl⟩
  · cases e
theorem pure_ia {s : Nat} {x i v : Value} {n n' : Nat} {h h' : H} (e : opIndexAddr s x i n h = some (v, n', h')) : n' = n ∧ h' = h := by
  unfold opIndexAddr at e
  repeat' (split at e)
  all_goals first | (obtain ⟨_, rfl, rfl⟩ := ret_some e; exact ⟨rfl, rfl⟩) | cases e

/-- What a walk that collects keys comes to; Γ: what is known where it begins. -/
theorem coll_walk {x : Walk} (hx : x.OK) {S : Value → M Value} {c : Ctx} (hP : c.P = x.P) (hG : c.G = x.G) (hN : c.N = x.N) {Q : Exit → Act → World → Prop}
    (hts : x.ts.length = 2) (hti : ∀ l it : Value, Fw.look (x.Γs [l, it]) x.ti = it) (hclean : ∀ q g h, x.clean q g h = deadR [q, q + 1] h) (hbody : ∀ k v l it n h r, colT k v l it n h = some r → x.body k v [l, it] n h = some r)
    {mv v : Value} {n n' : Nat} {h h' : H} (e : colM S mv n h = some (v, n', h')) (r0 : ∀ m sz cl E, h.get m = some (mapB sz cl E) → (∀ p, p ∈ E → ikey sz p.1 = true) ∧ E.Pairwise fun p q => p.1 ≠ q.1)
    (hend : ∀ l q g ρ w a, S l q g = some (v, n', h') → Fw.R c.G ρ g w → Ext c.ρ c.h c.w ρ g w → Live ρ c.N (x.Γs [l, pn n 0]) a → a.defers = [] → Q .normal a w) :
    ∃ m cl E, mv = .map (some m) ∧ h.get n = none ∧ h.get m = some (mapB 2 cl E) ∧
      ∀ ρ w a, Fw.R c.G ρ (h.set n (iterB m cl cl [])) w → Ext c.ρ c.h c.w ρ (h.set n (iterB m cl cl [])) w → Live ρ c.N (x.Γs [.slice none 0 0, pn n 0]) a → a.defers = [] → x.code.wp c.P Q a w := by
  obtain ⟨m, cl, E, hme, X, hcl, hall⟩ := col_all e r0
  have hnn : h.get n = none := X.fresh n (Nat.le_refl _) (by omega)
  have hnm : n ≠ m := fun q => by rw [q, X.hm] at hnn; cases hnn
  refine ⟨m, cl, E, hme, hnn, X.hm, fun ρ w a r ex lv hd => ?_⟩
  · have hi : (h.set n (iterB m cl cl [])).get n = some (iterB m cl cl []) := H.get_set_same _ _ _
    have hm' : (h.set n (iterB m cl cl [])).get m = some (mapB 2 cl E) := by rw [H.get_set_ne _ _ (Ne.symm hnm)]; exact X.hm
    obtain ⟨Li, hLi⟩ := r.loc hi
    have hoff := r.iterOff hi (isMap_iterB _ _ _ _) (fun sz c E q => by unfold iterB mapB at q; simp at q) (fun sz E q => by unfold iterB lookB at q; simp at q) hLi
    have I0 : CInv m cl n E h [] [colV (n + 1 - 1) [], pn n 0] (n + 1) (h.set n (iterB m cl cl [])) := by
      refine ⟨rfl, rfl, List.nodup_nil, (fun t ht => nomatch ht), hi, hm', fun q => absurd rfl q, fun x h1 h2 => by omega, fun x h1 h2 => ?_, (Gr.refl _).set _ _⟩
      rw [H.get_set_ne _ _ h1]
    have hgood : ∀ s : List Value, (∃ l, s = [l, pn n 0]) → Fw.look (x.Γs s) x.ti = pn n 0 := by
      rintro s ⟨l, rfl⟩
      exact hti _ _
    refine walk_ok hx hP hG hN hoff X.nd (fun t ht => ?_) (fun s q g => ∃ π, List.Perm π (borns E) ∧ CInv m cl n E h π s q g) ?_ (s := [colV (n + 1 - 1) [], pn n 0]) (n := n + 1) hi hm' rfl hLi (hti _ _) (fun t ht => .inr ht) (fun t ht => ⟨ht, by simp⟩) X.nd ?_ r ex lv hd
    · obtain ⟨p, hp, rfl⟩ := List.mem_map.1 ht
      exact hcl p hp
    · rintro s q g ρ w a ⟨π, hp, I⟩ r2 x2 l2 d2
      obtain ⟨k1, k2, k3⟩ := hall π s q g hp I
      subst k1
      have hW : Weak g (g.set n dead) := fun y => by
        rw [H.get_set]
        split
        · rename_i hy; subst hy; exact .inr ⟨k2, rfl⟩
        · exact .inl rfl
      exact hend _ _ _ _ _ _ k3 (r2.weak hW) (x2.trans (Ext.weak hW)) l2 d2
    · intro π hp
      obtain ⟨s', q', g', hr, hI⟩ := rounds_of_inv (good := fun s => Fw.look (x.Γs s) x.ti = .pointer (some ⟨n, 0, none⟩)) (body := x.body) (clean := x.clean) (i := n) (m := m) (sz := 2) (cl := cl) (bs := borns E) (CInv m cl n E h)
        (fun seen s q g t I ht hs => by
          obtain ⟨E1, E2, k, v, vs, n1, h1, g1, g2, g3, g4, g5, g6, ⟨l, g7⟩, g8⟩ := cInv_step X (body := x.body) (fun k v l n h r e => hbody k v l _ n h r e) seen s q g t I ht hs
          refine ⟨E1, E2, k, v, vs, n1, h1, g1, g2, g3, ?_, ?_, g6, hgood _ ⟨l, g7⟩, ?_⟩
          · rw [hclean]; exact g4
          · rw [hclean]; exact g5
          · rw [hclean]; exact g8) π [] _ _ _ I0 (hp.nodup_iff.2 X.nd) (fun t ht => ⟨hp.mem_iff.1 ht, by simp⟩)
      rw [List.nil_append] at hI
      exact ⟨s', q', g', hr, π, hp, hI⟩
end Go.Fk
end
section
set_option linter.unusedVariables false
namespace Go.Fk
open Go Go.Fw Go.Proofs

theorem mkSp_K {mS mC : List Value → M Value} {F i : Nat} {fs fc : KF} {kk : List (Nat × V) → (List (Nat × V) → St) → St} (hS : CRef fs mS) (hC : CRef fc mC) {Γ : List (Nat × V)} {Γ' : List (Nat × Value)} {K : List (Nat × V) → St} {K' : List (Nat × Value) → M Value} (h : GR Γ Γ')
    (hK : ∀ Γ1 Γ1', GR Γ1 Γ1' → Ref (K Γ1) (K' Γ1')) : Ref (kMkLoop (fun l K => kGc fs l [.f 92 .nil] K) (fun l K => kGc fc l [] K) F (lookK Γ 5) (K [(5, lookK Γ 5)])) (bnd ((mkSp (gcM TryzG' mS) (gcM TryzG' mC) F kk).m i Γ') K') := by
  have hm := kMkLoop_ref (F := F) (S := gcM TryzG' mS) (C := gcM TryzG' mC) (z := f92) (srt := fun l K => kGc fs l [.f 92 .nil] K) (cmp := fun l K => kGc fc l [] K)
    (fun v w K K' hv hK => kGc_ref hS hv (rest := [.f 92 .nil]) (ws := [f92]) (.cons (.of (.f 92 .nil)) .nil) rfl hK)
    (fun v w K K' hv hK => kGc_ref hC hv (rest := []) (ws := []) .nil rfl hK)
    (h 5) (hK [(5, lookK Γ 5)] [(5, Fw.look Γ' 5)] ((GR.nil []).cons 5 (h 5)))
  show Ref _ (bnd (bnd (mkM (gcM TryzG' mS) (gcM TryzG' mC) f92 (Fw.look Γ' 5)) fun _ => ret [(5, Fw.look Γ' 5)]) K')
  rw [bnd_assoc]
  exact hm
def tabNs : List Nat := [0, 1, 56, 2, 57, 49, 28, 3, 61, 58, 42, 50, 38, 29, 17, 4, 62, 47, 59, 36, 45, 43, 51, 22, 53, 39, 33, 30, 24, 18, 12, 5, 63, 55, 48, 27, 60, 41, 37, 16, 46, 35, 44, 21, 52, 32, 23, 11, 54, 26, 40, 15, 34, 20, 31, 10, 25, 14, 19, 9, 13, 8, 7, 6]
end Go.Fk
end
section
set_option linter.unusedVariables false
set_option maxRecDepth 20000
namespace Go.Fk
open Go Go.Fw Go.Proofs

def f99 : Value := .func (.func 99) #[] #[]
def coE (g : Nat) (S : List Value → M Value) : Fw.Env := fun f => if f = g then some S else none
theorem coE_OK {g : Nat} {m : List Value → M Value} (hS : Sim Tryz.prog TryzG' g m) : EnvOK Tryz.prog TryzG' (coE g (gcM TryzG' m)) := by
  intro f m' hf
  unfold coE at hf
  split at hf
  · rename_i e; subst e; cases hf; exact gc_sim hS
  · cases hf

/-! ## Writes -/

noncomputable def wrWalk (S : List Value → M Value) (F : Nat) : Walk where
  P := Tryz.prog
  G := TryzG'
  E := coE 141 S
  N := Tryz.f231.ntmps
  ops1 := opsOf Tryz.f231 3
  ops2 := opsOf Tryz.f231 4
  rest := .reg 5 [5, 14]
  opsR := opsOf Tryz.f231
  sp := noSp
  F := F
  B := 0
  B1 := 1
  r1 := 3
  r2 := 4
  ti := 14
  tn := 15
  tok := 16
  te := 17
  ts := [5, 14]
  clean := fun q _ g => deadR [q, q + 1] g
theorem wr_body_eq (S : List Value → M Value) (F : Nat) (k v l it : Value) : (wrWalk S F).bodyK k v [l, it] = colT k v l it := by kernel_rfl
theorem wr_range_eq (E : Fw.Env) (Γ : List (Nat × Value)) : runK Tryz.prog TryzG' E Tryz.f231.ntmps (opsOf Tryz.f231 2) (List.range (opsOf Tryz.f231 2).size) Γ (fun Γ' => ret Γ') =
    bnd (opNil (Fw.look Γ 0)) fun a => bnd (opFieldAddr 2 a) fun b => bnd (opLoad b) fun c => bnd (opIndexAddr 1 c (Fw.look Γ 1)) fun d => bnd (opLoad d) fun e => bnd (opRange e) fun r => ret ((14, r) :: (13, e) :: (12, d) :: (11, Fw.look Γ 1) :: (10, c) :: (9, b) :: (8, a) :: (7, Fw.look Γ 0) :: Γ) := by kernel_rfl
theorem wr_last_eq (S : List Value → M Value) (Γ : List (Nat × Value)) : runK Tryz.prog TryzG' (coE 141 S) Tryz.f231.ntmps (opsOf Tryz.f231 6) (List.range (opsOf Tryz.f231 6).size) Γ (fun Γ' => ret Γ') =
    bnd (S [Fw.look Γ 5]) fun v => ret ((4, v) :: (24, v) :: (23, Fw.look Γ 5) :: Γ) := by kernel_rfl
theorem wr_OK {S : List Value → M Value} {F : Nat} (hE : EnvOK Tryz.prog TryzG' (coE 141 S)) (hm : Tryz.prog.follows .mixedOrders = true) : (wrWalk S F).OK where
  hE := hE
  hm := hm
  hs := noSpM
  ha := by kernel_rfl
  hw := fun n n1 h => deadR_weak _ _
  o0 := ⟨((opsOf Tryz.f231 3)[0]?).getD default, by kernel_rfl, by kernel_rfl, by kernel_rfl, by kernel_rfl⟩
  o1 := ⟨((opsOf Tryz.f231 3)[1]?).getD default, by kernel_rfl, by kernel_rfl, by kernel_rfl, by kernel_rfl⟩
  sz1 := by kernel_rfl
  o2 := ⟨((opsOf Tryz.f231 4)[0]?).getD default, by kernel_rfl, by kernel_rfl, by kernel_rfl, by kernel_rfl⟩
  ntn := Nat.le_of_ble_eq_true (by kernel_rfl)
  ntok := Nat.le_of_ble_eq_true (by kernel_rfl)
  nte := Nat.le_of_ble_eq_true (by kernel_rfl)
  d1 := by show (15 : Nat) ≠ 16; omega
  d2 := by show (14 : Nat) ≠ 15; omega
  d3 := by show (14 : Nat) ≠ 16; omega
  m1 := by show (15 : Nat) ∉ [5, 14]; simp
  m2 := by show (16 : Nat) ∉ [5, 14]; simp

/-- A nil list stands where the walk begins. -/
def onNs (x : Value) (m : M (List (Nat × Value))) : M (List (Nat × Value)) :=
  match x with
  | .slice none 0 0 => m
  | _ => fail
noncomputable def wrM (S : Value → M Value) (Γ : List (Nat × Value)) : M (List (Nat × Value)) :=
  bnd (opNil (Fw.look Γ 0)) fun a => bnd (opFieldAddr 2 a) fun b => bnd (opLoad b) fun c => bnd (opIndexAddr 1 c (Fw.look Γ 1)) fun d => bnd (opLoad d) fun e => onNs (Fw.look Γ 5) (bnd (colM S e) fun v => ret [(4, v)])
noncomputable def wrSp (S : List Value → M Value) (F : Nat) (k : List (Nat × V) → (List (Nat × V) → St) → St) : Sp where
  code := fun _ => .seq (.seq (.region 2 (opsOf Tryz.f231 2) false) (wrWalk S F).code) (.seq (.region 6 (opsOf Tryz.f231 6) false) .ret)
  m := fun _ Γ => wrM (fun l => S [l]) Γ
  k := fun _ => k
  ex := fun _ => .ret

theorem range_run {e : Value} {m cl : Nat} {E : List (Value × Value × Nat)} {n : Nat} {h : H} (he : e = .map (some m)) (hn : h.get n = none) (hm : h.get m = some (mapB 2 cl E)) {α : Type} (K : Value → M α) : bnd (opRange e) K n h = K (pn n 0) (n + 1) (h.set n (iterB m cl cl [])) := by
  subst he
  show bnd (bnd (mpGet m) _) K n h = _
  rw [bnd_assoc, bnd_of (mpGet_of (cs := .int .u64 (Int.ofNat 2) :: .int .u64 (Int.ofNat cl) :: flatE E) hm)]
  dsimp only
  rw [bnd_assoc, bnd_of (new_of hn rfl)]
  rfl
theorem onNs_some {x : Value} {m : M (List (Nat × Value))} {K : List (Nat × Value) → M Value} {n : Nat} {h : H} {z : Value × Nat × H} (e : bnd (onNs x m) K n h = some z) : x = .slice none 0 0 ∧ bnd m K n h = some z := by
  unfold onNs at e
  split at e
  · exact ⟨rfl, e⟩
  · cases e

theorem wrSp_M {mS : List Value → M Value} {F : Nat} {k : List (Nat × V) → (List (Nat × V) → St) → St} (hm : Tryz.prog.follows .mixedOrders = true) (hS : Sim Tryz.prog TryzG' 141 mS) : SpM Tryz.prog TryzG' Tryz.f231.ntmps (wrSp (gcM TryzG' mS) F k) := by
  intro i c Q Γ K hP hG hN hK
  have hE := coE_OK hS
  have hx := wr_OK (F := F) hE hm
  obtain ⟨cP, cG, cE, cN, cρ, ch, cw, cz⟩ := c
  dsimp only at hP hG hN
  subst hP hG hN
  intro n h ρ w a e r x l d
  replace e : bnd (wrM (fun l => gcM TryzG' mS [l]) Γ) K n h = some cz := e
  unfold wrM at e
  rw [bnd_assoc] at e
  obtain ⟨v1, n1, h1, e1, f1⟩ := bnd_some e
  obtain ⟨rfl, rfl⟩ := pure_nil e1
  rw [bnd_assoc] at f1
  obtain ⟨v2, n2, h2, e2, f2⟩ := bnd_some f1
  obtain ⟨rfl, rfl⟩ := pure_fa e2
  rw [bnd_assoc] at f2
  obtain ⟨v3, n3, h3, e3, f3⟩ := bnd_some f2
  obtain ⟨rfl, rfl⟩ := pure_ld e3
  rw [bnd_assoc] at f3
  obtain ⟨v4, n4, h4, e4, f4⟩ := bnd_some f3
  obtain ⟨rfl, rfl⟩ := pure_ia e4
  rw [bnd_assoc] at f4
  obtain ⟨v5, n5, h5, e5, f5⟩ := bnd_some f4
  obtain ⟨rfl, rfl⟩ := pure_ld e5
  obtain ⟨hns, f9⟩ := onNs_some f5
  rw [bnd_assoc] at f9
  obtain ⟨v6, n6, h6, e6, e7⟩ := bnd_some f9
  replace e7 : K [(4, v6)] n6 h6 = some cz := e7
  obtain ⟨m, cl, E, hme, hnn, hmE, hwalk⟩ := coll_walk hx (c := ⟨Tryz.prog, TryzG', cE, Tryz.f231.ntmps, cρ, ch, cw, cz⟩) rfl rfl rfl (Q := Exit.then (fun a w => (Code.seq (.region 6 (opsOf Tryz.f231 6) false) .ret).wp Tryz.prog Q a w) Q) rfl (fun l it => rfl) (fun q g h => rfl)
    (fun k v l it n h r e => Walk.bodyK_body _ ((congrArg (fun m : M Value => m.run n h) (wr_body_eq (gcM TryzG' mS) F k v l it)).trans e)) e6 (fun m sz cl E hm => mk_maps r m sz cl E hm)
    (fun l' q g ρ2 w2 a2 eS r2 x2 l2 d2 => by
      show (Code.seq (.region 6 (opsOf Tryz.f231 6) false) .ret).wp Tryz.prog Q a2 w2
      have hrun : runK Tryz.prog TryzG' (coE 141 (gcM TryzG' mS)) Tryz.f231.ntmps (opsOf Tryz.f231 6) (List.range (opsOf Tryz.f231 6).size) ((wrWalk (gcM TryzG' mS) F).Γs [l', pn n5 0]) (fun Γ' => ret Γ') q g =
          some ((4, v6) :: (24, v6) :: (23, l') :: (wrWalk (gcM TryzG' mS) F).Γs [l', pn n5 0], n6, h6) := by
        rw [wr_last_eq]
        show bnd (gcM TryzG' mS [l']) _ q g = _
        rw [bnd_of eS]
        rfl
      obtain ⟨Γ', n', h', hl, hz⟩ := runK_runL _ _ _ _ hrun
      obtain ⟨rfl, rfl, rfl⟩ := ret_some hz
      refine wp_seq (wp_region (runL_wpOps hE _ ρ2 g w2 _ _ a2 q _ _ r2 l2 hl fun a' ρ' w' l' d' r' x' => ?_))
      exact wp_ret (hK _ _ _ _ _ _ e7 r' (x2.trans x') (l'.some [4]) (d'.trans d2)))
  -- the region ahead of the walk
  have hrun : runK Tryz.prog TryzG' noE Tryz.f231.ntmps (opsOf Tryz.f231 2) (List.range (opsOf Tryz.f231 2).size) Γ (fun Γ' => ret Γ') n5 h5 =
      some ((14, pn n5 0) :: (13, v5) :: (12, v4) :: (11, Fw.look Γ 1) :: (10, v3) :: (9, v2) :: (8, v1) :: (7, Fw.look Γ 0) :: Γ, n5 + 1, h5.set n5 (iterB m cl cl [])) := by
    rw [wr_range_eq, bnd_of e1, bnd_of e2, bnd_of e3, bnd_of e4, bnd_of e5, range_run hme hnn hmE]
    rfl
  obtain ⟨Γ', n', h', hl, hz⟩ := runK_runL _ _ _ _ hrun
  obtain ⟨rfl, rfl, rfl⟩ := ret_some hz
  refine wp_seq (wp_seq (wp_region (runL_wpOps (fun f m hf => by cases hf) _ ρ h5 w Γ _ a n5 _ _ r l hl fun a' ρ' w' l' d' r' x' => ?_)))
  refine hwalk ρ' w' a' r' (x.trans x') ?_ (d'.trans d)
  have := l'.some [5, 14]
  have h5l : Fw.look ((14, pn n5 0) :: (13, v5) :: (12, v4) :: (11, Fw.look Γ 1) :: (10, v3) :: (9, v2) :: (8, v1) :: (7, Fw.look Γ 0) :: Γ) 5 = .slice none 0 0 := hns
  simp only [List.map_cons, List.map_nil, h5l] at this
  exact this

noncomputable def onNsK (x : V) (k : St) : St := @V.rec (fun _ => St) bad bad (fun _ => bad) (fun _ => bad) (fun _ _ => bad) (fun _ => bad) (fun _ _ => bad) bad (fun _ _ _ _ => bad) k bad (fun _ _ _ _ => bad) (fun _ _ => bad) (fun _ _ => bad) (fun _ => bad) bad (fun _ _ _ => bad) bad (fun _ _ _ => bad) bad (fun _ => bad) x
theorem onNsK_ref {x : V} {w : Value} (hx : VRel x w) {k : St} {m : M (List (Nat × Value))} {K' : List (Nat × Value) → M Value} (hk : Ref k (bnd m K')) : Ref (onNsK x k) (bnd (onNs w m) K') := by
  cases x <;> try exact Ref.bad
  rw [hx.got (by simp)]
  exact hk
noncomputable def kWr (sK : V → (V → St) → St) (t n l : V) (K : V → St) : St := kNil t fun x => kFieldAddr 2 x fun x => kLoad x fun x => kIndexAddr 1 x n fun x => kLoad x fun m => onNsK l (kColl sK m K)

theorem gc_one {m : List Value → M Value} : OneB fun l => gcM TryzG' m [l] := by
  intro b len cap n n' h h' v e
  obtain ⟨h1, B, C, h2, _, _, h3, _, h4⟩ := gc_prop e
  exact ⟨h1, B, C, h2, h3, h4⟩
theorem wrSp_K {mS : List Value → M Value} {F i : Nat} {fs : KF} {kk : List (Nat × V) → (List (Nat × V) → St) → St} (hS : CRef fs mS) {Γ : List (Nat × V)} {Γ' : List (Nat × Value)} {K : List (Nat × V) → St} {K' : List (Nat × Value) → M Value} (h : GR Γ Γ')
    (hK : ∀ Γ1 Γ1', GR Γ1 Γ1' → Ref (K Γ1) (K' Γ1')) : Ref (kWr (fun l K => kGc fs l [] K) (lookK Γ 0) (lookK Γ 1) (lookK Γ 5) fun v => K [(4, v)]) (bnd ((wrSp (gcM TryzG' mS) F kk).m i Γ') K') := by
  show Ref _ (bnd (wrM (fun l => gcM TryzG' mS [l]) Γ') K')
  unfold wrM
  rw [bnd_assoc]
  refine kNil_ref (h 0) fun v1 w1 h1 => ?_
  rw [bnd_assoc]
  refine kFieldAddr_ref h1 fun v2 w2 h2 => ?_
  rw [bnd_assoc]
  refine kLoad_ref h2 fun v3 w3 h3 => ?_
  rw [bnd_assoc]
  refine kIndexAddr_ref h3 (h 1) fun v4 w4 h4 => ?_
  rw [bnd_assoc]
  refine kLoad_ref h4 fun v5 w5 h5 => onNsK_ref (h 5) ?_
  rw [bnd_assoc]
  exact kColl_ref (S := fun l => gcM TryzG' mS [l]) (fun v w K K' hv hK => kGc_ref hS hv (rest := []) (ws := []) .nil rfl hK) gc_one h5 fun v w hv => hK _ _ ((GR.nil []).cons 4 hv)

/-! ## Edges -/

noncomputable def edWalk (S : List Value → M Value) (F : Nat) : Walk where
  P := Tryz.prog
  G := TryzG'
  E := coE 98 S
  N := Tryz.f50.ntmps
  ops1 := opsOf Tryz.f50 5
  ops2 := opsOf Tryz.f50 6
  rest := .reg 7 [3, 11]
  opsR := opsOf Tryz.f50
  sp := noSp
  F := F
  B := 0
  B1 := 1
  r1 := 5
  r2 := 6
  ti := 11
  tn := 12
  tok := 13
  te := 14
  ts := [3, 11]
  clean := fun q _ g => deadR [q, q + 1] g
theorem ed_body_eq (S : List Value → M Value) (F : Nat) (k v l it : Value) : (edWalk S F).bodyK k v [l, it] = colT k v l it := by kernel_rfl
theorem ed_range_eq (E : Fw.Env) (Γ : List (Nat × Value)) : runK Tryz.prog TryzG' E Tryz.f50.ntmps (opsOf Tryz.f50 4) (List.range (opsOf Tryz.f50 4).size) Γ (fun Γ' => ret Γ') =
    bnd (opNil (Fw.look Γ 0)) fun a => bnd (opFieldAddr 8 a) fun b => bnd (opLoad b) fun c => bnd (opRange c) fun r => ret ((11, r) :: (10, c) :: (9, b) :: (8, a) :: (7, Fw.look Γ 0) :: Γ) := by kernel_rfl
theorem ed_last_eq (S : List Value → M Value) (Γ : List (Nat × Value)) : runK Tryz.prog TryzG' (coE 98 S) Tryz.f50.ntmps (opsOf Tryz.f50 8) (List.range (opsOf Tryz.f50 8).size) Γ (fun Γ' => ret Γ') =
    bnd (S [Fw.look Γ 3, f99]) fun v => ret ((21, v) :: (20, Fw.look Γ 3) :: Γ) := by kernel_rfl
theorem ed_end_eq (E : Fw.Env) (Γ : List (Nat × Value)) : runK Tryz.prog TryzG' E Tryz.f50.ntmps (opsOf Tryz.f50 9) (List.range (opsOf Tryz.f50 9).size) Γ (fun Γ' => ret Γ') =
    ret ((2, Fw.look Γ 3) :: (22, Fw.look Γ 3) :: Γ) := by kernel_rfl
theorem ed_OK {S : List Value → M Value} {F : Nat} (hE : EnvOK Tryz.prog TryzG' (coE 98 S)) (hm : Tryz.prog.follows .mixedOrders = true) : (edWalk S F).OK where
  hE := hE
  hm := hm
  hs := noSpM
  ha := by kernel_rfl
  hw := fun n n1 h => deadR_weak _ _
  o0 := ⟨((opsOf Tryz.f50 5)[0]?).getD default, by kernel_rfl, by kernel_rfl, by kernel_rfl, by kernel_rfl⟩
  o1 := ⟨((opsOf Tryz.f50 5)[1]?).getD default, by kernel_rfl, by kernel_rfl, by kernel_rfl, by kernel_rfl⟩
  sz1 := by kernel_rfl
  o2 := ⟨((opsOf Tryz.f50 6)[0]?).getD default, by kernel_rfl, by kernel_rfl, by kernel_rfl, by kernel_rfl⟩
  ntn := Nat.le_of_ble_eq_true (by kernel_rfl)
  ntok := Nat.le_of_ble_eq_true (by kernel_rfl)
  nte := Nat.le_of_ble_eq_true (by kernel_rfl)
  d1 := by show (12 : Nat) ≠ 13; omega
  d2 := by show (11 : Nat) ≠ 12; omega
  d3 := by show (11 : Nat) ≠ 13; omega
  m1 := by show (12 : Nat) ∉ [3, 11]; simp
  m2 := by show (13 : Nat) ∉ [3, 11]; simp

noncomputable def edM (S : Value → M Value) (Γ : List (Nat × Value)) : M (List (Nat × Value)) :=
  bnd (opNil (Fw.look Γ 0)) fun a => bnd (opFieldAddr 8 a) fun b => bnd (opLoad b) fun c => onNs (Fw.look Γ 3) (bnd (colM S c) fun v => ret [(2, v)])
noncomputable def edS (S : List Value → M Value) (l : Value) : M Value := bnd (S [l, f99]) fun _ => ret l
noncomputable def edSp (S : List Value → M Value) (F : Nat) (k : List (Nat × V) → (List (Nat × V) → St) → St) : Sp where
  code := fun _ => .seq (.seq (.region 4 (opsOf Tryz.f50 4) false) (edWalk S F).code) (.seq (.region 8 (opsOf Tryz.f50 8) false) (.seq (.region 9 (opsOf Tryz.f50 9) false) .ret))
  m := fun _ Γ => edM (edS S) Γ
  k := fun _ => k
  ex := fun _ => .ret

theorem edSp_M {mS : List Value → M Value} {F : Nat} {k : List (Nat × V) → (List (Nat × V) → St) → St} (hm : Tryz.prog.follows .mixedOrders = true) (hS : Sim Tryz.prog TryzG' 98 mS) : SpM Tryz.prog TryzG' Tryz.f50.ntmps (edSp (gcM TryzG' mS) F k) := by
  intro i c Q Γ K hP hG hN hK
  have hE := coE_OK hS
  have hx := ed_OK (F := F) hE hm
  obtain ⟨cP, cG, cE, cN, cρ, ch, cw, cz⟩ := c
  dsimp only at hP hG hN
  subst hP hG hN
  intro n h ρ w a e r x l d
  replace e : bnd (edM (edS (gcM TryzG' mS)) Γ) K n h = some cz := e
  unfold edM at e
  rw [bnd_assoc] at e
  obtain ⟨v1, n1, h1, e1, f1⟩ := bnd_some e
  obtain ⟨rfl, rfl⟩ := pure_nil e1
  rw [bnd_assoc] at f1
  obtain ⟨v2, n2, h2, e2, f2⟩ := bnd_some f1
  obtain ⟨rfl, rfl⟩ := pure_fa e2
  rw [bnd_assoc] at f2
  obtain ⟨v3, n3, h3, e3, f3⟩ := bnd_some f2
  obtain ⟨rfl, rfl⟩ := pure_ld e3
  obtain ⟨hns, f9⟩ := onNs_some f3
  rw [bnd_assoc] at f9
  obtain ⟨v6, n6, h6, e6, e7⟩ := bnd_some f9
  replace e7 : K [(2, v6)] n6 h6 = some cz := e7
  obtain ⟨m, cl, E, hme, hnn, hmE, hwalk⟩ := coll_walk hx (c := ⟨Tryz.prog, TryzG', cE, Tryz.f50.ntmps, cρ, ch, cw, cz⟩) rfl rfl rfl (Q := Exit.then (fun a w => (Code.seq (.region 8 (opsOf Tryz.f50 8) false) (.seq (.region 9 (opsOf Tryz.f50 9) false) .ret)).wp Tryz.prog Q a w) Q) rfl (fun l it => rfl) (fun q g h => rfl)
    (fun k v l it n h r e => Walk.bodyK_body _ ((congrArg (fun m : M Value => m.run n h) (ed_body_eq (gcM TryzG' mS) F k v l it)).trans e)) e6 (fun m sz cl E hm => mk_maps r m sz cl E hm)
    (fun l' q g ρ2 w2 a2 eS r2 x2 l2 d2 => by
      show (Code.seq (.region 8 (opsOf Tryz.f50 8) false) (.seq (.region 9 (opsOf Tryz.f50 9) false) .ret)).wp Tryz.prog Q a2 w2
      obtain ⟨u9, n9, h9, e8, e9⟩ := bnd_some (show bnd (gcM TryzG' mS [l', f99]) (fun _ => ret l') q g = _ from eS)
      obtain ⟨rfl, rfl, rfl⟩ := ret_some e9
      have hrun : runK Tryz.prog TryzG' (coE 98 (gcM TryzG' mS)) Tryz.f50.ntmps (opsOf Tryz.f50 8) (List.range (opsOf Tryz.f50 8).size) ((edWalk (gcM TryzG' mS) F).Γs [v6, pn n3 0]) (fun Γ' => ret Γ') q g =
          some ((21, u9) :: (20, v6) :: (edWalk (gcM TryzG' mS) F).Γs [v6, pn n3 0], n6, h6) := by
        rw [ed_last_eq]
        show bnd (gcM TryzG' mS [v6, f99]) _ q g = _
        rw [bnd_of e8]
        rfl
      obtain ⟨Γ', n', h', hl, hz⟩ := runK_runL _ _ _ _ hrun
      obtain ⟨rfl, rfl, rfl⟩ := ret_some hz
      refine wp_seq (wp_region (runL_wpOps hE _ ρ2 g w2 _ _ a2 q _ _ r2 l2 hl fun a' ρ' w' l' d' r' x' => ?_))
      have hrun2 : runK Tryz.prog TryzG' (coE 98 (gcM TryzG' mS)) Tryz.f50.ntmps (opsOf Tryz.f50 9) (List.range (opsOf Tryz.f50 9).size) ((21, u9) :: (20, v6) :: (edWalk (gcM TryzG' mS) F).Γs [v6, pn n3 0]) (fun Γ' => ret Γ') n6 h6 =
          some ((2, v6) :: (22, v6) :: (21, u9) :: (20, v6) :: (edWalk (gcM TryzG' mS) F).Γs [v6, pn n3 0], n6, h6) := by
        rw [ed_end_eq]
        rfl
      obtain ⟨Γ2, n2, h2, hl2, hz2⟩ := runK_runL _ _ _ _ hrun2
      obtain ⟨rfl, rfl, rfl⟩ := ret_some hz2
      show (Code.seq (.region 9 (opsOf Tryz.f50 9) false) .ret).wp Tryz.prog Q a' w'
      refine wp_seq (wp_region (runL_wpOps hE _ ρ' _ w' _ _ a' _ _ _ r' l' hl2 fun a3 ρ3 w3 l3 d3 r3 x3 => ?_))
      exact wp_ret (hK _ _ _ _ _ _ e7 r3 ((x2.trans x').trans x3) (l3.some [2]) ((d3.trans d').trans d2)))
  -- the region ahead of the walk
  have hrun : runK Tryz.prog TryzG' noE Tryz.f50.ntmps (opsOf Tryz.f50 4) (List.range (opsOf Tryz.f50 4).size) Γ (fun Γ' => ret Γ') n3 h3 =
      some ((11, pn n3 0) :: (10, v3) :: (9, v2) :: (8, v1) :: (7, Fw.look Γ 0) :: Γ, n3 + 1, h3.set n3 (iterB m cl cl [])) := by
    rw [ed_range_eq, bnd_of e1, bnd_of e2, bnd_of e3, range_run hme hnn hmE]
    rfl
  obtain ⟨Γ', n', h', hl, hz⟩ := runK_runL _ _ _ _ hrun
  obtain ⟨rfl, rfl, rfl⟩ := ret_some hz
  refine wp_seq (wp_seq (wp_region (runL_wpOps (fun f m hf => by cases hf) _ ρ h3 w Γ _ a n3 _ _ r l hl fun a' ρ' w' l' d' r' x' => ?_)))
  refine hwalk ρ' w' a' r' (x.trans x') ?_ (d'.trans d)
  have := l'.some [3, 11]
  have h5l : Fw.look ((11, pn n3 0) :: (10, v3) :: (9, v2) :: (8, v1) :: (7, Fw.look Γ 0) :: Γ) 3 = .slice none 0 0 := hns
  simp only [List.map_cons, List.map_nil, h5l] at this
  exact this

end Go.Fk
end
section
set_option linter.unusedVariables false
set_option maxRecDepth 20000
namespace Go.Fk
open Go Go.Fw Go.Proofs

noncomputable def prsK (l : V) : Option Int → (List Pr → R) → R := @V.rec (fun _ => Option Int → (List Pr → R) → R) (fun o k => @Option.rec Int (fun _ => R) (k []) (fun _ => .bad) o) (fun o k => @Option.rec Int (fun _ => R) (k []) (fun _ => .bad) o) (fun _ => fun o k => @Option.rec Int (fun _ => R) (k []) (fun _ => .bad) o) (fun _ => fun o k => @Option.rec Int (fun _ => R) (k []) (fun _ => .bad) o) (fun _ _ => fun o k => @Option.rec Int (fun _ => R) (k []) (fun _ => .bad) o) (fun _ => fun o k => @Option.rec Int (fun _ => R) (k []) (fun _ => .bad) o) (fun _ _ => fun o k => @Option.rec Int (fun _ => R) (k []) (fun _ => .bad) o) (fun o k => @Option.rec Int (fun _ => R) (k []) (fun _ => .bad) o) (fun _ _ _ _ => fun o k => @Option.rec Int (fun _ => R) (k []) (fun _ => .bad) o) (fun o k => @Option.rec Int (fun _ => R) (k []) (fun _ => .bad) o) (fun o k => @Option.rec Int (fun _ => R) (k []) (fun _ => .bad) o) (fun x r _ ih o k => on_i x fun z => @Option.rec Int (fun _ => R) (ih (some z) k) (fun a => ih none fun l => k ((a, z) :: l)) o) (fun _ _ => fun o k => @Option.rec Int (fun _ => R) (k []) (fun _ => .bad) o) (fun _ _ => fun o k => @Option.rec Int (fun _ => R) (k []) (fun _ => .bad) o) (fun _ => fun o k => @Option.rec Int (fun _ => R) (k []) (fun _ => .bad) o) (fun o k => @Option.rec Int (fun _ => R) (k []) (fun _ => .bad) o) (fun _ _ _ => fun o k => @Option.rec Int (fun _ => R) (k []) (fun _ => .bad) o) (fun o k => @Option.rec Int (fun _ => R) (k []) (fun _ => .bad) o) (fun _ _ _ => fun o k => @Option.rec Int (fun _ => R) (k []) (fun _ => .bad) o) (fun o k => @Option.rec Int (fun _ => R) (k []) (fun _ => .bad) o) (fun _ => fun o k => @Option.rec Int (fun _ => R) (k []) (fun _ => .bad) o) l
theorem prsK_ok {v : V} {a : Ad} {t : T4} : ∀ (l : V), (∀ k, prsK l none k = .ok v a t → ∃ L, cvL l = pcs L ∧ k L = .ok v a t) ∧ ∀ z k, prsK l (some z) k = .ok v a t → ∃ y L, cvL l = .int .i64 y :: pcs L ∧ k ((z, y) :: L) = .ok v a t := by
  intro l
  induction l with
  | cons x r _ ih =>
    refine ⟨fun k h => ?_, fun z k h => ?_⟩
    · obtain ⟨z, rfl, h1⟩ := on_i_ok (show on_i x (fun z => prsK r (some z) k) = _ from h)
      obtain ⟨y, L, h2, h3⟩ := ih.2 z k h1
      refine ⟨(z, y) :: L, ?_, h3⟩
      show Value.int .i64 z :: cvL r = _
      rw [h2]
      rfl
    · obtain ⟨y, rfl, h1⟩ := on_i_ok (show on_i x (fun y => prsK r none fun l => k ((z, y) :: l)) = _ from h)
      obtain ⟨L, h2, h3⟩ := ih.1 _ h1
      refine ⟨y, L, ?_, h3⟩
      show Value.int .i64 y :: cvL r = _
      rw [h2]
  | _ => exact ⟨fun k h => ⟨[], rfl, h⟩, fun z k h => by cases h⟩
noncomputable def ofPr (l : List Pr) : V := @List.rec Pr (fun _ => V) .nil (fun p _ ih => .cons (.i p.1) (.cons (.i p.2) ih)) l
theorem ofPr_eq : ∀ l : List Pr, cvL (ofPr l) = pcs l
  | [] => rfl
  | p :: l => by
    show Value.int .i64 p.1 :: Value.int .i64 p.2 :: cvL (ofPr l) = _
    rw [ofPr_eq l]; rfl
noncomputable def lenP (l : List Pr) : Nat := @List.rec Pr (fun _ => Nat) 0 (fun _ _ n => Nat.succ n) l
theorem lenP_eq : ∀ l : List Pr, lenP l = l.length
  | [] => rfl
  | p :: l => by show Nat.succ (lenP l) = l.length + 1; rw [lenP_eq l]

noncomputable def kSortE (x : V) (K : V → St) : St := fun a t => onSl x (K x a t) fun d o len cap => ifR (Nat.beq o 0) (ifR (Nat.ble 2 (num d)) (ifR (Nat.ble len 12) (mine (get d t) fun f L => prsK L none fun l => ifR (Nat.beq (lenP l) len) (K x a (put d (f (ofPr (isort l))) t)) .bad) .bad) .bad) .bad
theorem kSortE_ref {F : Nat} (hF : 20 ≤ F) {x : V} {w : Value} (hx : VRel x w) {K : V → St} {K' : Value → M Value} (hK : KR K K') : Ref (kSortE x K) (bnd (edS (gcM TryzG' (m98_m F)) w) K') := by
  refine Ref.step hK fun a t n h hr v a' t' e => ?_
  rcases onSl_ok e with ⟨rfl, e1⟩ | ⟨d, o, len, cap, rfl, e1⟩
  · rw [hx.got (by simp)]
    obtain ⟨u9, hu⟩ := sort_nil hF (n := n) (h := h)
    refine ⟨.ns, _, a, t, n, h, ?_, .of .ns, hr, e1⟩
    show bnd (gcM 2 (m98_m F) [.slice none 0 0, sf99]) (fun _ => ret (Value.slice none 0 0)) n h = _
    rw [bnd_of hu]
    rfl
  · rcases ifR_ok e1 with ⟨b0, e2⟩ | ⟨_, e2⟩
    case inr => cases e2
    rcases ifR_ok e2 with ⟨b1, e3⟩ | ⟨_, e3⟩
    case inr => cases e3
    rcases ifR_ok e3 with ⟨b2, e4⟩ | ⟨_, e4⟩
    case inr => cases e4
    have b0 := Nat.eq_of_beq_eq_true b0
    have b1 := Nat.le_of_ble_eq_true b1
    have b2 := Nat.le_of_ble_eq_true b2
    subst b0
    obtain ⟨L, f, kd, hkd, hL, hf, e5⟩ := mine_ok e4
    obtain ⟨l, h1, e6⟩ := (prsK_ok L).1 _ e5
    rcases ifR_ok e6 with ⟨b3, e7⟩ | ⟨_, e7⟩
    case inr => cases e7
    have b3 := Nat.eq_of_beq_eq_true b3
    rw [lenP_eq] at b3
    rw [hx.got (by simp)]
    have hb : h.get (num d) = some ⟨pcs l, kd⟩ := by rw [← h1]; exact hr.got hL
    refine ⟨.s d 0 len cap, _, a, _, n, _, ?_, .of _, hr.put (d := d) (B := f (ofPr (isort l))) (C := ⟨pcs (isort l), kd⟩) (by rw [hb]; rfl) (by rw [hf, ofPr_eq]), e7⟩
    show bnd (gcM 2 (m98_m F) [.slice (some ⟨num d, 0, none⟩) len cap, sf99]) (fun _ => ret (Value.slice (some ⟨num d, 0, none⟩) len cap)) n h = _
    rw [bnd_of (sort_run hF hkd b2 b3 b1 hb)]
    rfl

/-! ## Keys that are two numbers -/

noncomputable def keyK (x : V) (k : R) : R := on_a x fun l => on_cons l fun p r => on_i p fun _ => on_cons r fun q r2 => on_i q fun _ => isNil r2 k
theorem keyK_ok {x : V} {k : R} {v : V} {a : Ad} {t : T4} (h : keyK x k = .ok v a t) : ∃ p : Pr, cv x = aggP p ∧ k = .ok v a t := by
  obtain ⟨l, rfl, h1⟩ := on_a_ok h
  obtain ⟨p, r, rfl, h2⟩ := on_cons_ok h1
  obtain ⟨z1, rfl, h3⟩ := on_i_ok h2
  obtain ⟨q, r2, rfl, h4⟩ := on_cons_ok h3
  obtain ⟨z2, rfl, h5⟩ := on_i_ok h4
  obtain ⟨h6, h7⟩ := isNil_ok h5
  refine ⟨(z1, z2), ?_, h7⟩
  show Value.agg (Value.int .i64 z1 :: Value.int .i64 z2 :: cvL r2).toArray = _
  rw [h6]
  rfl
noncomputable def keysK (ks : List V) (k : R) : R := @List.rec V (fun _ => R) k (fun x _ ih => keyK x ih) ks
theorem keysK_ok {k : R} {v : V} {a : Ad} {t : T4} : ∀ {ks : List V}, keysK ks k = .ok v a t → ∃ l : List Pr, ks.map cv = l.map aggP ∧ k = .ok v a t
  | [], h => ⟨[], rfl, h⟩
  | x :: ks, h => by
    obtain ⟨p, h1, h2⟩ := keyK_ok (show keyK x (keysK ks k) = _ from h)
    obtain ⟨l, h3, h4⟩ := keysK_ok h2
    exact ⟨p :: l, by rw [List.map_cons, List.map_cons, h1, h3], h4⟩
def unP : Value → Pr
  | .agg cs => match cs.toList with
    | [.int _ x, .int _ y] => (x, y)
    | _ => (0, 0)
  | _ => (0, 0)
theorem perm_agg {l : List Pr} {ks : List Value} (h : List.Perm ks (l.map aggP)) : ∃ l', ks = l'.map aggP ∧ List.Perm l' l := by
  refine ⟨ks.map unP, ?_, ?_⟩
  · rw [List.map_map]
    have : ∀ x, x ∈ ks → (aggP ∘ unP) x = x := fun x hx => by
      obtain ⟨p, _, rfl⟩ := List.mem_map.1 (h.mem_iff.1 hx)
      rfl
    exact (List.map_congr_left this).symm ▸ (List.map_id' ks).symm
  · have h2 := h.map unP
    rw [List.map_map] at h2
    have : l.map (unP ∘ aggP) = l := by
      have : ∀ p : Pr, (unP ∘ aggP) p = p := fun p => rfl
      rw [show (unP ∘ aggP) = id from funext this, List.map_id]
    rw [this] at h2
    exact h2

theorem same_ed {F : Nat} (hF : 20 ≤ F) {l : List Pr} (hl : l.length ≤ 12) (hne : l ≠ []) {b : Nat} (hb : 2 ≤ b) : SameP (edS (gcM TryzG' (m98_m F))) (l.map aggP) b := by
  refine ⟨colV b (l.map aggP), ⟨pcs (isort l), .grow⟩, fun ks' hp n h hg => ?_⟩
  obtain ⟨l', rfl, hp2⟩ := perm_agg hp
  have hcol : colV b (l.map aggP) = .slice (some ⟨b, 0, none⟩) l.length (U + 2) := by
    rw [colV_ne (fun q => hne (List.map_eq_nil_iff.1 q)), List.length_map]
  rw [hcol]
  show bnd (gcM 2 (m98_m F) [.slice (some ⟨b, 0, none⟩) l.length (U + 2), sf99]) (fun _ => ret (Value.slice (some ⟨b, 0, none⟩) l.length (U + 2))) n h = _
  rw [bnd_of (sort_run hF (.inr rfl) hl hp2.length_eq hb (l := l') hg), isort_same hp2]
  rfl

/-! ## The walk -/

noncomputable def kColE (m : V) (K : V → St) : St := fun a t =>
  on_m m fun d => mpK d t fun r => on_cons r fun w1 r => on_w w1 fun sz => ifR (Nat.beq sz 2) (on_cons r fun w2 es => on_w w2 fun cl => riseC cl es 0 0 (ifR (Nat.blt (lenV es) 37)
    (@List.rec V (fun _ => R) (inc (kSortE .ns K) a (put a (.dead .nil) t)) (fun x ks _ =>
      newsK (lenV es) (fun a t => keysK (x :: ks) (ifR (Nat.ble 2 (num a)) (onesK (kflat (x :: ks)) (inc (kSortE (.s a 0 (Nat.succ (lenL ks)) 18446744073709551618) K) a (put a (.grow (kflat (x :: ks))) t))) .bad)) a t) (keysL es 0)) .bad)) .bad
theorem kColE_ref {F : Nat} (hF : 20 ≤ F) {m : V} {w : Value} (hm : VRel m w) {K : V → St} {K' : Value → M Value} (hK : KR K K') : Ref (kColE m K) (bnd (colM (edS (gcM TryzG' (m98_m F))) w) K') := by
  classical
  intro a t n h hr v a' t' e
  obtain ⟨d, rfl, e1⟩ := on_m_ok e
  obtain ⟨r, hmd, e2⟩ := mpK_ok hr e1
  obtain ⟨w1, r1, rfl, e3⟩ := on_cons_ok e2
  obtain ⟨sz, rfl, e4⟩ := on_w_ok e3
  rcases ifR_ok e4 with ⟨b1, e5⟩ | ⟨_, e5⟩
  case inr => cases e5
  have b1 := Nat.eq_of_beq_eq_true b1
  subst b1
  obtain ⟨w2, es, rfl, e6⟩ := on_cons_ok e5
  obtain ⟨cl, rfl, e7⟩ := on_w_ok e6
  obtain ⟨e8, E, hE, h1, h2, h3, h4⟩ := riseC_ok _ es 0 (Nat.lt_succ_self _) e7
  rcases ifR_ok e8 with ⟨b2, e9⟩ | ⟨_, e9⟩
  case inr => cases e9
  have b2 : lenV es < 37 := blt_lt b2
  rw [hm.got (by simp)]
  have hgo : ∀ q, bnd (if E = [] then bnd (new [] .dead) fun _ => edS (gcM TryzG' (m98_m F)) (.slice none 0 0)
          else bnd (newsD (3 * E.length)) fun _ => bnd (new (Fw.flatK (E.map (·.1))) .grow) fun b => if SameP (edS (gcM TryzG' (m98_m F))) (E.map (·.1)) b then edS (gcM TryzG' (m98_m F)) (colV b (E.map (·.1))) else fail) K' n h = q → bnd (colM (edS (gcM TryzG' (m98_m F))) (cv (.m d))) K' n h = q := by
    intro q hq
    show bnd (bnd (mpGet (num d)) _) K' n h = _
    rw [bnd_assoc, bnd_of (mpGet_of hmd)]
    show bnd (match decE (cvL es) with
      | some E => if 2 = 2 ∧ E.all (fun p => decide (p.2.2 < cl)) = true ∧ (borns E).Nodup ∧ E.length < 1000000 then
          (if E = [] then bnd (new [] .dead) fun _ => edS (gcM TryzG' (m98_m F)) (.slice none 0 0)
          else bnd (newsD (3 * E.length)) fun _ => bnd (new (Fw.flatK (E.map (·.1))) .grow) fun b => if SameP (edS (gcM TryzG' (m98_m F))) (E.map (·.1)) b then edS (gcM TryzG' (m98_m F)) (colV b (E.map (·.1))) else fail)
        else fail
      | none => fail) K' n h = _
    rw [hE]
    dsimp only
    rw [if_pos ⟨rfl, List.all_eq_true.2 (fun p hp => decide_eq_true (h1 p hp).2), h2, by omega⟩]
    exact hq
  obtain ⟨ks, hks⟩ : ∃ ks, ks = keysL es 0 := ⟨_, rfl⟩
  rw [← hks] at e9 h3
  cases ks with
  | nil =>
    have hEn : E = [] := List.map_eq_nil_iff.1 h3
    obtain ⟨b, hb, f1⟩ := inc_ok (show inc (kSortE .ns K) a (put a (.dead .nil) t) = _ from e9)
    have hr2 := hr.new hb (B := .dead .nil) rfl
    obtain ⟨w3, n3, h5, g1, g2⟩ := kSortE_ref hF (x := .ns) (w := .slice none 0 0) (.of .ns) hK b _ _ _ hr2 _ _ _ f1
    refine ⟨w3, n3, h5, hgo _ ?_, g2⟩
    rw [if_pos hEn, bnd_assoc, bnd_of (new_of (hr.fresh n (Nat.le_refl _)) rfl)]
    exact g1
  | cons x ks =>
    have hEn : E ≠ [] := fun q => by rw [q] at h3; simp at h3
    have hEl : E.length = ks.length + 1 := by have := congrArg List.length h3; simpa using this
    have href : Ref (newsK (lenV es) (fun a t => keysK (x :: ks) (ifR (Nat.ble 2 (num a)) (onesK (kflat (x :: ks)) (inc (kSortE (.s a 0 (Nat.succ (lenL ks)) 18446744073709551618) K) a (put a (.grow (kflat (x :: ks))) t))) .bad)))
        (bnd (newsD (lenV es)) fun _ => bnd (bnd (new (Fw.flatK (E.map (·.1))) .grow) fun b => if SameP (edS (gcM TryzG' (m98_m F))) (E.map (·.1)) b then edS (gcM TryzG' (m98_m F)) (colV b (E.map (·.1))) else fail) K') := by
      refine newsK_ref ?_ _
      intro a t n h hr v a' t' e
      obtain ⟨l, hkl, e1⟩ := keysK_ok e
      rcases ifR_ok e1 with ⟨b3, e2⟩ | ⟨_, e2⟩
      case inr => cases e2
      have b3 := Nat.le_of_ble_eq_true b3
      obtain ⟨hone1, f1⟩ := onesK_ok e2
      obtain ⟨a1, ha1, f2⟩ := inc_ok f1
      have hflat : cvL (kflat (x :: ks)) = Fw.flatK (E.map (·.1)) := by rw [kflat_eq, h3]
      have hr2 := hr.new ha1 (B := .grow (kflat (x :: ks))) (C := ⟨cvL (kflat (x :: ks)), .grow⟩) rfl
      have hn : n = num a := hr.n_eq
      have hlen : Nat.succ (lenL ks) = (E.map (·.1)).length := by rw [List.length_map, hEl, lenL_eq]
      have hcol : colV (num a) (E.map (·.1)) = .slice (some ⟨num a, 0, none⟩) (Nat.succ (lenL ks)) 18446744073709551618 := by
        rw [colV_ne (fun q => hEn (List.map_eq_nil_iff.1 q)), ← hlen]
        rfl
      have hll : l.length = E.length := by
        have := congrArg List.length (h3.trans hkl)
        simpa using this.symm
      have hsame : SameP (edS (gcM TryzG' (m98_m F))) (E.map (·.1)) (num a) := by
        rw [h3, hkl]
        exact same_ed hF (by omega) (fun q => by rw [q] at hll; simp at hll; omega) b3
      obtain ⟨w3, n3, h5, g1, g2⟩ := kSortE_ref hF (x := .s a 0 (Nat.succ (lenL ks)) 18446744073709551618) (.of _) hK a1 _ _ _ hr2 _ _ _ f2
      refine ⟨w3, n3, h5, ?_, g2⟩
      rw [bnd_assoc, bnd_of (new_of (hr.fresh n (Nat.le_refl _)) (by rw [← hflat]; exact hone1))]
      show bnd (if SameP (edS (gcM TryzG' (m98_m F))) (E.map (·.1)) n then edS (gcM TryzG' (m98_m F)) (colV n (E.map (·.1))) else fail) K' (n + 1) _ = _
      rw [hn, if_pos hsame, hcol, ← hflat]
      rw [hn] at g1
      exact g1
    obtain ⟨w3, n3, h5, g1, g2⟩ := href a t n h hr v a' t' e9
    refine ⟨w3, n3, h5, hgo _ ?_, g2⟩
    rw [if_neg hEn, bnd_assoc, ← h4]
    exact g1

noncomputable def kEd2 (t l : V) (K : V → St) : St := kNil t fun x => kFieldAddr 8 x fun x => kLoad x fun m => onNsK l (kColE m K)
theorem edSp_K2 {F F2 i : Nat} (hF : 20 ≤ F2) {kk : List (Nat × V) → (List (Nat × V) → St) → St} {Γ : List (Nat × V)} {Γ' : List (Nat × Value)} {K : List (Nat × V) → St} {K' : List (Nat × Value) → M Value} (h : GR Γ Γ')
    (hK : ∀ Γ1 Γ1', GR Γ1 Γ1' → Ref (K Γ1) (K' Γ1')) : Ref (kEd2 (lookK Γ 0) (lookK Γ 3) fun v => K [(2, v)]) (bnd ((edSp (gcM TryzG' (m98_m F2)) F kk).m i Γ') K') := by
  show Ref _ (bnd (edM (edS (gcM TryzG' (m98_m F2))) Γ') K')
  unfold edM
  rw [bnd_assoc]
  refine kNil_ref (h 0) fun v1 w1 h1 => ?_
  rw [bnd_assoc]
  refine kFieldAddr_ref h1 fun v2 w2 h2 => ?_
  rw [bnd_assoc]
  refine kLoad_ref h2 fun v3 w3 h3 => onNsK_ref (h 3) ?_
  rw [bnd_assoc]
  exact kColE_ref hF h3 fun v w hv => hK _ _ ((GR.nil []).cons 2 hv)
end Go.Fk
end
