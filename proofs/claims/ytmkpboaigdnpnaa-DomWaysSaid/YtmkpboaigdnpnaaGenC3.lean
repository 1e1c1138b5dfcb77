/-
  What functions of this seat come to, and that they do: part 3.
-/
import Derived.Test.YtmkpboaigdnpnaaGenC2
set_option linter.unusedVariables false
set_option maxRecDepth 20000
namespace Go.Fw
open Go.Proofs

/-! ### haruspex/haruspexlaw6.DomWays -/

def L6_DomWays_env (F : Nat) : Env := envOf [(9, L6_begun_m F), (10, L5_Made_m F), (11, dom_Up_m F), (15, dom_Above_m F), (18, graph_Path_m F), (19, R1_In_m F)]

noncomputable def L6_DomWays_R (F : Nat) := rK Try.prog TryG (L6_DomWays_env F) Try.f8
noncomputable def L6_DomWays_D (F : Nat) := dK Try.prog TryG (L6_DomWays_env F) Try.f8

def L6_DomWays_r14 (F : Nat) (x2 x3 x11 : Value) (K : Value → M Value) : M Value :=
  bnd (dom_Above F x11 x2 x3) fun v81 => K v81

theorem L6_DomWays_r14_ok (F : Nat) (x2 x3 x11 : Value) (K : Value → M Value) : L6_DomWays_r14 F x2 x3 x11 K = L6_DomWays_R F 14 [(11, x11), (3, x3), (2, x2)] [8] K := by kernel_rfl

def L6_DomWays_k0 (F : Nat) (x2 x3 x11 : Value) : M Value :=
  L6_DomWays_r14 F x2 x3 x11 (fun x8 => ret x8)

def L6_DomWays_r11 (F : Nat) (x2 x3 x10 x11 x12 x13 : Value) (K : Value → Value → Value → Value → Value → Value → M Value) : M Value :=
  bnd (opBin .add x13 (.int .i64 (1))) fun v67 => K x2 x3 x10 x11 x12 v67

theorem L6_DomWays_r11_ok (F : Nat) (x2 x3 x10 x11 x12 x13 : Value) (K : Value → Value → Value → Value → Value → Value → M Value) : L6_DomWays_r11 F x2 x3 x10 x11 x12 x13 K = L6_DomWays_R F 11 [(13, x13), (12, x12), (11, x11), (10, x10), (3, x3), (2, x2)] [2, 3, 10, 11, 12, 13] K := by kernel_rfl

def L6_DomWays_r13 (F : Nat) (K : Value → M Value) : M Value :=
  K (.bool false)

theorem L6_DomWays_r13_ok (F : Nat) (K : Value → M Value) : L6_DomWays_r13 F K = L6_DomWays_R F 13 [] [8] K := by kernel_rfl

def L6_DomWays_r12 (F : Nat) (x2 x3 x10 x11 x12 x13 : Value) (K : Value → Value → Value → Value → Value → Value → Value → M Value) : M Value :=
  bnd (dom_Above F x11 x13 x3) fun v71 => onB v71 (bnd (R1_In F x12 x13) fun v75 => bnd (opNot v75) fun v76 => K x2 x3 x10 x11 x12 x13 v76) (K x2 x3 x10 x11 x12 x13 (.bool false))

theorem L6_DomWays_r12_ok (F : Nat) (x2 x3 x10 x11 x12 x13 : Value) (K : Value → Value → Value → Value → Value → Value → Value → M Value) : L6_DomWays_r12 F x2 x3 x10 x11 x12 x13 K = L6_DomWays_R F 12 [(13, x13), (12, x12), (11, x11), (10, x10), (3, x3), (2, x2)] [2, 3, 10, 11, 12, 13, 77] K := by kernel_rfl

def L6_DomWays_r10 (F : Nat) (x2 x3 x10 x11 x12 x13 : Value) (K : Value → Value → Value → Value → Value → Value → Value → M Value) : M Value :=
  bnd (opFieldAddr 0 x10) fun v63 => bnd (opLoad v63) fun v64 => bnd (opBin .lss x13 v64) fun v65 => K x2 x3 x10 x11 x12 x13 v65

theorem L6_DomWays_r10_ok (F : Nat) (x2 x3 x10 x11 x12 x13 : Value) (K : Value → Value → Value → Value → Value → Value → Value → M Value) : L6_DomWays_r10 F x2 x3 x10 x11 x12 x13 K = L6_DomWays_R F 10 [(13, x13), (12, x12), (11, x11), (10, x10), (3, x3), (2, x2)] [2, 3, 10, 11, 12, 13, 65] K := by kernel_rfl

def L6_DomWays_b1 (F : Nat) (E1_0 : Value → Value → Value → M Value) (A1 : Value → Value → Value → Value → Value → Value → M Value) (x2 x3 x10 x11 x12 x13 : Value) : M Value :=
  L6_DomWays_r10 F x2 x3 x10 x11 x12 x13 (fun x2 x3 x10 x11 x12 x13 x65 => onB x65 (L6_DomWays_r12 F x2 x3 x10 x11 x12 x13 (fun x2 x3 x10 x11 x12 x13 x77 => onB x77 (L6_DomWays_r13 F (fun x8 => ret x8)) (L6_DomWays_r11 F x2 x3 x10 x11 x12 x13 (fun x2 x3 x10 x11 x12 x13 => A1 x2 x3 x10 x11 x12 x13)))) (E1_0 x2 x3 x11))

def L6_DomWays_l1 (F : Nat) (E1_0 : Value → Value → Value → M Value) : Nat → Value → Value → Value → Value → Value → Value → M Value
  | 0, _, _, _, _, _, _ => fail
  | k1 + 1, x2, x3, x10, x11, x12, x13 => L6_DomWays_b1 F E1_0 (L6_DomWays_l1 F E1_0 k1) x2 x3 x10 x11 x12 x13

theorem L6_DomWays_l1_s (F : Nat) (E1_0 : Value → Value → Value → M Value) (k1 : Nat) (x2 x3 x10 x11 x12 x13 : Value) : L6_DomWays_l1 F E1_0 (k1 + 1) x2 x3 x10 x11 x12 x13 = L6_DomWays_b1 F E1_0 (L6_DomWays_l1 F E1_0 k1) x2 x3 x10 x11 x12 x13 := rfl

def L6_DomWays_r9 (F : Nat) (x2 x3 x10 x11 x12 : Value) (K : Value → Value → Value → Value → Value → Value → M Value) : M Value :=
  K x2 x3 x10 x11 x12 (.int .i64 (0))

theorem L6_DomWays_r9_ok (F : Nat) (x2 x3 x10 x11 x12 : Value) (K : Value → Value → Value → Value → Value → Value → M Value) : L6_DomWays_r9 F x2 x3 x10 x11 x12 K = L6_DomWays_R F 9 [(12, x12), (11, x11), (10, x10), (3, x3), (2, x2)] [2, 3, 10, 11, 12, 13] K := by kernel_rfl

def L6_DomWays_r8 (F : Nat) (x2 x3 x10 x11 : Value) (K : Value → M Value) : M Value :=
  bnd (opBin .lss x2 (.int .i64 (0))) fun v38 => onB v38 (K (.bool true)) (bnd (opFieldAddr 0 x10) fun v41 => bnd (opLoad v41) fun v42 => bnd (opBin .geq x2 v42) fun v43 => onB v43 (K (.bool true)) (bnd (opBin .lss x3 (.int .i64 (0))) fun v47 => onB v47 (K (.bool true)) (bnd (opFieldAddr 0 x10) fun v51 => bnd (opLoad v51) fun v52 => bnd (opBin .geq x3 v52) fun v53 => onB v53 (K (.bool true)) (bnd (opIndexAddr 1 x11 x3) fun v58 => bnd (opLoad v58) fun v59 => bnd (opBin .eql v59 (.int .i64 (-1))) fun v60 => K v60))))

theorem L6_DomWays_r8_ok (F : Nat) (x2 x3 x10 x11 : Value) (K : Value → M Value) : L6_DomWays_r8 F x2 x3 x10 x11 K = L6_DomWays_R F 8 [(11, x11), (10, x10), (3, x3), (2, x2)] [8] K := by kernel_rfl

def L6_DomWays_r7 (F : Nat) (x2 x3 x10 x11 x12 : Value) (K : Value → Value → Value → Value → Value → Value → M Value) : M Value :=
  bnd (opLen x12) fun v28 => bnd (opBin .eql v28 (.int .i64 (0))) fun v29 => onB v29 (K x2 x3 x10 x11 x12 (.bool true)) (bnd (opLen x11) fun v32 => bnd (opFieldAddr 0 x10) fun v33 => bnd (opLoad v33) fun v34 => bnd (opBin .neq v32 v34) fun v35 => K x2 x3 x10 x11 x12 v35)

theorem L6_DomWays_r7_ok (F : Nat) (x2 x3 x10 x11 x12 : Value) (K : Value → Value → Value → Value → Value → Value → M Value) : L6_DomWays_r7 F x2 x3 x10 x11 x12 K = L6_DomWays_R F 7 [(12, x12), (11, x11), (10, x10), (3, x3), (2, x2)] [2, 3, 10, 11, 12, 36] K := by kernel_rfl

def L6_DomWays_r6 (F : Nat) (x2 x3 x10 x11 : Value) (K : Value → Value → Value → Value → Value → M Value) : M Value :=
  bnd (opLoadN 2 x10) fun v23 => bnd (graph_Path F v23 x2 x3) fun v26 => K x2 x3 x10 x11 v26

theorem L6_DomWays_r6_ok (F : Nat) (x2 x3 x10 x11 : Value) (K : Value → Value → Value → Value → Value → M Value) : L6_DomWays_r6 F x2 x3 x10 x11 K = L6_DomWays_R F 6 [(11, x11), (10, x10), (3, x3), (2, x2)] [2, 3, 10, 11, 12] K := by kernel_rfl

def L6_DomWays_r5 (F : Nat) (x2 x3 x10 : Value) (K : Value → Value → Value → Value → M Value) : M Value :=
  bnd (opLoadN 2 x10) fun v20 => bnd (dom_Up F v20 x2) fun v22 => K x2 x3 x10 v22

theorem L6_DomWays_r5_ok (F : Nat) (x2 x3 x10 : Value) (K : Value → Value → Value → Value → M Value) : L6_DomWays_r5 F x2 x3 x10 K = L6_DomWays_R F 5 [(10, x10), (3, x3), (2, x2)] [2, 3, 10, 11] K := by kernel_rfl

def L6_DomWays_r4 (F : Nat) (x0 x1 x2 x3 : Value) (K : Value → Value → Value → M Value) : M Value :=
  bnd (L5_Made F x0 x1) fun v19 => bnd (opPtr [(.int .i64 (0)), (.slice none 0 0)]) fun v10 => bnd (opStoreN 2 v10 v19) fun _ => K x2 x3 v10

theorem L6_DomWays_r4_ok (F : Nat) (x0 x1 x2 x3 : Value) (K : Value → Value → Value → M Value) : L6_DomWays_r4 F x0 x1 x2 x3 K = L6_DomWays_R F 4 [(3, x3), (2, x2), (1, x1), (0, x0)] [2, 3, 10] K := by kernel_rfl

def L6_DomWays_r3 (F : Nat) (K : Value → M Value) : M Value :=
  K (.bool false)

theorem L6_DomWays_r3_ok (F : Nat) (K : Value → M Value) : L6_DomWays_r3 F K = L6_DomWays_R F 3 [] [8] K := by kernel_rfl

def L6_DomWays_r2 (F : Nat) (x0 x1 x2 x3 x9 : Value) (K : Value → Value → Value → Value → Value → M Value) : M Value :=
  bnd (opNot x9) fun v16 => K x0 x1 x2 x3 v16

theorem L6_DomWays_r2_ok (F : Nat) (x0 x1 x2 x3 x9 : Value) (K : Value → Value → Value → Value → Value → M Value) : L6_DomWays_r2 F x0 x1 x2 x3 x9 K = L6_DomWays_R F 2 [(9, x9), (3, x3), (2, x2), (1, x1), (0, x0)] [0, 1, 2, 3, 16] K := by kernel_rfl

def L6_DomWays_r1 (F : Nat) (x0 x1 x2 x3 : Value) (K : Value → Value → Value → Value → Value → M Value) : M Value :=
  bnd (L6_begun F) fun v14 => K x0 x1 x2 x3 v14

theorem L6_DomWays_r1_ok (F : Nat) (x0 x1 x2 x3 : Value) (K : Value → Value → Value → Value → Value → M Value) : L6_DomWays_r1 F x0 x1 x2 x3 K = L6_DomWays_R F 1 [(3, x3), (2, x2), (1, x1), (0, x0)] [0, 1, 2, 3, 9] K := by kernel_rfl

def L6_DomWays_r0 (F : Nat) (x0 x1 x2 x3 : Value) (K : Value → Value → Value → Value → M Value) : M Value :=
  K x0 x1 x2 x3

theorem L6_DomWays_r0_ok (F : Nat) (x0 x1 x2 x3 : Value) (K : Value → Value → Value → Value → M Value) : L6_DomWays_r0 F x0 x1 x2 x3 K = L6_DomWays_R F 0 [(3, x3), (2, x2), (1, x1), (0, x0)] [0, 1, 2, 3] K := by kernel_rfl

def L6_DomWays (F : Nat) (x0 x1 x2 x3 : Value) : M Value :=
  L6_DomWays_r0 F x0 x1 x2 x3 (fun x0 x1 x2 x3 => L6_DomWays_r1 F x0 x1 x2 x3 (fun x0 x1 x2 x3 x9 => L6_DomWays_r2 F x0 x1 x2 x3 x9 (fun x0 x1 x2 x3 x16 => onB x16 (L6_DomWays_r3 F (fun x8 => ret x8)) (L6_DomWays_r4 F x0 x1 x2 x3 (fun x2 x3 x10 => L6_DomWays_r5 F x2 x3 x10 (fun x2 x3 x10 x11 => L6_DomWays_r6 F x2 x3 x10 x11 (fun x2 x3 x10 x11 x12 => L6_DomWays_r7 F x2 x3 x10 x11 x12 (fun x2 x3 x10 x11 x12 x36 => onB x36 (L6_DomWays_r8 F x2 x3 x10 x11 (fun x8 => ret x8)) (L6_DomWays_r9 F x2 x3 x10 x11 x12 (fun x2 x3 x10 x11 x12 x13 => L6_DomWays_l1 F (fun x2 x3 x11 => L6_DomWays_k0 F x2 x3 x11) F x2 x3 x10 x11 x12 x13))))))))))

def L6_DomWays_m (F : Nat) : List Value → M Value
  | [x0, x1, x2, x3] => L6_DomWays F x0 x1 x2 x3
  | _ => fail

theorem L6_DomWays_body : Try.f8.body = some (.seq (.region 0 (opsOf Try.f8 0) false) (.seq (.region 1 (opsOf Try.f8 1) false) (.seq (.seq (.region 2 (opsOf Try.f8 2) false) (.cond (.tmp 16) (.seq (.region 3 (opsOf Try.f8 3) false) .ret) .skip)) (.seq (.region 4 (opsOf Try.f8 4) false) (.seq (.region 5 (opsOf Try.f8 5) false) (.seq (.region 6 (opsOf Try.f8 6) false) (.seq (.seq (.region 7 (opsOf Try.f8 7) false) (.cond (.tmp 36) (.seq (.region 8 (opsOf Try.f8 8) false) .ret) .skip)) (.seq (.seq (.region 9 (opsOf Try.f8 9) false) (.block 0 (.loop (.seq (.seq (.region 10 (opsOf Try.f8 10) false) (.cond (.tmp 65) .skip (.exit 0))) (.seq (.block 1 (.seq (.region 12 (opsOf Try.f8 12) false) (.cond (.tmp 77) (.seq (.region 13 (opsOf Try.f8 13) false) .ret) .skip))) (.region 11 (opsOf Try.f8 11) false)))))) (.seq (.region 14 (opsOf Try.f8 14) false) .ret))))))))) := by kernel_rfl

theorem L6_DomWays_ok (F : Nat) : Sim Try.prog TryG 8 (L6_DomWays_m F) := by
 have hE : EnvOK Try.prog TryG (L6_DomWays_env F) := (EnvOK.cons (L6_begun_ok F) (EnvOK.cons (L5_Made_ok F) (EnvOK.cons (dom_Up_ok F) (EnvOK.cons (dom_Above_ok F) (EnvOK.cons (graph_Path_ok F) (EnvOK.cons (R1_In_ok F) EnvOK.nil))))))
 refine Sim.of_body (E := L6_DomWays_env F) Try.func8 L6_DomWays_body Try.call8 ?_ ?_
 · intro args hl; unfold L6_DomWays_m; split
   · exact absurd hl (Nat.not_lt.2 (Nat.le_of_ble_eq_true rfl))
   · rfl
 · intro args ρ h w z; unfold L6_DomWays_m; split
   · rename_i x0 x1 x2 x3; show OKc _ _ [(0, x0), (1, x1), (2, x2), (3, x3)] _ _
     refine rSeq ?_
     refine cLess [3, 2, 1, 0] ?_
     refine xR hE [0, 1, 2, 3] rfl (L6_DomWays_r0_ok F _ _ _ _ _) ?_
     intro x0 x1 x2 x3
     show OKq _ _ _ [(3, x3), (2, x2), (1, x1), (0, x0)] _
     refine rThen ?_
     refine rSeq ?_
     refine cLess [3, 2, 1, 0] ?_
     refine xR hE [0, 1, 2, 3, 9] rfl (L6_DomWays_r1_ok F _ _ _ _ _) ?_
     intro x0 x1 x2 x3 x9
     show OKq _ _ _ [(9, x9), (3, x3), (2, x2), (1, x1), (0, x0)] _
     refine rThen ?_
     refine rSeq ?_
     refine rSeq ?_
     refine cLess [9, 3, 2, 1, 0] ?_
     refine xR hE [0, 1, 2, 3, 16] rfl (L6_DomWays_r2_ok F _ _ _ _ _ _) ?_
     intro x0 x1 x2 x3 x16
     show OKq _ _ _ [(16, x16), (3, x3), (2, x2), (1, x1), (0, x0)] _
     refine rThen ?_
     refine xCond rfl rfl ?_ ?_
     · refine rSeq ?_
       refine cLess [] ?_
       refine xR hE [8] rfl (L6_DomWays_r3_ok F _) ?_
       intro x8
       show OKq _ _ _ [(8, x8)] _
       refine rThen ?_
       refine rRet ?_
       refine xThenR ?_
       exact rDone (.inr rfl) rfl
     · refine rSkip ?_
       refine rThen ?_
       refine rSeq ?_
       refine cLess [3, 2, 1, 0] ?_
       refine xR hE [2, 3, 10] rfl (L6_DomWays_r4_ok F _ _ _ _ _) ?_
       intro x2 x3 x10
       show OKq _ _ _ [(10, x10), (3, x3), (2, x2)] _
       refine rThen ?_
       refine rSeq ?_
       refine cLess [10, 3, 2] ?_
       refine xR hE [2, 3, 10, 11] rfl (L6_DomWays_r5_ok F _ _ _ _) ?_
       intro x2 x3 x10 x11
       show OKq _ _ _ [(11, x11), (10, x10), (3, x3), (2, x2)] _
       refine rThen ?_
       refine rSeq ?_
       refine cLess [11, 10, 3, 2] ?_
       refine xR hE [2, 3, 10, 11, 12] rfl (L6_DomWays_r6_ok F _ _ _ _ _) ?_
       intro x2 x3 x10 x11 x12
       show OKq _ _ _ [(12, x12), (11, x11), (10, x10), (3, x3), (2, x2)] _
       refine rThen ?_
       refine rSeq ?_
       refine rSeq ?_
       refine cLess [12, 11, 10, 3, 2] ?_
       refine xR hE [2, 3, 10, 11, 12, 36] rfl (L6_DomWays_r7_ok F _ _ _ _ _ _) ?_
       intro x2 x3 x10 x11 x12 x36
       show OKq _ _ _ [(36, x36), (12, x12), (11, x11), (10, x10), (3, x3), (2, x2)] _
       refine rThen ?_
       refine xCond rfl rfl ?_ ?_
       · refine rSeq ?_
         refine cLess [11, 10, 3, 2] ?_
         refine xR hE [8] rfl (L6_DomWays_r8_ok F _ _ _ _ _) ?_
         intro x8
         show OKq _ _ _ [(8, x8)] _
         refine rThen ?_
         refine rRet ?_
         refine xThenR ?_
         exact rDone (.inr rfl) rfl
       · refine rSkip ?_
         refine rThen ?_
         refine xSeq [2, 3, 11] (L6_DomWays_k0 F ) ?_ fun hj0 => ?_
         · intro x2 x3 x11
           show OKc _ _ [(11, x11), (3, x3), (2, x2)] _ _
           refine rSeq ?_
           refine cLess [11, 3, 2] ?_
           refine xR hE [8] rfl (L6_DomWays_r14_ok F _ _ _ _) ?_
           intro x8
           show OKq _ _ _ [(8, x8)] _
           refine rThen ?_
           refine rRet ?_
           exact rDone (.inr rfl) rfl
         · refine rSeq ?_
           refine cLess [12, 11, 10, 3, 2] ?_
           refine xR hE [2, 3, 10, 11, 12, 13] rfl (L6_DomWays_r9_ok F _ _ _ _ _ _) ?_
           intro x2 x3 x10 x11 x12 x13
           show OKq _ _ _ [(13, x13), (12, x12), (11, x11), (10, x10), (3, x3), (2, x2)] _
           refine rThen ?_
           refine rBlock ?_
           refine cLess [13, 12, 11, 10, 3, 2] ?_
           refine xLoopAt [2, 3, 10, 11, 12, 13] [] (fun k1 => L6_DomWays_l1 F (fun x2 x3 x11 => L6_DomWays_k0 F x2 x3 x11) k1) F [x2, x3, x10, x11, x12, x13] rfl rfl (fun _ _ _ _ _ _ => rfl) fun I hI1 k1 => ?_
           intro x2 x3 x10 x11 x12 x13
           show OKc _ _ [(13, x13), (12, x12), (11, x11), (10, x10), (3, x3), (2, x2)] _ _
           refine cAs (L6_DomWays_l1_s F _ _ _ _ _ _ _ _) ?_
           refine rSeq ?_
           refine rSeq ?_
           refine cLess [13, 12, 11, 10, 3, 2] ?_
           refine xR hE [2, 3, 10, 11, 12, 13, 65] rfl (L6_DomWays_r10_ok F _ _ _ _ _ _ _) ?_
           intro x2 x3 x10 x11 x12 x13 x65
           show OKq _ _ _ [(65, x65), (13, x13), (12, x12), (11, x11), (10, x10), (3, x3), (2, x2)] _
           refine rThen ?_
           refine xCond rfl rfl ?_ ?_
           · refine rSkip ?_
             refine rThen ?_
             refine rSeq ?_
             refine rBlock ?_
             refine rSeq ?_
             refine cLess [13, 12, 11, 10, 3, 2] ?_
             refine xR hE [2, 3, 10, 11, 12, 13, 77] rfl (L6_DomWays_r12_ok F _ _ _ _ _ _ _) ?_
             intro x2 x3 x10 x11 x12 x13 x77
             show OKq _ _ _ [(77, x77), (13, x13), (12, x12), (11, x11), (10, x10), (3, x3), (2, x2)] _
             refine rThen ?_
             refine xCond rfl rfl ?_ ?_
             · refine rSeq ?_
               refine cLess [] ?_
               refine xR hE [8] rfl (L6_DomWays_r13_ok F _) ?_
               intro x8
               show OKq _ _ _ [(8, x8)] _
               refine rThen ?_
               refine rRet ?_
               refine xBlockR ?_
               refine xThenR ?_
               refine xThenR ?_
               refine xBlockR ?_
               refine xThenR ?_
               exact rDone (.inr rfl) rfl
             · refine rSkip ?_
               refine xBlockN ?_
               refine rThen ?_
               refine cLess [13, 12, 11, 10, 3, 2] ?_
               refine xR hE [2, 3, 10, 11, 12, 13] rfl (L6_DomWays_r11_ok F _ _ _ _ _ _ _) ?_
               intro x2 x3 x10 x11 x12 x13
               show OKq _ _ _ [(13, x13), (12, x12), (11, x11), (10, x10), (3, x3), (2, x2)] _
               exact qLess [13, 12, 11, 10, 3, 2] (hI1 k1 x2 x3 x10 x11 x12 x13)
           · refine rExit ?_
             refine xThenX ?_
             refine xThenX ?_
             refine rOut ?_
             exact qLess [11, 3, 2] (hj0 x2 x3 x11)
   · exact rFail


end Go.Fw
