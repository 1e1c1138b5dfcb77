/-
  What functions of this seat come to, and that they do: part 2.
-/
import Derived.Test.YtdomcfoabnhlfaaGenP1
set_option linter.unusedVariables false
set_option maxRecDepth 20000
namespace Go.Fw
open Go.Proofs

/-! ### slices.pdqsortOrdered[int] -/

def slices_pdqsortOrdered_a (rec : Value → Value → Value → Value → M Value) : List Value → M Value
  | [x0, x1, x2, x3] => rec x0 x1 x2 x3
  | _ => fail

def slices_pdqsortOrdered_env (F : Nat) (rec : Value → Value → Value → Value → M Value) : Env := envOf [(53, slices_pdqsortOrdered_a rec), (71, slices_insertionSortOrdered_m F), (72, slices_heapSortOrdered_m F), (73, slices_breakPatternsOrdered_m F), (74, slices_choosePivotOrdered_m F), (75, slices_reverseRangeOrdered_m F), (76, slices_partialInsertionSortOrdered_m F), (77, cmp_Less_m F), (78, slices_partitionEqualOrdered_m F), (79, slices_partitionOrdered_m F)]

noncomputable def slices_pdqsortOrdered_R (F : Nat) (rec : Value → Value → Value → Value → M Value) := rK Try.prog TryG (slices_pdqsortOrdered_env F rec) Try.f53
noncomputable def slices_pdqsortOrdered_D (F : Nat) (rec : Value → Value → Value → Value → M Value) := dK Try.prog TryG (slices_pdqsortOrdered_env F rec) Try.f53

def slices_pdqsortOrdered_r27 (F : Nat) (rec : Value → Value → Value → Value → M Value) (x0 x2 x3 x8 x9 x14 : Value) (K : Value → Value → Value → Value → Value → Value → M Value) : M Value :=
  bnd (opBin .add x14 (.int .i64 (1))) fun v123 => K x0 v123 x2 x3 x8 x9

theorem slices_pdqsortOrdered_r27_ok (F : Nat) (rec : Value → Value → Value → Value → M Value) (x0 x2 x3 x8 x9 x14 : Value) (K : Value → Value → Value → Value → Value → Value → M Value) : slices_pdqsortOrdered_r27 F rec x0 x2 x3 x8 x9 x14 K = slices_pdqsortOrdered_R F rec 27 [(14, x14), (9, x9), (8, x8), (3, x3), (2, x2), (0, x0)] [0, 1, 2, 3, 8, 9] K := by kernel_rfl

def slices_pdqsortOrdered_r26 (F : Nat) (rec : Value → Value → Value → Value → M Value) (x0 x1 x2 x3 x8 x9 x14 : Value) (K : Value → Value → Value → Value → Value → Value → M Value) : M Value :=
  bnd (rec x0 x1 x14 x3) fun v121 => K x0 x2 x3 x8 x9 x14

theorem slices_pdqsortOrdered_r26_ok (F : Nat) (rec : Value → Value → Value → Value → M Value) (x0 x1 x2 x3 x8 x9 x14 : Value) (K : Value → Value → Value → Value → Value → Value → M Value) : slices_pdqsortOrdered_r26 F rec x0 x1 x2 x3 x8 x9 x14 K = slices_pdqsortOrdered_R F rec 26 [(14, x14), (9, x9), (8, x8), (3, x3), (2, x2), (1, x1), (0, x0)] [0, 2, 3, 8, 9, 14] K := by kernel_rfl

def slices_pdqsortOrdered_r25 (F : Nat) (rec : Value → Value → Value → Value → M Value) (x0 x1 x2 x3 x9 x14 x16 x18 : Value) (K : Value → Value → Value → Value → Value → Value → Value → M Value) : M Value :=
  bnd (opBin .geq x16 x18) fun v116 => K x0 x1 x2 x3 v116 x9 x14

theorem slices_pdqsortOrdered_r25_ok (F : Nat) (rec : Value → Value → Value → Value → M Value) (x0 x1 x2 x3 x9 x14 x16 x18 : Value) (K : Value → Value → Value → Value → Value → Value → Value → M Value) : slices_pdqsortOrdered_r25 F rec x0 x1 x2 x3 x9 x14 x16 x18 K = slices_pdqsortOrdered_R F rec 25 [(18, x18), (16, x16), (14, x14), (9, x9), (3, x3), (2, x2), (1, x1), (0, x0)] [0, 1, 2, 3, 8, 9, 14] K := by kernel_rfl

def slices_pdqsortOrdered_r30 (F : Nat) (rec : Value → Value → Value → Value → M Value) (x0 x1 x3 x8 x9 x14 : Value) (K : Value → Value → Value → Value → Value → Value → M Value) : M Value :=
  K x0 x1 x14 x3 x8 x9

theorem slices_pdqsortOrdered_r30_ok (F : Nat) (rec : Value → Value → Value → Value → M Value) (x0 x1 x3 x8 x9 x14 : Value) (K : Value → Value → Value → Value → Value → Value → M Value) : slices_pdqsortOrdered_r30 F rec x0 x1 x3 x8 x9 x14 K = slices_pdqsortOrdered_R F rec 30 [(14, x14), (9, x9), (8, x8), (3, x3), (1, x1), (0, x0)] [0, 1, 2, 3, 8, 9] K := by kernel_rfl

def slices_pdqsortOrdered_r29 (F : Nat) (rec : Value → Value → Value → Value → M Value) (x0 x1 x2 x3 x8 x9 x14 : Value) (K : Value → Value → Value → Value → Value → Value → M Value) : M Value :=
  bnd (opBin .add x14 (.int .i64 (1))) fun v129 => bnd (rec x0 v129 x2 x3) fun v132 => K x0 x1 x3 x8 x9 x14

theorem slices_pdqsortOrdered_r29_ok (F : Nat) (rec : Value → Value → Value → Value → M Value) (x0 x1 x2 x3 x8 x9 x14 : Value) (K : Value → Value → Value → Value → Value → Value → M Value) : slices_pdqsortOrdered_r29 F rec x0 x1 x2 x3 x8 x9 x14 K = slices_pdqsortOrdered_R F rec 29 [(14, x14), (9, x9), (8, x8), (3, x3), (2, x2), (1, x1), (0, x0)] [0, 1, 3, 8, 9, 14] K := by kernel_rfl

def slices_pdqsortOrdered_r28 (F : Nat) (rec : Value → Value → Value → Value → M Value) (x0 x1 x2 x3 x9 x14 x17 x18 : Value) (K : Value → Value → Value → Value → Value → Value → Value → M Value) : M Value :=
  bnd (opBin .geq x17 x18) fun v126 => K x0 x1 x2 x3 v126 x9 x14

theorem slices_pdqsortOrdered_r28_ok (F : Nat) (rec : Value → Value → Value → Value → M Value) (x0 x1 x2 x3 x9 x14 x17 x18 : Value) (K : Value → Value → Value → Value → Value → Value → Value → M Value) : slices_pdqsortOrdered_r28 F rec x0 x1 x2 x3 x9 x14 x17 x18 K = slices_pdqsortOrdered_R F rec 28 [(18, x18), (17, x17), (14, x14), (9, x9), (3, x3), (2, x2), (1, x1), (0, x0)] [0, 1, 2, 3, 8, 9, 14] K := by kernel_rfl

def slices_pdqsortOrdered_r24 (F : Nat) (rec : Value → Value → Value → Value → M Value) (x0 x1 x2 x3 x9 x14 x16 x17 x18 : Value) (K : Value → Value → Value → Value → Value → Value → Value → Value → Value → Value → M Value) : M Value :=
  bnd (opBin .lss x16 x17) fun v113 => K x0 x1 x2 x3 x9 x14 x16 x17 x18 v113

theorem slices_pdqsortOrdered_r24_ok (F : Nat) (rec : Value → Value → Value → Value → M Value) (x0 x1 x2 x3 x9 x14 x16 x17 x18 : Value) (K : Value → Value → Value → Value → Value → Value → Value → Value → Value → Value → M Value) : slices_pdqsortOrdered_r24 F rec x0 x1 x2 x3 x9 x14 x16 x17 x18 K = slices_pdqsortOrdered_R F rec 24 [(18, x18), (17, x17), (16, x16), (14, x14), (9, x9), (3, x3), (2, x2), (1, x1), (0, x0)] [0, 1, 2, 3, 9, 14, 16, 17, 18, 113] K := by kernel_rfl

def slices_pdqsortOrdered_r23 (F : Nat) (rec : Value → Value → Value → Value → M Value) (x0 x1 x2 x3 x9 x10 x14 x16 x17 : Value) (K : Value → Value → Value → Value → Value → Value → Value → Value → Value → M Value) : M Value :=
  bnd (opBin .quo x10 (.int .i64 (8))) fun v110 => K x0 x1 x2 x3 x9 x14 x16 x17 v110

theorem slices_pdqsortOrdered_r23_ok (F : Nat) (rec : Value → Value → Value → Value → M Value) (x0 x1 x2 x3 x9 x10 x14 x16 x17 : Value) (K : Value → Value → Value → Value → Value → Value → Value → Value → Value → M Value) : slices_pdqsortOrdered_r23 F rec x0 x1 x2 x3 x9 x10 x14 x16 x17 K = slices_pdqsortOrdered_R F rec 23 [(17, x17), (16, x16), (14, x14), (10, x10), (9, x9), (3, x3), (2, x2), (1, x1), (0, x0)] [0, 1, 2, 3, 9, 14, 16, 17, 18] K := by kernel_rfl

def slices_pdqsortOrdered_r22 (F : Nat) (rec : Value → Value → Value → Value → M Value) (x0 x1 x2 x3 x9 x10 x14 : Value) (K : Value → Value → Value → Value → Value → Value → Value → Value → Value → M Value) : M Value :=
  bnd (opBin .sub x14 x1) fun v105 => bnd (opBin .sub x2 x14) fun v108 => K x0 x1 x2 x3 x9 x10 x14 v105 v108

theorem slices_pdqsortOrdered_r22_ok (F : Nat) (rec : Value → Value → Value → Value → M Value) (x0 x1 x2 x3 x9 x10 x14 : Value) (K : Value → Value → Value → Value → Value → Value → Value → Value → Value → M Value) : slices_pdqsortOrdered_r22 F rec x0 x1 x2 x3 x9 x10 x14 K = slices_pdqsortOrdered_R F rec 22 [(14, x14), (10, x10), (9, x9), (3, x3), (2, x2), (1, x1), (0, x0)] [0, 1, 2, 3, 9, 10, 14, 16, 17] K := by kernel_rfl

def slices_pdqsortOrdered_r21 (F : Nat) (rec : Value → Value → Value → Value → M Value) (x0 x1 x2 x3 x10 x14 x15 : Value) (K : Value → Value → Value → Value → Value → Value → Value → M Value) : M Value :=
  K x0 x1 x2 x3 x15 x10 x14

theorem slices_pdqsortOrdered_r21_ok (F : Nat) (rec : Value → Value → Value → Value → M Value) (x0 x1 x2 x3 x10 x14 x15 : Value) (K : Value → Value → Value → Value → Value → Value → Value → M Value) : slices_pdqsortOrdered_r21 F rec x0 x1 x2 x3 x10 x14 x15 K = slices_pdqsortOrdered_R F rec 21 [(15, x15), (14, x14), (10, x10), (3, x3), (2, x2), (1, x1), (0, x0)] [0, 1, 2, 3, 9, 10, 14] K := by kernel_rfl

def slices_pdqsortOrdered_r20 (F : Nat) (rec : Value → Value → Value → Value → M Value) (x0 x1 x2 x3 x10 x11 : Value) (K : Value → Value → Value → Value → Value → Value → Value → M Value) : M Value :=
  bnd (slices_partitionOrdered F x0 x1 x2 x11) fun v99 => bnd (opExtract v99 0) fun v100 => bnd (opExtract v99 1) fun v101 => K x0 x1 x2 x3 x10 v100 v101

theorem slices_pdqsortOrdered_r20_ok (F : Nat) (rec : Value → Value → Value → Value → M Value) (x0 x1 x2 x3 x10 x11 : Value) (K : Value → Value → Value → Value → Value → Value → Value → M Value) : slices_pdqsortOrdered_r20 F rec x0 x1 x2 x3 x10 x11 K = slices_pdqsortOrdered_R F rec 20 [(11, x11), (10, x10), (3, x3), (2, x2), (1, x1), (0, x0)] [0, 1, 2, 3, 10, 14, 15] K := by kernel_rfl

def slices_pdqsortOrdered_r19 (F : Nat) (rec : Value → Value → Value → Value → M Value) (x0 x2 x3 x8 x9 x13 : Value) (K : Value → Value → Value → Value → Value → Value → M Value) : M Value :=
  K x0 x13 x2 x3 x8 x9

theorem slices_pdqsortOrdered_r19_ok (F : Nat) (rec : Value → Value → Value → Value → M Value) (x0 x2 x3 x8 x9 x13 : Value) (K : Value → Value → Value → Value → Value → Value → M Value) : slices_pdqsortOrdered_r19 F rec x0 x2 x3 x8 x9 x13 K = slices_pdqsortOrdered_R F rec 19 [(13, x13), (9, x9), (8, x8), (3, x3), (2, x2), (0, x0)] [0, 1, 2, 3, 8, 9] K := by kernel_rfl

def slices_pdqsortOrdered_r18 (F : Nat) (rec : Value → Value → Value → Value → M Value) (x0 x1 x2 x3 x8 x9 x11 : Value) (K : Value → Value → Value → Value → Value → Value → M Value) : M Value :=
  bnd (slices_partitionEqualOrdered F x0 x1 x2 x11) fun v92 => K x0 x2 x3 x8 x9 v92

theorem slices_pdqsortOrdered_r18_ok (F : Nat) (rec : Value → Value → Value → Value → M Value) (x0 x1 x2 x3 x8 x9 x11 : Value) (K : Value → Value → Value → Value → Value → Value → M Value) : slices_pdqsortOrdered_r18 F rec x0 x1 x2 x3 x8 x9 x11 K = slices_pdqsortOrdered_R F rec 18 [(11, x11), (9, x9), (8, x8), (3, x3), (2, x2), (1, x1), (0, x0)] [0, 2, 3, 8, 9, 13] K := by kernel_rfl

def slices_pdqsortOrdered_r17 (F : Nat) (rec : Value → Value → Value → Value → M Value) (x0 x1 x2 x3 x8 x9 x10 x11 : Value) (K : Value → Value → Value → Value → Value → Value → Value → Value → Value → M Value) : M Value :=
  bnd (opBin .gtr x1 (.int .i64 (0))) fun v74 => onB v74 (bnd (opBin .sub x1 (.int .i64 (1))) fun v78 => bnd (opIndexAddr 1 x0 v78) fun v79 => bnd (opLoad v79) fun v80 => bnd (opIndexAddr 1 x0 x11) fun v83 => bnd (opLoad v83) fun v84 => bnd (cmp_Less F v80 v84) fun v85 => bnd (opNot v85) fun v86 => K x0 x1 x2 x3 x8 x9 x10 x11 v86) (K x0 x1 x2 x3 x8 x9 x10 x11 (.bool false))

theorem slices_pdqsortOrdered_r17_ok (F : Nat) (rec : Value → Value → Value → Value → M Value) (x0 x1 x2 x3 x8 x9 x10 x11 : Value) (K : Value → Value → Value → Value → Value → Value → Value → Value → Value → M Value) : slices_pdqsortOrdered_r17 F rec x0 x1 x2 x3 x8 x9 x10 x11 K = slices_pdqsortOrdered_D F rec 17 [0, 1, 2, 3, 4, 5, 6, 7, 8, 9, 10, 11, 12, 13, 14] [(11, x11), (10, x10), (9, x9), (8, x8), (3, x3), (2, x2), (1, x1), (0, x0)] [0, 1, 2, 3, 8, 9, 10, 11, 87] K := by kernel_rfl

theorem slices_pdqsortOrdered_r17_good : goodOrder (opsOf Try.f53 17) [0, 1, 2, 3, 4, 5, 6, 7, 8, 9, 10, 11, 12, 13, 14] = true := by kernel_rfl

def slices_pdqsortOrdered_k1 (F : Nat) (A0 : Value → Value → Value → Value → Value → Value → M Value) (rec : Value → Value → Value → Value → M Value) (x0 x1 x2 x3 x8 x9 x10 x11 : Value) : M Value :=
  slices_pdqsortOrdered_r17 F rec x0 x1 x2 x3 x8 x9 x10 x11 (fun x0 x1 x2 x3 x8 x9 x10 x11 x87 => onB x87 (slices_pdqsortOrdered_r18 F rec x0 x1 x2 x3 x8 x9 x11 (fun x0 x2 x3 x8 x9 x13 => slices_pdqsortOrdered_r19 F rec x0 x2 x3 x8 x9 x13 (fun x0 x1 x2 x3 x8 x9 => A0 x0 x1 x2 x3 x8 x9))) (slices_pdqsortOrdered_r20 F rec x0 x1 x2 x3 x10 x11 (fun x0 x1 x2 x3 x10 x14 x15 => slices_pdqsortOrdered_r21 F rec x0 x1 x2 x3 x10 x14 x15 (fun x0 x1 x2 x3 x9 x10 x14 => slices_pdqsortOrdered_r22 F rec x0 x1 x2 x3 x9 x10 x14 (fun x0 x1 x2 x3 x9 x10 x14 x16 x17 => slices_pdqsortOrdered_r23 F rec x0 x1 x2 x3 x9 x10 x14 x16 x17 (fun x0 x1 x2 x3 x9 x14 x16 x17 x18 => slices_pdqsortOrdered_r24 F rec x0 x1 x2 x3 x9 x14 x16 x17 x18 (fun x0 x1 x2 x3 x9 x14 x16 x17 x18 x113 => onB x113 (slices_pdqsortOrdered_r25 F rec x0 x1 x2 x3 x9 x14 x16 x18 (fun x0 x1 x2 x3 x8 x9 x14 => slices_pdqsortOrdered_r26 F rec x0 x1 x2 x3 x8 x9 x14 (fun x0 x2 x3 x8 x9 x14 => slices_pdqsortOrdered_r27 F rec x0 x2 x3 x8 x9 x14 (fun x0 x1 x2 x3 x8 x9 => A0 x0 x1 x2 x3 x8 x9)))) (slices_pdqsortOrdered_r28 F rec x0 x1 x2 x3 x9 x14 x17 x18 (fun x0 x1 x2 x3 x8 x9 x14 => slices_pdqsortOrdered_r29 F rec x0 x1 x2 x3 x8 x9 x14 (fun x0 x1 x3 x8 x9 x14 => slices_pdqsortOrdered_r30 F rec x0 x1 x3 x8 x9 x14 (fun x0 x1 x2 x3 x8 x9 => A0 x0 x1 x2 x3 x8 x9)))))))))))

def slices_pdqsortOrdered_r16 (F : Nat) (rec : Value → Value → Value → Value → M Value) (x0 x1 x2 x3 x8 x9 x10 x11 : Value) (K : Value → Value → Value → Value → Value → Value → Value → Value → Value → M Value) : M Value :=
  bnd (slices_partialInsertionSortOrdered F x0 x1 x2) fun v72 => K x0 x1 x2 x3 x8 x9 x10 x11 v72

theorem slices_pdqsortOrdered_r16_ok (F : Nat) (rec : Value → Value → Value → Value → M Value) (x0 x1 x2 x3 x8 x9 x10 x11 : Value) (K : Value → Value → Value → Value → Value → Value → Value → Value → Value → M Value) : slices_pdqsortOrdered_r16 F rec x0 x1 x2 x3 x8 x9 x10 x11 K = slices_pdqsortOrdered_R F rec 16 [(11, x11), (10, x10), (9, x9), (8, x8), (3, x3), (2, x2), (1, x1), (0, x0)] [0, 1, 2, 3, 8, 9, 10, 11, 72] K := by kernel_rfl

def slices_pdqsortOrdered_r15 (F : Nat) (rec : Value → Value → Value → Value → M Value) (x0 x1 x2 x3 x8 x9 x10 x11 x12 : Value) (K : Value → Value → Value → Value → Value → Value → Value → Value → Value → M Value) : M Value :=
  onB x8 (onB x9 (bnd (opBin .eql x12 (.int .i64 (1))) fun v67 => K x0 x1 x2 x3 x8 x9 x10 x11 v67) (K x0 x1 x2 x3 x8 x9 x10 x11 (.bool false))) (K x0 x1 x2 x3 x8 x9 x10 x11 (.bool false))

theorem slices_pdqsortOrdered_r15_ok (F : Nat) (rec : Value → Value → Value → Value → M Value) (x0 x1 x2 x3 x8 x9 x10 x11 x12 : Value) (K : Value → Value → Value → Value → Value → Value → Value → Value → Value → M Value) : slices_pdqsortOrdered_r15 F rec x0 x1 x2 x3 x8 x9 x10 x11 x12 K = slices_pdqsortOrdered_R F rec 15 [(12, x12), (11, x11), (10, x10), (9, x9), (8, x8), (3, x3), (2, x2), (1, x1), (0, x0)] [0, 1, 2, 3, 8, 9, 10, 11, 68] K := by kernel_rfl

def slices_pdqsortOrdered_k2 (F : Nat) (A0 : Value → Value → Value → Value → Value → Value → M Value) (rec : Value → Value → Value → Value → M Value) (x0 x1 x2 x3 x8 x9 x10 x11 x12 : Value) : M Value :=
  slices_pdqsortOrdered_r15 F rec x0 x1 x2 x3 x8 x9 x10 x11 x12 (fun x0 x1 x2 x3 x8 x9 x10 x11 x68 => onB x68 (slices_pdqsortOrdered_r16 F rec x0 x1 x2 x3 x8 x9 x10 x11 (fun x0 x1 x2 x3 x8 x9 x10 x11 x72 => onB x72 (tupK []) (slices_pdqsortOrdered_k1 F A0 rec x0 x1 x2 x3 x8 x9 x10 x11))) (slices_pdqsortOrdered_k1 F A0 rec x0 x1 x2 x3 x8 x9 x10 x11))

def slices_pdqsortOrdered_r14 (F : Nat) (rec : Value → Value → Value → Value → M Value) (x0 x1 x2 x3 x8 x9 x10 x11 : Value) (K : Value → Value → Value → Value → Value → Value → Value → Value → Value → M Value) : M Value :=
  K x0 x1 x2 x3 x8 x9 x10 x11 (.int .i64 (1))

theorem slices_pdqsortOrdered_r14_ok (F : Nat) (rec : Value → Value → Value → Value → M Value) (x0 x1 x2 x3 x8 x9 x10 x11 : Value) (K : Value → Value → Value → Value → Value → Value → Value → Value → Value → M Value) : slices_pdqsortOrdered_r14 F rec x0 x1 x2 x3 x8 x9 x10 x11 K = slices_pdqsortOrdered_R F rec 14 [(11, x11), (10, x10), (9, x9), (8, x8), (3, x3), (2, x2), (1, x1), (0, x0)] [0, 1, 2, 3, 8, 9, 10, 11, 12] K := by kernel_rfl

def slices_pdqsortOrdered_r13 (F : Nat) (rec : Value → Value → Value → Value → M Value) (x0 x1 x2 x3 x8 x9 x10 x11 : Value) (K : Value → Value → Value → Value → Value → Value → Value → Value → M Value) : M Value :=
  bnd (opBin .sub x2 (.int .i64 (1))) fun v56 => bnd (opBin .sub x11 x1) fun v59 => bnd (opBin .sub v56 v59) fun v60 => K x0 x1 x2 x3 x8 x9 x10 v60

theorem slices_pdqsortOrdered_r13_ok (F : Nat) (rec : Value → Value → Value → Value → M Value) (x0 x1 x2 x3 x8 x9 x10 x11 : Value) (K : Value → Value → Value → Value → Value → Value → Value → Value → M Value) : slices_pdqsortOrdered_r13 F rec x0 x1 x2 x3 x8 x9 x10 x11 K = slices_pdqsortOrdered_R F rec 13 [(11, x11), (10, x10), (9, x9), (8, x8), (3, x3), (2, x2), (1, x1), (0, x0)] [0, 1, 2, 3, 8, 9, 10, 11] K := by kernel_rfl

def slices_pdqsortOrdered_r12 (F : Nat) (rec : Value → Value → Value → Value → M Value) (x0 x1 x2 x3 x8 x9 x10 x11 : Value) (K : Value → Value → Value → Value → Value → Value → Value → Value → M Value) : M Value :=
  bnd (slices_reverseRangeOrdered F x0 x1 x2) fun v54 => K x0 x1 x2 x3 x8 x9 x10 x11

theorem slices_pdqsortOrdered_r12_ok (F : Nat) (rec : Value → Value → Value → Value → M Value) (x0 x1 x2 x3 x8 x9 x10 x11 : Value) (K : Value → Value → Value → Value → Value → Value → Value → Value → M Value) : slices_pdqsortOrdered_r12 F rec x0 x1 x2 x3 x8 x9 x10 x11 K = slices_pdqsortOrdered_R F rec 12 [(11, x11), (10, x10), (9, x9), (8, x8), (3, x3), (2, x2), (1, x1), (0, x0)] [0, 1, 2, 3, 8, 9, 10, 11] K := by kernel_rfl

def slices_pdqsortOrdered_r11 (F : Nat) (rec : Value → Value → Value → Value → M Value) (x0 x1 x2 x3 x8 x9 x10 x11 x12 : Value) (K : Value → Value → Value → Value → Value → Value → Value → Value → Value → Value → M Value) : M Value :=
  bnd (opBin .eql x12 (.int .i64 (2))) fun v50 => K x0 x1 x2 x3 x8 x9 x10 x11 x12 v50

theorem slices_pdqsortOrdered_r11_ok (F : Nat) (rec : Value → Value → Value → Value → M Value) (x0 x1 x2 x3 x8 x9 x10 x11 x12 : Value) (K : Value → Value → Value → Value → Value → Value → Value → Value → Value → Value → M Value) : slices_pdqsortOrdered_r11 F rec x0 x1 x2 x3 x8 x9 x10 x11 x12 K = slices_pdqsortOrdered_R F rec 11 [(12, x12), (11, x11), (10, x10), (9, x9), (8, x8), (3, x3), (2, x2), (1, x1), (0, x0)] [0, 1, 2, 3, 8, 9, 10, 11, 12, 50] K := by kernel_rfl

def slices_pdqsortOrdered_r10 (F : Nat) (rec : Value → Value → Value → Value → M Value) (x0 x1 x2 x3 x8 x9 x10 : Value) (K : Value → Value → Value → Value → Value → Value → Value → Value → Value → M Value) : M Value :=
  bnd (slices_choosePivotOrdered F x0 x1 x2) fun v46 => bnd (opExtract v46 0) fun v47 => bnd (opExtract v46 1) fun v48 => K x0 x1 x2 x3 x8 x9 x10 v47 v48

theorem slices_pdqsortOrdered_r10_ok (F : Nat) (rec : Value → Value → Value → Value → M Value) (x0 x1 x2 x3 x8 x9 x10 : Value) (K : Value → Value → Value → Value → Value → Value → Value → Value → Value → M Value) : slices_pdqsortOrdered_r10 F rec x0 x1 x2 x3 x8 x9 x10 K = slices_pdqsortOrdered_R F rec 10 [(10, x10), (9, x9), (8, x8), (3, x3), (2, x2), (1, x1), (0, x0)] [0, 1, 2, 3, 8, 9, 10, 11, 12] K := by kernel_rfl

def slices_pdqsortOrdered_k3 (F : Nat) (A0 : Value → Value → Value → Value → Value → Value → M Value) (rec : Value → Value → Value → Value → M Value) (x0 x1 x2 x3 x8 x9 x10 : Value) : M Value :=
  slices_pdqsortOrdered_r10 F rec x0 x1 x2 x3 x8 x9 x10 (fun x0 x1 x2 x3 x8 x9 x10 x11 x12 => slices_pdqsortOrdered_r11 F rec x0 x1 x2 x3 x8 x9 x10 x11 x12 (fun x0 x1 x2 x3 x8 x9 x10 x11 x12 x50 => onB x50 (slices_pdqsortOrdered_r12 F rec x0 x1 x2 x3 x8 x9 x10 x11 (fun x0 x1 x2 x3 x8 x9 x10 x11 => slices_pdqsortOrdered_r13 F rec x0 x1 x2 x3 x8 x9 x10 x11 (fun x0 x1 x2 x3 x8 x9 x10 x11 => slices_pdqsortOrdered_r14 F rec x0 x1 x2 x3 x8 x9 x10 x11 (fun x0 x1 x2 x3 x8 x9 x10 x11 x12 => slices_pdqsortOrdered_k2 F A0 rec x0 x1 x2 x3 x8 x9 x10 x11 x12)))) (slices_pdqsortOrdered_k2 F A0 rec x0 x1 x2 x3 x8 x9 x10 x11 x12)))

def slices_pdqsortOrdered_r9 (F : Nat) (rec : Value → Value → Value → Value → M Value) (x0 x1 x2 x3 x8 x9 x10 : Value) (K : Value → Value → Value → Value → Value → Value → Value → M Value) : M Value :=
  bnd (opBin .sub x3 (.int .i64 (1))) fun v41 => K x0 x1 x2 v41 x8 x9 x10

theorem slices_pdqsortOrdered_r9_ok (F : Nat) (rec : Value → Value → Value → Value → M Value) (x0 x1 x2 x3 x8 x9 x10 : Value) (K : Value → Value → Value → Value → Value → Value → Value → M Value) : slices_pdqsortOrdered_r9 F rec x0 x1 x2 x3 x8 x9 x10 K = slices_pdqsortOrdered_R F rec 9 [(10, x10), (9, x9), (8, x8), (3, x3), (2, x2), (1, x1), (0, x0)] [0, 1, 2, 3, 8, 9, 10] K := by kernel_rfl

def slices_pdqsortOrdered_r8 (F : Nat) (rec : Value → Value → Value → Value → M Value) (x0 x1 x2 x3 x8 x9 x10 : Value) (K : Value → Value → Value → Value → Value → Value → Value → M Value) : M Value :=
  bnd (slices_breakPatternsOrdered F x0 x1 x2) fun v39 => K x0 x1 x2 x3 x8 x9 x10

theorem slices_pdqsortOrdered_r8_ok (F : Nat) (rec : Value → Value → Value → Value → M Value) (x0 x1 x2 x3 x8 x9 x10 : Value) (K : Value → Value → Value → Value → Value → Value → Value → M Value) : slices_pdqsortOrdered_r8 F rec x0 x1 x2 x3 x8 x9 x10 K = slices_pdqsortOrdered_R F rec 8 [(10, x10), (9, x9), (8, x8), (3, x3), (2, x2), (1, x1), (0, x0)] [0, 1, 2, 3, 8, 9, 10] K := by kernel_rfl

def slices_pdqsortOrdered_r7 (F : Nat) (rec : Value → Value → Value → Value → M Value) (x0 x1 x2 x3 x8 x9 x10 : Value) (K : Value → Value → Value → Value → Value → Value → Value → Value → M Value) : M Value :=
  bnd (opNot x8) fun v35 => K x0 x1 x2 x3 x8 x9 x10 v35

theorem slices_pdqsortOrdered_r7_ok (F : Nat) (rec : Value → Value → Value → Value → M Value) (x0 x1 x2 x3 x8 x9 x10 : Value) (K : Value → Value → Value → Value → Value → Value → Value → Value → M Value) : slices_pdqsortOrdered_r7 F rec x0 x1 x2 x3 x8 x9 x10 K = slices_pdqsortOrdered_R F rec 7 [(10, x10), (9, x9), (8, x8), (3, x3), (2, x2), (1, x1), (0, x0)] [0, 1, 2, 3, 8, 9, 10, 35] K := by kernel_rfl

def slices_pdqsortOrdered_r6 (F : Nat) (rec : Value → Value → Value → Value → M Value) (x0 x1 x2 : Value) (K : M Value) : M Value :=
  bnd (slices_heapSortOrdered F x0 x1 x2) fun v33 => K

theorem slices_pdqsortOrdered_r6_ok (F : Nat) (rec : Value → Value → Value → Value → M Value) (x0 x1 x2 : Value) (K : M Value) : slices_pdqsortOrdered_r6 F rec x0 x1 x2 K = slices_pdqsortOrdered_R F rec 6 [(2, x2), (1, x1), (0, x0)] [] K := by kernel_rfl

def slices_pdqsortOrdered_r5 (F : Nat) (rec : Value → Value → Value → Value → M Value) (x0 x1 x2 x3 x8 x9 x10 : Value) (K : Value → Value → Value → Value → Value → Value → Value → Value → M Value) : M Value :=
  bnd (opBin .eql x3 (.int .i64 (0))) fun v29 => K x0 x1 x2 x3 x8 x9 x10 v29

theorem slices_pdqsortOrdered_r5_ok (F : Nat) (rec : Value → Value → Value → Value → M Value) (x0 x1 x2 x3 x8 x9 x10 : Value) (K : Value → Value → Value → Value → Value → Value → Value → Value → M Value) : slices_pdqsortOrdered_r5 F rec x0 x1 x2 x3 x8 x9 x10 K = slices_pdqsortOrdered_R F rec 5 [(10, x10), (9, x9), (8, x8), (3, x3), (2, x2), (1, x1), (0, x0)] [0, 1, 2, 3, 8, 9, 10, 29] K := by kernel_rfl

def slices_pdqsortOrdered_r4 (F : Nat) (rec : Value → Value → Value → Value → M Value) (x0 x1 x2 : Value) (K : M Value) : M Value :=
  bnd (slices_insertionSortOrdered F x0 x1 x2) fun v27 => K

theorem slices_pdqsortOrdered_r4_ok (F : Nat) (rec : Value → Value → Value → Value → M Value) (x0 x1 x2 : Value) (K : M Value) : slices_pdqsortOrdered_r4 F rec x0 x1 x2 K = slices_pdqsortOrdered_R F rec 4 [(2, x2), (1, x1), (0, x0)] [] K := by kernel_rfl

def slices_pdqsortOrdered_r3 (F : Nat) (rec : Value → Value → Value → Value → M Value) (x0 x1 x2 x3 x8 x9 x10 : Value) (K : Value → Value → Value → Value → Value → Value → Value → Value → M Value) : M Value :=
  bnd (opBin .leq x10 (.int .i64 (12))) fun v23 => K x0 x1 x2 x3 x8 x9 x10 v23

theorem slices_pdqsortOrdered_r3_ok (F : Nat) (rec : Value → Value → Value → Value → M Value) (x0 x1 x2 x3 x8 x9 x10 : Value) (K : Value → Value → Value → Value → Value → Value → Value → Value → M Value) : slices_pdqsortOrdered_r3 F rec x0 x1 x2 x3 x8 x9 x10 K = slices_pdqsortOrdered_R F rec 3 [(10, x10), (9, x9), (8, x8), (3, x3), (2, x2), (1, x1), (0, x0)] [0, 1, 2, 3, 8, 9, 10, 23] K := by kernel_rfl

def slices_pdqsortOrdered_r2 (F : Nat) (rec : Value → Value → Value → Value → M Value) (x0 x1 x2 x3 x8 x9 : Value) (K : Value → Value → Value → Value → Value → Value → Value → M Value) : M Value :=
  bnd (opBin .sub x2 x1) fun v21 => K x0 x1 x2 x3 x8 x9 v21

theorem slices_pdqsortOrdered_r2_ok (F : Nat) (rec : Value → Value → Value → Value → M Value) (x0 x1 x2 x3 x8 x9 : Value) (K : Value → Value → Value → Value → Value → Value → Value → M Value) : slices_pdqsortOrdered_r2 F rec x0 x1 x2 x3 x8 x9 K = slices_pdqsortOrdered_R F rec 2 [(9, x9), (8, x8), (3, x3), (2, x2), (1, x1), (0, x0)] [0, 1, 2, 3, 8, 9, 10] K := by kernel_rfl

def slices_pdqsortOrdered_b0 (F : Nat) (rec : Value → Value → Value → Value → M Value) (A0 : Value → Value → Value → Value → Value → Value → M Value) (x0 x1 x2 x3 x8 x9 : Value) : M Value :=
  slices_pdqsortOrdered_r2 F rec x0 x1 x2 x3 x8 x9 (fun x0 x1 x2 x3 x8 x9 x10 => slices_pdqsortOrdered_r3 F rec x0 x1 x2 x3 x8 x9 x10 (fun x0 x1 x2 x3 x8 x9 x10 x23 => onB x23 (slices_pdqsortOrdered_r4 F rec x0 x1 x2 (tupK [])) (slices_pdqsortOrdered_r5 F rec x0 x1 x2 x3 x8 x9 x10 (fun x0 x1 x2 x3 x8 x9 x10 x29 => onB x29 (slices_pdqsortOrdered_r6 F rec x0 x1 x2 (tupK [])) (slices_pdqsortOrdered_r7 F rec x0 x1 x2 x3 x8 x9 x10 (fun x0 x1 x2 x3 x8 x9 x10 x35 => onB x35 (slices_pdqsortOrdered_r8 F rec x0 x1 x2 x3 x8 x9 x10 (fun x0 x1 x2 x3 x8 x9 x10 => slices_pdqsortOrdered_r9 F rec x0 x1 x2 x3 x8 x9 x10 (fun x0 x1 x2 x3 x8 x9 x10 => slices_pdqsortOrdered_k3 F A0 rec x0 x1 x2 x3 x8 x9 x10))) (slices_pdqsortOrdered_k3 F A0 rec x0 x1 x2 x3 x8 x9 x10)))))))

def slices_pdqsortOrdered_l0 (F : Nat) (rec : Value → Value → Value → Value → M Value) : Nat → Value → Value → Value → Value → Value → Value → M Value
  | 0, _, _, _, _, _, _ => fail
  | k0 + 1, x0, x1, x2, x3, x8, x9 => slices_pdqsortOrdered_b0 F rec (slices_pdqsortOrdered_l0 F rec k0) x0 x1 x2 x3 x8 x9

theorem slices_pdqsortOrdered_l0_s (F : Nat) (rec : Value → Value → Value → Value → M Value) (k0 : Nat) (x0 x1 x2 x3 x8 x9 : Value) : slices_pdqsortOrdered_l0 F rec (k0 + 1) x0 x1 x2 x3 x8 x9 = slices_pdqsortOrdered_b0 F rec (slices_pdqsortOrdered_l0 F rec k0) x0 x1 x2 x3 x8 x9 := rfl

def slices_pdqsortOrdered_r1 (F : Nat) (rec : Value → Value → Value → Value → M Value) (x0 x1 x2 x3 x8 : Value) (K : Value → Value → Value → Value → Value → Value → M Value) : M Value :=
  K x0 x1 x2 x3 x8 (.bool true)

theorem slices_pdqsortOrdered_r1_ok (F : Nat) (rec : Value → Value → Value → Value → M Value) (x0 x1 x2 x3 x8 : Value) (K : Value → Value → Value → Value → Value → Value → M Value) : slices_pdqsortOrdered_r1 F rec x0 x1 x2 x3 x8 K = slices_pdqsortOrdered_R F rec 1 [(8, x8), (3, x3), (2, x2), (1, x1), (0, x0)] [0, 1, 2, 3, 8, 9] K := by kernel_rfl

def slices_pdqsortOrdered_r0 (F : Nat) (rec : Value → Value → Value → Value → M Value) (x0 x1 x2 x3 : Value) (K : Value → Value → Value → Value → Value → M Value) : M Value :=
  K x0 x1 x2 x3 (.bool true)

theorem slices_pdqsortOrdered_r0_ok (F : Nat) (rec : Value → Value → Value → Value → M Value) (x0 x1 x2 x3 : Value) (K : Value → Value → Value → Value → Value → M Value) : slices_pdqsortOrdered_r0 F rec x0 x1 x2 x3 K = slices_pdqsortOrdered_R F rec 0 [(3, x3), (2, x2), (1, x1), (0, x0)] [0, 1, 2, 3, 8] K := by kernel_rfl

def slices_pdqsortOrdered_s (F : Nat) (rec : Value → Value → Value → Value → M Value) (x0 x1 x2 x3 : Value) : M Value :=
  slices_pdqsortOrdered_r0 F rec x0 x1 x2 x3 (fun x0 x1 x2 x3 x8 => slices_pdqsortOrdered_r1 F rec x0 x1 x2 x3 x8 (fun x0 x1 x2 x3 x8 x9 => slices_pdqsortOrdered_l0 F rec F x0 x1 x2 x3 x8 x9))

def slices_pdqsortOrdered (F : Nat) : Nat → Value → Value → Value → Value → M Value
  | 0, _, _, _, _ => fail
  | k + 1, x0, x1, x2, x3 => slices_pdqsortOrdered_s F (slices_pdqsortOrdered F k) x0 x1 x2 x3

def slices_pdqsortOrdered_m (F k : Nat) : List Value → M Value := slices_pdqsortOrdered_a (slices_pdqsortOrdered F k)

theorem slices_pdqsortOrdered_body : Try.f53.body = some (.seq (.region 0 (opsOf Try.f53 0) false) (.seq (.region 1 (opsOf Try.f53 1) false) (.block 0 (.loop (.block 1 (.seq (.region 2 (opsOf Try.f53 2) false) (.seq (.seq (.region 3 (opsOf Try.f53 3) false) (.cond (.tmp 23) (.seq (.region 4 (opsOf Try.f53 4) false) .ret) .skip)) (.seq (.seq (.region 5 (opsOf Try.f53 5) false) (.cond (.tmp 29) (.seq (.region 6 (opsOf Try.f53 6) false) .ret) .skip)) (.seq (.seq (.region 7 (opsOf Try.f53 7) false) (.cond (.tmp 35) (.seq (.region 8 (opsOf Try.f53 8) false) (.region 9 (opsOf Try.f53 9) false)) .skip)) (.seq (.region 10 (opsOf Try.f53 10) false) (.seq (.seq (.region 11 (opsOf Try.f53 11) false) (.cond (.tmp 50) (.seq (.region 12 (opsOf Try.f53 12) false) (.seq (.region 13 (opsOf Try.f53 13) false) (.region 14 (opsOf Try.f53 14) false))) .skip)) (.seq (.seq (.region 15 (opsOf Try.f53 15) false) (.cond (.tmp 68) (.seq (.region 16 (opsOf Try.f53 16) false) (.cond (.tmp 72) .ret .skip)) .skip)) (.seq (.seq (.region 17 (opsOf Try.f53 17) true) (.cond (.tmp 87) (.seq (.region 18 (opsOf Try.f53 18) false) (.seq (.region 19 (opsOf Try.f53 19) false) (.exit 1))) .skip)) (.seq (.region 20 (opsOf Try.f53 20) false) (.seq (.region 21 (opsOf Try.f53 21) false) (.seq (.region 22 (opsOf Try.f53 22) false) (.seq (.region 23 (opsOf Try.f53 23) false) (.seq (.region 24 (opsOf Try.f53 24) false) (.cond (.tmp 113) (.seq (.region 25 (opsOf Try.f53 25) false) (.seq (.region 26 (opsOf Try.f53 26) false) (.region 27 (opsOf Try.f53 27) false))) (.seq (.region 28 (opsOf Try.f53 28) false) (.seq (.region 29 (opsOf Try.f53 29) false) (.region 30 (opsOf Try.f53 30) false)))))))))))))))))))))) := by kernel_rfl

theorem slices_pdqsortOrdered_ok (F : Nat) : ∀ k, Sim Try.prog TryG 53 (slices_pdqsortOrdered_m F k)
  | 0 => Sim.of_fail Try.call53 (by intro args; unfold slices_pdqsortOrdered_m slices_pdqsortOrdered_a; split <;> rfl)
  | k + 1 => by
    have ih := slices_pdqsortOrdered_ok F k
    have hE : EnvOK Try.prog TryG (slices_pdqsortOrdered_env F (slices_pdqsortOrdered F k) ) := (EnvOK.cons ih (EnvOK.cons (slices_insertionSortOrdered_ok F) (EnvOK.cons (slices_heapSortOrdered_ok F) (EnvOK.cons (slices_breakPatternsOrdered_ok F) (EnvOK.cons (slices_choosePivotOrdered_ok F) (EnvOK.cons (slices_reverseRangeOrdered_ok F) (EnvOK.cons (slices_partialInsertionSortOrdered_ok F) (EnvOK.cons (cmp_Less_ok F) (EnvOK.cons (slices_partitionEqualOrdered_ok F) (EnvOK.cons (slices_partitionOrdered_ok F) EnvOK.nil))))))))))
    refine Sim.of_body (E := slices_pdqsortOrdered_env F (slices_pdqsortOrdered F k) ) Try.func53 slices_pdqsortOrdered_body Try.call53 ?_ ?_
    · intro args hl; unfold slices_pdqsortOrdered_m slices_pdqsortOrdered_a; split
      · exact absurd hl (Nat.not_lt.2 (Nat.le_of_ble_eq_true rfl))
      · rfl
    · intro args ρ h w z; unfold slices_pdqsortOrdered_m slices_pdqsortOrdered_a; split
      · rename_i x0 x1 x2 x3; show OKc _ _ [(0, x0), (1, x1), (2, x2), (3, x3)] (slices_pdqsortOrdered_s F (slices_pdqsortOrdered F k) x0 x1 x2 x3) _
        refine rSeq ?_
        refine cLess [3, 2, 1, 0] ?_
        refine xR hE [0, 1, 2, 3, 8] rfl (slices_pdqsortOrdered_r0_ok F _ _ _ _ _ _) ?_
        intro x0 x1 x2 x3 x8
        show OKq _ _ _ [(8, x8), (3, x3), (2, x2), (1, x1), (0, x0)] _
        refine rThen ?_
        refine rSeq ?_
        refine cLess [8, 3, 2, 1, 0] ?_
        refine xR hE [0, 1, 2, 3, 8, 9] rfl (slices_pdqsortOrdered_r1_ok F _ _ _ _ _ _ _) ?_
        intro x0 x1 x2 x3 x8 x9
        show OKq _ _ _ [(9, x9), (8, x8), (3, x3), (2, x2), (1, x1), (0, x0)] _
        refine rThen ?_
        refine rBlock ?_
        refine cLess [9, 8, 3, 2, 1, 0] ?_
        refine xLoopAt [0, 1, 2, 3, 8, 9] [] (fun k0 => slices_pdqsortOrdered_l0 F (slices_pdqsortOrdered F k) k0) F [x0, x1, x2, x3, x8, x9] rfl rfl (fun _ _ _ _ _ _ => rfl) fun I hI0 k0 => ?_
        intro x0 x1 x2 x3 x8 x9
        show OKc _ _ [(9, x9), (8, x8), (3, x3), (2, x2), (1, x1), (0, x0)] _ _
        refine cAs (slices_pdqsortOrdered_l0_s F _ _ _ _ _ _ _ _) ?_
        refine rBlock ?_
        refine rSeq ?_
        refine cLess [9, 8, 3, 2, 1, 0] ?_
        refine xR hE [0, 1, 2, 3, 8, 9, 10] rfl (slices_pdqsortOrdered_r2_ok F _ _ _ _ _ _ _ _) ?_
        intro x0 x1 x2 x3 x8 x9 x10
        show OKq _ _ _ [(10, x10), (9, x9), (8, x8), (3, x3), (2, x2), (1, x1), (0, x0)] _
        refine rThen ?_
        refine rSeq ?_
        refine rSeq ?_
        refine cLess [10, 9, 8, 3, 2, 1, 0] ?_
        refine xR hE [0, 1, 2, 3, 8, 9, 10, 23] rfl (slices_pdqsortOrdered_r3_ok F _ _ _ _ _ _ _ _ _) ?_
        intro x0 x1 x2 x3 x8 x9 x10 x23
        show OKq _ _ _ [(23, x23), (10, x10), (9, x9), (8, x8), (3, x3), (2, x2), (1, x1), (0, x0)] _
        refine rThen ?_
        refine xCond rfl rfl ?_ ?_
        · refine rSeq ?_
          refine cLess [2, 1, 0] ?_
          refine xR hE [] rfl (slices_pdqsortOrdered_r4_ok F _ _ _ _ _) ?_
          show OKq _ _ _ [] _
          refine rThen ?_
          refine rRet ?_
          refine xThenR ?_
          refine xBlockR ?_
          refine xThenR ?_
          refine xBlockR ?_
          exact rDone (.inr rfl) rfl
        · refine rSkip ?_
          refine rThen ?_
          refine rSeq ?_
          refine rSeq ?_
          refine cLess [10, 9, 8, 3, 2, 1, 0] ?_
          refine xR hE [0, 1, 2, 3, 8, 9, 10, 29] rfl (slices_pdqsortOrdered_r5_ok F _ _ _ _ _ _ _ _ _) ?_
          intro x0 x1 x2 x3 x8 x9 x10 x29
          show OKq _ _ _ [(29, x29), (10, x10), (9, x9), (8, x8), (3, x3), (2, x2), (1, x1), (0, x0)] _
          refine rThen ?_
          refine xCond rfl rfl ?_ ?_
          · refine rSeq ?_
            refine cLess [2, 1, 0] ?_
            refine xR hE [] rfl (slices_pdqsortOrdered_r6_ok F _ _ _ _ _) ?_
            show OKq _ _ _ [] _
            refine rThen ?_
            refine rRet ?_
            refine xThenR ?_
            refine xBlockR ?_
            refine xThenR ?_
            refine xBlockR ?_
            exact rDone (.inr rfl) rfl
          · refine rSkip ?_
            refine rThen ?_
            refine xSeq [0, 1, 2, 3, 8, 9, 10] (slices_pdqsortOrdered_k3 F (slices_pdqsortOrdered_l0 F (slices_pdqsortOrdered F k) k0) (slices_pdqsortOrdered F k) ) ?_ fun hj3 => ?_
            · intro x0 x1 x2 x3 x8 x9 x10
              show OKc _ _ [(10, x10), (9, x9), (8, x8), (3, x3), (2, x2), (1, x1), (0, x0)] _ _
              refine rSeq ?_
              refine cLess [10, 9, 8, 3, 2, 1, 0] ?_
              refine xR hE [0, 1, 2, 3, 8, 9, 10, 11, 12] rfl (slices_pdqsortOrdered_r10_ok F _ _ _ _ _ _ _ _ _) ?_
              intro x0 x1 x2 x3 x8 x9 x10 x11 x12
              show OKq _ _ _ [(12, x12), (11, x11), (10, x10), (9, x9), (8, x8), (3, x3), (2, x2), (1, x1), (0, x0)] _
              refine rThen ?_
              refine xSeq [0, 1, 2, 3, 8, 9, 10, 11, 12] (slices_pdqsortOrdered_k2 F (slices_pdqsortOrdered_l0 F (slices_pdqsortOrdered F k) k0) (slices_pdqsortOrdered F k) ) ?_ fun hj2 => ?_
              · intro x0 x1 x2 x3 x8 x9 x10 x11 x12
                show OKc _ _ [(12, x12), (11, x11), (10, x10), (9, x9), (8, x8), (3, x3), (2, x2), (1, x1), (0, x0)] _ _
                refine xSeq [0, 1, 2, 3, 8, 9, 10, 11] (slices_pdqsortOrdered_k1 F (slices_pdqsortOrdered_l0 F (slices_pdqsortOrdered F k) k0) (slices_pdqsortOrdered F k) ) ?_ fun hj1 => ?_
                · intro x0 x1 x2 x3 x8 x9 x10 x11
                  show OKc _ _ [(11, x11), (10, x10), (9, x9), (8, x8), (3, x3), (2, x2), (1, x1), (0, x0)] _ _
                  refine rSeq ?_
                  refine rSeq ?_
                  refine cLess [11, 10, 9, 8, 3, 2, 1, 0] ?_
                  refine xD Trymix hE [0, 1, 2, 3, 8, 9, 10, 11, 87] rfl slices_pdqsortOrdered_r17_good (slices_pdqsortOrdered_r17_ok F _ _ _ _ _ _ _ _ _ _) ?_
                  intro x0 x1 x2 x3 x8 x9 x10 x11 x87
                  show OKq _ _ _ [(87, x87), (11, x11), (10, x10), (9, x9), (8, x8), (3, x3), (2, x2), (1, x1), (0, x0)] _
                  refine rThen ?_
                  refine xCond rfl rfl ?_ ?_
                  · refine rSeq ?_
                    refine cLess [11, 9, 8, 3, 2, 1, 0] ?_
                    refine xR hE [0, 2, 3, 8, 9, 13] rfl (slices_pdqsortOrdered_r18_ok F _ _ _ _ _ _ _ _ _) ?_
                    intro x0 x2 x3 x8 x9 x13
                    show OKq _ _ _ [(13, x13), (9, x9), (8, x8), (3, x3), (2, x2), (0, x0)] _
                    refine rThen ?_
                    refine rSeq ?_
                    refine cLess [13, 9, 8, 3, 2, 0] ?_
                    refine xR hE [0, 1, 2, 3, 8, 9] rfl (slices_pdqsortOrdered_r19_ok F _ _ _ _ _ _ _ _) ?_
                    intro x0 x1 x2 x3 x8 x9
                    show OKq _ _ _ [(9, x9), (8, x8), (3, x3), (2, x2), (1, x1), (0, x0)] _
                    refine rThen ?_
                    refine rExit ?_
                    refine xThenX ?_
                    refine rOut ?_
                    exact qLess [9, 8, 3, 2, 1, 0] (hI0 k0 x0 x1 x2 x3 x8 x9)
                  · refine rSkip ?_
                    refine rThen ?_
                    refine rSeq ?_
                    refine cLess [11, 10, 3, 2, 1, 0] ?_
                    refine xR hE [0, 1, 2, 3, 10, 14, 15] rfl (slices_pdqsortOrdered_r20_ok F _ _ _ _ _ _ _ _) ?_
                    intro x0 x1 x2 x3 x10 x14 x15
                    show OKq _ _ _ [(15, x15), (14, x14), (10, x10), (3, x3), (2, x2), (1, x1), (0, x0)] _
                    refine rThen ?_
                    refine rSeq ?_
                    refine cLess [15, 14, 10, 3, 2, 1, 0] ?_
                    refine xR hE [0, 1, 2, 3, 9, 10, 14] rfl (slices_pdqsortOrdered_r21_ok F _ _ _ _ _ _ _ _ _) ?_
                    intro x0 x1 x2 x3 x9 x10 x14
                    show OKq _ _ _ [(14, x14), (10, x10), (9, x9), (3, x3), (2, x2), (1, x1), (0, x0)] _
                    refine rThen ?_
                    refine rSeq ?_
                    refine cLess [14, 10, 9, 3, 2, 1, 0] ?_
                    refine xR hE [0, 1, 2, 3, 9, 10, 14, 16, 17] rfl (slices_pdqsortOrdered_r22_ok F _ _ _ _ _ _ _ _ _) ?_
                    intro x0 x1 x2 x3 x9 x10 x14 x16 x17
                    show OKq _ _ _ [(17, x17), (16, x16), (14, x14), (10, x10), (9, x9), (3, x3), (2, x2), (1, x1), (0, x0)] _
                    refine rThen ?_
                    refine rSeq ?_
                    refine cLess [17, 16, 14, 10, 9, 3, 2, 1, 0] ?_
                    refine xR hE [0, 1, 2, 3, 9, 14, 16, 17, 18] rfl (slices_pdqsortOrdered_r23_ok F _ _ _ _ _ _ _ _ _ _ _) ?_
                    intro x0 x1 x2 x3 x9 x14 x16 x17 x18
                    show OKq _ _ _ [(18, x18), (17, x17), (16, x16), (14, x14), (9, x9), (3, x3), (2, x2), (1, x1), (0, x0)] _
                    refine rThen ?_
                    refine rSeq ?_
                    refine cLess [18, 17, 16, 14, 9, 3, 2, 1, 0] ?_
                    refine xR hE [0, 1, 2, 3, 9, 14, 16, 17, 18, 113] rfl (slices_pdqsortOrdered_r24_ok F _ _ _ _ _ _ _ _ _ _ _) ?_
                    intro x0 x1 x2 x3 x9 x14 x16 x17 x18 x113
                    show OKq _ _ _ [(113, x113), (18, x18), (17, x17), (16, x16), (14, x14), (9, x9), (3, x3), (2, x2), (1, x1), (0, x0)] _
                    refine rThen ?_
                    refine xCond rfl rfl ?_ ?_
                    · refine rSeq ?_
                      refine cLess [18, 16, 14, 9, 3, 2, 1, 0] ?_
                      refine xR hE [0, 1, 2, 3, 8, 9, 14] rfl (slices_pdqsortOrdered_r25_ok F _ _ _ _ _ _ _ _ _ _) ?_
                      intro x0 x1 x2 x3 x8 x9 x14
                      show OKq _ _ _ [(14, x14), (9, x9), (8, x8), (3, x3), (2, x2), (1, x1), (0, x0)] _
                      refine rThen ?_
                      refine rSeq ?_
                      refine cLess [14, 9, 8, 3, 2, 1, 0] ?_
                      refine xR hE [0, 2, 3, 8, 9, 14] rfl (slices_pdqsortOrdered_r26_ok F _ _ _ _ _ _ _ _ _) ?_
                      intro x0 x2 x3 x8 x9 x14
                      show OKq _ _ _ [(14, x14), (9, x9), (8, x8), (3, x3), (2, x2), (0, x0)] _
                      refine rThen ?_
                      refine cLess [14, 9, 8, 3, 2, 0] ?_
                      refine xR hE [0, 1, 2, 3, 8, 9] rfl (slices_pdqsortOrdered_r27_ok F _ _ _ _ _ _ _ _) ?_
                      intro x0 x1 x2 x3 x8 x9
                      show OKq _ _ _ [(9, x9), (8, x8), (3, x3), (2, x2), (1, x1), (0, x0)] _
                      refine xBlockN ?_
                      exact qLess [9, 8, 3, 2, 1, 0] (hI0 k0 x0 x1 x2 x3 x8 x9)
                    · refine rSeq ?_
                      refine cLess [18, 17, 14, 9, 3, 2, 1, 0] ?_
                      refine xR hE [0, 1, 2, 3, 8, 9, 14] rfl (slices_pdqsortOrdered_r28_ok F _ _ _ _ _ _ _ _ _ _) ?_
                      intro x0 x1 x2 x3 x8 x9 x14
                      show OKq _ _ _ [(14, x14), (9, x9), (8, x8), (3, x3), (2, x2), (1, x1), (0, x0)] _
                      refine rThen ?_
                      refine rSeq ?_
                      refine cLess [14, 9, 8, 3, 2, 1, 0] ?_
                      refine xR hE [0, 1, 3, 8, 9, 14] rfl (slices_pdqsortOrdered_r29_ok F _ _ _ _ _ _ _ _ _) ?_
                      intro x0 x1 x3 x8 x9 x14
                      show OKq _ _ _ [(14, x14), (9, x9), (8, x8), (3, x3), (1, x1), (0, x0)] _
                      refine rThen ?_
                      refine cLess [14, 9, 8, 3, 1, 0] ?_
                      refine xR hE [0, 1, 2, 3, 8, 9] rfl (slices_pdqsortOrdered_r30_ok F _ _ _ _ _ _ _ _) ?_
                      intro x0 x1 x2 x3 x8 x9
                      show OKq _ _ _ [(9, x9), (8, x8), (3, x3), (2, x2), (1, x1), (0, x0)] _
                      refine xBlockN ?_
                      exact qLess [9, 8, 3, 2, 1, 0] (hI0 k0 x0 x1 x2 x3 x8 x9)
                · refine rSeq ?_
                  refine cLess [12, 11, 10, 9, 8, 3, 2, 1, 0] ?_
                  refine xR hE [0, 1, 2, 3, 8, 9, 10, 11, 68] rfl (slices_pdqsortOrdered_r15_ok F _ _ _ _ _ _ _ _ _ _ _) ?_
                  intro x0 x1 x2 x3 x8 x9 x10 x11 x68
                  show OKq _ _ _ [(68, x68), (11, x11), (10, x10), (9, x9), (8, x8), (3, x3), (2, x2), (1, x1), (0, x0)] _
                  refine rThen ?_
                  refine xCond rfl rfl ?_ ?_
                  · refine rSeq ?_
                    refine cLess [11, 10, 9, 8, 3, 2, 1, 0] ?_
                    refine xR hE [0, 1, 2, 3, 8, 9, 10, 11, 72] rfl (slices_pdqsortOrdered_r16_ok F _ _ _ _ _ _ _ _ _ _) ?_
                    intro x0 x1 x2 x3 x8 x9 x10 x11 x72
                    show OKq _ _ _ [(72, x72), (11, x11), (10, x10), (9, x9), (8, x8), (3, x3), (2, x2), (1, x1), (0, x0)] _
                    refine rThen ?_
                    refine xCond rfl rfl ?_ ?_
                    · refine rRet ?_
                      refine xThenR ?_
                      refine xBlockR ?_
                      refine xThenR ?_
                      refine xBlockR ?_
                      exact rDone (.inr rfl) rfl
                    · refine rSkip ?_
                      exact qLess [11, 10, 9, 8, 3, 2, 1, 0] (hj1 x0 x1 x2 x3 x8 x9 x10 x11)
                  · refine rSkip ?_
                    exact qLess [11, 10, 9, 8, 3, 2, 1, 0] (hj1 x0 x1 x2 x3 x8 x9 x10 x11)
              · refine rSeq ?_
                refine cLess [12, 11, 10, 9, 8, 3, 2, 1, 0] ?_
                refine xR hE [0, 1, 2, 3, 8, 9, 10, 11, 12, 50] rfl (slices_pdqsortOrdered_r11_ok F _ _ _ _ _ _ _ _ _ _ _) ?_
                intro x0 x1 x2 x3 x8 x9 x10 x11 x12 x50
                show OKq _ _ _ [(50, x50), (12, x12), (11, x11), (10, x10), (9, x9), (8, x8), (3, x3), (2, x2), (1, x1), (0, x0)] _
                refine rThen ?_
                refine xCond rfl rfl ?_ ?_
                · refine rSeq ?_
                  refine cLess [11, 10, 9, 8, 3, 2, 1, 0] ?_
                  refine xR hE [0, 1, 2, 3, 8, 9, 10, 11] rfl (slices_pdqsortOrdered_r12_ok F _ _ _ _ _ _ _ _ _ _) ?_
                  intro x0 x1 x2 x3 x8 x9 x10 x11
                  show OKq _ _ _ [(11, x11), (10, x10), (9, x9), (8, x8), (3, x3), (2, x2), (1, x1), (0, x0)] _
                  refine rThen ?_
                  refine rSeq ?_
                  refine cLess [11, 10, 9, 8, 3, 2, 1, 0] ?_
                  refine xR hE [0, 1, 2, 3, 8, 9, 10, 11] rfl (slices_pdqsortOrdered_r13_ok F _ _ _ _ _ _ _ _ _ _) ?_
                  intro x0 x1 x2 x3 x8 x9 x10 x11
                  show OKq _ _ _ [(11, x11), (10, x10), (9, x9), (8, x8), (3, x3), (2, x2), (1, x1), (0, x0)] _
                  refine rThen ?_
                  refine cLess [11, 10, 9, 8, 3, 2, 1, 0] ?_
                  refine xR hE [0, 1, 2, 3, 8, 9, 10, 11, 12] rfl (slices_pdqsortOrdered_r14_ok F _ _ _ _ _ _ _ _ _ _) ?_
                  intro x0 x1 x2 x3 x8 x9 x10 x11 x12
                  show OKq _ _ _ [(12, x12), (11, x11), (10, x10), (9, x9), (8, x8), (3, x3), (2, x2), (1, x1), (0, x0)] _
                  exact qLess [12, 11, 10, 9, 8, 3, 2, 1, 0] (hj2 x0 x1 x2 x3 x8 x9 x10 x11 x12)
                · refine rSkip ?_
                  exact qLess [12, 11, 10, 9, 8, 3, 2, 1, 0] (hj2 x0 x1 x2 x3 x8 x9 x10 x11 x12)
            · refine rSeq ?_
              refine cLess [10, 9, 8, 3, 2, 1, 0] ?_
              refine xR hE [0, 1, 2, 3, 8, 9, 10, 35] rfl (slices_pdqsortOrdered_r7_ok F _ _ _ _ _ _ _ _ _) ?_
              intro x0 x1 x2 x3 x8 x9 x10 x35
              show OKq _ _ _ [(35, x35), (10, x10), (9, x9), (8, x8), (3, x3), (2, x2), (1, x1), (0, x0)] _
              refine rThen ?_
              refine xCond rfl rfl ?_ ?_
              · refine rSeq ?_
                refine cLess [10, 9, 8, 3, 2, 1, 0] ?_
                refine xR hE [0, 1, 2, 3, 8, 9, 10] rfl (slices_pdqsortOrdered_r8_ok F _ _ _ _ _ _ _ _ _) ?_
                intro x0 x1 x2 x3 x8 x9 x10
                show OKq _ _ _ [(10, x10), (9, x9), (8, x8), (3, x3), (2, x2), (1, x1), (0, x0)] _
                refine rThen ?_
                refine cLess [10, 9, 8, 3, 2, 1, 0] ?_
                refine xR hE [0, 1, 2, 3, 8, 9, 10] rfl (slices_pdqsortOrdered_r9_ok F _ _ _ _ _ _ _ _ _) ?_
                intro x0 x1 x2 x3 x8 x9 x10
                show OKq _ _ _ [(10, x10), (9, x9), (8, x8), (3, x3), (2, x2), (1, x1), (0, x0)] _
                exact qLess [10, 9, 8, 3, 2, 1, 0] (hj3 x0 x1 x2 x3 x8 x9 x10)
              · refine rSkip ?_
                exact qLess [10, 9, 8, 3, 2, 1, 0] (hj3 x0 x1 x2 x3 x8 x9 x10)
      · exact rFail


/-! ### slices.Sort[[]int,int] -/

def slices_Sort_env (F : Nat) : Env := envOf [(53, slices_pdqsortOrdered_m F F), (54, bits_Len_m F)]

noncomputable def slices_Sort_R (F : Nat) := rK Try.prog TryG (slices_Sort_env F) Try.f36
noncomputable def slices_Sort_D (F : Nat) := dK Try.prog TryG (slices_Sort_env F) Try.f36

def slices_Sort_r1 (F : Nat) (x0 x2 : Value) (K : M Value) : M Value :=
  bnd (opConv .u64 x2) fun v8 => bnd (bits_Len F v8) fun v9 => bnd (slices_pdqsortOrdered F F x0 (.int .i64 (0)) x2 v9) fun v10 => K

theorem slices_Sort_r1_ok (F : Nat) (x0 x2 : Value) (K : M Value) : slices_Sort_r1 F x0 x2 K = slices_Sort_R F 1 [(2, x2), (0, x0)] [] K := by kernel_rfl

def slices_Sort_r0 (F : Nat) (x0 : Value) (K : Value → Value → M Value) : M Value :=
  bnd (opLen x0) fun v4 => K x0 v4

theorem slices_Sort_r0_ok (F : Nat) (x0 : Value) (K : Value → Value → M Value) : slices_Sort_r0 F x0 K = slices_Sort_R F 0 [(0, x0)] [0, 2] K := by kernel_rfl

def slices_Sort (F : Nat) (x0 : Value) : M Value :=
  slices_Sort_r0 F x0 (fun x0 x2 => slices_Sort_r1 F x0 x2 (tupK []))

def slices_Sort_m (F : Nat) : List Value → M Value
  | [x0] => slices_Sort F x0
  | _ => fail

theorem slices_Sort_body : Try.f36.body = some (.seq (.region 0 (opsOf Try.f36 0) false) (.region 1 (opsOf Try.f36 1) false)) := by kernel_rfl

theorem slices_Sort_ok (F : Nat) : Sim Try.prog TryG 36 (slices_Sort_m F) := by
 have hE : EnvOK Try.prog TryG (slices_Sort_env F) := (EnvOK.cons (slices_pdqsortOrdered_ok F F) (EnvOK.cons (bits_Len_ok F) EnvOK.nil))
 refine Sim.of_body (E := slices_Sort_env F) Try.func36 slices_Sort_body Try.call36 ?_ ?_
 · intro args hl; unfold slices_Sort_m; split
   · exact absurd hl (Nat.not_lt.2 (Nat.le_of_ble_eq_true rfl))
   · rfl
 · intro args ρ h w z; unfold slices_Sort_m; split
   · rename_i x0; show OKc _ _ [(0, x0)] _ _
     refine rSeq ?_
     refine cLess [0] ?_
     refine xR hE [0, 2] rfl (slices_Sort_r0_ok F _ _) ?_
     intro x0 x2
     show OKq _ _ _ [(2, x2), (0, x0)] _
     refine rThen ?_
     refine cLess [2, 0] ?_
     refine xR hE [] rfl (slices_Sort_r1_ok F _ _ _) ?_
     show OKq _ _ _ [] _
     exact rDone (.inl rfl) rfl
   · exact rFail


/-! ### haruspex/reach.Used -/

def reach_Used_env (F : Nat) : Env := envOf [(33, ir_At_m F), (34, ir_Uses_m F), (35, ir_End_m F), (36, slices_Sort_m F), (37, slices_Compact_m F)]

noncomputable def reach_Used_R (F : Nat) := rK Try.prog TryG (reach_Used_env F) Try.f19
noncomputable def reach_Used_D (F : Nat) := dK Try.prog TryG (reach_Used_env F) Try.f19

def reach_Used_r9 (F : Nat) (x5 : Value) (K : Value → M Value) : M Value :=
  bnd (slices_Compact F x5) fun v45 => K v45

theorem reach_Used_r9_ok (F : Nat) (x5 : Value) (K : Value → M Value) : reach_Used_r9 F x5 K = reach_Used_R F 9 [(5, x5)] [4] K := by kernel_rfl

def reach_Used_r8 (F : Nat) (x5 : Value) (K : Value → M Value) : M Value :=
  bnd (slices_Sort F x5) fun v43 => K x5

theorem reach_Used_r8_ok (F : Nat) (x5 : Value) (K : Value → M Value) : reach_Used_r8 F x5 K = reach_Used_R F 8 [(5, x5)] [5] K := by kernel_rfl

def reach_Used_k0 (F : Nat) (x5 : Value) : M Value :=
  reach_Used_r8 F x5 (fun x5 => reach_Used_r9 F x5 (fun x4 => ret x4))

def reach_Used_r4 (F : Nat) (x6 : Value) (K : Value → M Value) : M Value :=
  bnd (opLoadN 6 x6) fun v16 => bnd (ir_Uses F v16) fun v17 => K v17

theorem reach_Used_r4_ok (F : Nat) (x6 : Value) (K : Value → M Value) : reach_Used_r4 F x6 K = reach_Used_R F 4 [(6, x6)] [5] K := by kernel_rfl

def reach_Used_r7 (F : Nat) (x8 : Value) (K : Value → M Value) : M Value :=
  bnd (opNil x8) fun v38 => bnd (opFieldAddr 2 v38) fun v39 => bnd (opLoad v39) fun v40 => bnd (opBuildSlice 1 (rep 1 [(.int .i64 (0))]) [(0, 1, false, v40)]) fun v41 => K v41

theorem reach_Used_r7_ok (F : Nat) (x8 : Value) (K : Value → M Value) : reach_Used_r7 F x8 K = reach_Used_R F 7 [(8, x8)] [5] K := by kernel_rfl

def reach_Used_r6 (F : Nat) (x5 x8 : Value) (K : Value → Value → Value → M Value) : M Value :=
  bnd (opEq eqP true x8 (.pointer none)) fun v22 => onB v22 (bnd (opNil x8) fun v25 => bnd (opFieldAddr 1 v25) fun v26 => bnd (opLoad v26) fun v27 => bnd (opBin .eql v27 (.int .i64 (2))) fun v28 => onB v28 (K x5 x8 (.bool true)) (bnd (opNil x8) fun v31 => bnd (opFieldAddr 1 v31) fun v32 => bnd (opLoad v32) fun v33 => bnd (opBin .eql v33 (.int .i64 (3))) fun v34 => K x5 x8 v34)) (K x5 x8 (.bool false))

theorem reach_Used_r6_ok (F : Nat) (x5 x8 : Value) (K : Value → Value → Value → M Value) : reach_Used_r6 F x5 x8 K = reach_Used_R F 6 [(8, x8), (5, x5)] [5, 8, 36] K := by kernel_rfl

def reach_Used_r5 (F : Nat) (x0 x1 x5 : Value) (K : Value → Value → M Value) : M Value :=
  bnd (ir_End F x0 x1) fun v20 => K x5 v20

theorem reach_Used_r5_ok (F : Nat) (x0 x1 x5 : Value) (K : Value → Value → M Value) : reach_Used_r5 F x0 x1 x5 K = reach_Used_R F 5 [(5, x5), (1, x1), (0, x0)] [5, 8] K := by kernel_rfl

def reach_Used_r3 (F : Nat) (x0 x1 x5 x6 x7 : Value) (K : Value → Value → Value → Value → Value → M Value) : M Value :=
  K x0 x1 x5 x6 x7

theorem reach_Used_r3_ok (F : Nat) (x0 x1 x5 x6 x7 : Value) (K : Value → Value → Value → Value → Value → M Value) : reach_Used_r3 F x0 x1 x5 x6 x7 K = reach_Used_R F 3 [(7, x7), (6, x6), (5, x5), (1, x1), (0, x0)] [0, 1, 5, 6, 15] K := by kernel_rfl

def reach_Used_r2 (F : Nat) (x0 x1 x5 : Value) (K : Value → Value → Value → Value → Value → M Value) : M Value :=
  bnd (ir_At F x0 x1) fun v12 => bnd (opExtract v12 0) fun v13 => bnd (opExtract v12 1) fun v14 => bnd (opPtr [(.int .i64 (0)), (.int .i64 (0)), (.int .i64 (0)), (.int .i64 (0)), (.int .i64 (0)), (.slice none 0 0)]) fun v6 => bnd (opStoreN 6 v6 v13) fun _ => K x0 x1 x5 v6 v14

theorem reach_Used_r2_ok (F : Nat) (x0 x1 x5 : Value) (K : Value → Value → Value → Value → Value → M Value) : reach_Used_r2 F x0 x1 x5 K = reach_Used_R F 2 [(5, x5), (1, x1), (0, x0)] [0, 1, 5, 6, 7] K := by kernel_rfl

def reach_Used_r1 (F : Nat) (x0 x1 : Value) (K : Value → Value → Value → M Value) : M Value :=
  K x0 x1 (.slice none 0 0)

theorem reach_Used_r1_ok (F : Nat) (x0 x1 : Value) (K : Value → Value → Value → M Value) : reach_Used_r1 F x0 x1 K = reach_Used_R F 1 [(1, x1), (0, x0)] [0, 1, 5] K := by kernel_rfl

def reach_Used_r0 (F : Nat) (x0 x1 : Value) (K : Value → Value → M Value) : M Value :=
  K x0 x1

theorem reach_Used_r0_ok (F : Nat) (x0 x1 : Value) (K : Value → Value → M Value) : reach_Used_r0 F x0 x1 K = reach_Used_R F 0 [(1, x1), (0, x0)] [0, 1] K := by kernel_rfl

def reach_Used (F : Nat) (x0 x1 : Value) : M Value :=
  reach_Used_r0 F x0 x1 (fun x0 x1 => reach_Used_r1 F x0 x1 (fun x0 x1 x5 => reach_Used_r2 F x0 x1 x5 (fun x0 x1 x5 x6 x7 => reach_Used_r3 F x0 x1 x5 x6 x7 (fun x0 x1 x5 x6 x15 => onB x15 (reach_Used_r4 F x6 (fun x5 => reach_Used_k0 F x5)) (reach_Used_r5 F x0 x1 x5 (fun x5 x8 => reach_Used_r6 F x5 x8 (fun x5 x8 x36 => onB x36 (reach_Used_r7 F x8 (fun x5 => reach_Used_k0 F x5)) (reach_Used_k0 F x5))))))))

def reach_Used_m (F : Nat) : List Value → M Value
  | [x0, x1] => reach_Used F x0 x1
  | _ => fail

theorem reach_Used_body : Try.f19.body = some (.seq (.region 0 (opsOf Try.f19 0) false) (.seq (.region 1 (opsOf Try.f19 1) false) (.seq (.seq (.region 2 (opsOf Try.f19 2) false) (.seq (.region 3 (opsOf Try.f19 3) false) (.cond (.tmp 15) (.region 4 (opsOf Try.f19 4) false) (.seq (.region 5 (opsOf Try.f19 5) false) (.seq (.region 6 (opsOf Try.f19 6) false) (.cond (.tmp 36) (.region 7 (opsOf Try.f19 7) false) .skip)))))) (.seq (.region 8 (opsOf Try.f19 8) false) (.seq (.region 9 (opsOf Try.f19 9) false) .ret))))) := by kernel_rfl

theorem reach_Used_ok (F : Nat) : Sim Try.prog TryG 19 (reach_Used_m F) := by
 have hE : EnvOK Try.prog TryG (reach_Used_env F) := (EnvOK.cons (ir_At_ok F) (EnvOK.cons (ir_Uses_ok F) (EnvOK.cons (ir_End_ok F) (EnvOK.cons (slices_Sort_ok F) (EnvOK.cons (slices_Compact_ok F) EnvOK.nil)))))
 refine Sim.of_body (E := reach_Used_env F) Try.func19 reach_Used_body Try.call19 ?_ ?_
 · intro args hl; unfold reach_Used_m; split
   · exact absurd hl (Nat.not_lt.2 (Nat.le_of_ble_eq_true rfl))
   · rfl
 · intro args ρ h w z; unfold reach_Used_m; split
   · rename_i x0 x1; show OKc _ _ [(0, x0), (1, x1)] _ _
     refine rSeq ?_
     refine cLess [1, 0] ?_
     refine xR hE [0, 1] rfl (reach_Used_r0_ok F _ _ _) ?_
     intro x0 x1
     show OKq _ _ _ [(1, x1), (0, x0)] _
     refine rThen ?_
     refine rSeq ?_
     refine cLess [1, 0] ?_
     refine xR hE [0, 1, 5] rfl (reach_Used_r1_ok F _ _ _) ?_
     intro x0 x1 x5
     show OKq _ _ _ [(5, x5), (1, x1), (0, x0)] _
     refine rThen ?_
     refine xSeq [5] (reach_Used_k0 F ) ?_ fun hj0 => ?_
     · intro x5
       show OKc _ _ [(5, x5)] _ _
       refine rSeq ?_
       refine cLess [5] ?_
       refine xR hE [5] rfl (reach_Used_r8_ok F _ _) ?_
       intro x5
       show OKq _ _ _ [(5, x5)] _
       refine rThen ?_
       refine rSeq ?_
       refine cLess [5] ?_
       refine xR hE [4] rfl (reach_Used_r9_ok F _ _) ?_
       intro x4
       show OKq _ _ _ [(4, x4)] _
       refine rThen ?_
       refine rRet ?_
       exact rDone (.inr rfl) rfl
     · refine rSeq ?_
       refine cLess [5, 1, 0] ?_
       refine xR hE [0, 1, 5, 6, 7] rfl (reach_Used_r2_ok F _ _ _ _) ?_
       intro x0 x1 x5 x6 x7
       show OKq _ _ _ [(7, x7), (6, x6), (5, x5), (1, x1), (0, x0)] _
       refine rThen ?_
       refine rSeq ?_
       refine cLess [7, 6, 5, 1, 0] ?_
       refine xR hE [0, 1, 5, 6, 15] rfl (reach_Used_r3_ok F _ _ _ _ _ _) ?_
       intro x0 x1 x5 x6 x15
       show OKq _ _ _ [(15, x15), (6, x6), (5, x5), (1, x1), (0, x0)] _
       refine rThen ?_
       refine xCond rfl rfl ?_ ?_
       · refine cLess [6] ?_
         refine xR hE [5] rfl (reach_Used_r4_ok F _ _) ?_
         intro x5
         show OKq _ _ _ [(5, x5)] _
         exact qLess [5] (hj0 x5)
       · refine rSeq ?_
         refine cLess [5, 1, 0] ?_
         refine xR hE [5, 8] rfl (reach_Used_r5_ok F _ _ _ _) ?_
         intro x5 x8
         show OKq _ _ _ [(8, x8), (5, x5)] _
         refine rThen ?_
         refine rSeq ?_
         refine cLess [8, 5] ?_
         refine xR hE [5, 8, 36] rfl (reach_Used_r6_ok F _ _ _) ?_
         intro x5 x8 x36
         show OKq _ _ _ [(36, x36), (8, x8), (5, x5)] _
         refine rThen ?_
         refine xCond rfl rfl ?_ ?_
         · refine cLess [8] ?_
           refine xR hE [5] rfl (reach_Used_r7_ok F _ _) ?_
           intro x5
           show OKq _ _ _ [(5, x5)] _
           exact qLess [5] (hj0 x5)
         · refine rSkip ?_
           exact qLess [5] (hj0 x5)
   · exact rFail


/-! ### (*haruspex/reach.Back).Find -/

def reach_Back_Find_env (F : Nat) : Env := envOf [(36, slices_Sort_m F), (45, reach_Some_1_m F)]

noncomputable def reach_Back_Find_R (F : Nat) := rK Try.prog TryG (reach_Back_Find_env F) Try.f44
noncomputable def reach_Back_Find_D (F : Nat) := dK Try.prog TryG (reach_Back_Find_env F) Try.f44

def reach_Back_Find_r19 (F : Nat) (x8 x10 : Value) (K : Value → Value → M Value) : M Value :=
  K x8 x10

theorem reach_Back_Find_r19_ok (F : Nat) (x8 x10 : Value) (K : Value → Value → M Value) : reach_Back_Find_r19 F x8 x10 K = reach_Back_Find_R F 19 [(10, x10), (8, x8)] [6, 7] K := by kernel_rfl

def reach_Back_Find_r18 (F : Nat) (x8 x10 : Value) (K : Value → Value → M Value) : M Value :=
  bnd (slices_Sort F x8) fun v93 => K x8 x10

theorem reach_Back_Find_r18_ok (F : Nat) (x8 x10 : Value) (K : Value → Value → M Value) : reach_Back_Find_r18 F x8 x10 K = reach_Back_Find_R F 18 [(10, x10), (8, x8)] [8, 10] K := by kernel_rfl

def reach_Back_Find_k0 (F : Nat) (x8 x10 : Value) : M Value :=
  reach_Back_Find_r18 F x8 x10 (fun x8 x10 => reach_Back_Find_r19 F x8 x10 (fun x6 x7 => tupK [x6, x7]))

def reach_Back_Find_r17 (F : Nat) (x0 x2 x8 x9 x10 x11 x48 x49 x50 : Value) (K : Value → Value → Value → Value → Value → Value → Value → Value → Value → M Value) : M Value :=
  bnd (opBin .add x50 (.int .i64 (1))) fun v91 => K x0 x2 x8 x9 x10 x11 x48 x49 v91

theorem reach_Back_Find_r17_ok (F : Nat) (x0 x2 x8 x9 x10 x11 x48 x49 x50 : Value) (K : Value → Value → Value → Value → Value → Value → Value → Value → Value → M Value) : reach_Back_Find_r17 F x0 x2 x8 x9 x10 x11 x48 x49 x50 K = reach_Back_Find_R F 17 [(50, x50), (49, x49), (48, x48), (11, x11), (10, x10), (9, x9), (8, x8), (2, x2), (0, x0)] [0, 2, 8, 9, 10, 11, 48, 49, 50] K := by kernel_rfl

def reach_Back_Find_k3 (F : Nat) (A2 : Value → Value → Value → Value → Value → Value → Value → Value → Value → M Value) (x0 x2 x8 x9 x10 x11 x48 x49 x50 : Value) : M Value :=
  reach_Back_Find_r17 F x0 x2 x8 x9 x10 x11 x48 x49 x50 (fun x0 x2 x8 x9 x10 x11 x48 x49 x50 => A2 x0 x2 x8 x9 x10 x11 x48 x49 x50)

def reach_Back_Find_r16 (F : Nat) (x0 x2 x8 x9 x10 x11 x14 x48 x49 x50 : Value) (K : Value → Value → Value → Value → Value → Value → Value → Value → Value → M Value) : M Value :=
  bnd (opBuildSlice 1 (rep 1 [(.int .i64 (0))]) [(0, 1, false, x14)]) fun v89 => bnd (opAppend 1 8 x11 v89) fun v90 => K x0 x2 x8 x9 x10 v90 x48 x49 x50

theorem reach_Back_Find_r16_ok (F : Nat) (x0 x2 x8 x9 x10 x11 x14 x48 x49 x50 : Value) (K : Value → Value → Value → Value → Value → Value → Value → Value → Value → M Value) : reach_Back_Find_r16 F x0 x2 x8 x9 x10 x11 x14 x48 x49 x50 K = reach_Back_Find_R F 16 [(50, x50), (49, x49), (48, x48), (14, x14), (11, x11), (10, x10), (9, x9), (8, x8), (2, x2), (0, x0)] [0, 2, 8, 9, 10, 11, 48, 49, 50] K := by kernel_rfl

def reach_Back_Find_r15 (F : Nat) (x0 x2 x8 x9 x10 x11 x14 x48 x49 x50 : Value) (K : Value → Value → Value → Value → Value → Value → Value → Value → Value → Value → M Value) : M Value :=
  onB x10 (K x0 x2 x8 x9 (.bool true) x11 x14 x48 x49 x50) (bnd (opNil x0) fun v82 => bnd (opFieldAddr 0 v82) fun v83 => bnd (opLoad v83) fun v84 => bnd (opBin .eql x14 v84) fun v85 => K x0 x2 x8 x9 v85 x11 x14 x48 x49 x50)

theorem reach_Back_Find_r15_ok (F : Nat) (x0 x2 x8 x9 x10 x11 x14 x48 x49 x50 : Value) (K : Value → Value → Value → Value → Value → Value → Value → Value → Value → Value → M Value) : reach_Back_Find_r15 F x0 x2 x8 x9 x10 x11 x14 x48 x49 x50 K = reach_Back_Find_R F 15 [(50, x50), (49, x49), (48, x48), (14, x14), (11, x11), (10, x10), (9, x9), (8, x8), (2, x2), (0, x0)] [0, 2, 8, 9, 10, 11, 14, 48, 49, 50] K := by kernel_rfl

def reach_Back_Find_r14 (F : Nat) (x0 x2 x8 x9 x10 x11 x14 x48 x49 x50 : Value) (K : Value → Value → Value → Value → Value → Value → Value → Value → Value → M Value) : M Value :=
  bnd (opBuildSlice 1 (rep 1 [(.int .i64 (0))]) [(0, 1, false, x14)]) fun v76 => bnd (opAppend 1 8 x8 v76) fun v77 => K x0 x2 v77 x9 x10 x11 x48 x49 x50

theorem reach_Back_Find_r14_ok (F : Nat) (x0 x2 x8 x9 x10 x11 x14 x48 x49 x50 : Value) (K : Value → Value → Value → Value → Value → Value → Value → Value → Value → M Value) : reach_Back_Find_r14 F x0 x2 x8 x9 x10 x11 x14 x48 x49 x50 K = reach_Back_Find_R F 14 [(50, x50), (49, x49), (48, x48), (14, x14), (11, x11), (10, x10), (9, x9), (8, x8), (2, x2), (0, x0)] [0, 2, 8, 9, 10, 11, 48, 49, 50] K := by kernel_rfl

def reach_Back_Find_r13 (F : Nat) (x0 x2 x8 x9 x10 x11 x14 x48 x49 x50 : Value) (K : Value → Value → Value → Value → Value → Value → Value → Value → Value → Value → Value → M Value) : M Value :=
  bnd (opCall (reach_Back_Find_env F) x2 [x14]) fun v73 => K x0 x2 x8 x9 x10 x11 x14 x48 x49 x50 v73

theorem reach_Back_Find_r13_ok (F : Nat) (x0 x2 x8 x9 x10 x11 x14 x48 x49 x50 : Value) (K : Value → Value → Value → Value → Value → Value → Value → Value → Value → Value → Value → M Value) : reach_Back_Find_r13 F x0 x2 x8 x9 x10 x11 x14 x48 x49 x50 K = reach_Back_Find_R F 13 [(50, x50), (49, x49), (48, x48), (14, x14), (11, x11), (10, x10), (9, x9), (8, x8), (2, x2), (0, x0)] [0, 2, 8, 9, 10, 11, 14, 48, 49, 50, 73] K := by kernel_rfl

def reach_Back_Find_r12 (F : Nat) (x0 x2 x8 x9 x10 x11 x14 x48 x49 x50 : Value) (K : Value → Value → Value → Value → Value → Value → Value → Value → Value → Value → M Value) : M Value :=
  bnd (opNil x0) fun v66 => bnd (opFieldAddr 0 v66) fun v67 => bnd (opLoad v67) fun v68 => bnd (opBin .sub x14 v68) fun v69 => bnd (opIndexAddr 1 x9 v69) fun v70 => bnd (opStore v70 (.bool true)) fun _ => K x0 x2 x8 x9 x10 x11 x14 x48 x49 x50

theorem reach_Back_Find_r12_ok (F : Nat) (x0 x2 x8 x9 x10 x11 x14 x48 x49 x50 : Value) (K : Value → Value → Value → Value → Value → Value → Value → Value → Value → Value → M Value) : reach_Back_Find_r12 F x0 x2 x8 x9 x10 x11 x14 x48 x49 x50 K = reach_Back_Find_R F 12 [(50, x50), (49, x49), (48, x48), (14, x14), (11, x11), (10, x10), (9, x9), (8, x8), (2, x2), (0, x0)] [0, 2, 8, 9, 10, 11, 14, 48, 49, 50] K := by kernel_rfl

def reach_Back_Find_r11 (F : Nat) (x0 x2 x8 x9 x10 x11 x14 x48 x49 x50 : Value) (K : Value → Value → Value → Value → Value → Value → Value → Value → Value → Value → Value → M Value) : M Value :=
  bnd (opNil x0) fun v57 => bnd (opFieldAddr 0 v57) fun v58 => bnd (opLoad v58) fun v59 => bnd (opBin .sub x14 v59) fun v60 => bnd (opIndexAddr 1 x9 v60) fun v61 => bnd (opLoad v61) fun v62 => K x0 x2 x8 x9 x10 x11 x14 x48 x49 x50 v62

theorem reach_Back_Find_r11_ok (F : Nat) (x0 x2 x8 x9 x10 x11 x14 x48 x49 x50 : Value) (K : Value → Value → Value → Value → Value → Value → Value → Value → Value → Value → Value → M Value) : reach_Back_Find_r11 F x0 x2 x8 x9 x10 x11 x14 x48 x49 x50 K = reach_Back_Find_R F 11 [(50, x50), (49, x49), (48, x48), (14, x14), (11, x11), (10, x10), (9, x9), (8, x8), (2, x2), (0, x0)] [0, 2, 8, 9, 10, 11, 14, 48, 49, 50, 62] K := by kernel_rfl

def reach_Back_Find_r10 (F : Nat) (x0 x2 x8 x9 x10 x11 x48 x49 x50 : Value) (K : Value → Value → Value → Value → Value → Value → Value → Value → Value → Value → M Value) : M Value :=
  bnd (opIndexAddr 1 x48 x50) fun v52 => bnd (opLoad v52) fun v53 => K x0 x2 x8 x9 x10 x11 v53 x48 x49 x50

theorem reach_Back_Find_r10_ok (F : Nat) (x0 x2 x8 x9 x10 x11 x48 x49 x50 : Value) (K : Value → Value → Value → Value → Value → Value → Value → Value → Value → Value → M Value) : reach_Back_Find_r10 F x0 x2 x8 x9 x10 x11 x48 x49 x50 K = reach_Back_Find_R F 10 [(50, x50), (49, x49), (48, x48), (11, x11), (10, x10), (9, x9), (8, x8), (2, x2), (0, x0)] [0, 2, 8, 9, 10, 11, 14, 48, 49, 50] K := by kernel_rfl

def reach_Back_Find_r9 (F : Nat) (x0 x2 x8 x9 x10 x11 x48 x49 x50 : Value) (K : Value → Value → Value → Value → Value → Value → Value → Value → Value → Value → M Value) : M Value :=
  bnd (opBin .lss x50 x49) fun v51 => K x0 x2 x8 x9 x10 x11 x48 x49 x50 v51

theorem reach_Back_Find_r9_ok (F : Nat) (x0 x2 x8 x9 x10 x11 x48 x49 x50 : Value) (K : Value → Value → Value → Value → Value → Value → Value → Value → Value → Value → M Value) : reach_Back_Find_r9 F x0 x2 x8 x9 x10 x11 x48 x49 x50 K = reach_Back_Find_R F 9 [(50, x50), (49, x49), (48, x48), (11, x11), (10, x10), (9, x9), (8, x8), (2, x2), (0, x0)] [0, 2, 8, 9, 10, 11, 48, 49, 50, 51] K := by kernel_rfl

def reach_Back_Find_b2 (F : Nat) (E2_2 : Value → Value → Value → Value → Value → Value → M Value) (A2 : Value → Value → Value → Value → Value → Value → Value → Value → Value → M Value) (x0 x2 x8 x9 x10 x11 x48 x49 x50 : Value) : M Value :=
  reach_Back_Find_r9 F x0 x2 x8 x9 x10 x11 x48 x49 x50 (fun x0 x2 x8 x9 x10 x11 x48 x49 x50 x51 => onB x51 (reach_Back_Find_r10 F x0 x2 x8 x9 x10 x11 x48 x49 x50 (fun x0 x2 x8 x9 x10 x11 x14 x48 x49 x50 => reach_Back_Find_r11 F x0 x2 x8 x9 x10 x11 x14 x48 x49 x50 (fun x0 x2 x8 x9 x10 x11 x14 x48 x49 x50 x62 => onB x62 (reach_Back_Find_k3 F A2 x0 x2 x8 x9 x10 x11 x48 x49 x50) (reach_Back_Find_r12 F x0 x2 x8 x9 x10 x11 x14 x48 x49 x50 (fun x0 x2 x8 x9 x10 x11 x14 x48 x49 x50 => reach_Back_Find_r13 F x0 x2 x8 x9 x10 x11 x14 x48 x49 x50 (fun x0 x2 x8 x9 x10 x11 x14 x48 x49 x50 x73 => onB x73 (reach_Back_Find_r14 F x0 x2 x8 x9 x10 x11 x14 x48 x49 x50 (fun x0 x2 x8 x9 x10 x11 x48 x49 x50 => reach_Back_Find_k3 F A2 x0 x2 x8 x9 x10 x11 x48 x49 x50)) (reach_Back_Find_r15 F x0 x2 x8 x9 x10 x11 x14 x48 x49 x50 (fun x0 x2 x8 x9 x10 x11 x14 x48 x49 x50 => reach_Back_Find_r16 F x0 x2 x8 x9 x10 x11 x14 x48 x49 x50 (fun x0 x2 x8 x9 x10 x11 x48 x49 x50 => reach_Back_Find_k3 F A2 x0 x2 x8 x9 x10 x11 x48 x49 x50))))))))) (E2_2 x0 x2 x8 x9 x10 x11))

def reach_Back_Find_l2 (F : Nat) (E2_2 : Value → Value → Value → Value → Value → Value → M Value) : Nat → Value → Value → Value → Value → Value → Value → Value → Value → Value → M Value
  | 0, _, _, _, _, _, _, _, _, _ => fail
  | k2 + 1, x0, x2, x8, x9, x10, x11, x48, x49, x50 => reach_Back_Find_b2 F E2_2 (reach_Back_Find_l2 F E2_2 k2) x0 x2 x8 x9 x10 x11 x48 x49 x50

theorem reach_Back_Find_l2_s (F : Nat) (E2_2 : Value → Value → Value → Value → Value → Value → M Value) (k2 : Nat) (x0 x2 x8 x9 x10 x11 x48 x49 x50 : Value) : reach_Back_Find_l2 F E2_2 (k2 + 1) x0 x2 x8 x9 x10 x11 x48 x49 x50 = reach_Back_Find_b2 F E2_2 (reach_Back_Find_l2 F E2_2 k2) x0 x2 x8 x9 x10 x11 x48 x49 x50 := rfl

def reach_Back_Find_r8 (F : Nat) (x0 x2 x8 x9 x10 x11 x12 : Value) (K : Value → Value → Value → Value → Value → Value → Value → Value → Value → M Value) : M Value :=
  bnd (opNil x0) fun v38 => bnd (opFieldAddr 1 v38) fun v39 => bnd (opLoad v39) fun v40 => bnd (opNil x0) fun v43 => bnd (opFieldAddr 0 v43) fun v44 => bnd (opLoad v44) fun v45 => bnd (opBin .sub x12 v45) fun v46 => bnd (opIndexAddr 1 v40 v46) fun v47 => bnd (opLoad v47) fun v48 => bnd (opLen v48) fun v49 => K x0 x2 x8 x9 x10 x11 v48 v49 (.int .i64 (0))

theorem reach_Back_Find_r8_ok (F : Nat) (x0 x2 x8 x9 x10 x11 x12 : Value) (K : Value → Value → Value → Value → Value → Value → Value → Value → Value → M Value) : reach_Back_Find_r8 F x0 x2 x8 x9 x10 x11 x12 K = reach_Back_Find_D F 8 [0, 1, 2, 3, 4, 5, 6, 7, 8, 9, 10, 11, 12, 13] [(12, x12), (11, x11), (10, x10), (9, x9), (8, x8), (2, x2), (0, x0)] [0, 2, 8, 9, 10, 11, 48, 49, 50] K := by kernel_rfl

theorem reach_Back_Find_r8_good : goodOrder (opsOf Try.f44 8) [0, 1, 2, 3, 4, 5, 6, 7, 8, 9, 10, 11, 12, 13] = true := by kernel_rfl

def reach_Back_Find_r7 (F : Nat) (x0 x2 x8 x9 x10 x11 x12 : Value) (K : Value → Value → Value → Value → Value → Value → Value → M Value) : M Value :=
  bnd (opSlice 1 x11 (some (.int .i64 (1))) none none) fun v36 => K x0 x2 x8 x9 x10 v36 x12

theorem reach_Back_Find_r7_ok (F : Nat) (x0 x2 x8 x9 x10 x11 x12 : Value) (K : Value → Value → Value → Value → Value → Value → Value → M Value) : reach_Back_Find_r7 F x0 x2 x8 x9 x10 x11 x12 K = reach_Back_Find_R F 7 [(12, x12), (11, x11), (10, x10), (9, x9), (8, x8), (2, x2), (0, x0)] [0, 2, 8, 9, 10, 11, 12] K := by kernel_rfl

def reach_Back_Find_r6 (F : Nat) (x0 x2 x8 x9 x10 x11 : Value) (K : Value → Value → Value → Value → Value → Value → Value → M Value) : M Value :=
  bnd (opIndexAddr 1 x11 (.int .i64 (0))) fun v33 => bnd (opLoad v33) fun v34 => K x0 x2 x8 x9 x10 x11 v34

theorem reach_Back_Find_r6_ok (F : Nat) (x0 x2 x8 x9 x10 x11 : Value) (K : Value → Value → Value → Value → Value → Value → Value → M Value) : reach_Back_Find_r6 F x0 x2 x8 x9 x10 x11 K = reach_Back_Find_R F 6 [(11, x11), (10, x10), (9, x9), (8, x8), (2, x2), (0, x0)] [0, 2, 8, 9, 10, 11, 12] K := by kernel_rfl

def reach_Back_Find_r5 (F : Nat) (x0 x2 x8 x9 x10 x11 : Value) (K : Value → Value → Value → Value → Value → Value → Value → M Value) : M Value :=
  bnd (opLen x11) fun v30 => bnd (opBin .gtr v30 (.int .i64 (0))) fun v31 => K x0 x2 x8 x9 x10 x11 v31

theorem reach_Back_Find_r5_ok (F : Nat) (x0 x2 x8 x9 x10 x11 : Value) (K : Value → Value → Value → Value → Value → Value → Value → M Value) : reach_Back_Find_r5 F x0 x2 x8 x9 x10 x11 K = reach_Back_Find_R F 5 [(11, x11), (10, x10), (9, x9), (8, x8), (2, x2), (0, x0)] [0, 2, 8, 9, 10, 11, 31] K := by kernel_rfl

def reach_Back_Find_b1 (F : Nat) (E1_0 : Value → Value → M Value) (A1 : Value → Value → Value → Value → Value → Value → M Value) (x0 x2 x8 x9 x10 x11 : Value) : M Value :=
  reach_Back_Find_r5 F x0 x2 x8 x9 x10 x11 (fun x0 x2 x8 x9 x10 x11 x31 => onB x31 (reach_Back_Find_r6 F x0 x2 x8 x9 x10 x11 (fun x0 x2 x8 x9 x10 x11 x12 => reach_Back_Find_r7 F x0 x2 x8 x9 x10 x11 x12 (fun x0 x2 x8 x9 x10 x11 x12 => reach_Back_Find_r8 F x0 x2 x8 x9 x10 x11 x12 (fun x0 x2 x8 x9 x10 x11 x48 x49 x50 => reach_Back_Find_l2 F (fun x0 x2 x8 x9 x10 x11 => A1 x0 x2 x8 x9 x10 x11) F x0 x2 x8 x9 x10 x11 x48 x49 x50)))) (E1_0 x8 x10))

def reach_Back_Find_l1 (F : Nat) (E1_0 : Value → Value → M Value) : Nat → Value → Value → Value → Value → Value → Value → M Value
  | 0, _, _, _, _, _, _ => fail
  | k1 + 1, x0, x2, x8, x9, x10, x11 => reach_Back_Find_b1 F E1_0 (reach_Back_Find_l1 F E1_0 k1) x0 x2 x8 x9 x10 x11

theorem reach_Back_Find_l1_s (F : Nat) (E1_0 : Value → Value → M Value) (k1 : Nat) (x0 x2 x8 x9 x10 x11 : Value) : reach_Back_Find_l1 F E1_0 (k1 + 1) x0 x2 x8 x9 x10 x11 = reach_Back_Find_b1 F E1_0 (reach_Back_Find_l1 F E1_0 k1) x0 x2 x8 x9 x10 x11 := rfl

def reach_Back_Find_r4 (F : Nat) (x0 x1 x2 x8 x9 x10 : Value) (K : Value → Value → Value → Value → Value → Value → M Value) : M Value :=
  bnd (opBuildSlice 1 (rep 1 [(.int .i64 (0))]) [(0, 1, false, x1)]) fun v28 => K x0 x2 x8 x9 x10 v28

theorem reach_Back_Find_r4_ok (F : Nat) (x0 x1 x2 x8 x9 x10 : Value) (K : Value → Value → Value → Value → Value → Value → M Value) : reach_Back_Find_r4 F x0 x1 x2 x8 x9 x10 K = reach_Back_Find_R F 4 [(10, x10), (9, x9), (8, x8), (2, x2), (1, x1), (0, x0)] [0, 2, 8, 9, 10, 11] K := by kernel_rfl

def reach_Back_Find_r3 (F : Nat) (x0 x1 x2 x8 x9 : Value) (K : Value → Value → Value → Value → Value → Value → M Value) : M Value :=
  bnd (opNil x0) fun v23 => bnd (opFieldAddr 0 v23) fun v24 => bnd (opLoad v24) fun v25 => bnd (opBin .eql x1 v25) fun v26 => K x0 x1 x2 x8 x9 v26

theorem reach_Back_Find_r3_ok (F : Nat) (x0 x1 x2 x8 x9 : Value) (K : Value → Value → Value → Value → Value → Value → M Value) : reach_Back_Find_r3 F x0 x1 x2 x8 x9 K = reach_Back_Find_R F 3 [(9, x9), (8, x8), (2, x2), (1, x1), (0, x0)] [0, 1, 2, 8, 9, 10] K := by kernel_rfl

def reach_Back_Find_r2 (F : Nat) (x0 x1 x2 x8 : Value) (K : Value → Value → Value → Value → Value → M Value) : M Value :=
  bnd (opNil x0) fun v16 => bnd (opFieldAddr 1 v16) fun v17 => bnd (opLoad v17) fun v18 => bnd (opLen v18) fun v19 => bnd (opMake 1 [(.bool false)] v19 v19) fun v20 => K x0 x1 x2 x8 v20

theorem reach_Back_Find_r2_ok (F : Nat) (x0 x1 x2 x8 : Value) (K : Value → Value → Value → Value → Value → M Value) : reach_Back_Find_r2 F x0 x1 x2 x8 K = reach_Back_Find_R F 2 [(8, x8), (2, x2), (1, x1), (0, x0)] [0, 1, 2, 8, 9] K := by kernel_rfl

def reach_Back_Find_r1 (F : Nat) (x0 x1 x2 : Value) (K : Value → Value → Value → Value → M Value) : M Value :=
  K x0 x1 x2 (.slice none 0 0)

theorem reach_Back_Find_r1_ok (F : Nat) (x0 x1 x2 : Value) (K : Value → Value → Value → Value → M Value) : reach_Back_Find_r1 F x0 x1 x2 K = reach_Back_Find_R F 1 [(2, x2), (1, x1), (0, x0)] [0, 1, 2, 8] K := by kernel_rfl

def reach_Back_Find_r0 (F : Nat) (x0 x1 x2 : Value) (K : Value → Value → Value → M Value) : M Value :=
  K x0 x1 x2

theorem reach_Back_Find_r0_ok (F : Nat) (x0 x1 x2 : Value) (K : Value → Value → Value → M Value) : reach_Back_Find_r0 F x0 x1 x2 K = reach_Back_Find_R F 0 [(2, x2), (1, x1), (0, x0)] [0, 1, 2] K := by kernel_rfl

def reach_Back_Find (F : Nat) (x0 x1 x2 : Value) : M Value :=
  reach_Back_Find_r0 F x0 x1 x2 (fun x0 x1 x2 => reach_Back_Find_r1 F x0 x1 x2 (fun x0 x1 x2 x8 => reach_Back_Find_r2 F x0 x1 x2 x8 (fun x0 x1 x2 x8 x9 => reach_Back_Find_r3 F x0 x1 x2 x8 x9 (fun x0 x1 x2 x8 x9 x10 => reach_Back_Find_r4 F x0 x1 x2 x8 x9 x10 (fun x0 x2 x8 x9 x10 x11 => reach_Back_Find_l1 F (fun x8 x10 => reach_Back_Find_k0 F x8 x10) F x0 x2 x8 x9 x10 x11)))))

def reach_Back_Find_m (F : Nat) : List Value → M Value
  | [x0, x1, x2] => reach_Back_Find F x0 x1 x2
  | _ => fail

theorem reach_Back_Find_body : Try.f44.body = some (.seq (.region 0 (opsOf Try.f44 0) false) (.seq (.region 1 (opsOf Try.f44 1) false) (.seq (.region 2 (opsOf Try.f44 2) false) (.seq (.region 3 (opsOf Try.f44 3) false) (.seq (.region 4 (opsOf Try.f44 4) false) (.seq (.block 0 (.loop (.seq (.seq (.region 5 (opsOf Try.f44 5) false) (.cond (.tmp 31) .skip (.exit 0))) (.block 1 (.scope (.seq (.region 6 (opsOf Try.f44 6) false) (.seq (.region 7 (opsOf Try.f44 7) false) (.seq (.label 0) (.seq (.region 8 (opsOf Try.f44 8) true) (.block 2 (.loop (.seq (.region 9 (opsOf Try.f44 9) false) (.seq (.cond (.tmp 51) .skip (.exit 2)) (.seq (.block 3 (.seq (.region 10 (opsOf Try.f44 10) false) (.seq (.seq (.region 11 (opsOf Try.f44 11) false) (.cond (.tmp 62) (.exit 3) .skip)) (.seq (.region 12 (opsOf Try.f44 12) false) (.seq (.seq (.region 13 (opsOf Try.f44 13) false) (.cond (.tmp 73) (.seq (.region 14 (opsOf Try.f44 14) false) (.exit 3)) .skip)) (.seq (.region 15 (opsOf Try.f44 15) false) (.region 16 (opsOf Try.f44 16) false))))))) (.region 17 (opsOf Try.f44 17) false))))))))))))))) (.seq (.region 18 (opsOf Try.f44 18) false) (.seq (.region 19 (opsOf Try.f44 19) false) .ret)))))))) := by kernel_rfl

theorem reach_Back_Find_ok (F : Nat) : Sim Try.prog TryG 44 (reach_Back_Find_m F) := by
 have hE : EnvOK Try.prog TryG (reach_Back_Find_env F) := (EnvOK.cons (slices_Sort_ok F) (EnvOK.cons (reach_Some_1_ok F) EnvOK.nil))
 refine Sim.of_body (E := reach_Back_Find_env F) Try.func44 reach_Back_Find_body Try.call44 ?_ ?_
 · intro args hl; unfold reach_Back_Find_m; split
   · exact absurd hl (Nat.not_lt.2 (Nat.le_of_ble_eq_true rfl))
   · rfl
 · intro args ρ h w z; unfold reach_Back_Find_m; split
   · rename_i x0 x1 x2; show OKc _ _ [(0, x0), (1, x1), (2, x2)] _ _
     refine rSeq ?_
     refine cLess [2, 1, 0] ?_
     refine xR hE [0, 1, 2] rfl (reach_Back_Find_r0_ok F _ _ _ _) ?_
     intro x0 x1 x2
     show OKq _ _ _ [(2, x2), (1, x1), (0, x0)] _
     refine rThen ?_
     refine rSeq ?_
     refine cLess [2, 1, 0] ?_
     refine xR hE [0, 1, 2, 8] rfl (reach_Back_Find_r1_ok F _ _ _ _) ?_
     intro x0 x1 x2 x8
     show OKq _ _ _ [(8, x8), (2, x2), (1, x1), (0, x0)] _
     refine rThen ?_
     refine rSeq ?_
     refine cLess [8, 2, 1, 0] ?_
     refine xR hE [0, 1, 2, 8, 9] rfl (reach_Back_Find_r2_ok F _ _ _ _ _) ?_
     intro x0 x1 x2 x8 x9
     show OKq _ _ _ [(9, x9), (8, x8), (2, x2), (1, x1), (0, x0)] _
     refine rThen ?_
     refine rSeq ?_
     refine cLess [9, 8, 2, 1, 0] ?_
     refine xR hE [0, 1, 2, 8, 9, 10] rfl (reach_Back_Find_r3_ok F _ _ _ _ _ _) ?_
     intro x0 x1 x2 x8 x9 x10
     show OKq _ _ _ [(10, x10), (9, x9), (8, x8), (2, x2), (1, x1), (0, x0)] _
     refine rThen ?_
     refine rSeq ?_
     refine cLess [10, 9, 8, 2, 1, 0] ?_
     refine xR hE [0, 2, 8, 9, 10, 11] rfl (reach_Back_Find_r4_ok F _ _ _ _ _ _ _) ?_
     intro x0 x2 x8 x9 x10 x11
     show OKq _ _ _ [(11, x11), (10, x10), (9, x9), (8, x8), (2, x2), (0, x0)] _
     refine rThen ?_
     refine xSeq [8, 10] (reach_Back_Find_k0 F ) ?_ fun hj0 => ?_
     · intro x8 x10
       show OKc _ _ [(10, x10), (8, x8)] _ _
       refine rSeq ?_
       refine cLess [10, 8] ?_
       refine xR hE [8, 10] rfl (reach_Back_Find_r18_ok F _ _ _) ?_
       intro x8 x10
       show OKq _ _ _ [(10, x10), (8, x8)] _
       refine rThen ?_
       refine rSeq ?_
       refine cLess [10, 8] ?_
       refine xR hE [6, 7] rfl (reach_Back_Find_r19_ok F _ _ _) ?_
       intro x6 x7
       show OKq _ _ _ [(7, x7), (6, x6)] _
       refine rThen ?_
       refine rRet ?_
       exact rDone (.inr rfl) rfl
     · refine rBlock ?_
       refine cLess [11, 10, 9, 8, 2, 0] ?_
       refine xLoopAt [0, 2, 8, 9, 10, 11] [] (fun k1 => reach_Back_Find_l1 F (fun x8 x10 => reach_Back_Find_k0 F x8 x10) k1) F [x0, x2, x8, x9, x10, x11] rfl rfl (fun _ _ _ _ _ _ => rfl) fun I hI1 k1 => ?_
       intro x0 x2 x8 x9 x10 x11
       show OKc _ _ [(11, x11), (10, x10), (9, x9), (8, x8), (2, x2), (0, x0)] _ _
       refine cAs (reach_Back_Find_l1_s F _ _ _ _ _ _ _ _) ?_
       refine rSeq ?_
       refine rSeq ?_
       refine cLess [11, 10, 9, 8, 2, 0] ?_
       refine xR hE [0, 2, 8, 9, 10, 11, 31] rfl (reach_Back_Find_r5_ok F _ _ _ _ _ _ _) ?_
       intro x0 x2 x8 x9 x10 x11 x31
       show OKq _ _ _ [(31, x31), (11, x11), (10, x10), (9, x9), (8, x8), (2, x2), (0, x0)] _
       refine rThen ?_
       refine xCond rfl rfl ?_ ?_
       · refine rSkip ?_
         refine rThen ?_
         refine rBlock ?_
         refine rScope ?_
         refine rSeq ?_
         refine cLess [11, 10, 9, 8, 2, 0] ?_
         refine xR hE [0, 2, 8, 9, 10, 11, 12] rfl (reach_Back_Find_r6_ok F _ _ _ _ _ _ _) ?_
         intro x0 x2 x8 x9 x10 x11 x12
         show OKq _ _ _ [(12, x12), (11, x11), (10, x10), (9, x9), (8, x8), (2, x2), (0, x0)] _
         refine rThen ?_
         refine rSeq ?_
         refine cLess [12, 11, 10, 9, 8, 2, 0] ?_
         refine xR hE [0, 2, 8, 9, 10, 11, 12] rfl (reach_Back_Find_r7_ok F _ _ _ _ _ _ _ _) ?_
         intro x0 x2 x8 x9 x10 x11 x12
         show OKq _ _ _ [(12, x12), (11, x11), (10, x10), (9, x9), (8, x8), (2, x2), (0, x0)] _
         refine rThen ?_
         refine rSeq ?_
         refine rLabel ?_
         refine rThen ?_
         refine rSeq ?_
         refine cLess [12, 11, 10, 9, 8, 2, 0] ?_
         refine xD Trymix hE [0, 2, 8, 9, 10, 11, 48, 49, 50] rfl reach_Back_Find_r8_good (reach_Back_Find_r8_ok F _ _ _ _ _ _ _ _) ?_
         intro x0 x2 x8 x9 x10 x11 x48 x49 x50
         show OKq _ _ _ [(50, x50), (49, x49), (48, x48), (11, x11), (10, x10), (9, x9), (8, x8), (2, x2), (0, x0)] _
         refine rThen ?_
         refine rBlock ?_
         refine cLess [50, 49, 48, 11, 10, 9, 8, 2, 0] ?_
         refine xLoopAt [0, 2, 8, 9, 10, 11, 48, 49, 50] [] (fun k2 => reach_Back_Find_l2 F (fun x0 x2 x8 x9 x10 x11 => (reach_Back_Find_l1 F (fun x8 x10 => reach_Back_Find_k0 F x8 x10) k1) x0 x2 x8 x9 x10 x11) k2) F [x0, x2, x8, x9, x10, x11, x48, x49, x50] rfl rfl (fun _ _ _ _ _ _ _ _ _ => rfl) fun I hI2 k2 => ?_
         intro x0 x2 x8 x9 x10 x11 x48 x49 x50
         show OKc _ _ [(50, x50), (49, x49), (48, x48), (11, x11), (10, x10), (9, x9), (8, x8), (2, x2), (0, x0)] _ _
         refine cAs (reach_Back_Find_l2_s F _ _ _ _ _ _ _ _ _ _ _) ?_
         refine rSeq ?_
         refine cLess [50, 49, 48, 11, 10, 9, 8, 2, 0] ?_
         refine xR hE [0, 2, 8, 9, 10, 11, 48, 49, 50, 51] rfl (reach_Back_Find_r9_ok F _ _ _ _ _ _ _ _ _ _) ?_
         intro x0 x2 x8 x9 x10 x11 x48 x49 x50 x51
         show OKq _ _ _ [(51, x51), (50, x50), (49, x49), (48, x48), (11, x11), (10, x10), (9, x9), (8, x8), (2, x2), (0, x0)] _
         refine rThen ?_
         refine rSeq ?_
         refine xCond rfl rfl ?_ ?_
         · refine rSkip ?_
           refine rThen ?_
           refine xSeq [0, 2, 8, 9, 10, 11, 48, 49, 50] (reach_Back_Find_k3 F (reach_Back_Find_l2 F (fun x0 x2 x8 x9 x10 x11 => (reach_Back_Find_l1 F (fun x8 x10 => reach_Back_Find_k0 F x8 x10) k1) x0 x2 x8 x9 x10 x11) k2) ) ?_ fun hj3 => ?_
           · intro x0 x2 x8 x9 x10 x11 x48 x49 x50
             show OKc _ _ [(50, x50), (49, x49), (48, x48), (11, x11), (10, x10), (9, x9), (8, x8), (2, x2), (0, x0)] _ _
             refine cLess [50, 49, 48, 11, 10, 9, 8, 2, 0] ?_
             refine xR hE [0, 2, 8, 9, 10, 11, 48, 49, 50] rfl (reach_Back_Find_r17_ok F _ _ _ _ _ _ _ _ _ _) ?_
             intro x0 x2 x8 x9 x10 x11 x48 x49 x50
             show OKq _ _ _ [(50, x50), (49, x49), (48, x48), (11, x11), (10, x10), (9, x9), (8, x8), (2, x2), (0, x0)] _
             exact qLess [50, 49, 48, 11, 10, 9, 8, 2, 0] (hI2 k2 x0 x2 x8 x9 x10 x11 x48 x49 x50)
           · refine rBlock ?_
             refine rSeq ?_
             refine cLess [50, 49, 48, 11, 10, 9, 8, 2, 0] ?_
             refine xR hE [0, 2, 8, 9, 10, 11, 14, 48, 49, 50] rfl (reach_Back_Find_r10_ok F _ _ _ _ _ _ _ _ _ _) ?_
             intro x0 x2 x8 x9 x10 x11 x14 x48 x49 x50
             show OKq _ _ _ [(50, x50), (49, x49), (48, x48), (14, x14), (11, x11), (10, x10), (9, x9), (8, x8), (2, x2), (0, x0)] _
             refine rThen ?_
             refine rSeq ?_
             refine rSeq ?_
             refine cLess [50, 49, 48, 14, 11, 10, 9, 8, 2, 0] ?_
             refine xR hE [0, 2, 8, 9, 10, 11, 14, 48, 49, 50, 62] rfl (reach_Back_Find_r11_ok F _ _ _ _ _ _ _ _ _ _ _) ?_
             intro x0 x2 x8 x9 x10 x11 x14 x48 x49 x50 x62
             show OKq _ _ _ [(62, x62), (50, x50), (49, x49), (48, x48), (14, x14), (11, x11), (10, x10), (9, x9), (8, x8), (2, x2), (0, x0)] _
             refine rThen ?_
             refine xCond rfl rfl ?_ ?_
             · refine rExit ?_
               refine xThenX ?_
               refine rOut ?_
               exact qLess [50, 49, 48, 11, 10, 9, 8, 2, 0] (hj3 x0 x2 x8 x9 x10 x11 x48 x49 x50)
             · refine rSkip ?_
               refine rThen ?_
               refine rSeq ?_
               refine cLess [50, 49, 48, 14, 11, 10, 9, 8, 2, 0] ?_
               refine xR hE [0, 2, 8, 9, 10, 11, 14, 48, 49, 50] rfl (reach_Back_Find_r12_ok F _ _ _ _ _ _ _ _ _ _ _) ?_
               intro x0 x2 x8 x9 x10 x11 x14 x48 x49 x50
               show OKq _ _ _ [(50, x50), (49, x49), (48, x48), (14, x14), (11, x11), (10, x10), (9, x9), (8, x8), (2, x2), (0, x0)] _
               refine rThen ?_
               refine rSeq ?_
               refine rSeq ?_
               refine cLess [50, 49, 48, 14, 11, 10, 9, 8, 2, 0] ?_
               refine xR hE [0, 2, 8, 9, 10, 11, 14, 48, 49, 50, 73] rfl (reach_Back_Find_r13_ok F _ _ _ _ _ _ _ _ _ _ _) ?_
               intro x0 x2 x8 x9 x10 x11 x14 x48 x49 x50 x73
               show OKq _ _ _ [(73, x73), (50, x50), (49, x49), (48, x48), (14, x14), (11, x11), (10, x10), (9, x9), (8, x8), (2, x2), (0, x0)] _
               refine rThen ?_
               refine xCond rfl rfl ?_ ?_
               · refine rSeq ?_
                 refine cLess [50, 49, 48, 14, 11, 10, 9, 8, 2, 0] ?_
                 refine xR hE [0, 2, 8, 9, 10, 11, 48, 49, 50] rfl (reach_Back_Find_r14_ok F _ _ _ _ _ _ _ _ _ _ _) ?_
                 intro x0 x2 x8 x9 x10 x11 x48 x49 x50
                 show OKq _ _ _ [(50, x50), (49, x49), (48, x48), (11, x11), (10, x10), (9, x9), (8, x8), (2, x2), (0, x0)] _
                 refine rThen ?_
                 refine rExit ?_
                 refine xThenX ?_
                 refine rOut ?_
                 exact qLess [50, 49, 48, 11, 10, 9, 8, 2, 0] (hj3 x0 x2 x8 x9 x10 x11 x48 x49 x50)
               · refine rSkip ?_
                 refine rThen ?_
                 refine rSeq ?_
                 refine cLess [50, 49, 48, 14, 11, 10, 9, 8, 2, 0] ?_
                 refine xR hE [0, 2, 8, 9, 10, 11, 14, 48, 49, 50] rfl (reach_Back_Find_r15_ok F _ _ _ _ _ _ _ _ _ _ _) ?_
                 intro x0 x2 x8 x9 x10 x11 x14 x48 x49 x50
                 show OKq _ _ _ [(50, x50), (49, x49), (48, x48), (14, x14), (11, x11), (10, x10), (9, x9), (8, x8), (2, x2), (0, x0)] _
                 refine rThen ?_
                 refine cLess [50, 49, 48, 14, 11, 10, 9, 8, 2, 0] ?_
                 refine xR hE [0, 2, 8, 9, 10, 11, 48, 49, 50] rfl (reach_Back_Find_r16_ok F _ _ _ _ _ _ _ _ _ _ _) ?_
                 intro x0 x2 x8 x9 x10 x11 x48 x49 x50
                 show OKq _ _ _ [(50, x50), (49, x49), (48, x48), (11, x11), (10, x10), (9, x9), (8, x8), (2, x2), (0, x0)] _
                 refine xBlockN ?_
                 exact qLess [50, 49, 48, 11, 10, 9, 8, 2, 0] (hj3 x0 x2 x8 x9 x10 x11 x48 x49 x50)
         · refine rExit ?_
           refine xThenX ?_
           refine xThenX ?_
           refine rOut ?_
           refine xScN ?_
           refine xBlockN ?_
           exact qLess [11, 10, 9, 8, 2, 0] (hI1 k1 x0 x2 x8 x9 x10 x11)
       · refine rExit ?_
         refine xThenX ?_
         refine xThenX ?_
         refine rOut ?_
         exact qLess [10, 8] (hj0 x8 x10)
   · exact rFail


/-! ### haruspex/reach.Some -/

def reach_Some_env (F : Nat) : Env := envOf [(44, reach_Back_Find_m F), (45, reach_Some_1_m F)]

noncomputable def reach_Some_R (F : Nat) := rK Try.prog TryG (reach_Some_env F) Try.f28
noncomputable def reach_Some_D (F : Nat) := dK Try.prog TryG (reach_Some_env F) Try.f28

def reach_Some_r11 (F : Nat) (x13 : Value) (K : Value → M Value) : M Value :=
  K x13

theorem reach_Some_r11_ok (F : Nat) (x13 : Value) (K : Value → M Value) : reach_Some_r11 F x13 K = reach_Some_R F 11 [(13, x13)] [10] K := by kernel_rfl

def reach_Some_k0 (F : Nat) (x13 : Value) : M Value :=
  reach_Some_r11 F x13 (fun x10 => ret x10)

def reach_Some_r10 (F : Nat) (x13 x65 x66 x67 : Value) (K : Value → Value → Value → Value → M Value) : M Value :=
  bnd (opBin .add x67 (.int .i64 (1))) fun v76 => K x13 x65 x66 v76

theorem reach_Some_r10_ok (F : Nat) (x13 x65 x66 x67 : Value) (K : Value → Value → Value → Value → M Value) : reach_Some_r10 F x13 x65 x66 x67 K = reach_Some_R F 10 [(67, x67), (66, x66), (65, x65), (13, x13)] [13, 65, 66, 67] K := by kernel_rfl

def reach_Some_r9 (F : Nat) (x13 x16 x65 x66 x67 : Value) (K : Value → Value → Value → Value → M Value) : M Value :=
  bnd (opBuild [(.int .i64 (0)), (.int .i64 (0)), (.int .i64 (0)), (.int .i64 (0)), (.int .i64 (0))] [(0, 1, false, (.int .i64 (1))), (1, 1, false, x16)]) fun v73 => bnd (opBuildSlice 1 (rep 1 [(.int .i64 (0)), (.int .i64 (0)), (.int .i64 (0)), (.int .i64 (0)), (.int .i64 (0))]) [(0, 5, true, v73)]) fun v74 => bnd (opAppend 5 40 x13 v74) fun v75 => K v75 x65 x66 x67

theorem reach_Some_r9_ok (F : Nat) (x13 x16 x65 x66 x67 : Value) (K : Value → Value → Value → Value → M Value) : reach_Some_r9 F x13 x16 x65 x66 x67 K = reach_Some_R F 9 [(67, x67), (66, x66), (65, x65), (16, x16), (13, x13)] [13, 65, 66, 67] K := by kernel_rfl

def reach_Some_r8 (F : Nat) (x13 x65 x66 x67 : Value) (K : Value → Value → Value → Value → Value → M Value) : M Value :=
  bnd (opIndexAddr 1 x65 x67) fun v69 => bnd (opLoad v69) fun v70 => K x13 v70 x65 x66 x67

theorem reach_Some_r8_ok (F : Nat) (x13 x65 x66 x67 : Value) (K : Value → Value → Value → Value → Value → M Value) : reach_Some_r8 F x13 x65 x66 x67 K = reach_Some_R F 8 [(67, x67), (66, x66), (65, x65), (13, x13)] [13, 16, 65, 66, 67] K := by kernel_rfl

def reach_Some_r7 (F : Nat) (x13 x65 x66 x67 : Value) (K : Value → Value → Value → Value → Value → M Value) : M Value :=
  bnd (opBin .lss x67 x66) fun v68 => K x13 x65 x66 x67 v68

theorem reach_Some_r7_ok (F : Nat) (x13 x65 x66 x67 : Value) (K : Value → Value → Value → Value → Value → M Value) : reach_Some_r7 F x13 x65 x66 x67 K = reach_Some_R F 7 [(67, x67), (66, x66), (65, x65), (13, x13)] [13, 65, 66, 67, 68] K := by kernel_rfl

def reach_Some_b1 (F : Nat) (E1_0 : Value → M Value) (A1 : Value → Value → Value → Value → M Value) (x13 x65 x66 x67 : Value) : M Value :=
  reach_Some_r7 F x13 x65 x66 x67 (fun x13 x65 x66 x67 x68 => onB x68 (reach_Some_r8 F x13 x65 x66 x67 (fun x13 x16 x65 x66 x67 => reach_Some_r9 F x13 x16 x65 x66 x67 (fun x13 x65 x66 x67 => reach_Some_r10 F x13 x65 x66 x67 (fun x13 x65 x66 x67 => A1 x13 x65 x66 x67)))) (E1_0 x13))

def reach_Some_l1 (F : Nat) (E1_0 : Value → M Value) : Nat → Value → Value → Value → Value → M Value
  | 0, _, _, _, _ => fail
  | k1 + 1, x13, x65, x66, x67 => reach_Some_b1 F E1_0 (reach_Some_l1 F E1_0 k1) x13 x65 x66 x67

theorem reach_Some_l1_s (F : Nat) (E1_0 : Value → M Value) (k1 : Nat) (x13 x65 x66 x67 : Value) : reach_Some_l1 F E1_0 (k1 + 1) x13 x65 x66 x67 = reach_Some_b1 F E1_0 (reach_Some_l1 F E1_0 k1) x13 x65 x66 x67 := rfl

def reach_Some_r6 (F : Nat) (x11 x13 : Value) (K : Value → Value → Value → Value → M Value) : M Value :=
  bnd (opLen x11) fun v66 => K x13 x11 v66 (.int .i64 (0))

theorem reach_Some_r6_ok (F : Nat) (x11 x13 : Value) (K : Value → Value → Value → Value → M Value) : reach_Some_r6 F x11 x13 K = reach_Some_R F 6 [(13, x13), (11, x11)] [13, 65, 66, 67] K := by kernel_rfl

def reach_Some_k2 (F : Nat) (x11 x13 : Value) : M Value :=
  reach_Some_r6 F x11 x13 (fun x13 x65 x66 x67 => reach_Some_l1 F (fun x13 => reach_Some_k0 F x13) F x13 x65 x66 x67)

def reach_Some_r5 (F : Nat) (x2 x9 x11 x13 : Value) (K : Value → Value → M Value) : M Value :=
  bnd (opLoad x9) fun v61 => bnd (opBuild [(.int .i64 (0)), (.int .i64 (0)), (.int .i64 (0)), (.int .i64 (0)), (.int .i64 (0))] [(0, 1, false, (.int .i64 (2))), (1, 1, false, x2), (2, 1, false, v61)]) fun v62 => bnd (opBuildSlice 1 (rep 1 [(.int .i64 (0)), (.int .i64 (0)), (.int .i64 (0)), (.int .i64 (0)), (.int .i64 (0))]) [(0, 5, true, v62)]) fun v63 => bnd (opAppend 5 40 x13 v63) fun v64 => K x11 v64

theorem reach_Some_r5_ok (F : Nat) (x2 x9 x11 x13 : Value) (K : Value → Value → M Value) : reach_Some_r5 F x2 x9 x11 x13 K = reach_Some_R F 5 [(13, x13), (11, x11), (9, x9), (2, x2)] [11, 13] K := by kernel_rfl

def reach_Some_r4 (F : Nat) (x2 x5 x9 x11 x12 x13 x14 : Value) (K : Value → Value → Value → Value → Value → M Value) : M Value :=
  onB x12 (bnd (opBin .geq x14 (.int .i64 (0))) fun v35 => onB v35 (bnd (opLoad x5) fun v39 => bnd (opNil v39) fun v40 => bnd (opFieldAddr 1 v40) fun v41 => bnd (opLoad v41) fun v42 => bnd (opLen v42) fun v43 => bnd (opBin .lss x14 v43) fun v44 => onB v44 (bnd (opLoad x9) fun v47 => bnd (opLoad x5) fun v48 => bnd (opNil v48) fun v49 => bnd (opFieldAddr 1 v49) fun v50 => bnd (opLoad v50) fun v51 => bnd (opIndexAddr 3 v51 x14) fun v53 => bnd (opFieldAddr 0 v53) fun v54 => bnd (opLoad v54) fun v55 => bnd (opLen v55) fun v56 => bnd (opBin .lss v47 v56) fun v57 => K x2 x9 x11 x13 v57) (K x2 x9 x11 x13 (.bool false))) (K x2 x9 x11 x13 (.bool false))) (K x2 x9 x11 x13 (.bool false))

theorem reach_Some_r4_ok (F : Nat) (x2 x5 x9 x11 x12 x13 x14 : Value) (K : Value → Value → Value → Value → Value → M Value) : reach_Some_r4 F x2 x5 x9 x11 x12 x13 x14 K = reach_Some_D F 4 [0, 1, 2, 3, 4, 5, 6, 7, 8, 9, 10, 11, 12, 13, 14, 15, 16, 17, 18, 19, 20, 21, 22, 23, 24, 25, 26] [(14, x14), (13, x13), (12, x12), (11, x11), (9, x9), (5, x5), (2, x2)] [2, 9, 11, 13, 58] K := by kernel_rfl

theorem reach_Some_r4_good : goodOrder (opsOf Try.f28 4) [0, 1, 2, 3, 4, 5, 6, 7, 8, 9, 10, 11, 12, 13, 14, 15, 16, 17, 18, 19, 20, 21, 22, 23, 24, 25, 26] = true := by kernel_rfl

def reach_Some_r3 (F : Nat) (x2 x5 x9 x11 x12 x13 : Value) (K : Value → Value → Value → Value → Value → Value → Value → M Value) : M Value :=
  bnd (opLoad x5) fun v24 => bnd (opNil v24) fun v25 => bnd (opFieldAddr 4 v25) fun v26 => bnd (opLoad v26) fun v27 => bnd (opIndexAddr 3 v27 x2) fun v29 => bnd (opFieldAddr 0 v29) fun v30 => bnd (opLoad v30) fun v31 => K x2 x5 x9 x11 x12 x13 v31

theorem reach_Some_r3_ok (F : Nat) (x2 x5 x9 x11 x12 x13 : Value) (K : Value → Value → Value → Value → Value → Value → Value → M Value) : reach_Some_r3 F x2 x5 x9 x11 x12 x13 K = reach_Some_R F 3 [(13, x13), (12, x12), (11, x11), (9, x9), (5, x5), (2, x2)] [2, 5, 9, 11, 12, 13, 14] K := by kernel_rfl

def reach_Some_r2 (F : Nat) (x2 x5 x9 x11 x12 : Value) (K : Value → Value → Value → Value → Value → Value → M Value) : M Value :=
  K x2 x5 x9 x11 x12 (.slice none 0 0)

theorem reach_Some_r2_ok (F : Nat) (x2 x5 x9 x11 x12 : Value) (K : Value → Value → Value → Value → Value → Value → M Value) : reach_Some_r2 F x2 x5 x9 x11 x12 K = reach_Some_R F 2 [(12, x12), (11, x11), (9, x9), (5, x5), (2, x2)] [2, 5, 9, 11, 12, 13] K := by kernel_rfl

def reach_Some_r1 (F : Nat) (x1 x2 x3 x5 x9 : Value) (K : Value → Value → Value → Value → Value → M Value) : M Value :=
  bnd (opFunc (.func 45) [x5, x9]) fun v20 => bnd (reach_Back_Find F x1 x3 v20) fun v21 => bnd (opExtract v21 0) fun v22 => bnd (opExtract v21 1) fun v23 => K x2 x5 x9 v22 v23

theorem reach_Some_r1_ok (F : Nat) (x1 x2 x3 x5 x9 : Value) (K : Value → Value → Value → Value → Value → M Value) : reach_Some_r1 F x1 x2 x3 x5 x9 K = reach_Some_R F 1 [(9, x9), (5, x5), (3, x3), (2, x2), (1, x1)] [2, 5, 9, 11, 12] K := by kernel_rfl

def reach_Some_r0 (F : Nat) (x0 x1 x2 x3 x4 : Value) (K : Value → Value → Value → Value → Value → M Value) : M Value :=
  bnd (opPtr [x0]) fun v5 => bnd (opPtr [x4]) fun v9 => K x1 x2 x3 v5 v9

theorem reach_Some_r0_ok (F : Nat) (x0 x1 x2 x3 x4 : Value) (K : Value → Value → Value → Value → Value → M Value) : reach_Some_r0 F x0 x1 x2 x3 x4 K = reach_Some_R F 0 [(4, x4), (3, x3), (2, x2), (1, x1), (0, x0)] [1, 2, 3, 5, 9] K := by kernel_rfl

def reach_Some (F : Nat) (x0 x1 x2 x3 x4 : Value) : M Value :=
  reach_Some_r0 F x0 x1 x2 x3 x4 (fun x1 x2 x3 x5 x9 => reach_Some_r1 F x1 x2 x3 x5 x9 (fun x2 x5 x9 x11 x12 => reach_Some_r2 F x2 x5 x9 x11 x12 (fun x2 x5 x9 x11 x12 x13 => reach_Some_r3 F x2 x5 x9 x11 x12 x13 (fun x2 x5 x9 x11 x12 x13 x14 => reach_Some_r4 F x2 x5 x9 x11 x12 x13 x14 (fun x2 x9 x11 x13 x58 => onB x58 (reach_Some_r5 F x2 x9 x11 x13 (fun x11 x13 => reach_Some_k2 F x11 x13)) (reach_Some_k2 F x11 x13))))))

def reach_Some_m (F : Nat) : List Value → M Value
  | [x0, x1, x2, x3, x4] => reach_Some F x0 x1 x2 x3 x4
  | _ => fail

theorem reach_Some_body : Try.f28.body = some (.seq (.region 0 (opsOf Try.f28 0) false) (.seq (.region 1 (opsOf Try.f28 1) false) (.seq (.region 2 (opsOf Try.f28 2) false) (.seq (.seq (.region 3 (opsOf Try.f28 3) false) (.seq (.region 4 (opsOf Try.f28 4) true) (.cond (.tmp 58) (.region 5 (opsOf Try.f28 5) false) .skip))) (.seq (.seq (.region 6 (opsOf Try.f28 6) false) (.block 0 (.loop (.seq (.region 7 (opsOf Try.f28 7) false) (.seq (.cond (.tmp 68) .skip (.exit 0)) (.seq (.block 1 (.seq (.region 8 (opsOf Try.f28 8) false) (.region 9 (opsOf Try.f28 9) false))) (.region 10 (opsOf Try.f28 10) false))))))) (.seq (.region 11 (opsOf Try.f28 11) false) .ret)))))) := by kernel_rfl

theorem reach_Some_ok (F : Nat) : Sim Try.prog TryG 28 (reach_Some_m F) := by
 have hE : EnvOK Try.prog TryG (reach_Some_env F) := (EnvOK.cons (reach_Back_Find_ok F) (EnvOK.cons (reach_Some_1_ok F) EnvOK.nil))
 refine Sim.of_body (E := reach_Some_env F) Try.func28 reach_Some_body Try.call28 ?_ ?_
 · intro args hl; unfold reach_Some_m; split
   · exact absurd hl (Nat.not_lt.2 (Nat.le_of_ble_eq_true rfl))
   · rfl
 · intro args ρ h w z; unfold reach_Some_m; split
   · rename_i x0 x1 x2 x3 x4; show OKc _ _ [(0, x0), (1, x1), (2, x2), (3, x3), (4, x4)] _ _
     refine rSeq ?_
     refine cLess [4, 3, 2, 1, 0] ?_
     refine xR hE [1, 2, 3, 5, 9] rfl (reach_Some_r0_ok F _ _ _ _ _ _) ?_
     intro x1 x2 x3 x5 x9
     show OKq _ _ _ [(9, x9), (5, x5), (3, x3), (2, x2), (1, x1)] _
     refine rThen ?_
     refine rSeq ?_
     refine cLess [9, 5, 3, 2, 1] ?_
     refine xR hE [2, 5, 9, 11, 12] rfl (reach_Some_r1_ok F _ _ _ _ _ _) ?_
     intro x2 x5 x9 x11 x12
     show OKq _ _ _ [(12, x12), (11, x11), (9, x9), (5, x5), (2, x2)] _
     refine rThen ?_
     refine rSeq ?_
     refine cLess [12, 11, 9, 5, 2] ?_
     refine xR hE [2, 5, 9, 11, 12, 13] rfl (reach_Some_r2_ok F _ _ _ _ _ _) ?_
     intro x2 x5 x9 x11 x12 x13
     show OKq _ _ _ [(13, x13), (12, x12), (11, x11), (9, x9), (5, x5), (2, x2)] _
     refine rThen ?_
     refine xSeq [11, 13] (reach_Some_k2 F ) ?_ fun hj2 => ?_
     · intro x11 x13
       show OKc _ _ [(13, x13), (11, x11)] _ _
       refine xSeq [13] (reach_Some_k0 F ) ?_ fun hj0 => ?_
       · intro x13
         show OKc _ _ [(13, x13)] _ _
         refine rSeq ?_
         refine cLess [13] ?_
         refine xR hE [10] rfl (reach_Some_r11_ok F _ _) ?_
         intro x10
         show OKq _ _ _ [(10, x10)] _
         refine rThen ?_
         refine rRet ?_
         exact rDone (.inr rfl) rfl
       · refine rSeq ?_
         refine cLess [13, 11] ?_
         refine xR hE [13, 65, 66, 67] rfl (reach_Some_r6_ok F _ _ _) ?_
         intro x13 x65 x66 x67
         show OKq _ _ _ [(67, x67), (66, x66), (65, x65), (13, x13)] _
         refine rThen ?_
         refine rBlock ?_
         refine cLess [67, 66, 65, 13] ?_
         refine xLoopAt [13, 65, 66, 67] [] (fun k1 => reach_Some_l1 F (fun x13 => reach_Some_k0 F x13) k1) F [x13, x65, x66, x67] rfl rfl (fun _ _ _ _ => rfl) fun I hI1 k1 => ?_
         intro x13 x65 x66 x67
         show OKc _ _ [(67, x67), (66, x66), (65, x65), (13, x13)] _ _
         refine cAs (reach_Some_l1_s F _ _ _ _ _ _) ?_
         refine rSeq ?_
         refine cLess [67, 66, 65, 13] ?_
         refine xR hE [13, 65, 66, 67, 68] rfl (reach_Some_r7_ok F _ _ _ _ _) ?_
         intro x13 x65 x66 x67 x68
         show OKq _ _ _ [(68, x68), (67, x67), (66, x66), (65, x65), (13, x13)] _
         refine rThen ?_
         refine rSeq ?_
         refine xCond rfl rfl ?_ ?_
         · refine rSkip ?_
           refine rThen ?_
           refine rSeq ?_
           refine rBlock ?_
           refine rSeq ?_
           refine cLess [67, 66, 65, 13] ?_
           refine xR hE [13, 16, 65, 66, 67] rfl (reach_Some_r8_ok F _ _ _ _ _) ?_
           intro x13 x16 x65 x66 x67
           show OKq _ _ _ [(67, x67), (66, x66), (65, x65), (16, x16), (13, x13)] _
           refine rThen ?_
           refine cLess [67, 66, 65, 16, 13] ?_
           refine xR hE [13, 65, 66, 67] rfl (reach_Some_r9_ok F _ _ _ _ _ _) ?_
           intro x13 x65 x66 x67
           show OKq _ _ _ [(67, x67), (66, x66), (65, x65), (13, x13)] _
           refine xBlockN ?_
           refine rThen ?_
           refine cLess [67, 66, 65, 13] ?_
           refine xR hE [13, 65, 66, 67] rfl (reach_Some_r10_ok F _ _ _ _ _) ?_
           intro x13 x65 x66 x67
           show OKq _ _ _ [(67, x67), (66, x66), (65, x65), (13, x13)] _
           exact qLess [67, 66, 65, 13] (hI1 k1 x13 x65 x66 x67)
         · refine rExit ?_
           refine xThenX ?_
           refine xThenX ?_
           refine rOut ?_
           exact qLess [13] (hj0 x13)
     · refine rSeq ?_
       refine cLess [13, 12, 11, 9, 5, 2] ?_
       refine xR hE [2, 5, 9, 11, 12, 13, 14] rfl (reach_Some_r3_ok F _ _ _ _ _ _ _) ?_
       intro x2 x5 x9 x11 x12 x13 x14
       show OKq _ _ _ [(14, x14), (13, x13), (12, x12), (11, x11), (9, x9), (5, x5), (2, x2)] _
       refine rThen ?_
       refine rSeq ?_
       refine cLess [14, 13, 12, 11, 9, 5, 2] ?_
       refine xD Trymix hE [2, 9, 11, 13, 58] rfl reach_Some_r4_good (reach_Some_r4_ok F _ _ _ _ _ _ _ _) ?_
       intro x2 x9 x11 x13 x58
       show OKq _ _ _ [(58, x58), (13, x13), (11, x11), (9, x9), (2, x2)] _
       refine rThen ?_
       refine xCond rfl rfl ?_ ?_
       · refine cLess [13, 11, 9, 2] ?_
         refine xR hE [11, 13] rfl (reach_Some_r5_ok F _ _ _ _ _) ?_
         intro x11 x13
         show OKq _ _ _ [(13, x13), (11, x11)] _
         exact qLess [13, 11] (hj2 x11 x13)
       · refine rSkip ?_
         exact qLess [13, 11] (hj2 x11 x13)
   · exact rFail


/-! ### haruspex/reach.Defs -/

def reach_Defs_env (F : Nat) : Env := envOf [(27, ir_Point_m F), (28, reach_Some_m F), (29, reach_Of_m F)]

noncomputable def reach_Defs_R (F : Nat) := rK Try.prog TryG (reach_Defs_env F) Try.f12
noncomputable def reach_Defs_D (F : Nat) := dK Try.prog TryG (reach_Defs_env F) Try.f12

def reach_Defs_r4 (F : Nat) (x0 x1 x2 x7 : Value) (K : Value → M Value) : M Value :=
  bnd (opFieldAddr 0 x7) fun v37 => bnd (opLoad v37) fun v38 => bnd (opFieldAddr 0 x7) fun v40 => bnd (opLoad v40) fun v41 => bnd (reach_Of F x0 v38) fun v39 => bnd (opChk false v40 v41) fun _ => bnd (reach_Some F x0 v39 v41 x1 x2) fun v44 => K v44

theorem reach_Defs_r4_ok (F : Nat) (x0 x1 x2 x7 : Value) (K : Value → M Value) : reach_Defs_r4 F x0 x1 x2 x7 K = reach_Defs_D F 4 [0, 1, 2, 3, 5, 6, 7, 8, 4, 9, 10] [(7, x7), (2, x2), (1, x1), (0, x0)] [6] K := by kernel_rfl

theorem reach_Defs_r4_good : goodOrder (opsOf Try.f12 4) [0, 1, 2, 3, 5, 6, 7, 8, 4, 9, 10] = true := by kernel_rfl

def reach_Defs_r3 (F : Nat) (K : Value → M Value) : M Value :=
  K (.slice none 0 0)

theorem reach_Defs_r3_ok (F : Nat) (K : Value → M Value) : reach_Defs_r3 F K = reach_Defs_R F 3 [] [6] K := by kernel_rfl

def reach_Defs_r2 (F : Nat) (x0 x1 x2 x7 x8 : Value) (K : Value → Value → Value → Value → Value → M Value) : M Value :=
  bnd (opNot x8) fun v16 => onB v16 (K x0 x1 x2 x7 (.bool true)) (bnd (opBin .lss x2 (.int .i64 (0))) fun v19 => onB v19 (K x0 x1 x2 x7 (.bool true)) (bnd (opNil x0) fun v24 => bnd (opFieldAddr 4 v24) fun v25 => bnd (opLoad v25) fun v26 => bnd (opFieldAddr 0 x7) fun v27 => bnd (opLoad v27) fun v28 => bnd (opIndexAddr 3 v26 v28) fun v29 => bnd (opFieldAddr 1 v29) fun v30 => bnd (opLoad v30) fun v31 => bnd (opLen v31) fun v32 => bnd (opBin .geq x2 v32) fun v33 => K x0 x1 x2 x7 v33))

theorem reach_Defs_r2_ok (F : Nat) (x0 x1 x2 x7 x8 : Value) (K : Value → Value → Value → Value → Value → M Value) : reach_Defs_r2 F x0 x1 x2 x7 x8 K = reach_Defs_D F 2 [0, 1, 2, 3, 4, 5, 6, 7, 8, 9, 10, 11, 12, 13, 14, 15, 16, 17, 18, 19] [(8, x8), (7, x7), (2, x2), (1, x1), (0, x0)] [0, 1, 2, 7, 34] K := by kernel_rfl

theorem reach_Defs_r2_good : goodOrder (opsOf Try.f12 2) [0, 1, 2, 3, 4, 5, 6, 7, 8, 9, 10, 11, 12, 13, 14, 15, 16, 17, 18, 19] = true := by kernel_rfl

def reach_Defs_r1 (F : Nat) (x0 x1 x2 : Value) (K : Value → Value → Value → Value → Value → M Value) : M Value :=
  bnd (ir_Point F x0 x1) fun v12 => bnd (opExtract v12 0) fun v13 => bnd (opExtract v12 1) fun v14 => bnd (opPtr [(.int .i64 (0)), (.int .i64 (0)), (.int .i64 (0))]) fun v7 => bnd (opStoreN 3 v7 v13) fun _ => K x0 x1 x2 v7 v14

theorem reach_Defs_r1_ok (F : Nat) (x0 x1 x2 : Value) (K : Value → Value → Value → Value → Value → M Value) : reach_Defs_r1 F x0 x1 x2 K = reach_Defs_R F 1 [(2, x2), (1, x1), (0, x0)] [0, 1, 2, 7, 8] K := by kernel_rfl

def reach_Defs_r0 (F : Nat) (x0 x1 x2 : Value) (K : Value → Value → Value → M Value) : M Value :=
  K x0 x1 x2

theorem reach_Defs_r0_ok (F : Nat) (x0 x1 x2 : Value) (K : Value → Value → Value → M Value) : reach_Defs_r0 F x0 x1 x2 K = reach_Defs_R F 0 [(2, x2), (1, x1), (0, x0)] [0, 1, 2] K := by kernel_rfl

def reach_Defs (F : Nat) (x0 x1 x2 : Value) : M Value :=
  reach_Defs_r0 F x0 x1 x2 (fun x0 x1 x2 => reach_Defs_r1 F x0 x1 x2 (fun x0 x1 x2 x7 x8 => reach_Defs_r2 F x0 x1 x2 x7 x8 (fun x0 x1 x2 x7 x34 => onB x34 (reach_Defs_r3 F (fun x6 => ret x6)) (reach_Defs_r4 F x0 x1 x2 x7 (fun x6 => ret x6)))))

def reach_Defs_m (F : Nat) : List Value → M Value
  | [x0, x1, x2] => reach_Defs F x0 x1 x2
  | _ => fail

theorem reach_Defs_body : Try.f12.body = some (.seq (.region 0 (opsOf Try.f12 0) false) (.seq (.region 1 (opsOf Try.f12 1) false) (.seq (.seq (.region 2 (opsOf Try.f12 2) true) (.cond (.tmp 34) (.seq (.region 3 (opsOf Try.f12 3) false) .ret) .skip)) (.seq (.region 4 (opsOf Try.f12 4) true) .ret)))) := by kernel_rfl

theorem reach_Defs_ok (F : Nat) : Sim Try.prog TryG 12 (reach_Defs_m F) := by
 have hE : EnvOK Try.prog TryG (reach_Defs_env F) := (EnvOK.cons (ir_Point_ok F) (EnvOK.cons (reach_Some_ok F) (EnvOK.cons (reach_Of_ok F) EnvOK.nil)))
 refine Sim.of_body (E := reach_Defs_env F) Try.func12 reach_Defs_body Try.call12 ?_ ?_
 · intro args hl; unfold reach_Defs_m; split
   · exact absurd hl (Nat.not_lt.2 (Nat.le_of_ble_eq_true rfl))
   · rfl
 · intro args ρ h w z; unfold reach_Defs_m; split
   · rename_i x0 x1 x2; show OKc _ _ [(0, x0), (1, x1), (2, x2)] _ _
     refine rSeq ?_
     refine cLess [2, 1, 0] ?_
     refine xR hE [0, 1, 2] rfl (reach_Defs_r0_ok F _ _ _ _) ?_
     intro x0 x1 x2
     show OKq _ _ _ [(2, x2), (1, x1), (0, x0)] _
     refine rThen ?_
     refine rSeq ?_
     refine cLess [2, 1, 0] ?_
     refine xR hE [0, 1, 2, 7, 8] rfl (reach_Defs_r1_ok F _ _ _ _) ?_
     intro x0 x1 x2 x7 x8
     show OKq _ _ _ [(8, x8), (7, x7), (2, x2), (1, x1), (0, x0)] _
     refine rThen ?_
     refine rSeq ?_
     refine rSeq ?_
     refine cLess [8, 7, 2, 1, 0] ?_
     refine xD Trymix hE [0, 1, 2, 7, 34] rfl reach_Defs_r2_good (reach_Defs_r2_ok F _ _ _ _ _ _) ?_
     intro x0 x1 x2 x7 x34
     show OKq _ _ _ [(34, x34), (7, x7), (2, x2), (1, x1), (0, x0)] _
     refine rThen ?_
     refine xCond rfl rfl ?_ ?_
     · refine rSeq ?_
       refine cLess [] ?_
       refine xR hE [6] rfl (reach_Defs_r3_ok F _) ?_
       intro x6
       show OKq _ _ _ [(6, x6)] _
       refine rThen ?_
       refine rRet ?_
       refine xThenR ?_
       exact rDone (.inr rfl) rfl
     · refine rSkip ?_
       refine rThen ?_
       refine rSeq ?_
       refine cLess [7, 2, 1, 0] ?_
       refine xD Trymix hE [6] rfl reach_Defs_r4_good (reach_Defs_r4_ok F _ _ _ _ _) ?_
       intro x6
       show OKq _ _ _ [(6, x6)] _
       refine rThen ?_
       refine rRet ?_
       exact rDone (.inr rfl) rfl
   · exact rFail


/-! ### haruspex/haruspexlaw21.begun -/

def L21_begun_env (F : Nat) : Env := envOf [(12, reach_Defs_m F), (16, L10_One_m F), (18, R1_Eq_m F), (19, reach_Used_m F)]

noncomputable def L21_begun_R (F : Nat) := rK Try.prog TryG (L21_begun_env F) Try.f6
noncomputable def L21_begun_D (F : Nat) := dK Try.prog TryG (L21_begun_env F) Try.f6

def L21_begun_r3 (F : Nat) (x1 x2 : Value) (K : Value → M Value) : M Value :=
  bnd (opLen x2) fun v7 => bnd (opBin .eql v7 (.int .i64 (1))) fun v8 => onB v8 (bnd (opIndexAddr 5 x2 (.int .i64 (0))) fun v11 => bnd (opFieldAddr 0 v11) fun v12 => bnd (opLoad v12) fun v13 => bnd (opBin .eql v13 (.int .i64 (1))) fun v14 => onB v14 (bnd (opIndexAddr 5 x2 (.int .i64 (0))) fun v18 => bnd (opFieldAddr 1 v18) fun v19 => bnd (opLoad v19) fun v20 => bnd (opBin .eql v20 (.int .i64 (0))) fun v21 => onB v21 (bnd (reach_Defs F x1 (.int .i64 (0)) (.int .i64 (0))) fun v25 => bnd (opLen v25) fun v26 => bnd (opBin .eql v26 (.int .i64 (0))) fun v27 => onB v27 (bnd (reach_Used F x1 (.int .i64 (1))) fun v31 => bnd (opBuildSlice 1 (rep 1 [(.int .i64 (0))]) [(0, 1, false, (.int .i64 (0)))]) fun v32 => bnd (R1_Eq F v31 v32) fun v33 => K v33) (K (.bool false))) (K (.bool false))) (K (.bool false))) (K (.bool false))

theorem L21_begun_r3_ok (F : Nat) (x1 x2 : Value) (K : Value → M Value) : L21_begun_r3 F x1 x2 K = L21_begun_R F 3 [(2, x2), (1, x1)] [0] K := by kernel_rfl

def L21_begun_r2 (F : Nat) (x1 : Value) (K : Value → Value → M Value) : M Value :=
  bnd (reach_Defs F x1 (.int .i64 (1)) (.int .i64 (0))) fun v5 => K x1 v5

theorem L21_begun_r2_ok (F : Nat) (x1 : Value) (K : Value → Value → M Value) : L21_begun_r2 F x1 K = L21_begun_R F 2 [(1, x1)] [1, 2] K := by kernel_rfl

def L21_begun_r1 (F : Nat) (K : Value → M Value) : M Value :=
  bnd (L10_One F) fun v3 => K v3

theorem L21_begun_r1_ok (F : Nat) (K : Value → M Value) : L21_begun_r1 F K = L21_begun_R F 1 [] [1] K := by kernel_rfl

def L21_begun_r0 (F : Nat) (K : M Value) : M Value :=
  K

theorem L21_begun_r0_ok (F : Nat) (K : M Value) : L21_begun_r0 F K = L21_begun_R F 0 [] [] K := by kernel_rfl

def L21_begun (F : Nat) : M Value :=
  L21_begun_r0 F (L21_begun_r1 F (fun x1 => L21_begun_r2 F x1 (fun x1 x2 => L21_begun_r3 F x1 x2 (fun x0 => ret x0))))

def L21_begun_m (F : Nat) : List Value → M Value
  | [] => L21_begun F
  | _ => fail

theorem L21_begun_body : Try.f6.body = some (.seq (.region 0 (opsOf Try.f6 0) false) (.seq (.region 1 (opsOf Try.f6 1) false) (.seq (.region 2 (opsOf Try.f6 2) false) (.seq (.region 3 (opsOf Try.f6 3) false) .ret)))) := by kernel_rfl

theorem L21_begun_ok (F : Nat) : Sim Try.prog TryG 6 (L21_begun_m F) := by
 have hE : EnvOK Try.prog TryG (L21_begun_env F) := (EnvOK.cons (reach_Defs_ok F) (EnvOK.cons (L10_One_ok F) (EnvOK.cons (R1_Eq_ok F) (EnvOK.cons (reach_Used_ok F) EnvOK.nil))))
 refine Sim.of_body (E := L21_begun_env F) Try.func6 L21_begun_body Try.call6 ?_ ?_
 · intro args hl; unfold L21_begun_m; split
   · exact absurd hl (Nat.not_lt.2 (Nat.le_of_ble_eq_true rfl))
   · rfl
 · intro args ρ h w z; unfold L21_begun_m; split
   · show OKc _ _ [] _ _
     refine rSeq ?_
     refine cLess [] ?_
     refine xR hE [] rfl (L21_begun_r0_ok F _) ?_
     show OKq _ _ _ [] _
     refine rThen ?_
     refine rSeq ?_
     refine cLess [] ?_
     refine xR hE [1] rfl (L21_begun_r1_ok F _) ?_
     intro x1
     show OKq _ _ _ [(1, x1)] _
     refine rThen ?_
     refine rSeq ?_
     refine cLess [1] ?_
     refine xR hE [1, 2] rfl (L21_begun_r2_ok F _ _) ?_
     intro x1 x2
     show OKq _ _ _ [(2, x2), (1, x1)] _
     refine rThen ?_
     refine rSeq ?_
     refine cLess [2, 1] ?_
     refine xR hE [0] rfl (L21_begun_r3_ok F _ _ _) ?_
     intro x0
     show OKq _ _ _ [(0, x0)] _
     refine rThen ?_
     refine rRet ?_
     exact rDone (.inr rfl) rfl
   · exact rFail


/-! ### haruspex/haruspexlaw21.ReachParams -/

def L21_ReachParams_env (F : Nat) : Env := envOf [(6, L21_begun_m F), (12, reach_Defs_m F), (16, L10_One_m F)]

noncomputable def L21_ReachParams_R (F : Nat) := rK Try.prog TryG (L21_ReachParams_env F) Try.f5
noncomputable def L21_ReachParams_D (F : Nat) := dK Try.prog TryG (L21_ReachParams_env F) Try.f5

def L21_ReachParams_r29 (F : Nat) (K : Value → M Value) : M Value :=
  K (.bool true)

theorem L21_ReachParams_r29_ok (F : Nat) (K : Value → M Value) : L21_ReachParams_r29 F K = L21_ReachParams_R F 29 [] [4] K := by kernel_rfl

def L21_ReachParams_k0 (F : Nat) : M Value :=
  L21_ReachParams_r29 F (fun x4 => ret x4)

def L21_ReachParams_r25 (F : Nat) (x0 x1 x6 x12 : Value) (K : Value → Value → Value → Value → M Value) : M Value :=
  bnd (opBin .add x12 (.int .i64 (1))) fun v101 => K x0 x1 x6 v101

theorem L21_ReachParams_r25_ok (F : Nat) (x0 x1 x6 x12 : Value) (K : Value → Value → Value → Value → M Value) : L21_ReachParams_r25 F x0 x1 x6 x12 K = L21_ReachParams_R F 25 [(12, x12), (6, x6), (1, x1), (0, x0)] [0, 1, 6, 12] K := by kernel_rfl

def L21_ReachParams_r28 (F : Nat) (K : Value → M Value) : M Value :=
  K (.bool false)

theorem L21_ReachParams_r28_ok (F : Nat) (K : Value → M Value) : L21_ReachParams_r28 F K = L21_ReachParams_R F 28 [] [4] K := by kernel_rfl

def L21_ReachParams_r27 (F : Nat) (x0 x1 x6 x12 x13 : Value) (K : Value → Value → Value → Value → Value → M Value) : M Value :=
  bnd (opLen x13) fun v109 => bnd (opBin .neq v109 (.int .i64 (1))) fun v110 => onB v110 (K x0 x1 x6 x12 (.bool true)) (bnd (opBin .leq x12 x1) fun v114 => onB v114 (bnd (opIndexAddr 5 x13 (.int .i64 (0))) fun v117 => bnd (opFieldAddr 0 v117) fun v118 => bnd (opLoad v118) fun v119 => bnd (opBin .neq v119 (.int .i64 (2))) fun v120 => onB v120 (K x0 x1 x6 x12 (.bool true)) (bnd (opIndexAddr 5 x13 (.int .i64 (0))) fun v123 => bnd (opFieldAddr 1 v123) fun v124 => bnd (opLoad v124) fun v125 => bnd (opBin .neq v125 (.int .i64 (1))) fun v126 => onB v126 (K x0 x1 x6 x12 (.bool true)) (bnd (opIndexAddr 5 x13 (.int .i64 (0))) fun v130 => bnd (opFieldAddr 2 v130) fun v131 => bnd (opLoad v131) fun v132 => bnd (opBin .sub x0 (.int .i64 (1))) fun v134 => bnd (opBin .neq v132 v134) fun v135 => onB v135 (K x0 x1 x6 x12 (.bool true)) (bnd (opBin .gtr x12 x1) fun v142 => onB v142 (bnd (opIndexAddr 5 x13 (.int .i64 (0))) fun v145 => bnd (opFieldAddr 0 v145) fun v146 => bnd (opLoad v146) fun v147 => bnd (opBin .neq v147 (.int .i64 (1))) fun v148 => onB v148 (K x0 x1 x6 x12 (.bool true)) (bnd (opIndexAddr 5 x13 (.int .i64 (0))) fun v151 => bnd (opFieldAddr 1 v151) fun v152 => bnd (opLoad v152) fun v153 => bnd (opBin .add (.int .i64 (2)) x1) fun v155 => bnd (opBin .neq v153 v155) fun v156 => K x0 x1 x6 x12 v156)) (K x0 x1 x6 x12 (.bool false)))))) (bnd (opBin .gtr x12 x1) fun v142 => onB v142 (bnd (opIndexAddr 5 x13 (.int .i64 (0))) fun v145 => bnd (opFieldAddr 0 v145) fun v146 => bnd (opLoad v146) fun v147 => bnd (opBin .neq v147 (.int .i64 (1))) fun v148 => onB v148 (K x0 x1 x6 x12 (.bool true)) (bnd (opIndexAddr 5 x13 (.int .i64 (0))) fun v151 => bnd (opFieldAddr 1 v151) fun v152 => bnd (opLoad v152) fun v153 => bnd (opBin .add (.int .i64 (2)) x1) fun v155 => bnd (opBin .neq v153 v155) fun v156 => K x0 x1 x6 x12 v156)) (K x0 x1 x6 x12 (.bool false))))

theorem L21_ReachParams_r27_ok (F : Nat) (x0 x1 x6 x12 x13 : Value) (K : Value → Value → Value → Value → Value → M Value) : L21_ReachParams_r27 F x0 x1 x6 x12 x13 K = L21_ReachParams_R F 27 [(13, x13), (12, x12), (6, x6), (1, x1), (0, x0)] [0, 1, 6, 12, 159] K := by kernel_rfl

def L21_ReachParams_r26 (F : Nat) (x0 x1 x6 x12 : Value) (K : Value → Value → Value → Value → Value → M Value) : M Value :=
  bnd (opBin .add (.int .i64 (2)) x12) fun v104 => bnd (opBin .sub x0 (.int .i64 (1))) fun v106 => bnd (reach_Defs F x6 v104 v106) fun v107 => K x0 x1 x6 x12 v107

theorem L21_ReachParams_r26_ok (F : Nat) (x0 x1 x6 x12 : Value) (K : Value → Value → Value → Value → Value → M Value) : L21_ReachParams_r26 F x0 x1 x6 x12 K = L21_ReachParams_R F 26 [(12, x12), (6, x6), (1, x1), (0, x0)] [0, 1, 6, 12, 13] K := by kernel_rfl

def L21_ReachParams_r24 (F : Nat) (x0 x1 x6 x12 : Value) (K : Value → Value → Value → Value → Value → M Value) : M Value :=
  bnd (opBin .leq x12 (.int .i64 (11))) fun v99 => K x0 x1 x6 x12 v99

theorem L21_ReachParams_r24_ok (F : Nat) (x0 x1 x6 x12 : Value) (K : Value → Value → Value → Value → Value → M Value) : L21_ReachParams_r24 F x0 x1 x6 x12 K = L21_ReachParams_R F 24 [(12, x12), (6, x6), (1, x1), (0, x0)] [0, 1, 6, 12, 99] K := by kernel_rfl

def L21_ReachParams_b1 (F : Nat) (E1_4 : M Value) (A1 : Value → Value → Value → Value → M Value) (x0 x1 x6 x12 : Value) : M Value :=
  L21_ReachParams_r24 F x0 x1 x6 x12 (fun x0 x1 x6 x12 x99 => onB x99 (L21_ReachParams_r26 F x0 x1 x6 x12 (fun x0 x1 x6 x12 x13 => L21_ReachParams_r27 F x0 x1 x6 x12 x13 (fun x0 x1 x6 x12 x159 => onB x159 (L21_ReachParams_r28 F (fun x4 => ret x4)) (L21_ReachParams_r25 F x0 x1 x6 x12 (fun x0 x1 x6 x12 => A1 x0 x1 x6 x12))))) (E1_4 ))

def L21_ReachParams_l1 (F : Nat) (E1_4 : M Value) : Nat → Value → Value → Value → Value → M Value
  | 0, _, _, _, _ => fail
  | k1 + 1, x0, x1, x6, x12 => L21_ReachParams_b1 F E1_4 (L21_ReachParams_l1 F E1_4 k1) x0 x1 x6 x12

theorem L21_ReachParams_l1_s (F : Nat) (E1_4 : M Value) (k1 : Nat) (x0 x1 x6 x12 : Value) : L21_ReachParams_l1 F E1_4 (k1 + 1) x0 x1 x6 x12 = L21_ReachParams_b1 F E1_4 (L21_ReachParams_l1 F E1_4 k1) x0 x1 x6 x12 := rfl

def L21_ReachParams_r23 (F : Nat) (x0 x1 x6 : Value) (K : Value → Value → Value → Value → M Value) : M Value :=
  K x0 x1 x6 (.int .i64 (0))

theorem L21_ReachParams_r23_ok (F : Nat) (x0 x1 x6 : Value) (K : Value → Value → Value → Value → M Value) : L21_ReachParams_r23 F x0 x1 x6 K = L21_ReachParams_R F 23 [(6, x6), (1, x1), (0, x0)] [0, 1, 6, 12] K := by kernel_rfl

def L21_ReachParams_r22 (F : Nat) (x0 x1 x6 x8 : Value) (K : Value → Value → Value → M Value) : M Value :=
  bnd (opNil x6) fun v90 => bnd (opFieldAddr 4 v90) fun v91 => bnd (opLoad v91) fun v92 => bnd (opLoadN 3 x8) fun v93 => bnd (opBuildSlice 1 (rep 1 [(.int .i64 (0)), (.slice none 0 0), (.slice none 0 0)]) [(0, 3, true, v93)]) fun v94 => bnd (opAppend 3 56 v92 v94) fun v95 => bnd (opNil x6) fun v96 => bnd (opFieldAddr 4 v96) fun v97 => bnd (opStore v97 v95) fun _ => K x0 x1 x6

theorem L21_ReachParams_r22_ok (F : Nat) (x0 x1 x6 x8 : Value) (K : Value → Value → Value → M Value) : L21_ReachParams_r22 F x0 x1 x6 x8 K = L21_ReachParams_D F 22 [0, 1, 2, 3, 4, 5, 6, 7, 8, 9, 10] [(8, x8), (6, x6), (1, x1), (0, x0)] [0, 1, 6] K := by kernel_rfl

theorem L21_ReachParams_r22_good : goodOrder (opsOf Try.f5 22) [0, 1, 2, 3, 4, 5, 6, 7, 8, 9, 10] = true := by kernel_rfl

def L21_ReachParams_r21 (F : Nat) (x0 x1 x6 x7 x8 : Value) (K : Value → Value → Value → Value → M Value) : M Value :=
  bnd (opNil x6) fun v80 => bnd (opFieldAddr 1 v80) fun v81 => bnd (opLoad v81) fun v82 => bnd (opLoadN 3 x7) fun v83 => bnd (opBuildSlice 1 (rep 1 [(.slice none 0 0), (.int .i64 (0)), (.int .i64 (0))]) [(0, 3, true, v83)]) fun v84 => bnd (opAppend 3 40 v82 v84) fun v85 => bnd (opNil x6) fun v86 => bnd (opFieldAddr 1 v86) fun v87 => bnd (opStore v87 v85) fun _ => K x0 x1 x6 x8

theorem L21_ReachParams_r21_ok (F : Nat) (x0 x1 x6 x7 x8 : Value) (K : Value → Value → Value → Value → M Value) : L21_ReachParams_r21 F x0 x1 x6 x7 x8 K = L21_ReachParams_D F 21 [0, 1, 2, 3, 4, 5, 6, 7, 8, 9, 10] [(8, x8), (7, x7), (6, x6), (1, x1), (0, x0)] [0, 1, 6, 8] K := by kernel_rfl

theorem L21_ReachParams_r21_good : goodOrder (opsOf Try.f5 21) [0, 1, 2, 3, 4, 5, 6, 7, 8, 9, 10] = true := by kernel_rfl

def L21_ReachParams_k2 (F : Nat) (x0 x1 x6 x7 x8 : Value) : M Value :=
  L21_ReachParams_r21 F x0 x1 x6 x7 x8 (fun x0 x1 x6 x8 => L21_ReachParams_r22 F x0 x1 x6 x8 (fun x0 x1 x6 => L21_ReachParams_r23 F x0 x1 x6 (fun x0 x1 x6 x12 => L21_ReachParams_l1 F (L21_ReachParams_k0 F ) F x0 x1 x6 x12)))

def L21_ReachParams_r16 (F : Nat) (x0 x1 x6 x7 x8 x10 : Value) (K : Value → Value → Value → Value → Value → Value → M Value) : M Value :=
  bnd (opBin .add x10 (.int .i64 (1))) fun v56 => K x0 x1 x6 x7 x8 v56

theorem L21_ReachParams_r16_ok (F : Nat) (x0 x1 x6 x7 x8 x10 : Value) (K : Value → Value → Value → Value → Value → Value → M Value) : L21_ReachParams_r16 F x0 x1 x6 x7 x8 x10 K = L21_ReachParams_R F 16 [(10, x10), (8, x8), (7, x7), (6, x6), (1, x1), (0, x0)] [0, 1, 6, 7, 8, 10] K := by kernel_rfl

def L21_ReachParams_r20 (F : Nat) (x0 x1 x6 x7 x8 x10 x11 : Value) (K : Value → Value → Value → Value → Value → Value → M Value) : M Value :=
  bnd (opFieldAddr 2 x8) fun v66 => bnd (opLoad v66) fun v67 => bnd (opFieldAddr 2 x8) fun v68 => bnd (opLoad v68) fun v69 => bnd (opIndexAddr 5 v69 (.int .i64 (0))) fun v70 => bnd (opFieldAddr 0 v70) fun v71 => bnd (opLoad v71) fun v72 => bnd (opLoadN 6 x11) fun v73 => bnd (opBuildSlice 1 (rep 1 [(.int .i64 (0)), (.int .i64 (0)), (.int .i64 (0)), (.int .i64 (0)), (.int .i64 (0)), (.slice none 0 0)]) [(0, 6, true, v73)]) fun v74 => bnd (opAppend 6 64 v72 v74) fun v75 => bnd (opChk false v66 v67) fun _ => bnd (opIndexAddr 5 v67 (.int .i64 (0))) fun v76 => bnd (opFieldAddr 0 v76) fun v77 => bnd (opStore v77 v75) fun _ => K x0 x1 x6 x7 x8 x10

theorem L21_ReachParams_r20_ok (F : Nat) (x0 x1 x6 x7 x8 x10 x11 : Value) (K : Value → Value → Value → Value → Value → Value → M Value) : L21_ReachParams_r20 F x0 x1 x6 x7 x8 x10 x11 K = L21_ReachParams_D F 20 [0, 1, 2, 3, 4, 5, 6, 7, 8, 9, 10, 11, 12] [(11, x11), (10, x10), (8, x8), (7, x7), (6, x6), (1, x1), (0, x0)] [0, 1, 6, 7, 8, 10] K := by kernel_rfl

theorem L21_ReachParams_r20_good : goodOrder (opsOf Try.f5 20) [0, 1, 2, 3, 4, 5, 6, 7, 8, 9, 10, 11, 12] = true := by kernel_rfl

def L21_ReachParams_k4 (F : Nat) (A3 : Value → Value → Value → Value → Value → Value → M Value) (x0 x1 x6 x7 x8 x10 x11 : Value) : M Value :=
  L21_ReachParams_r20 F x0 x1 x6 x7 x8 x10 x11 (fun x0 x1 x6 x7 x8 x10 => L21_ReachParams_r16 F x0 x1 x6 x7 x8 x10 (fun x0 x1 x6 x7 x8 x10 => A3 x0 x1 x6 x7 x8 x10))

def L21_ReachParams_r19 (F : Nat) (x0 x1 x6 x7 x8 x10 x11 : Value) (K : Value → Value → Value → Value → Value → Value → Value → M Value) : M Value :=
  bnd (opBin .sub x0 (.int .i64 (1))) fun v64 => bnd (opBuild [(.int .i64 (0)), (.int .i64 (0)), (.int .i64 (0)), (.int .i64 (0)), (.int .i64 (0)), (.slice none 0 0)] [(0, 1, false, (.int .i64 (1))), (1, 1, false, v64)]) fun v65 => bnd (opStoreN 6 x11 v65) fun _ => K x0 x1 x6 x7 x8 x10 x11

theorem L21_ReachParams_r19_ok (F : Nat) (x0 x1 x6 x7 x8 x10 x11 : Value) (K : Value → Value → Value → Value → Value → Value → Value → M Value) : L21_ReachParams_r19 F x0 x1 x6 x7 x8 x10 x11 K = L21_ReachParams_R F 19 [(11, x11), (10, x10), (8, x8), (7, x7), (6, x6), (1, x1), (0, x0)] [0, 1, 6, 7, 8, 10, 11] K := by kernel_rfl

def L21_ReachParams_r18 (F : Nat) (x0 x1 x6 x7 x8 x10 x11 : Value) (K : Value → Value → Value → Value → Value → Value → Value → Value → M Value) : M Value :=
  bnd (opBin .eql x10 x1) fun v62 => K x0 x1 x6 x7 x8 x10 x11 v62

theorem L21_ReachParams_r18_ok (F : Nat) (x0 x1 x6 x7 x8 x10 x11 : Value) (K : Value → Value → Value → Value → Value → Value → Value → Value → M Value) : L21_ReachParams_r18 F x0 x1 x6 x7 x8 x10 x11 K = L21_ReachParams_R F 18 [(11, x11), (10, x10), (8, x8), (7, x7), (6, x6), (1, x1), (0, x0)] [0, 1, 6, 7, 8, 10, 11, 62] K := by kernel_rfl

def L21_ReachParams_r17 (F : Nat) (x0 x1 x6 x7 x8 x10 : Value) (K : Value → Value → Value → Value → Value → Value → Value → M Value) : M Value :=
  bnd (opBin .sub x0 (.int .i64 (1))) fun v58 => bnd (opBuild [(.int .i64 (0)), (.int .i64 (0)), (.int .i64 (0)), (.int .i64 (0)), (.int .i64 (0)), (.slice none 0 0)] [(0, 1, false, (.int .i64 (15))), (2, 1, false, v58)]) fun v59 => bnd (opPtr [(.int .i64 (0)), (.int .i64 (0)), (.int .i64 (0)), (.int .i64 (0)), (.int .i64 (0)), (.slice none 0 0)]) fun v11 => bnd (opStoreN 6 v11 v59) fun _ => K x0 x1 x6 x7 x8 x10 v11

theorem L21_ReachParams_r17_ok (F : Nat) (x0 x1 x6 x7 x8 x10 : Value) (K : Value → Value → Value → Value → Value → Value → Value → M Value) : L21_ReachParams_r17 F x0 x1 x6 x7 x8 x10 K = L21_ReachParams_R F 17 [(10, x10), (8, x8), (7, x7), (6, x6), (1, x1), (0, x0)] [0, 1, 6, 7, 8, 10, 11] K := by kernel_rfl

def L21_ReachParams_r15 (F : Nat) (x0 x1 x6 x7 x8 x10 : Value) (K : Value → Value → Value → Value → Value → Value → Value → M Value) : M Value :=
  bnd (opBin .lss x10 (.int .i64 (11))) fun v54 => K x0 x1 x6 x7 x8 x10 v54

theorem L21_ReachParams_r15_ok (F : Nat) (x0 x1 x6 x7 x8 x10 : Value) (K : Value → Value → Value → Value → Value → Value → Value → M Value) : L21_ReachParams_r15 F x0 x1 x6 x7 x8 x10 K = L21_ReachParams_R F 15 [(10, x10), (8, x8), (7, x7), (6, x6), (1, x1), (0, x0)] [0, 1, 6, 7, 8, 10, 54] K := by kernel_rfl

def L21_ReachParams_b3 (F : Nat) (E3_2 : Value → Value → Value → Value → Value → M Value) (A3 : Value → Value → Value → Value → Value → Value → M Value) (x0 x1 x6 x7 x8 x10 : Value) : M Value :=
  L21_ReachParams_r15 F x0 x1 x6 x7 x8 x10 (fun x0 x1 x6 x7 x8 x10 x54 => onB x54 (L21_ReachParams_r17 F x0 x1 x6 x7 x8 x10 (fun x0 x1 x6 x7 x8 x10 x11 => L21_ReachParams_r18 F x0 x1 x6 x7 x8 x10 x11 (fun x0 x1 x6 x7 x8 x10 x11 x62 => onB x62 (L21_ReachParams_r19 F x0 x1 x6 x7 x8 x10 x11 (fun x0 x1 x6 x7 x8 x10 x11 => L21_ReachParams_k4 F A3 x0 x1 x6 x7 x8 x10 x11)) (L21_ReachParams_k4 F A3 x0 x1 x6 x7 x8 x10 x11)))) (E3_2 x0 x1 x6 x7 x8))

def L21_ReachParams_l3 (F : Nat) (E3_2 : Value → Value → Value → Value → Value → M Value) : Nat → Value → Value → Value → Value → Value → Value → M Value
  | 0, _, _, _, _, _, _ => fail
  | k3 + 1, x0, x1, x6, x7, x8, x10 => L21_ReachParams_b3 F E3_2 (L21_ReachParams_l3 F E3_2 k3) x0 x1 x6 x7 x8 x10

theorem L21_ReachParams_l3_s (F : Nat) (E3_2 : Value → Value → Value → Value → Value → M Value) (k3 : Nat) (x0 x1 x6 x7 x8 x10 : Value) : L21_ReachParams_l3 F E3_2 (k3 + 1) x0 x1 x6 x7 x8 x10 = L21_ReachParams_b3 F E3_2 (L21_ReachParams_l3 F E3_2 k3) x0 x1 x6 x7 x8 x10 := rfl

def L21_ReachParams_r14 (F : Nat) (x0 x1 x6 x7 x8 : Value) (K : Value → Value → Value → Value → Value → Value → M Value) : M Value :=
  K x0 x1 x6 x7 x8 (.int .i64 (0))

theorem L21_ReachParams_r14_ok (F : Nat) (x0 x1 x6 x7 x8 : Value) (K : Value → Value → Value → Value → Value → Value → M Value) : L21_ReachParams_r14 F x0 x1 x6 x7 x8 K = L21_ReachParams_R F 14 [(8, x8), (7, x7), (6, x6), (1, x1), (0, x0)] [0, 1, 6, 7, 8, 10] K := by kernel_rfl

def L21_ReachParams_k5 (F : Nat) (x0 x1 x6 x7 x8 : Value) : M Value :=
  L21_ReachParams_r14 F x0 x1 x6 x7 x8 (fun x0 x1 x6 x7 x8 x10 => L21_ReachParams_l3 F (fun x0 x1 x6 x7 x8 => L21_ReachParams_k2 F x0 x1 x6 x7 x8) F x0 x1 x6 x7 x8 x10)

def L21_ReachParams_r11 (F : Nat) (x0 x1 x6 x7 x8 x9 : Value) (K : Value → Value → Value → Value → Value → Value → M Value) : M Value :=
  bnd (opBin .add x9 (.int .i64 (1))) fun v40 => K x0 x1 x6 x7 x8 v40

theorem L21_ReachParams_r11_ok (F : Nat) (x0 x1 x6 x7 x8 x9 : Value) (K : Value → Value → Value → Value → Value → Value → M Value) : L21_ReachParams_r11 F x0 x1 x6 x7 x8 x9 K = L21_ReachParams_R F 11 [(9, x9), (8, x8), (7, x7), (6, x6), (1, x1), (0, x0)] [0, 1, 6, 7, 8, 9] K := by kernel_rfl

def L21_ReachParams_r13 (F : Nat) (x0 x1 x6 x7 x8 x9 : Value) (K : Value → Value → Value → Value → Value → Value → M Value) : M Value :=
  bnd (opFieldAddr 1 x8) fun v47 => bnd (opLoad v47) fun v48 => bnd (opBuild [(.int .i64 (0)), (.int .i64 (0))] []) fun v49 => bnd (opBuildSlice 1 (rep 1 [(.int .i64 (0)), (.int .i64 (0))]) [(0, 2, true, v49)]) fun v50 => bnd (opAppend 2 16 v48 v50) fun v51 => bnd (opFieldAddr 1 x8) fun v52 => bnd (opStore v52 v51) fun _ => K x0 x1 x6 x7 x8 x9

theorem L21_ReachParams_r13_ok (F : Nat) (x0 x1 x6 x7 x8 x9 : Value) (K : Value → Value → Value → Value → Value → Value → M Value) : L21_ReachParams_r13 F x0 x1 x6 x7 x8 x9 K = L21_ReachParams_R F 13 [(9, x9), (8, x8), (7, x7), (6, x6), (1, x1), (0, x0)] [0, 1, 6, 7, 8, 9] K := by kernel_rfl

def L21_ReachParams_r12 (F : Nat) (x0 x1 x6 x7 x8 x9 : Value) (K : Value → Value → Value → Value → Value → Value → M Value) : M Value :=
  bnd (opFieldAddr 0 x7) fun v41 => bnd (opLoad v41) fun v42 => bnd (opBuild [(.int .i64 (0)), (.int .i64 (0))] []) fun v43 => bnd (opBuildSlice 1 (rep 1 [(.int .i64 (0)), (.int .i64 (0))]) [(0, 2, true, v43)]) fun v44 => bnd (opAppend 2 16 v42 v44) fun v45 => bnd (opFieldAddr 0 x7) fun v46 => bnd (opStore v46 v45) fun _ => K x0 x1 x6 x7 x8 x9

theorem L21_ReachParams_r12_ok (F : Nat) (x0 x1 x6 x7 x8 x9 : Value) (K : Value → Value → Value → Value → Value → Value → M Value) : L21_ReachParams_r12 F x0 x1 x6 x7 x8 x9 K = L21_ReachParams_R F 12 [(9, x9), (8, x8), (7, x7), (6, x6), (1, x1), (0, x0)] [0, 1, 6, 7, 8, 9] K := by kernel_rfl

def L21_ReachParams_r10 (F : Nat) (x0 x1 x6 x7 x8 x9 : Value) (K : Value → Value → Value → Value → Value → Value → Value → M Value) : M Value :=
  bnd (opBin .lss x9 x0) fun v38 => K x0 x1 x6 x7 x8 x9 v38

theorem L21_ReachParams_r10_ok (F : Nat) (x0 x1 x6 x7 x8 x9 : Value) (K : Value → Value → Value → Value → Value → Value → Value → M Value) : L21_ReachParams_r10 F x0 x1 x6 x7 x8 x9 K = L21_ReachParams_R F 10 [(9, x9), (8, x8), (7, x7), (6, x6), (1, x1), (0, x0)] [0, 1, 6, 7, 8, 9, 38] K := by kernel_rfl

def L21_ReachParams_b6 (F : Nat) (E6_0 : Value → Value → Value → Value → Value → M Value) (A6 : Value → Value → Value → Value → Value → Value → M Value) (x0 x1 x6 x7 x8 x9 : Value) : M Value :=
  L21_ReachParams_r10 F x0 x1 x6 x7 x8 x9 (fun x0 x1 x6 x7 x8 x9 x38 => onB x38 (L21_ReachParams_r12 F x0 x1 x6 x7 x8 x9 (fun x0 x1 x6 x7 x8 x9 => L21_ReachParams_r13 F x0 x1 x6 x7 x8 x9 (fun x0 x1 x6 x7 x8 x9 => L21_ReachParams_r11 F x0 x1 x6 x7 x8 x9 (fun x0 x1 x6 x7 x8 x9 => A6 x0 x1 x6 x7 x8 x9)))) (E6_0 x0 x1 x6 x7 x8))

def L21_ReachParams_l6 (F : Nat) (E6_0 : Value → Value → Value → Value → Value → M Value) : Nat → Value → Value → Value → Value → Value → Value → M Value
  | 0, _, _, _, _, _, _ => fail
  | k6 + 1, x0, x1, x6, x7, x8, x9 => L21_ReachParams_b6 F E6_0 (L21_ReachParams_l6 F E6_0 k6) x0 x1 x6 x7 x8 x9

theorem L21_ReachParams_l6_s (F : Nat) (E6_0 : Value → Value → Value → Value → Value → M Value) (k6 : Nat) (x0 x1 x6 x7 x8 x9 : Value) : L21_ReachParams_l6 F E6_0 (k6 + 1) x0 x1 x6 x7 x8 x9 = L21_ReachParams_b6 F E6_0 (L21_ReachParams_l6 F E6_0 k6) x0 x1 x6 x7 x8 x9 := rfl

def L21_ReachParams_r9 (F : Nat) (x0 x1 x6 x7 x8 : Value) (K : Value → Value → Value → Value → Value → Value → M Value) : M Value :=
  K x0 x1 x6 x7 x8 (.int .i64 (0))

theorem L21_ReachParams_r9_ok (F : Nat) (x0 x1 x6 x7 x8 : Value) (K : Value → Value → Value → Value → Value → Value → M Value) : L21_ReachParams_r9 F x0 x1 x6 x7 x8 K = L21_ReachParams_R F 9 [(8, x8), (7, x7), (6, x6), (1, x1), (0, x0)] [0, 1, 6, 7, 8, 9] K := by kernel_rfl

def L21_ReachParams_r8 (F : Nat) (x0 x1 x6 x7 : Value) (K : Value → Value → Value → Value → Value → M Value) : M Value :=
  bnd (opBuild [(.slice none 0 0), (.int .i64 (0)), (.int .i64 (0)), (.int .i64 (0)), (.int .i64 (0))] [(1, 1, false, (.int .i64 (3)))]) fun v33 => bnd (opBuildSlice 1 (rep 1 [(.slice none 0 0), (.int .i64 (0)), (.int .i64 (0)), (.int .i64 (0)), (.int .i64 (0))]) [(0, 5, true, v33)]) fun v34 => bnd (opBuild [(.int .i64 (0)), (.slice none 0 0), (.slice none 0 0)] [(0, 1, false, (.int .i64 (1))), (2, 1, false, v34)]) fun v35 => bnd (opPtr [(.int .i64 (0)), (.slice none 0 0), (.slice none 0 0)]) fun v8 => bnd (opStoreN 3 v8 v35) fun _ => K x0 x1 x6 x7 v8

theorem L21_ReachParams_r8_ok (F : Nat) (x0 x1 x6 x7 : Value) (K : Value → Value → Value → Value → Value → M Value) : L21_ReachParams_r8 F x0 x1 x6 x7 K = L21_ReachParams_R F 8 [(7, x7), (6, x6), (1, x1), (0, x0)] [0, 1, 6, 7, 8] K := by kernel_rfl

def L21_ReachParams_r7 (F : Nat) (x0 x1 x6 : Value) (K : Value → Value → Value → Value → M Value) : M Value :=
  bnd (opBuild [(.slice none 0 0), (.int .i64 (0)), (.int .i64 (0))] []) fun v32 => bnd (opPtr [(.slice none 0 0), (.int .i64 (0)), (.int .i64 (0))]) fun v7 => bnd (opStoreN 3 v7 v32) fun _ => K x0 x1 x6 v7

theorem L21_ReachParams_r7_ok (F : Nat) (x0 x1 x6 : Value) (K : Value → Value → Value → Value → M Value) : L21_ReachParams_r7 F x0 x1 x6 K = L21_ReachParams_R F 7 [(6, x6), (1, x1), (0, x0)] [0, 1, 6, 7] K := by kernel_rfl

def L21_ReachParams_r6 (F : Nat) (x0 x1 : Value) (K : Value → Value → Value → M Value) : M Value :=
  bnd (L10_One F) fun v31 => K x0 x1 v31

theorem L21_ReachParams_r6_ok (F : Nat) (x0 x1 : Value) (K : Value → Value → Value → M Value) : L21_ReachParams_r6 F x0 x1 K = L21_ReachParams_R F 6 [(1, x1), (0, x0)] [0, 1, 6] K := by kernel_rfl

def L21_ReachParams_r5 (F : Nat) (K : Value → M Value) : M Value :=
  K (.bool true)

theorem L21_ReachParams_r5_ok (F : Nat) (K : Value → M Value) : L21_ReachParams_r5 F K = L21_ReachParams_R F 5 [] [4] K := by kernel_rfl

def L21_ReachParams_r4 (F : Nat) (x0 x1 : Value) (K : Value → Value → Value → M Value) : M Value :=
  bnd (opBin .lss x0 (.int .i64 (1))) fun v18 => onB v18 (K x0 x1 (.bool true)) (bnd (opBin .gtr x0 (.int .i64 (4))) fun v21 => onB v21 (K x0 x1 (.bool true)) (bnd (opBin .lss x1 (.int .i64 (0))) fun v25 => onB v25 (K x0 x1 (.bool true)) (bnd (opBin .gtr x1 (.int .i64 (10))) fun v29 => K x0 x1 v29)))

theorem L21_ReachParams_r4_ok (F : Nat) (x0 x1 : Value) (K : Value → Value → Value → M Value) : L21_ReachParams_r4 F x0 x1 K = L21_ReachParams_R F 4 [(1, x1), (0, x0)] [0, 1, 30] K := by kernel_rfl

def L21_ReachParams_r3 (F : Nat) (K : Value → M Value) : M Value :=
  K (.bool false)

theorem L21_ReachParams_r3_ok (F : Nat) (K : Value → M Value) : L21_ReachParams_r3 F K = L21_ReachParams_R F 3 [] [4] K := by kernel_rfl

def L21_ReachParams_r2 (F : Nat) (x0 x1 x5 : Value) (K : Value → Value → Value → M Value) : M Value :=
  bnd (opNot x5) fun v16 => K x0 x1 v16

theorem L21_ReachParams_r2_ok (F : Nat) (x0 x1 x5 : Value) (K : Value → Value → Value → M Value) : L21_ReachParams_r2 F x0 x1 x5 K = L21_ReachParams_R F 2 [(5, x5), (1, x1), (0, x0)] [0, 1, 16] K := by kernel_rfl

def L21_ReachParams_r1 (F : Nat) (x0 x1 : Value) (K : Value → Value → Value → M Value) : M Value :=
  bnd (L21_begun F) fun v14 => K x0 x1 v14

theorem L21_ReachParams_r1_ok (F : Nat) (x0 x1 : Value) (K : Value → Value → Value → M Value) : L21_ReachParams_r1 F x0 x1 K = L21_ReachParams_R F 1 [(1, x1), (0, x0)] [0, 1, 5] K := by kernel_rfl

def L21_ReachParams_r0 (F : Nat) (x0 x1 : Value) (K : Value → Value → M Value) : M Value :=
  K x0 x1

theorem L21_ReachParams_r0_ok (F : Nat) (x0 x1 : Value) (K : Value → Value → M Value) : L21_ReachParams_r0 F x0 x1 K = L21_ReachParams_R F 0 [(1, x1), (0, x0)] [0, 1] K := by kernel_rfl

def L21_ReachParams (F : Nat) (x0 x1 : Value) : M Value :=
  L21_ReachParams_r0 F x0 x1 (fun x0 x1 => L21_ReachParams_r1 F x0 x1 (fun x0 x1 x5 => L21_ReachParams_r2 F x0 x1 x5 (fun x0 x1 x16 => onB x16 (L21_ReachParams_r3 F (fun x4 => ret x4)) (L21_ReachParams_r4 F x0 x1 (fun x0 x1 x30 => onB x30 (L21_ReachParams_r5 F (fun x4 => ret x4)) (L21_ReachParams_r6 F x0 x1 (fun x0 x1 x6 => L21_ReachParams_r7 F x0 x1 x6 (fun x0 x1 x6 x7 => L21_ReachParams_r8 F x0 x1 x6 x7 (fun x0 x1 x6 x7 x8 => L21_ReachParams_r9 F x0 x1 x6 x7 x8 (fun x0 x1 x6 x7 x8 x9 => L21_ReachParams_l6 F (fun x0 x1 x6 x7 x8 => L21_ReachParams_k5 F x0 x1 x6 x7 x8) F x0 x1 x6 x7 x8 x9))))))))))

def L21_ReachParams_m (F : Nat) : List Value → M Value
  | [x0, x1] => L21_ReachParams F x0 x1
  | _ => fail

theorem L21_ReachParams_body : Try.f5.body = some (.seq (.region 0 (opsOf Try.f5 0) false) (.seq (.region 1 (opsOf Try.f5 1) false) (.seq (.seq (.region 2 (opsOf Try.f5 2) false) (.cond (.tmp 16) (.seq (.region 3 (opsOf Try.f5 3) false) .ret) .skip)) (.seq (.seq (.region 4 (opsOf Try.f5 4) false) (.cond (.tmp 30) (.seq (.region 5 (opsOf Try.f5 5) false) .ret) .skip)) (.seq (.region 6 (opsOf Try.f5 6) false) (.seq (.region 7 (opsOf Try.f5 7) false) (.seq (.region 8 (opsOf Try.f5 8) false) (.seq (.seq (.region 9 (opsOf Try.f5 9) false) (.block 0 (.loop (.seq (.seq (.region 10 (opsOf Try.f5 10) false) (.cond (.tmp 38) .skip (.exit 0))) (.seq (.block 1 (.seq (.region 12 (opsOf Try.f5 12) false) (.region 13 (opsOf Try.f5 13) false))) (.region 11 (opsOf Try.f5 11) false)))))) (.seq (.seq (.region 14 (opsOf Try.f5 14) false) (.block 2 (.loop (.seq (.seq (.region 15 (opsOf Try.f5 15) false) (.cond (.tmp 54) .skip (.exit 2))) (.seq (.block 3 (.seq (.region 17 (opsOf Try.f5 17) false) (.seq (.seq (.region 18 (opsOf Try.f5 18) false) (.cond (.tmp 62) (.region 19 (opsOf Try.f5 19) false) .skip)) (.region 20 (opsOf Try.f5 20) true)))) (.region 16 (opsOf Try.f5 16) false)))))) (.seq (.region 21 (opsOf Try.f5 21) true) (.seq (.region 22 (opsOf Try.f5 22) true) (.seq (.seq (.region 23 (opsOf Try.f5 23) false) (.block 4 (.loop (.seq (.seq (.region 24 (opsOf Try.f5 24) false) (.cond (.tmp 99) .skip (.exit 4))) (.seq (.block 5 (.seq (.region 26 (opsOf Try.f5 26) false) (.seq (.region 27 (opsOf Try.f5 27) false) (.cond (.tmp 159) (.seq (.region 28 (opsOf Try.f5 28) false) .ret) .skip)))) (.region 25 (opsOf Try.f5 25) false)))))) (.seq (.region 29 (opsOf Try.f5 29) false) .ret))))))))))))) := by kernel_rfl

theorem L21_ReachParams_ok (F : Nat) : Sim Try.prog TryG 5 (L21_ReachParams_m F) := by
 have hE : EnvOK Try.prog TryG (L21_ReachParams_env F) := (EnvOK.cons (L21_begun_ok F) (EnvOK.cons (reach_Defs_ok F) (EnvOK.cons (L10_One_ok F) EnvOK.nil)))
 refine Sim.of_body (E := L21_ReachParams_env F) Try.func5 L21_ReachParams_body Try.call5 ?_ ?_
 · intro args hl; unfold L21_ReachParams_m; split
   · exact absurd hl (Nat.not_lt.2 (Nat.le_of_ble_eq_true rfl))
   · rfl
 · intro args ρ h w z; unfold L21_ReachParams_m; split
   · rename_i x0 x1; show OKc _ _ [(0, x0), (1, x1)] _ _
     refine rSeq ?_
     refine cLess [1, 0] ?_
     refine xR hE [0, 1] rfl (L21_ReachParams_r0_ok F _ _ _) ?_
     intro x0 x1
     show OKq _ _ _ [(1, x1), (0, x0)] _
     refine rThen ?_
     refine rSeq ?_
     refine cLess [1, 0] ?_
     refine xR hE [0, 1, 5] rfl (L21_ReachParams_r1_ok F _ _ _) ?_
     intro x0 x1 x5
     show OKq _ _ _ [(5, x5), (1, x1), (0, x0)] _
     refine rThen ?_
     refine rSeq ?_
     refine rSeq ?_
     refine cLess [5, 1, 0] ?_
     refine xR hE [0, 1, 16] rfl (L21_ReachParams_r2_ok F _ _ _ _) ?_
     intro x0 x1 x16
     show OKq _ _ _ [(16, x16), (1, x1), (0, x0)] _
     refine rThen ?_
     refine xCond rfl rfl ?_ ?_
     · refine rSeq ?_
       refine cLess [] ?_
       refine xR hE [4] rfl (L21_ReachParams_r3_ok F _) ?_
       intro x4
       show OKq _ _ _ [(4, x4)] _
       refine rThen ?_
       refine rRet ?_
       refine xThenR ?_
       exact rDone (.inr rfl) rfl
     · refine rSkip ?_
       refine rThen ?_
       refine rSeq ?_
       refine rSeq ?_
       refine cLess [1, 0] ?_
       refine xR hE [0, 1, 30] rfl (L21_ReachParams_r4_ok F _ _ _) ?_
       intro x0 x1 x30
       show OKq _ _ _ [(30, x30), (1, x1), (0, x0)] _
       refine rThen ?_
       refine xCond rfl rfl ?_ ?_
       · refine rSeq ?_
         refine cLess [] ?_
         refine xR hE [4] rfl (L21_ReachParams_r5_ok F _) ?_
         intro x4
         show OKq _ _ _ [(4, x4)] _
         refine rThen ?_
         refine rRet ?_
         refine xThenR ?_
         exact rDone (.inr rfl) rfl
       · refine rSkip ?_
         refine rThen ?_
         refine rSeq ?_
         refine cLess [1, 0] ?_
         refine xR hE [0, 1, 6] rfl (L21_ReachParams_r6_ok F _ _ _) ?_
         intro x0 x1 x6
         show OKq _ _ _ [(6, x6), (1, x1), (0, x0)] _
         refine rThen ?_
         refine rSeq ?_
         refine cLess [6, 1, 0] ?_
         refine xR hE [0, 1, 6, 7] rfl (L21_ReachParams_r7_ok F _ _ _ _) ?_
         intro x0 x1 x6 x7
         show OKq _ _ _ [(7, x7), (6, x6), (1, x1), (0, x0)] _
         refine rThen ?_
         refine rSeq ?_
         refine cLess [7, 6, 1, 0] ?_
         refine xR hE [0, 1, 6, 7, 8] rfl (L21_ReachParams_r8_ok F _ _ _ _ _) ?_
         intro x0 x1 x6 x7 x8
         show OKq _ _ _ [(8, x8), (7, x7), (6, x6), (1, x1), (0, x0)] _
         refine rThen ?_
         refine xSeq [0, 1, 6, 7, 8] (L21_ReachParams_k5 F ) ?_ fun hj5 => ?_
         · intro x0 x1 x6 x7 x8
           show OKc _ _ [(8, x8), (7, x7), (6, x6), (1, x1), (0, x0)] _ _
           refine xSeq [0, 1, 6, 7, 8] (L21_ReachParams_k2 F ) ?_ fun hj2 => ?_
           · intro x0 x1 x6 x7 x8
             show OKc _ _ [(8, x8), (7, x7), (6, x6), (1, x1), (0, x0)] _ _
             refine rSeq ?_
             refine cLess [8, 7, 6, 1, 0] ?_
             refine xD Trymix hE [0, 1, 6, 8] rfl L21_ReachParams_r21_good (L21_ReachParams_r21_ok F _ _ _ _ _ _) ?_
             intro x0 x1 x6 x8
             show OKq _ _ _ [(8, x8), (6, x6), (1, x1), (0, x0)] _
             refine rThen ?_
             refine rSeq ?_
             refine cLess [8, 6, 1, 0] ?_
             refine xD Trymix hE [0, 1, 6] rfl L21_ReachParams_r22_good (L21_ReachParams_r22_ok F _ _ _ _ _) ?_
             intro x0 x1 x6
             show OKq _ _ _ [(6, x6), (1, x1), (0, x0)] _
             refine rThen ?_
             refine xSeq [] (L21_ReachParams_k0 F ) ?_ fun hj0 => ?_
             · show OKc _ _ [] _ _
               refine rSeq ?_
               refine cLess [] ?_
               refine xR hE [4] rfl (L21_ReachParams_r29_ok F _) ?_
               intro x4
               show OKq _ _ _ [(4, x4)] _
               refine rThen ?_
               refine rRet ?_
               exact rDone (.inr rfl) rfl
             · refine rSeq ?_
               refine cLess [6, 1, 0] ?_
               refine xR hE [0, 1, 6, 12] rfl (L21_ReachParams_r23_ok F _ _ _ _) ?_
               intro x0 x1 x6 x12
               show OKq _ _ _ [(12, x12), (6, x6), (1, x1), (0, x0)] _
               refine rThen ?_
               refine rBlock ?_
               refine cLess [12, 6, 1, 0] ?_
               refine xLoopAt [0, 1, 6, 12] [] (fun k1 => L21_ReachParams_l1 F (L21_ReachParams_k0 F ) k1) F [x0, x1, x6, x12] rfl rfl (fun _ _ _ _ => rfl) fun I hI1 k1 => ?_
               intro x0 x1 x6 x12
               show OKc _ _ [(12, x12), (6, x6), (1, x1), (0, x0)] _ _
               refine cAs (L21_ReachParams_l1_s F _ _ _ _ _ _) ?_
               refine rSeq ?_
               refine rSeq ?_
               refine cLess [12, 6, 1, 0] ?_
               refine xR hE [0, 1, 6, 12, 99] rfl (L21_ReachParams_r24_ok F _ _ _ _ _) ?_
               intro x0 x1 x6 x12 x99
               show OKq _ _ _ [(99, x99), (12, x12), (6, x6), (1, x1), (0, x0)] _
               refine rThen ?_
               refine xCond rfl rfl ?_ ?_
               · refine rSkip ?_
                 refine rThen ?_
                 refine rSeq ?_
                 refine rBlock ?_
                 refine rSeq ?_
                 refine cLess [12, 6, 1, 0] ?_
                 refine xR hE [0, 1, 6, 12, 13] rfl (L21_ReachParams_r26_ok F _ _ _ _ _) ?_
                 intro x0 x1 x6 x12 x13
                 show OKq _ _ _ [(13, x13), (12, x12), (6, x6), (1, x1), (0, x0)] _
                 refine rThen ?_
                 refine rSeq ?_
                 refine cLess [13, 12, 6, 1, 0] ?_
                 refine xR hE [0, 1, 6, 12, 159] rfl (L21_ReachParams_r27_ok F _ _ _ _ _ _) ?_
                 intro x0 x1 x6 x12 x159
                 show OKq _ _ _ [(159, x159), (12, x12), (6, x6), (1, x1), (0, x0)] _
                 refine rThen ?_
                 refine xCond rfl rfl ?_ ?_
                 · refine rSeq ?_
                   refine cLess [] ?_
                   refine xR hE [4] rfl (L21_ReachParams_r28_ok F _) ?_
                   intro x4
                   show OKq _ _ _ [(4, x4)] _
                   refine rThen ?_
                   refine rRet ?_
                   refine xBlockR ?_
                   refine xThenR ?_
                   refine xThenR ?_
                   refine xBlockR ?_
                   refine xThenR ?_
                   exact rDone (.inr rfl) rfl
                 · refine rSkip ?_
                   refine xBlockN ?_
                   refine rThen ?_
                   refine cLess [12, 6, 1, 0] ?_
                   refine xR hE [0, 1, 6, 12] rfl (L21_ReachParams_r25_ok F _ _ _ _ _) ?_
                   intro x0 x1 x6 x12
                   show OKq _ _ _ [(12, x12), (6, x6), (1, x1), (0, x0)] _
                   exact qLess [12, 6, 1, 0] (hI1 k1 x0 x1 x6 x12)
               · refine rExit ?_
                 refine xThenX ?_
                 refine xThenX ?_
                 refine rOut ?_
                 exact qLess [] (hj0 )
           · refine rSeq ?_
             refine cLess [8, 7, 6, 1, 0] ?_
             refine xR hE [0, 1, 6, 7, 8, 10] rfl (L21_ReachParams_r14_ok F _ _ _ _ _ _) ?_
             intro x0 x1 x6 x7 x8 x10
             show OKq _ _ _ [(10, x10), (8, x8), (7, x7), (6, x6), (1, x1), (0, x0)] _
             refine rThen ?_
             refine rBlock ?_
             refine cLess [10, 8, 7, 6, 1, 0] ?_
             refine xLoopAt [0, 1, 6, 7, 8, 10] [] (fun k3 => L21_ReachParams_l3 F (fun x0 x1 x6 x7 x8 => L21_ReachParams_k2 F x0 x1 x6 x7 x8) k3) F [x0, x1, x6, x7, x8, x10] rfl rfl (fun _ _ _ _ _ _ => rfl) fun I hI3 k3 => ?_
             intro x0 x1 x6 x7 x8 x10
             show OKc _ _ [(10, x10), (8, x8), (7, x7), (6, x6), (1, x1), (0, x0)] _ _
             refine cAs (L21_ReachParams_l3_s F _ _ _ _ _ _ _ _) ?_
             refine rSeq ?_
             refine rSeq ?_
             refine cLess [10, 8, 7, 6, 1, 0] ?_
             refine xR hE [0, 1, 6, 7, 8, 10, 54] rfl (L21_ReachParams_r15_ok F _ _ _ _ _ _ _) ?_
             intro x0 x1 x6 x7 x8 x10 x54
             show OKq _ _ _ [(54, x54), (10, x10), (8, x8), (7, x7), (6, x6), (1, x1), (0, x0)] _
             refine rThen ?_
             refine xCond rfl rfl ?_ ?_
             · refine rSkip ?_
               refine rThen ?_
               refine rSeq ?_
               refine rBlock ?_
               refine rSeq ?_
               refine cLess [10, 8, 7, 6, 1, 0] ?_
               refine xR hE [0, 1, 6, 7, 8, 10, 11] rfl (L21_ReachParams_r17_ok F _ _ _ _ _ _ _) ?_
               intro x0 x1 x6 x7 x8 x10 x11
               show OKq _ _ _ [(11, x11), (10, x10), (8, x8), (7, x7), (6, x6), (1, x1), (0, x0)] _
               refine rThen ?_
               refine xSeq [0, 1, 6, 7, 8, 10, 11] (L21_ReachParams_k4 F (L21_ReachParams_l3 F (fun x0 x1 x6 x7 x8 => L21_ReachParams_k2 F x0 x1 x6 x7 x8) k3) ) ?_ fun hj4 => ?_
               · intro x0 x1 x6 x7 x8 x10 x11
                 show OKc _ _ [(11, x11), (10, x10), (8, x8), (7, x7), (6, x6), (1, x1), (0, x0)] _ _
                 refine cLess [11, 10, 8, 7, 6, 1, 0] ?_
                 refine xD Trymix hE [0, 1, 6, 7, 8, 10] rfl L21_ReachParams_r20_good (L21_ReachParams_r20_ok F _ _ _ _ _ _ _ _) ?_
                 intro x0 x1 x6 x7 x8 x10
                 show OKq _ _ _ [(10, x10), (8, x8), (7, x7), (6, x6), (1, x1), (0, x0)] _
                 refine xBlockN ?_
                 refine rThen ?_
                 refine cLess [10, 8, 7, 6, 1, 0] ?_
                 refine xR hE [0, 1, 6, 7, 8, 10] rfl (L21_ReachParams_r16_ok F _ _ _ _ _ _ _) ?_
                 intro x0 x1 x6 x7 x8 x10
                 show OKq _ _ _ [(10, x10), (8, x8), (7, x7), (6, x6), (1, x1), (0, x0)] _
                 exact qLess [10, 8, 7, 6, 1, 0] (hI3 k3 x0 x1 x6 x7 x8 x10)
               · refine rSeq ?_
                 refine cLess [11, 10, 8, 7, 6, 1, 0] ?_
                 refine xR hE [0, 1, 6, 7, 8, 10, 11, 62] rfl (L21_ReachParams_r18_ok F _ _ _ _ _ _ _ _) ?_
                 intro x0 x1 x6 x7 x8 x10 x11 x62
                 show OKq _ _ _ [(62, x62), (11, x11), (10, x10), (8, x8), (7, x7), (6, x6), (1, x1), (0, x0)] _
                 refine rThen ?_
                 refine xCond rfl rfl ?_ ?_
                 · refine cLess [11, 10, 8, 7, 6, 1, 0] ?_
                   refine xR hE [0, 1, 6, 7, 8, 10, 11] rfl (L21_ReachParams_r19_ok F _ _ _ _ _ _ _ _) ?_
                   intro x0 x1 x6 x7 x8 x10 x11
                   show OKq _ _ _ [(11, x11), (10, x10), (8, x8), (7, x7), (6, x6), (1, x1), (0, x0)] _
                   exact qLess [11, 10, 8, 7, 6, 1, 0] (hj4 x0 x1 x6 x7 x8 x10 x11)
                 · refine rSkip ?_
                   exact qLess [11, 10, 8, 7, 6, 1, 0] (hj4 x0 x1 x6 x7 x8 x10 x11)
             · refine rExit ?_
               refine xThenX ?_
               refine xThenX ?_
               refine rOut ?_
               exact qLess [8, 7, 6, 1, 0] (hj2 x0 x1 x6 x7 x8)
         · refine rSeq ?_
           refine cLess [8, 7, 6, 1, 0] ?_
           refine xR hE [0, 1, 6, 7, 8, 9] rfl (L21_ReachParams_r9_ok F _ _ _ _ _ _) ?_
           intro x0 x1 x6 x7 x8 x9
           show OKq _ _ _ [(9, x9), (8, x8), (7, x7), (6, x6), (1, x1), (0, x0)] _
           refine rThen ?_
           refine rBlock ?_
           refine cLess [9, 8, 7, 6, 1, 0] ?_
           refine xLoopAt [0, 1, 6, 7, 8, 9] [] (fun k6 => L21_ReachParams_l6 F (fun x0 x1 x6 x7 x8 => L21_ReachParams_k5 F x0 x1 x6 x7 x8) k6) F [x0, x1, x6, x7, x8, x9] rfl rfl (fun _ _ _ _ _ _ => rfl) fun I hI6 k6 => ?_
           intro x0 x1 x6 x7 x8 x9
           show OKc _ _ [(9, x9), (8, x8), (7, x7), (6, x6), (1, x1), (0, x0)] _ _
           refine cAs (L21_ReachParams_l6_s F _ _ _ _ _ _ _ _) ?_
           refine rSeq ?_
           refine rSeq ?_
           refine cLess [9, 8, 7, 6, 1, 0] ?_
           refine xR hE [0, 1, 6, 7, 8, 9, 38] rfl (L21_ReachParams_r10_ok F _ _ _ _ _ _ _) ?_
           intro x0 x1 x6 x7 x8 x9 x38
           show OKq _ _ _ [(38, x38), (9, x9), (8, x8), (7, x7), (6, x6), (1, x1), (0, x0)] _
           refine rThen ?_
           refine xCond rfl rfl ?_ ?_
           · refine rSkip ?_
             refine rThen ?_
             refine rSeq ?_
             refine rBlock ?_
             refine rSeq ?_
             refine cLess [9, 8, 7, 6, 1, 0] ?_
             refine xR hE [0, 1, 6, 7, 8, 9] rfl (L21_ReachParams_r12_ok F _ _ _ _ _ _ _) ?_
             intro x0 x1 x6 x7 x8 x9
             show OKq _ _ _ [(9, x9), (8, x8), (7, x7), (6, x6), (1, x1), (0, x0)] _
             refine rThen ?_
             refine cLess [9, 8, 7, 6, 1, 0] ?_
             refine xR hE [0, 1, 6, 7, 8, 9] rfl (L21_ReachParams_r13_ok F _ _ _ _ _ _ _) ?_
             intro x0 x1 x6 x7 x8 x9
             show OKq _ _ _ [(9, x9), (8, x8), (7, x7), (6, x6), (1, x1), (0, x0)] _
             refine xBlockN ?_
             refine rThen ?_
             refine cLess [9, 8, 7, 6, 1, 0] ?_
             refine xR hE [0, 1, 6, 7, 8, 9] rfl (L21_ReachParams_r11_ok F _ _ _ _ _ _ _) ?_
             intro x0 x1 x6 x7 x8 x9
             show OKq _ _ _ [(9, x9), (8, x8), (7, x7), (6, x6), (1, x1), (0, x0)] _
             exact qLess [9, 8, 7, 6, 1, 0] (hI6 k6 x0 x1 x6 x7 x8 x9)
           · refine rExit ?_
             refine xThenX ?_
             refine xThenX ?_
             refine rOut ?_
             exact qLess [8, 7, 6, 1, 0] (hj5 x0 x1 x6 x7 x8)
   · exact rFail


end Go.Fw
