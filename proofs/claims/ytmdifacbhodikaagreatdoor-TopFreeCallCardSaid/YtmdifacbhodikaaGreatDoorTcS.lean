/-
  A number from 0 to k - 1, out of any number.
-/
import Derived.Test.YtmdifacbhodikaaGreatDoorGenTc1
set_option linter.all false
set_option linter.unusedVariables false
namespace Go.Fk
open Go Go.Fw Go.Proofs

theorem rem_run (k : Nat) (hk : 0 < k) (z : Int) : ∃ w : Int, w.natAbs < k ∧ ∀ Kr : V → R, remR (.i z) (I k) Kr = Kr (.i w) := by
  obtain ⟨k, rfl⟩ : ∃ j, k = j + 1 := ⟨k - 1, by omega⟩
  cases z with
  | ofNat n => exact ⟨.ofNat (n % (k + 1)), by show n % (k + 1) < k + 1; exact Nat.mod_lt _ (by omega), fun Kr => rfl⟩
  | negSucc n =>
    refine ⟨(Int.negSucc n).tmod (Int.ofNat (k + 1)), ?_, fun Kr => ?_⟩
    · have h1 : (Int.negSucc n).tmod (Int.ofNat (k + 1)) = -((((n + 1) % (k + 1) : Nat)) : Int) := rfl
      rw [h1, Int.natAbs_neg, Int.natAbs_natCast]
      exact Nat.mod_lt _ (by omega)
    · have hb : bin .rem (cv (.i (.negSucc n))) (cv (I (k + 1))) = some (.int .i64 ((Int.negSucc n).tmod (Int.ofNat (k + 1)))) := by
        show (if ((k + 1 : Nat) : Int) = 0 then none else some (Value.int .i64 ((Int.negSucc n).tmod (Int.ofNat (k + 1))))) = _
        rw [if_neg (by omega)]
      show @Option.rec Value (fun _ => R) .bad (fun w => Kr (vc w)) (bin .rem (cv (.i (.negSucc n))) (cv (I (k + 1)))) = _
      rw [hb]
      rfl
theorem abs_run (w : Int) (hw : w.natAbs < 1000) (K : V → St) (a : Ad) (t : T4) : (kLss (.i w) (I 0) fun g => onB g (kNeg (.i w) fun h => K h) (K (.i w))) a t = K (I w.natAbs) a t := by
  cases w with
  | ofNat n => rfl
  | negSucc n =>
    have hb : bin .lss (cv (.i (.negSucc n))) (cv (I 0)) = some (.bool true) := by
      show some (Value.bool (decide (Int.negSucc n < ((0 : Nat) : Int)))) = _
      rw [decide_eq_true (by omega)]
    show @Option.rec Value (fun _ => R) .bad (fun w => (fun g => onB g (kNeg (.i (.negSucc n)) fun h => K h) (K (.i (.negSucc n)))) (vc w) a t) (bin .lss (cv (.i (.negSucc n))) (cv (I 0))) = _
    rw [hb]
    show kVal (opNeg (.int .i64 (.negSucc n))) K a t = _
    have h2 : opNeg (.int .i64 (.negSucc n)) = ret (.int .i64 ((n + 1 : Nat) : Int)) := by
      show ret (Value.int .i64 (IntKind.i64.wrap (0 - Int.negSucc n))) = _
      rw [wrap64 (by have : (Int.negSucc n).natAbs = n + 1 := rfl; omega)]
      congr 2
      omega
    rw [h2]
    rfl
theorem small_run (F k : Nat) (hk : 0 < k) (hk2 : k < 1000) (z : Int) : ∃ m, m < k ∧ ∀ K : V → St, q10 F (.i z) (I k) K = K (I m) := by
  obtain ⟨w, hw, hr⟩ := rem_run k hk z
  refine ⟨w.natAbs, hw, fun K => ?_⟩
  funext a t
  show remR (.i z) (I k) (fun d => (kLss d (I 0) fun g => onB g (kNeg d fun h => K h) (K d)) a t) = _
  rw [hr]
  exact abs_run w (by omega) K a t
end Go.Fk
