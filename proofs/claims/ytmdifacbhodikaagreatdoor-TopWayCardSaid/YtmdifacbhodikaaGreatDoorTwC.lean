/-
  TopWay: what stands in the second number's place may be another, if it says the same of it.
-/
import Derived.Test.YtmdifacbhodikaaGreatDoorTwT
set_option linter.all false
set_option linter.unusedVariables false
set_option maxRecDepth 20000
namespace Go.Fk
open Go Go.Fw Go.Proofs

theorem lpK_x4 {z : V → V → V → V → St} {B B' : (V → V → V → V → St) → V → V → V → V → St} {x x' : V} (hz : ∀ a c d, z a x c d = z a x' c d)
    (hB : ∀ f f', (∀ a c d, f a x c d = f' a x' c d) → ∀ a c d, B f a x c d = B' f' a x' c d) : ∀ n a c d, lpK z B n a x c d = lpK z B' n a x' c d
  | 0, a, c, d => hz a c d
  | n + 1, a, c, d => hB _ _ (lpK_x4 hz hB n) a c d
theorem lpK_x6 {z : V → V → V → V → V → V → St} {B B' : (V → V → V → V → V → V → St) → V → V → V → V → V → V → St} {x x' : V} (hz : ∀ a c d e g, z a x c d e g = z a x' c d e g)
    (hB : ∀ f f', (∀ a c d e g, f a x c d e g = f' a x' c d e g) → ∀ a c d e g, B f a x c d e g = B' f' a x' c d e g) : ∀ n a c d e g, lpK z B n a x c d e g = lpK z B' n a x' c d e g
  | 0, a, c, d, e, g => hz a c d e g
  | n + 1, a, c, d, e, g => hB _ _ (lpK_x6 hz hB n) a c d e g

theorem onB_c {c : V} {t t' f f' : St} (h1 : t = t') (h2 : f = f') : onB c t f = onB c t' f' := by rw [h1, h2]
set_option maxHeartbeats 1000000 in
theorem tlG_congr {F : Nat} {Q Q' : V → V → (V → St) → St} {h x x' : V} {K : V → St} (hQ : ∀ l K, Q x l K = Q' x' l K) : tlG F Q h x K = tlG F Q' h x' K := by
  unfold tlG
  simp only [jn]
  repeat (with_reducible (refine congrArg _ (funext fun _ => ?_)))
  refine lpK_x4 ?_ ?_ _ _ _ _
  · intros; rfl
  intro f f' hf a c d
  refine congrArg _ (funext fun _ => ?_)
  refine onB_c ?_ ?_
  · repeat' (with_reducible first | exact hf _ _ _ | (refine congrArg _ (funext fun _ => ?_)))
  · repeat' (with_reducible first | rfl | (refine onB_c ?_ ?_) | (refine congrArg _ (funext fun _ => ?_)))
    all_goals
      refine lpK_x6 ?_ ?_ _ _ _ _ _ _
      · intros; rfl
      intro f f' hf a c d e g
      repeat' (with_reducible first | rfl | (refine onB_c ?_ ?_) | exact hf _ _ _ _ _ | (rw [hQ]) | (refine congrArg _ (funext fun _ => ?_)))
end Go.Fk
