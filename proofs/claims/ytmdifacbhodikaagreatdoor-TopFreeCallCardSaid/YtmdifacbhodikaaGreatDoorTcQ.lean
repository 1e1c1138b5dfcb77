/-
  TopFreeCall: for any number its run is one of those that are told whole.
-/
import Derived.Test.YtmdifacbhodikaaGreatDoorTcRun
import Derived.Test.YtmdifacbhodikaaGreatDoorHwk4
set_option linter.all false
set_option linter.unusedVariables false
namespace Go.Fk
open Go Go.Fw Go.Proofs

theorem once_base (K : V → St) : kOnce tabNs K a8 (base2 tabNs) = K (.b true) a8 (base2 tabNs) := by kernel_rfl
theorem kAdd_I {m n : Nat} (h : m + n < 9223372036854775808) (K : V → St) : kAdd (I m) (I n) K = K (I (m + n)) := by
  funext a t
  show ifR (Nat.blt (Nat.add m n) 9223372036854775808) (K (I (Nat.add m n)) a t) (slowR .add (I m) (I n) fun v => K v a t) = _
  have hb : Nat.blt (Nat.add m n) 9223372036854775808 = true := Nat.ble_eq_true_of_le h
  rw [hb]
  rfl
theorem q7_true_of (F : Nat) (hall : ∀ h b, 1 ≤ h → h ≤ 8 → tl7 F (I h) (.b b) finT a8 (base2 tabNs) = yesR) (z : Int) (b : Bool) : q7 F (.i z) (.b b) finT a8 (base2 tabNs) = yesR := by
  have h1 : q7 F (.i z) (.b b) finT a8 (base2 tabNs) = (q10 F (.i z) (I 8) fun g => kAdd (I 1) g fun h => tl7 F h (.b b) finT) a8 (base2 tabNs) := by
    rw [q7_cut]
    show kOnce tabNs _ a8 (base2 tabNs) = _
    rw [once_base]
    rfl
  rw [h1]
  obtain ⟨m, hm, hs⟩ := small_run F 8 (by omega) (by omega) z
  rw [hs, kAdd_I (by omega)]
  exact hall (1 + m) b (by omega) (by omega)
theorem q7_true (z : Int) (b : Bool) : q7 2000 (.i z) (.b b) finT a8 (base2 tabNs) = yesR := q7_true_of 2000 all7 z b
theorem run_args {fl : KFn 2} {m : List Value → M Value} (hc : CRef (apN 2 fl) m) (hrun : ∀ (z : Int) (b : Bool), fl (.i z) (.b b) finT a8 (base2 tabNs) = yesR) {h : H} {us : List Value} (hf : Fr 8 h) (h0 : h.get 0 = some ⟨[], .dead⟩) (h1 : h.get 1 = some ⟨tabNs.map (fun n : Nat => Value.int .u8 (n : Int)), .ro⟩) (ha : ArgsAre h [.int, .bool] us) :
    ∃ n' h', (m us).run 8 h = some (.bool true, n', h') := by
  have key : ∃ (z1 : Int) (b2 : Bool), us = [.int .i64 z1, .bool b2] := by
    clear h0 h1 hf hrun hc
    cases us with
    | nil => exact ha.elim
    | cons v1 us =>
      cases us with
      | nil => exact ha.2.elim
      | cons v2 us =>
        cases us with
        | cons _ _ => exact ha.2.2.elim
        | nil =>
          obtain ⟨⟨z1, e1, _⟩, ⟨b2, e2⟩, _⟩ := ha
          exact ⟨z1, b2, by rw [e1, e2]⟩
  obtain ⟨z1, b2, rfl⟩ := key
  have h8 : num a8 = 8 := by decide
  have := run_of_base hc (ns := tabNs) (vs := [.i z1, .b b2]) (ws := [.int .i64 z1, .bool b2]) (.cons (.of (.i z1)) (.cons (.of (.b b2)) .nil)) (a := a8) (by rw [h8]; omega) (hrun z1 b2) (by rw [h8]; exact hf) h0 h1
  rw [h8] at this
  exact this
theorem t7_run {m : List Value → M Value} (hc : CRef (apN 2 (q7 2000)) m) {h : H} {us : List Value} (hf : Fr 8 h) (h0 : h.get 0 = some ⟨[], .dead⟩) (h1 : h.get 1 = some ⟨tabNs.map (fun n : Nat => Value.int .u8 (n : Int)), .ro⟩) (ha : ArgsAre h [.int, .bool] us) :
    ∃ n' h', (m us).run 8 h = some (.bool true, n', h') := run_args (fl := q7 2000) hc q7_true hf h0 h1 ha
end Go.Fk
