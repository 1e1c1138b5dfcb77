/-
  TopWay: for any two numbers its run is one of those that are told whole.
-/
import Derived.Test.YtmdifacbhodikaaGreatDoorTwRun
import Derived.Test.YtmdifacbhodikaaGreatDoorTwC
import Derived.Test.YtmdifacbhodikaaGreatDoorWwk4
set_option linter.all false
set_option linter.unusedVariables false
namespace Go.Fk
open Go Go.Fw Go.Proofs

theorem once_base (K : V → St) : kOnce tabNs K a8 (base2 tabNs) = K (.b true) a8 (base2 tabNs) := by kernel_rfl
theorem kAdd_I {m n : Nat} (h : m + n < 9223372036854775808) (K : V → St) : kAdd (I m) (I n) K = K (I (m + n)) := by
  funext a t
  show ifR (Nat.blt (Nat.add m n) 9223372036854775808) (K (I (Nat.add m n)) a t) (slowR .add (I m) (I n) fun v => K v a t) = _
  have hb : Nat.blt (Nat.add m n) 9223372036854775808 = true := Nat.ble_eq_true_of_le h
  rw [hb]
  rfl
theorem q3_true_of (F : Nat) (hall : ∀ (z : Int) h m, 1 ≤ h → h ≤ 10 → m < h + 1 → tlG F (Qm F (h + 1) m z) (I h) .u finT a8 (base2 tabNs) = yesR) (z1 z2 : Int) : q3 F (.i z1) (.i z2) finT a8 (base2 tabNs) = yesR := by
  have h1 : q3 F (.i z1) (.i z2) finT a8 (base2 tabNs) = (q10 F (.i z1) (I 10) fun g => kAdd (I 1) g fun h => tlG F (q10 F) h (.i z2) finT) a8 (base2 tabNs) := by
    rw [q3_cut]
    show kOnce tabNs _ a8 (base2 tabNs) = _
    rw [once_base]
    rfl
  rw [h1]
  obtain ⟨m, hm, hs⟩ := small_run F 10 (by omega) (by omega) z1
  rw [hs, kAdd_I (by omega)]
  obtain ⟨w, hw, hs2⟩ := small_run F (1 + m + 1) (by omega) (by omega) z2
  rw [tlG_congr (Qm_eq hs2 .u)]
  exact hall z2 (1 + m) w (by omega) (by omega) hw
theorem q3_true (z1 z2 : Int) : q3 2000 (.i z1) (.i z2) finT a8 (base2 tabNs) = yesR := q3_true_of 2000 all3 z1 z2
theorem run_int2 {fl : KFn 2} {m : List Value → M Value} (hc : CRef (apN 2 fl) m) (hrun : ∀ z1 z2 : Int, fl (.i z1) (.i z2) finT a8 (base2 tabNs) = yesR) {h : H} {us : List Value} (hf : Fr 8 h) (h0 : h.get 0 = some ⟨[], .dead⟩) (h1 : h.get 1 = some ⟨tabNs.map (fun n : Nat => Value.int .u8 (n : Int)), .ro⟩) (ha : ArgsAre h [.int, .int] us) :
    ∃ n' h', (m us).run 8 h = some (.bool true, n', h') := by
  have key : ∃ z1 z2 : Int, us = [.int .i64 z1, .int .i64 z2] := by
    clear h0 h1 hf hrun hc
    cases us with
    | nil => exact ha.elim
    | cons v1 us =>
      cases us with
      | nil => exact ha.2.elim
      | cons v2 us =>
        cases us with
        | cons _ _ => exact ha.2.2.elim
        | nil =>
          obtain ⟨⟨z1, e1, _⟩, ⟨z2, e2, _⟩, _⟩ := ha
          exact ⟨z1, z2, by rw [e1, e2]⟩
  obtain ⟨z1, z2, rfl⟩ := key
  have h8 : num a8 = 8 := by decide
  have := run_of_base hc (ns := tabNs) (vs := [.i z1, .i z2]) (ws := [.int .i64 z1, .int .i64 z2]) (.cons (.of (.i z1)) (.cons (.of (.i z2)) .nil)) (a := a8) (by rw [h8]; omega) (hrun z1 z2) (by rw [h8]; exact hf) h0 h1
  rw [h8] at this
  exact this
theorem t3_run {m : List Value → M Value} (hc : CRef (apN 2 (q3 2000)) m) {h : H} {us : List Value} (hf : Fr 8 h) (h0 : h.get 0 = some ⟨[], .dead⟩) (h1 : h.get 1 = some ⟨tabNs.map (fun n : Nat => Value.int .u8 (n : Int)), .ro⟩) (ha : ArgsAre h [.int, .int] us) :
    ∃ n' h', (m us).run 8 h = some (.bool true, n', h') := run_int2 (fl := q3 2000) hc q3_true hf h0 h1 ha
end Go.Fk
