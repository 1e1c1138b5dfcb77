/-
  TopRing: for any number its run is one of those that are told whole.
-/
import Derived.Test.YtmdifacbhodikaaGreatDoorTrRun
import Derived.Test.YtmdifacbhodikaaGreatDoorHwk4
set_option linter.all false
set_option linter.unusedVariables false
namespace Go.Fk
open Go Go.Fw Go.Proofs

theorem once_base (K : V → St) : kOnce tabNs K a8 (base2 tabNs) = K (.b true) a8 (base2 tabNs) := by kernel_rfl
theorem kAdd_I {m n : Nat} (h : m + n < 9223372036854775808) (K : V → St) : kAdd (I m) (I n) K = K (I (m + n)) := by
  funext a t
  show ifR (Nat.blt (Nat.add m n) 9223372036854775808) (K (I (Nat.add m n)) a t) (slowR .add (I m) (I n) fun v => K v a t) = _
  have hb : Nat.blt (Nat.add m n) 9223372036854775808 = true := Nat.ble_eq_true_of_le h
  rw [hb]
  rfl
theorem q8_true_of (F : Nat) (hall : ∀ h, 1 ≤ h → h ≤ 10 → tl8 F (I h) finT a8 (base2 tabNs) = yesR) (z : Int) : q8 F (.i z) finT a8 (base2 tabNs) = yesR := by
  have h1 : q8 F (.i z) finT a8 (base2 tabNs) = (q10 F (.i z) (I 10) fun g => kAdd (I 1) g fun h => tl8 F h finT) a8 (base2 tabNs) := by
    rw [q8_cut]
    show kOnce tabNs _ a8 (base2 tabNs) = _
    rw [once_base]
    rfl
  rw [h1]
  obtain ⟨m, hm, hs⟩ := small_run F 10 (by omega) (by omega) z
  rw [hs, kAdd_I (by omega)]
  exact hall (1 + m) (by omega) (by omega)
theorem q8_true (z : Int) : q8 2000 (.i z) finT a8 (base2 tabNs) = yesR := q8_true_of 2000 all8 z
theorem run_args {fl : KFn 1} {m : List Value → M Value} (hc : CRef (apN 1 fl) m) (hrun : ∀ (z : Int), fl (.i z) finT a8 (base2 tabNs) = yesR) {h : H} {us : List Value} (hf : Fr 8 h) (h0 : h.get 0 = some ⟨[], .dead⟩) (h1 : h.get 1 = some ⟨tabNs.map (fun n : Nat => Value.int .u8 (n : Int)), .ro⟩) (ha : ArgsAre h [.int] us) :
    ∃ n' h', (m us).run 8 h = some (.bool true, n', h') := by
  have key : ∃ z1 : Int, us = [.int .i64 z1] := by
    clear h0 h1 hf hrun hc
    cases us with
    | nil => exact ha.elim
    | cons v1 us =>
      cases us with
      | cons _ _ => exact ha.2.elim
      | nil =>
        obtain ⟨⟨z1, e1, _⟩, _⟩ := ha
        exact ⟨z1, by rw [e1]⟩
  obtain ⟨z1, rfl⟩ := key
  have h8 : num a8 = 8 := by decide
  have := run_of_base hc (ns := tabNs) (vs := [.i z1]) (ws := [.int .i64 z1]) (.cons (.of (.i z1)) .nil) (a := a8) (by rw [h8]; omega) (hrun z1) (by rw [h8]; exact hf) h0 h1
  rw [h8] at this
  exact this
theorem t8_run {m : List Value → M Value} (hc : CRef (apN 1 (q8 2000)) m) {h : H} {us : List Value} (hf : Fr 8 h) (h0 : h.get 0 = some ⟨[], .dead⟩) (h1 : h.get 1 = some ⟨tabNs.map (fun n : Nat => Value.int .u8 (n : Int)), .ro⟩) (ha : ArgsAre h [.int] us) :
    ∃ n' h', (m us).run 8 h = some (.bool true, n', h') := run_args (fl := q8 2000) hc q8_true hf h0 h1 ha
end Go.Fk
