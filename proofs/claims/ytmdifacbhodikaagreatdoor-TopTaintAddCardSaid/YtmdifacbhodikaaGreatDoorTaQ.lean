/-
  TopTaintAdd: for any two numbers its run is one of those that are told whole.
-/
import Derived.Test.YtmdifacbhodikaaGreatDoorTaRun
import Derived.Test.YtmdifacbhodikaaGreatDoorFwk4
set_option linter.all false
set_option linter.unusedVariables false
namespace Go.Fk
open Go Go.Fw Go.Proofs

theorem once_base (K : V → St) : kOnce tabNs K a8 (base2 tabNs) = K (.b true) a8 (base2 tabNs) := by kernel_rfl
theorem kAdd_I {m n : Nat} (h : m + n < 9223372036854775808) (K : V → St) : kAdd (I m) (I n) K = K (I (m + n)) := by
  funext a t
  show ifR (Nat.blt (Nat.add m n) 9223372036854775808) (K (I (Nat.add m n)) a t) (slowR .add (I m) (I n) fun v => K v a t) = _
  have hb : Nat.blt (Nat.add m n) 9223372036854775808 = true := Nat.ble_eq_true_of_le h
  rw [hb]
  rfl
theorem q4_true_of (F : Nat) (hall : ∀ h n, 1 ≤ h → h ≤ 20 → n < h + 1 → isTrue (tl4 F (I h) (I n) fin a8 (base2 tabNs)) = true) (z1 z2 : Int) : isTrue (q4 F (.i z1) (.i z2) fin a8 (base2 tabNs)) = true := by
  have h1 : q4 F (.i z1) (.i z2) fin a8 (base2 tabNs) = (q10 F (.i z2) (I 20) fun g => kAdd (I 1) g fun h => kAdd h (I 1) fun l => q10 F (.i z1) l fun n => tl4 F h n fin) a8 (base2 tabNs) := by
    rw [q4_cut]
    show kOnce tabNs _ a8 (base2 tabNs) = _
    rw [once_base]
    rfl
  rw [h1]
  obtain ⟨m, hm, hs⟩ := small_run F 20 (by omega) (by omega) z2
  rw [hs, kAdd_I (by omega), kAdd_I (by omega)]
  obtain ⟨w, hw, hs2⟩ := small_run F (1 + m + 1) (by omega) (by omega) z1
  rw [hs2]
  exact hall (1 + m) w (by omega) (by omega) (by omega)
theorem q4_true (z1 z2 : Int) : isTrue (q4 2000 (.i z1) (.i z2) fin a8 (base2 tabNs)) = true := q4_true_of 2000 all4 z1 z2
theorem run_int2 {fl : KFn 2} {m : List Value → M Value} (hc : CRef (apN 2 fl) m) (hrun : ∀ z1 z2 : Int, isTrue (fl (.i z1) (.i z2) fin a8 (base2 tabNs)) = true) {h : H} {us : List Value} (hf : Fr 8 h) (h0 : h.get 0 = some ⟨[], .dead⟩) (h1 : h.get 1 = some ⟨tabNs.map (fun n : Nat => Value.int .u8 (n : Int)), .ro⟩) (ha : ArgsAre h [.int, .int] us) :
    ∃ n' h', (m us).run 8 h = some (.bool true, n', h') := by
  have key : ∃ z1 z2 : Int, us = [.int .i64 z1, .int .i64 z2] := by
    clear h0 h1 hf hrun hc
    cases us with
    | nil => exact ha.elim
    | cons v1 us =>
      cases us with
      | nil => exact ha.2.elim
      | cons v2 us =>
        cases us with
        | cons _ _ => exact ha.2.2.elim
        | nil =>
          obtain ⟨⟨z1, e1, _⟩, ⟨z2, e2, _⟩, _⟩ := ha
          exact ⟨z1, z2, by rw [e1, e2]⟩
  obtain ⟨z1, z2, rfl⟩ := key
  have h8 : num a8 = 8 := by decide
  have := run_of_base hc (ns := tabNs) (vs := [.i z1, .i z2]) (ws := [.int .i64 z1, .int .i64 z2]) (.cons (.of (.i z1)) (.cons (.of (.i z2)) .nil)) (a := a8) (by rw [h8]; omega) (hrun z1 z2) (by rw [h8]; exact hf) h0 h1
  rw [h8] at this
  exact this
theorem tA_run {m : List Value → M Value} (hc : CRef (apN 2 (q4 2000)) m) {h : H} {us : List Value} (hf : Fr 8 h) (h0 : h.get 0 = some ⟨[], .dead⟩) (h1 : h.get 1 = some ⟨tabNs.map (fun n : Nat => Value.int .u8 (n : Int)), .ro⟩) (ha : ArgsAre h [.int, .int] us) :
    ∃ n' h', (m us).run 8 h = some (.bool true, n', h') := run_int2 (fl := q4 2000) hc q4_true hf h0 h1 ha
end Go.Fk
