/-
  Words of 64 bits: what the operations on them come to, in natural numbers.
-/
import Derived.Test.YtbkppkekgdnilaaDoorFwR
namespace Go.Fw

abbrev u64 (a : Nat) : Value := .int .u64 (a : Int)

theorem wrapU {z : Int} (h : 0 ≤ z ∧ z < 18446744073709551616) : IntKind.u64.wrap z = z := by
  have h1 : IntKind.u64.signed = false := rfl
  have h2 : IntKind.u64.bits = 64 := rfl
  unfold IntKind.wrap
  rw [h1, h2]
  show (if (false && decide (z % (2 ^ 64 : Int) ≥ (2 ^ (64 - 1) : Int))) = true then z % (2 ^ 64 : Int) - (2 ^ 64 : Int) else z % (2 ^ 64 : Int)) = z
  rw [show (2 ^ 64 : Int) = 18446744073709551616 by rfl]
  simp only [Bool.false_and, Bool.false_eq_true, if_false]
  omega
theorem wrapU_mod {z : Int} : IntKind.u64.wrap z = z % 18446744073709551616 := by
  have h1 : IntKind.u64.signed = false := rfl
  have h2 : IntKind.u64.bits = 64 := rfl
  unfold IntKind.wrap
  rw [h1, h2]
  show (if (false && decide (z % (2 ^ 64 : Int) ≥ (2 ^ (64 - 1) : Int))) = true then z % (2 ^ 64 : Int) - (2 ^ 64 : Int) else z % (2 ^ 64 : Int)) = _
  rw [show (2 ^ 64 : Int) = 18446744073709551616 by rfl]
  simp only [Bool.false_and, Bool.false_eq_true, if_false]

theorem ofInt_nat {a : Nat} : BitVec.ofInt 64 (a : Int) = BitVec.ofNat 64 a := by
  apply BitVec.eq_of_toNat_eq
  simp

section
variable {β : Type} {k : Value → M β}

theorem st_orU {a b : Nat} (ha : a < 2 ^ 64) (hb : b < 2 ^ 64) : bnd (opBin .or (u64 a) (u64 b)) k = k (u64 (a ||| b)) := by
  have hor : a ||| b < 2 ^ 64 := Nat.or_lt_two_pow ha hb
  have e : bin .or (u64 a) (u64 b) = some (u64 (a ||| b)) := by
    show (if IntKind.u64 = IntKind.u64 then some (Value.int .u64 (IntKind.u64.wrap ((BitVec.ofInt 64 (a : Int) ||| BitVec.ofInt 64 (b : Int)).toNat : Int))) else none) = _
    rw [if_pos rfl, ofInt_nat, ofInt_nat, BitVec.toNat_or, BitVec.toNat_ofNat, BitVec.toNat_ofNat, Nat.mod_eq_of_lt ha, Nat.mod_eq_of_lt hb, wrapU (by omega)]
  unfold opBin; rw [e]; rfl
theorem st_andU {a b : Nat} (ha : a < 2 ^ 64) (hb : b < 2 ^ 64) : bnd (opBin .and (u64 a) (u64 b)) k = k (u64 (a &&& b)) := by
  have hor : a &&& b < 2 ^ 64 := Nat.lt_of_le_of_lt Nat.and_le_left ha
  have e : bin .and (u64 a) (u64 b) = some (u64 (a &&& b)) := by
    show (if IntKind.u64 = IntKind.u64 then some (Value.int .u64 (IntKind.u64.wrap ((BitVec.ofInt 64 (a : Int) &&& BitVec.ofInt 64 (b : Int)).toNat : Int))) else none) = _
    rw [if_pos rfl, ofInt_nat, ofInt_nat, BitVec.toNat_and, BitVec.toNat_ofNat, BitVec.toNat_ofNat, Nat.mod_eq_of_lt ha, Nat.mod_eq_of_lt hb, wrapU (by omega)]
  unfold opBin; rw [e]; rfl
/-- What is in a and not in b. -/
def andNot (a b : Nat) : Nat := a &&& (2 ^ 64 - 1 - b)
theorem andNot_lt {a b : Nat} (ha : a < 2 ^ 64) : andNot a b < 2 ^ 64 := Nat.lt_of_le_of_lt Nat.and_le_left ha
theorem andNot_bit {a b i : Nat} (ha : a < 2 ^ 64) (hb : b < 2 ^ 64) : (andNot a b).testBit i = (a.testBit i && !b.testBit i) := by
  unfold andNot
  rw [Nat.testBit_and]
  by_cases hi : i < 64
  · rw [show 2 ^ 64 - 1 - b = 2 ^ 64 - (b + 1) by omega, Nat.testBit_two_pow_sub_succ hb, decide_eq_true hi, Bool.true_and]
  · rw [Nat.testBit_lt_two_pow (Nat.lt_of_lt_of_le ha (Nat.pow_le_pow_right (by decide) (by omega)))]
    rfl
theorem st_andNotU {a b : Nat} (ha : a < 2 ^ 64) (hb : b < 2 ^ 64) : bnd (opBin .andNot (u64 a) (u64 b)) k = k (u64 (andNot a b)) := by
  have hor := andNot_lt (b := b) ha
  have e : bin .andNot (u64 a) (u64 b) = some (u64 (andNot a b)) := by
    show (if IntKind.u64 = IntKind.u64 then some (Value.int .u64 (IntKind.u64.wrap ((BitVec.ofInt 64 (a : Int) &&& ~~~BitVec.ofInt 64 (b : Int)).toNat : Int))) else none) = _
    rw [if_pos rfl, ofInt_nat, ofInt_nat, BitVec.toNat_and, BitVec.toNat_not, BitVec.toNat_ofNat, BitVec.toNat_ofNat, Nat.mod_eq_of_lt ha, Nat.mod_eq_of_lt hb]
    rw [wrapU (by unfold andNot at hor; omega)]
    rfl
  unfold opBin; rw [e]; rfl
theorem st_shrU {a s : Nat} {kd : IntKind} (hs : s ≤ 64) : bnd (opBin .shr (u64 a) (.int kd (s : Int))) k = k (u64 (a / 2 ^ s)) := by
  have e : bin .shr (u64 a) (.int kd (s : Int)) = some (u64 (a / 2 ^ s)) := by
    show (if (s : Int) < 0 then none else some (Value.int .u64 ((a : Int).fdiv (2 ^ (min (s : Int).toNat 64))))) = _
    rw [if_neg (by omega), Int.toNat_natCast, Nat.min_eq_left hs]
    have h2 : ((2 : Int) ^ s) = ((2 ^ s : Nat) : Int) := by simp
    rw [h2, Int.fdiv_eq_ediv_of_nonneg _ (Int.natCast_nonneg _)]
    rfl
  unfold opBin; rw [e]; rfl
theorem st_shlU {s : Nat} {kd : IntKind} (hs : s < 64) : bnd (opBin .shl (.int .u64 1) (.int kd (s : Int))) k = k (u64 (2 ^ s)) := by
  have hlt : 2 ^ s < 2 ^ 64 := Nat.pow_lt_pow_right (by decide) hs
  have e : bin .shl (.int .u64 1) (.int kd (s : Int)) = some (u64 (2 ^ s)) := by
    show (if (s : Int) < 0 then none else some (Value.int .u64 (IntKind.u64.wrap (1 * 2 ^ (min (s : Int).toNat 64))))) = _
    rw [if_neg (by omega), Int.toNat_natCast, Nat.min_eq_left (by omega), Int.one_mul]
    have : ((2 : Int) ^ s) = ((2 ^ s : Nat) : Int) := by simp
    rw [this, wrapU ⟨Int.natCast_nonneg _, by
      have h3 : ((2 ^ s : Nat) : Int) < ((2 ^ 64 : Nat) : Int) := Int.ofNat_lt.2 hlt
      exact h3⟩]
  unfold opBin; rw [e]; rfl
end

end Go.Fw
