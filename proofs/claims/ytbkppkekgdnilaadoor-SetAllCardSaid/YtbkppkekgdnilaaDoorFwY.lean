/-
  The numbers of a word's bits, rising; the lowest; a word without its lowest.
-/
import Derived.Test.YtbkppkekgdnilaaDoorFwW
namespace Go.Fw

/-- The numbers of the bits that are set. -/
def bitsOf (x : Nat) : List Nat := (List.range 64).filter x.testBit

theorem pc_bits : ∀ f x, pc f x = ((List.range f).filter x.testBit).length
  | 0, _ => rfl
  | f + 1, x => by
    rw [pc_add f 1, pc_bits f x, List.range_succ, List.filter_append, List.length_append]
    congr 1
    show x / 2 ^ f % 2 + 0 = _
    cases hq : x.testBit f with
    | true =>
      rw [Nat.testBit_eq_decide_div_mod_eq, decide_eq_true_eq] at hq
      rw [List.filter_cons_of_pos (by rw [Nat.testBit_eq_decide_div_mod_eq]; exact decide_eq_true hq)]
      simp only [List.filter_nil, List.length_singleton]; omega
    | false =>
      have hq' := hq
      rw [Nat.testBit_eq_decide_div_mod_eq, decide_eq_false_iff_not] at hq
      rw [List.filter_cons_of_neg (by rw [hq']; decide)]
      simp only [List.filter_nil, List.length_nil]; omega
theorem pc64 (x : Nat) : pc 64 x = (bitsOf x).length := pc_bits 64 x

/-- A number that is not nought is a power of two by an odd one. -/
theorem low_bit : ∀ k x, x < 2 ^ k → x ≠ 0 → ∃ t m, t < k ∧ x = 2 ^ t * (2 * m + 1)
  | 0, x, h, h0 => by simp at h; exact absurd h h0
  | k + 1, x, h, h0 => by
    by_cases hx : x % 2 = 1
    · exact ⟨0, x / 2, by omega, by simp; omega⟩
    · obtain ⟨t, m, ht, e⟩ := low_bit k (x / 2) (by rw [Nat.pow_succ] at h; omega) (by omega)
      refine ⟨t + 1, m, by omega, ?_⟩
      rw [Nat.pow_succ, Nat.mul_comm (2 ^ t) 2, Nat.mul_assoc, ← e]; omega

theorem low_bits {t m i : Nat} : (2 ^ t * (2 * m + 1)).testBit i = (decide (t ≤ i) && (2 * m + 1).testBit (i - t)) := by
  rw [Nat.mul_comm, Nat.testBit_mul_two_pow]

/-- x - 1 below the lowest bit is all ones, above it x. -/
theorem less_bits {t m i : Nat} : (2 ^ t * (2 * m + 1) - 1).testBit i = (decide (i < t) || (decide (t < i) && (2 * m + 1).testBit (i - t))) := by
  have e : 2 ^ t * (2 * m + 1) - 1 = 2 ^ t * (2 * m) + (2 ^ t - 1) := by
    have := Nat.two_pow_pos t
    rw [Nat.mul_add, Nat.mul_one]; omega
  rw [e, Nat.testBit_two_pow_mul_add _ (by have := Nat.two_pow_pos t; omega)]
  by_cases h : i < t
  · rw [if_pos h, decide_eq_true h, Nat.testBit_two_pow_sub_one, decide_eq_true h]; rfl
  · rw [if_neg h, decide_eq_false h, Bool.false_or]
    by_cases h2 : t = i
    · subst h2
      rw [Nat.sub_self, Nat.testBit_zero, decide_eq_false (Nat.lt_irrefl _), Bool.false_and]
      have : 2 * m % 2 = 0 := by omega
      rw [this]; rfl
    · rw [decide_eq_true (by omega), Bool.true_and]
      obtain ⟨j, hj⟩ : ∃ j, i - t = j + 1 := ⟨i - t - 1, by omega⟩
      rw [hj, Nat.testBit_succ, Nat.testBit_succ]
      congr 1; omega

structure Low (x t : Nat) : Prop where
  lt : t < 64
  neg : andNot x (x - 1) = 2 ^ t
  bits : bitsOf x = t :: bitsOf (x &&& (x - 1))

theorem bits_head {p q : Nat → Bool} {t : Nat} (ht : t < 64) (h0 : p t = true) (h1 : ∀ i, i < t → p i = false) (h2 : ∀ i, q i = (p i && decide (i ≠ t))) : (List.range 64).filter p = t :: (List.range 64).filter q := by
  obtain ⟨r, hr⟩ : ∃ r, 64 = t + 1 + r := ⟨63 - t, by omega⟩
  rw [hr, List.range_add, List.range_succ]
  simp only [List.filter_append]
  have e0 : ∀ f : Nat → Bool, (∀ i, i < t → f i = false) → (List.range t).filter f = [] := fun f hf => by
    rw [List.filter_eq_nil_iff]
    intro a ha
    rw [hf a (List.mem_range.1 ha)]; simp
  rw [e0 p h1, e0 q fun i hi => by rw [h2, h1 i hi]; rfl]
  rw [List.filter_cons_of_pos h0, List.filter_cons_of_neg (by rw [h2]; simp)]
  simp only [List.filter_nil, List.nil_append, List.singleton_append]
  congr 1
  apply List.filter_congr
  intro a ha
  rw [List.mem_map] at ha
  obtain ⟨b, _, rfl⟩ := ha
  rw [h2, decide_eq_true (by omega), Bool.and_true]

theorem low (x : Nat) (hx : x < 2 ^ 64) (h0 : x ≠ 0) : ∃ t, Low x t := by
  obtain ⟨t, m, ht, e⟩ := low_bit 64 x hx h0
  have b1 : ∀ i, x.testBit i = (decide (t ≤ i) && (2 * m + 1).testBit (i - t)) := fun i => by rw [e]; exact low_bits
  have b2 : ∀ i, (x - 1).testBit i = (decide (i < t) || (decide (t < i) && (2 * m + 1).testBit (i - t))) := fun i => by rw [e]; exact less_bits
  have hodd : (2 * m + 1).testBit 0 = true := by rw [Nat.testBit_zero]; simp
  refine ⟨t, ht, ?_, ?_⟩
  · apply Nat.eq_of_testBit_eq
    intro i
    rw [andNot_bit hx (by omega), b1, b2, Nat.testBit_two_pow]
    by_cases h1 : i < t
    · rw [decide_eq_false (show ¬ t ≤ i by omega), decide_eq_false (show ¬ t = i by omega)]; rfl
    · by_cases h2 : t = i
      · subst h2
        rw [Nat.sub_self, hodd, decide_eq_true (Nat.le_refl _), decide_eq_false (Nat.lt_irrefl _), decide_eq_true rfl]; rfl
      · rw [decide_eq_true (show t ≤ i by omega), decide_eq_false h1, decide_eq_true (show t < i by omega), decide_eq_false h2]
        cases (2 * m + 1).testBit (i - t) <;> rfl
  · refine bits_head ht ?_ (fun i hi => ?_) fun i => ?_
    · rw [b1, Nat.sub_self, hodd, decide_eq_true (Nat.le_refl _)]; rfl
    · rw [b1, decide_eq_false (by omega)]; rfl
    · rw [Nat.testBit_and, b1, b2]
      by_cases h1 : i < t
      · rw [decide_eq_false (show ¬ t ≤ i by omega)]; rfl
      · by_cases h2 : t = i
        · subst h2
          rw [decide_eq_false (Nat.lt_irrefl _), decide_eq_false (show ¬ t ≠ t by simp), Bool.false_and, Bool.or_false]
        · rw [decide_eq_true (show t ≤ i by omega), decide_eq_false h1, decide_eq_true (show t < i by omega), decide_eq_true (show i ≠ t by omega)]
          cases (2 * m + 1).testBit (i - t) <;> rfl

/-- Numbers below 64 k that are in, k words of them. -/
def upTo (s : Nat → Bool) (k : Nat) : List Nat := (List.range (64 * k)).filter s
theorem upTo_zero {s : Nat → Bool} : upTo s 0 = [] := rfl
theorem upTo_succ {s : Nat → Bool} {k x : Nat} (h : ∀ i, i < 64 → s (64 * k + i) = x.testBit i) : upTo s (k + 1) = upTo s k ++ (bitsOf x).map (64 * k + ·) := by
  unfold upTo bitsOf
  rw [show 64 * (k + 1) = 64 * k + 64 by omega, List.range_add, List.filter_append, List.filter_map]
  congr 2
  apply List.filter_congr
  intro i hi
  exact h i (List.mem_range.1 hi)

end Go.Fw
