/-
  How many bits a word has.
-/
import Derived.Test.YtbkppkekgdnilaaDoorFwV
namespace Go.Fw

theorem and_split (k a c M : Nat) (hc : c < 2 ^ k) : a &&& (c + 2 ^ k * M) = (a % 2 ^ k &&& c) + 2 ^ k * (a / 2 ^ k &&& M) := by
  have h1 : (a &&& (c + 2 ^ k * M)) % 2 ^ k = a % 2 ^ k &&& c := by
    rw [Nat.and_mod_two_pow, Nat.add_mul_mod_self_left, Nat.mod_eq_of_lt hc]
  have h2 : (a &&& (c + 2 ^ k * M)) / 2 ^ k = a / 2 ^ k &&& M := by
    rw [Nat.and_div_two_pow, Nat.add_mul_div_left _ _ (Nat.two_pow_pos k), Nat.div_eq_of_lt hc, Nat.zero_add]
  rw [← h1, ← h2]
  exact (Nat.mod_add_div _ _).symm

/-- How many of the lowest f bits are set. -/
def pc : Nat → Nat → Nat
  | 0, _ => 0
  | f + 1, n => n % 2 + pc f (n / 2)

/-- The numbers of bits of m pieces of k bits each, laid side by side. -/
def S (k : Nat) : Nat → Nat → Nat
  | 0, _ => 0
  | m + 1, n => pc k (n % 2 ^ k) + 2 ^ k * S k m (n / 2 ^ k)

def mask (k c : Nat) : Nat → Nat
  | 0 => 0
  | m + 1 => c + 2 ^ k * mask k c m

theorem step1 : ∀ m x, (x / 2 &&& mask 2 1 m) + (x &&& mask 2 1 m) = S 2 m x
  | 0, x => by simp [mask, S]
  | m + 1, x => by
    have ih := step1 m (x / 4)
    show (x / 2 &&& (1 + 2 ^ 2 * mask 2 1 m)) + (x &&& (1 + 2 ^ 2 * mask 2 1 m)) = pc 2 (x % 2 ^ 2) + 2 ^ 2 * S 2 m (x / 2 ^ 2)
    rw [and_split 2 (x / 2) 1 _ (by decide), and_split 2 x 1 _ (by decide)]
    rw [show (2 : Nat) ^ 2 = 4 from rfl, ← ih, show x / 2 / 4 = x / 4 / 2 by omega]
    rw [Nat.and_one_is_mod, Nat.and_one_is_mod]
    simp only [pc]
    omega

theorem and3 (n : Nat) : n &&& 3 = n % 4 := by
  have := Nat.and_two_pow_sub_one_eq_mod n 2
  simpa using this
theorem and15 (n : Nat) : n &&& 15 = n % 16 := by
  have := Nat.and_two_pow_sub_one_eq_mod n 4
  simpa using this

theorem step2 : ∀ m x, (S 2 (2 * m) x / 4 &&& mask 4 3 m) + (S 2 (2 * m) x &&& mask 4 3 m) = S 4 m x
  | 0, x => by simp [mask, S]
  | m + 1, x => by
    have ih := step2 m (x / 16)
    have e : S 2 (2 * (m + 1)) x = pc 2 (x % 4) + 4 * (pc 2 (x / 4 % 4) + 4 * S 2 (2 * m) (x / 16)) := by
      rw [show 2 * (m + 1) = 2 * m + 1 + 1 by omega]
      simp only [S]
      rw [show (2 : Nat) ^ 2 = 4 from rfl, show x / 4 / 4 = x / 16 by omega]
    rw [e]
    show (_ &&& (3 + 2 ^ 4 * mask 4 3 m)) + (_ &&& (3 + 2 ^ 4 * mask 4 3 m)) = pc 4 (x % 2 ^ 4) + 2 ^ 4 * S 4 m (x / 2 ^ 4)
    rw [and_split 4 _ 3 _ (by decide), and_split 4 _ 3 _ (by decide)]
    rw [show (2 : Nat) ^ 4 = 16 from rfl, ← ih, and3, and3]
    have key : ∀ d, d < 16 → pc 4 d = pc 2 (d % 4) + pc 2 (d / 4) ∧ pc 2 (d % 4) ≤ 2 ∧ pc 2 (d / 4) ≤ 2 := by decide
    obtain ⟨h0, h1, h2⟩ := key (x % 16) (Nat.mod_lt _ (by decide))
    rw [show x % 16 % 4 = x % 4 by omega, show x % 16 / 4 = x / 4 % 4 by omega] at h0
    rw [show x % 16 % 4 = x % 4 by omega] at h1
    rw [show x % 16 / 4 = x / 4 % 4 by omega] at h2
    rw [h0]
    generalize S 2 (2 * m) (x / 16) = y at *
    generalize pc 2 (x % 4) = e0 at *
    generalize pc 2 (x / 4 % 4) = e1 at *
    rw [show (e0 + 4 * (e1 + 4 * y)) / 4 / 16 = y / 4 by omega, show (e0 + 4 * (e1 + 4 * y)) / 16 = y by omega]
    omega

theorem pc4_le : ∀ d, d < 16 → pc 4 d ≤ 4 := by decide
theorem S4_mod : ∀ m x, S 4 m x % 16 ≤ 4
  | 0, _ => by simp [S]
  | m + 1, x => by
    have := pc4_le (x % 16) (Nat.mod_lt _ (by decide))
    show (pc 4 (x % 2 ^ 4) + 2 ^ 4 * S 4 m (x / 2 ^ 4)) % 16 ≤ 4
    rw [show (2 : Nat) ^ 4 = 16 from rfl]
    omega

theorem step3 : ∀ m x, (S 4 (2 * m) x / 16 + S 4 (2 * m) x) &&& mask 8 15 m = S 8 m x
  | 0, x => by simp [mask, S]
  | m + 1, x => by
    have ih := step3 m (x / 256)
    have e : S 4 (2 * (m + 1)) x = pc 4 (x % 16) + 16 * (pc 4 (x / 16 % 16) + 16 * S 4 (2 * m) (x / 256)) := by
      rw [show 2 * (m + 1) = 2 * m + 1 + 1 by omega]
      simp only [S]
      rw [show (2 : Nat) ^ 4 = 16 from rfl, show x / 16 / 16 = x / 256 by omega]
    rw [e]
    show _ &&& (15 + 2 ^ 8 * mask 8 15 m) = pc 8 (x % 2 ^ 8) + 2 ^ 8 * S 8 m (x / 2 ^ 8)
    rw [and_split 8 _ 15 _ (by decide)]
    rw [show (2 : Nat) ^ 8 = 256 from rfl, ← ih, and15]
    have key : ∀ d, d < 256 → pc 8 d = pc 4 (d % 16) + pc 4 (d / 16) := by decide +kernel
    have h0 := key (x % 256) (Nat.mod_lt _ (by decide))
    rw [show x % 256 % 16 = x % 16 by omega, show x % 256 / 16 = x / 16 % 16 by omega] at h0
    have h1 := pc4_le (x % 16) (Nat.mod_lt _ (by decide))
    have h2 := pc4_le (x / 16 % 16) (Nat.mod_lt _ (by decide))
    have h3 := S4_mod (2 * m) (x / 256)
    rw [h0]
    generalize S 4 (2 * m) (x / 256) = y at *
    generalize pc 4 (x % 16) = e0 at *
    generalize pc 4 (x / 16 % 16) = e1 at *
    rw [show ((e0 + 16 * (e1 + 16 * y)) / 16 + (e0 + 16 * (e1 + 16 * y))) / 256 = y / 16 + y by omega]
    omega

theorem pc_add : ∀ a b n, pc (a + b) n = pc a n + pc b (n / 2 ^ a)
  | 0, b, n => by simp [pc]
  | a + 1, b, n => by
    rw [show a + 1 + b = a + b + 1 by omega]
    simp only [pc]
    rw [pc_add a b (n / 2), Nat.div_div_eq_div_mul, show 2 * 2 ^ a = 2 ^ (a + 1) by rw [Nat.pow_succ, Nat.mul_comm]]
    omega
theorem pc_mod : ∀ a n, pc a (n % 2 ^ a) = pc a n
  | 0, n => rfl
  | a + 1, n => by
    simp only [pc]
    have h1 : n % 2 ^ (a + 1) % 2 = n % 2 := Nat.mod_mod_of_dvd n ⟨2 ^ a, by rw [Nat.pow_succ, Nat.mul_comm]⟩
    have h2 : n % 2 ^ (a + 1) / 2 = n / 2 % 2 ^ a := by rw [Nat.pow_succ, Nat.mul_comm, Nat.mod_mul_right_div_self]
    rw [h1, h2, pc_mod a (n / 2)]
theorem pc_le : ∀ a n, pc a n ≤ a
  | 0, _ => Nat.le_refl _
  | a + 1, n => by
    have := pc_le a (n / 2)
    simp only [pc]; omega

/-- All steps of the count. -/
theorem count_bits (x : Nat) : ∃ A, A = S 8 8 x ∧ (A + A / 256 + (A + A / 256) / 65536 + (A + A / 256 + (A + A / 256) / 65536) / 4294967296) % 128 = pc 64 x ∧ A < 1157442765409226769 := by
  refine ⟨_, rfl, ?_⟩
  have e : S 8 8 x = pc 8 (x % 256) + 256 * (pc 8 (x / 256 % 256) + 256 * (pc 8 (x / 65536 % 256) + 256 * (pc 8 (x / 16777216 % 256) + 256 * (pc 8 (x / 4294967296 % 256) + 256 * (pc 8 (x / 1099511627776 % 256) + 256 * (pc 8 (x / 281474976710656 % 256) + 256 * pc 8 (x / 72057594037927936 % 256))))))) := by
    simp only [S, Nat.mul_zero, Nat.add_zero, Nat.div_div_eq_div_mul]
  have t : pc 64 x = pc 8 (x % 256) + (pc 8 (x / 256 % 256) + (pc 8 (x / 65536 % 256) + (pc 8 (x / 16777216 % 256) + (pc 8 (x / 4294967296 % 256) + (pc 8 (x / 1099511627776 % 256) + (pc 8 (x / 281474976710656 % 256) + pc 8 (x / 72057594037927936 % 256))))))) := by
    have m8 : ∀ n, pc 8 (n % 256) = pc 8 n := fun n => pc_mod 8 n
    simp only [m8]
    rw [show (64 : Nat) = 8 + (8 + (8 + (8 + (8 + (8 + (8 + 8)))))) from rfl]
    simp only [pc_add 8, Nat.div_div_eq_div_mul]
  have b0 := pc_le 8 (x % 256)
  have b1 := pc_le 8 (x / 256 % 256)
  have b2 := pc_le 8 (x / 65536 % 256)
  have b3 := pc_le 8 (x / 16777216 % 256)
  have b4 := pc_le 8 (x / 4294967296 % 256)
  have b5 := pc_le 8 (x / 1099511627776 % 256)
  have b6 := pc_le 8 (x / 281474976710656 % 256)
  have b7 := pc_le 8 (x / 72057594037927936 % 256)
  rw [e, t]
  generalize pc 8 (x % 256) = c0 at *
  generalize pc 8 (x / 256 % 256) = c1 at *
  generalize pc 8 (x / 65536 % 256) = c2 at *
  generalize pc 8 (x / 16777216 % 256) = c3 at *
  generalize pc 8 (x / 4294967296 % 256) = c4 at *
  generalize pc 8 (x / 1099511627776 % 256) = c5 at *
  generalize pc 8 (x / 281474976710656 % 256) = c6 at *
  generalize pc 8 (x / 72057594037927936 % 256) = c7 at *
  obtain ⟨A6, hA6⟩ : ∃ A, A = c6 + 256 * c7 := ⟨_, rfl⟩
  obtain ⟨A5, hA5⟩ : ∃ A, A = c5 + 256 * A6 := ⟨_, rfl⟩
  obtain ⟨A4, hA4⟩ : ∃ A, A = c4 + 256 * A5 := ⟨_, rfl⟩
  obtain ⟨A3, hA3⟩ : ∃ A, A = c3 + 256 * A4 := ⟨_, rfl⟩
  obtain ⟨A2, hA2⟩ : ∃ A, A = c2 + 256 * A3 := ⟨_, rfl⟩
  obtain ⟨A1, hA1⟩ : ∃ A, A = c1 + 256 * A2 := ⟨_, rfl⟩
  rw [← hA6, ← hA5, ← hA4, ← hA3, ← hA2, ← hA1]
  refine ⟨?_, ?_⟩
  · have q1 : (c0 + 256 * A1) / 256 = A1 := by clear hA1 hA2 hA3 hA4 hA5 hA6; omega
    rw [q1]
    have q2 : (c0 + 256 * A1 + A1) / 65536 = A2 + A3 := by
      have : c0 + 256 * A1 + A1 = (c0 + c1 + 256 * (c1 + c2)) + 65536 * (A2 + A3) := by clear hA4 hA5 hA6 b0 b1 b2 b3 b4 b5 b6 b7 q1; omega
      rw [this]; clear this hA1 hA2 hA3 hA4 hA5 hA6; omega
    rw [q2]
    have q3 : (c0 + 256 * A1 + A1 + (A2 + A3)) / 4294967296 = A4 + A5 + A6 + c7 := by
      have e1 : c0 + 256 * A1 + A1 + (A2 + A3) = (c0 + c1 + c2 + c3 + 256 * (c1 + c2 + c3 + c4)) + 65536 * (A2 + A3 + A4 + A5) := by clear hA6 b0 b1 b2 b3 b4 b5 b6 b7 q1 q2; omega
      have e2 : A2 + A3 + A4 + A5 = (c2 + c3 + c4 + c5 + 256 * (c3 + c4 + c5 + c6)) + 65536 * (A4 + A5 + A6 + c7) := by clear hA1 b0 b1 b2 b3 b4 b5 b6 b7 q1 q2 e1; omega
      rw [e1, e2]; clear e1 e2 q1 q2 hA1 hA2 hA3 hA4 hA5 hA6; omega
    rw [q3]
    have e1 : c0 + 256 * A1 + A1 + (A2 + A3) + (A4 + A5 + A6 + c7) = (c0 + (c1 + (c2 + (c3 + (c4 + (c5 + (c6 + c7))))))) + 256 * (A1 + A2 + A3 + A4 + A5 + A6 + c7) := by clear q1 q2 q3 b0 b1 b2 b3 b4 b5 b6 b7; omega
    rw [e1]
    clear e1 q1 q2 q3 hA1 hA2 hA3 hA4 hA5 hA6; omega
  · omega

end Go.Fw
