/-
  bits.OnesCount64, bits.TrailingZeros64; Len and All of package bitset, said of the abstract machine.
-/
import Derived.Test.YtbkppkekgdnilaaDoorLawSetB
import Derived.Test.YtbkppkekgdnilaaDoorLawSetNone0
import Derived.Test.YtbkppkekgdnilaaDoorFwX
import Derived.Test.YtbkppkekgdnilaaDoorFwY
namespace Go.Fw

/-! ## How many bits -/

theorem mask1 : mask 2 1 32 = 6148914691236517205 := by decide
theorem mask2 : mask 4 3 16 = 3689348814741910323 := by decide
theorem mask3 : mask 8 15 8 = 1085102592571150095 := by decide

theorem st_addU {β : Type} {k : Value → M β} {a b : Nat} (hb : a + b < 2 ^ 64) : bnd (opBin .add (u64 a) (u64 b)) k = k (u64 (a + b)) := by
  rw [st_add, wrapU (by omega)]; rfl

theorem S_lt : ∀ m k x, S k m x < 2 ^ (k * m) ∨ k = 0
  | 0, k, x => by simp [S]
  | m + 1, k, x => by
    rcases S_lt m k (x / 2 ^ k) with h | h
    · by_cases hk : k = 0
      · exact .inr hk
      left
      have h1 := pc_le k (x % 2 ^ k)
      have h2 : k < 2 ^ k := Nat.lt_two_pow_self
      show pc k (x % 2 ^ k) + 2 ^ k * S k m (x / 2 ^ k) < _
      rw [Nat.mul_succ, Nat.pow_add, Nat.mul_comm (2 ^ (k * m))]
      have h3 : 2 ^ k * (S k m (x / 2 ^ k) + 1) ≤ 2 ^ k * 2 ^ (k * m) := Nat.mul_le_mul_left _ h
      rw [Nat.mul_add, Nat.mul_one] at h3
      omega
    · exact .inr h

theorem and127 (n : Nat) : n &&& 127 = n % 128 := by
  have := Nat.and_two_pow_sub_one_eq_mod n 7
  simpa using this

theorem st_andI {β : Type} {k : Value → M β} {a b : Nat} (ha : a < 2 ^ 63) (hb : b < 2 ^ 63) : bnd (opBin .and (i64 a) (i64 b)) k = k (i64 ((a &&& b : Nat) : Int)) := by
  have hor : a &&& b < 2 ^ 63 := Nat.lt_of_le_of_lt Nat.and_le_left ha
  have e : bin .and (i64 a) (i64 b) = some (i64 ((a &&& b : Nat) : Int)) := by
    show (if IntKind.i64 = IntKind.i64 then some (Value.int .i64 (IntKind.i64.wrap ((BitVec.ofInt 64 (a : Int) &&& BitVec.ofInt 64 (b : Int)).toNat : Int))) else none) = _
    rw [if_pos rfl, ofInt_nat, ofInt_nat, BitVec.toNat_and, BitVec.toNat_ofNat, BitVec.toNat_ofNat, Nat.mod_eq_of_lt (by omega), Nat.mod_eq_of_lt (by omega), wrap64 (by omega)]
  unfold opBin; rw [e]; rfl

theorem S4_le : ∀ m x, S 4 m x * 15 + 4 ≤ 4 * 16 ^ m
  | 0, x => by simp [S]
  | m + 1, x => by
    have ih := S4_le m (x / 16)
    have h1 := pc_le 4 (x % 2 ^ 4)
    show (pc 4 (x % 2 ^ 4) + 2 ^ 4 * S 4 m (x / 16)) * 15 + 4 ≤ 4 * 16 ^ (m + 1)
    generalize pc 4 (x % 2 ^ 4) = d at *
    rw [Nat.pow_succ 16]
    omega

theorem ones_spec {F n : Nat} {h : H} (x : Nat) (hx : x < 2 ^ 64) : (bits_OnesCount64 F (u64 x)).run n h = some (i64 ((bitsOf x).length : Int), n, h) := by
  have s1 := step1 32 x
  have s2 := step2 16 x
  have s3 := step3 8 x
  rw [mask1] at s1; rw [mask2] at s2; rw [mask3] at s3
  obtain ⟨A, hA, hc, hb⟩ := count_bits x
  have l1 : S 2 32 x < 2 ^ 64 := (S_lt 32 2 x).resolve_right (by decide)
  have l2 := S4_le 16 x
  rw [show (4 : Nat) * 16 ^ 16 = 73786976294838206464 from rfl] at l2
  have l3 : A + A / 256 < 2 ^ 61 := by omega
  have l4 : A + A / 256 + (A + A / 256) / 65536 < 2 ^ 62 := by omega
  have l5 : A + A / 256 + (A + A / 256) / 65536 + (A + A / 256 + (A + A / 256) / 65536) / 4294967296 < 2 ^ 63 := by omega
  have t1 : ∀ a : Nat, ∀ k : Value → M Value, bnd (opBin .shr (u64 a) (.int .u64 1)) k = k (u64 (a / 2)) := fun a k => st_shrU (s := 1) (by omega)
  have t2 : ∀ a : Nat, ∀ k : Value → M Value, bnd (opBin .shr (u64 a) (.int .u64 2)) k = k (u64 (a / 4)) := fun a k => st_shrU (s := 2) (by omega)
  have t4 : ∀ a : Nat, ∀ k : Value → M Value, bnd (opBin .shr (u64 a) (.int .u64 4)) k = k (u64 (a / 16)) := fun a k => st_shrU (s := 4) (by omega)
  have t8 : ∀ a : Nat, ∀ k : Value → M Value, bnd (opBin .shr (u64 a) (.int .u64 8)) k = k (u64 (a / 256)) := fun a k => st_shrU (s := 8) (by omega)
  have t16 : ∀ a : Nat, ∀ k : Value → M Value, bnd (opBin .shr (u64 a) (.int .u64 16)) k = k (u64 (a / 65536)) := fun a k => st_shrU (s := 16) (by omega)
  have t32 : ∀ a : Nat, ∀ k : Value → M Value, bnd (opBin .shr (u64 a) (.int .u64 32)) k = k (u64 (a / 4294967296)) := fun a k => st_shrU (s := 32) (by omega)
  have q1 : ∀ K : Value → M Value, (bnd (opBin .and (u64 (x / 2)) (.int .u64 6148914691236517205)) fun v5 => bnd (opBin .and (u64 x) (.int .u64 6148914691236517205)) fun v7 => bnd (opBin .add v5 v7) K) = K (u64 (S 2 32 x)) := fun K => by
    rw [show (Value.int .u64 6148914691236517205) = u64 6148914691236517205 from rfl, st_andU (by omega) (by decide), st_andU hx (by decide), st_addU (by rw [s1]; exact l1), s1]
  have q2 : ∀ K : Value → M Value, (bnd (opBin .and (u64 (S 2 32 x / 4)) (.int .u64 3689348814741910323)) fun v5 => bnd (opBin .and (u64 (S 2 32 x)) (.int .u64 3689348814741910323)) fun v7 => bnd (opBin .add v5 v7) K) = K (u64 (S 4 16 x)) := fun K => by
    rw [show (Value.int .u64 3689348814741910323) = u64 3689348814741910323 from rfl, st_andU (by omega) (by decide), st_andU l1 (by decide), st_addU (by rw [s2]; omega), s2]
  have q3 : ∀ K : Value → M Value, (bnd (opBin .add (u64 (S 4 16 x / 16)) (u64 (S 4 16 x))) fun v18 => bnd (opBin .and v18 (.int .u64 1085102592571150095)) K) = K (u64 A) := fun K => by
    rw [show (Value.int .u64 1085102592571150095) = u64 1085102592571150095 from rfl, st_addU (by omega), st_andU (by omega) (by decide), s3, hA]
  unfold bits_OnesCount64 bits_OnesCount64_r0 bits_OnesCount64_r1 bits_OnesCount64_r2 bits_OnesCount64_r3 bits_OnesCount64_r4 bits_OnesCount64_r5 bits_OnesCount64_r6 bits_OnesCount64_r7
  dsimp only
  rw [t1, q1, t2, q2, t4, q3, t8, st_addU (by omega), t16, st_addU (by omega), t32, st_addU (by omega), st_conv, wrap64 (by omega), show (Value.int .i64 127) = i64 ((127 : Nat) : Int) from rfl, st_andI l5 (by decide), and127, hc, pc64]
  rfl

/-! ## The lowest bit -/

theorem deB_at : ∀ t, t < 64 → bytesOf[2 ^ t * 285870213051353865 % 18446744073709551616 / 288230376151711744]? = some t := by decide +kernel

theorem tz_neg {x : Nat} (hx : x < 18446744073709551616) (h0 : x ≠ 0) : ((0 : Int) - (x : Int)) % 18446744073709551616 = ((18446744073709551615 - (x - 1) : Nat) : Int) := by omega
theorem tz_mul {a : Nat} : (a : Int) * 285870213051353865 % 18446744073709551616 = ((a * 285870213051353865 % 18446744073709551616 : Nat) : Int) := by omega
theorem tz_and {x t : Nat} (l : Low x t) : x &&& (18446744073709551615 - (x - 1)) = 2 ^ t := l.neg

theorem tz_spec {F n x t : Nat} {h : H} (hx : x < 2 ^ 64) (h0 : x ≠ 0) (l : Low x t) (hb : h.get 0 = some ⟨deB, .ro⟩) : (bits_TrailingZeros64 F (u64 x)).run n h = some (i64 (t : Int), n, h) := by
  have e0 : ∀ K : Value → M Value, bnd (opNeg (u64 x)) K = K (u64 (18446744073709551615 - (x - 1))) := fun K => by
    rw [st_neg, wrapU_mod, tz_neg hx h0]
  have e1 : ∀ K : Value → M Value, bnd (opBin .and (u64 x) (u64 (18446744073709551615 - (x - 1)))) K = K (u64 (2 ^ t)) := fun K => by
    rw [st_andU hx (by omega), tz_and l]
  have e2 : ∀ K : Value → M Value, bnd (opBin .mul (u64 (2 ^ t)) (.int .u64 285870213051353865)) K = K (u64 (2 ^ t * 285870213051353865 % 18446744073709551616)) := fun K => by
    rw [st_mul, wrapU_mod, tz_mul]
  have e3 : ∀ a : Nat, ∀ k : Value → M Value, bnd (opBin .shr (u64 a) (.int .u64 58)) k = k (u64 (a / 288230376151711744)) := fun a k => st_shrU (s := 58) (by omega)
  have e4 : ∀ a, bytesOf[a]? = some t → a < 64 → ∀ K : Value → M Value, (bnd (opIndexAddrA 64 1 (.pointer (some ⟨0, 0, none⟩)) (u64 a)) fun v11 => bnd (opLoad v11) K).run n h = (K (.int .u8 (t : Int))).run n h := fun a ha hl K => by
    rw [st_ixA, if_pos (by omega), Int.toNat_natCast, Nat.mul_one, Nat.zero_add, ld1 hb (by decide) (v := .int .u8 (t : Int)) (by unfold deB; rw [List.getElem?_map, ha]; rfl)]
  have hd := deB_at t l.lt
  generalize ha : 2 ^ t * 285870213051353865 % 18446744073709551616 / 288230376151711744 = a at hd
  have ht := l.lt
  have e5 : bnd (opConv .i64 (.int .u8 (t : Int))) ret = ret (i64 (t : Int)) := by rw [st_conv, wrap64 (by omega)]
  unfold bits_TrailingZeros64 bits_TrailingZeros64_r0 bits_TrailingZeros64_r1 bits_TrailingZeros64_r2 bits_TrailingZeros64_r3
  dsimp only
  rw [st_eql]
  simp only [onB_ite, run_ite]
  rw [if_neg (by rw [beq_iff_eq]; omega), e0, e1, e2, e3, ha, e4 a hd (by rw [← ha]; omega)]
  show (bnd (opConv .i64 (.int .u8 (t : Int))) ret).run n h = _
  rw [e5]
  rfl

/-! ## Len -/

/-- The numbers of a set. -/
def setL (s : Nat → Bool) : List Nat := upTo s 80

theorem upTo_more {s : Nat → Bool} {W : Nat} (h : ∀ m, 64 * W ≤ m → s m = false) : ∀ j, upTo s (W + j) = upTo s W
  | 0 => rfl
  | j + 1 => by
    rw [← Nat.add_assoc, upTo_succ (x := 0) (fun i _ => by rw [h _ (by omega), Nat.zero_testBit]), upTo_more h j]
    have : bitsOf 0 = [] := by decide
    rw [this]; simp

theorem IsS.upTo {h : H} {p b W : Nat} {w : Nat → Nat} {s : Nat → Bool} (x : IsS h p b W w) (hs : ∀ n, s n = (w (n / 64)).testBit (n % 64)) : upTo s W = setL s := by
  have := x.few
  unfold setL
  rw [show 80 = W + (80 - W) by omega, upTo_more (fun m hm => by rw [hs, x.zero (m / 64) (by omega), Nat.zero_testBit])]
theorem IsS.next {s : Nat → Bool} {w : Nat → Nat} (hs : ∀ n, s n = (w (n / 64)).testBit (n % 64)) (k : Nat) : Fw.upTo s (k + 1) = Fw.upTo s k ++ (bitsOf (w k)).map (64 * k + ·) := upTo_succ fun i hi => by
  rw [hs, show (64 * k + i) / 64 = k by omega, show (64 * k + i) % 64 = i by omega]

theorem BS.small {h : H} {p : Nat} {O : Nat → Prop} {s : Nat → Bool} (x : BS h p O s) {m : Nat} (hm : s m = true) : m < 5000 := by
  obtain ⟨b, W, w, x, hw, _⟩ := x
  rw [hw] at hm
  rcases Nat.lt_or_ge (m / 64) 79 with h1 | h1
  · rcases Nat.lt_or_ge (m / 64) 78 with h2 | h2
    · omega
    · rw [show m / 64 = 78 by omega] at hm
      have := x.top
      rcases Nat.lt_or_ge (m % 64) 8 with h3 | h3
      · omega
      · rw [Nat.testBit_lt_two_pow (Nat.lt_of_lt_of_le this (Nat.pow_le_pow_right (n := 2) (i := 8) (by decide) h3))] at hm
        cases hm
  · rw [x.zero _ (by have := x.few; omega), Nat.zero_testBit] at hm; cases hm

theorem upTo_len {s : Nat → Bool} {k : Nat} : (upTo s k).length ≤ 64 * k := by
  unfold upTo
  have := List.length_filter_le s (List.range (64 * k))
  rwa [List.length_range] at this

theorem IsS.word {β : Type} {n p b W i : Nat} {w : Nat → Nat} {h : H} (x : IsS h p b W w) (hi : i < W) {K : Value → M β} : (bnd (opIndexAddr 1 (if W = 0 then nsl else sl b 0 W (U + 1)) (i64 i)) fun v => bnd (opLoad v) K).run n h = (K (u64 (w i))).run n h := by
  rw [if_neg (by omega), ix1 hi, Nat.zero_add, ldT (x.up (by omega)) (by decide) hi]

theorem len_l1 {F n p b W : Nat} {w : Nat → Nat} {s : Nat → Bool} {h : H} (x : IsS h p b W w) (hs : ∀ n, s n = (w (n / 64)).testBit (n % 64)) {E : Value → M Value} : ∀ j i k, i + j = W → j < k →
    (bitset_Set_Len_l1 F E k (i64 (upTo s i).length) (if W = 0 then nsl else sl b 0 W (U + 1)) (i64 W) (i64 i)).run n h = (E (i64 (setL s).length)).run n h := by
  intro j
  induction j with
  | zero =>
    intro i k hij hk
    obtain ⟨k, rfl⟩ : ∃ j, k = j + 1 := ⟨k - 1, by omega⟩
    obtain rfl : i = W := by omega
    rw [bitset_Set_Len_l1_s]
    unfold bitset_Set_Len_b1 bitset_Set_Len_r3
    simp only [st_lss, onB_ite, run_ite, decide_eq_true_eq]
    rw [if_neg (by omega), x.upTo hs]
  | succ j ih =>
    intro i k hij hk
    obtain ⟨k, rfl⟩ : ∃ j, k = j + 1 := ⟨k - 1, by omega⟩
    rw [bitset_Set_Len_l1_s]
    unfold bitset_Set_Len_b1 bitset_Set_Len_r3
    simp only [st_lss, onB_ite, run_ite, decide_eq_true_eq]
    rw [if_pos (by omega)]
    unfold bitset_Set_Len_r4
    rw [x.word (by omega)]
    unfold bitset_Set_Len_r5
    rw [run_bnd (ones_spec _ (x.lt i))]
    have h1 := upTo_len (s := s) (k := i)
    have h2 := upTo_len (s := s) (k := i + 1)
    have h3 := x.few
    have h4 : (upTo s (i + 1)).length = (upTo s i).length + (bitsOf (w i)).length := by rw [IsS.next hs, List.length_append, List.length_map]
    rw [sx_add (by omega)]
    unfold bitset_Set_Len_r6
    dsimp only
    rw [sx_add (by omega)]
    have := ih (i + 1) k (by omega) (by omega)
    rw [h4] at this
    exact this

theorem len_spec {F n p : Nat} {O : Nat → Prop} {s : Nat → Bool} {h : H} (hF : 100 < F) (x : BS h p O s) : (bitset_Set_Len F (pt p 0)).run n h = some (i64 (setL s).length, n, h) := by
  obtain ⟨b, W, w, x, hs, _⟩ := x
  unfold bitset_Set_Len bitset_Set_Len_r0 bitset_Set_Len_r1 bitset_Set_Len_r2
  dsimp only
  rw [run_bnd (words_spec x), x.gl.len, tab_len]
  have := len_l1 (F := F) (n := n) x hs (E := fun x3 => bitset_Set_Len_k0 F x3) W 0 F (by omega) (by have := x.few; omega)
  exact this.trans rfl

/-! ## All -/

/-- Numbers as Go's ints. -/
abbrev ints (l : List Nat) : List Int := l.map fun m : Nat => (m : Int)

theorem all_l3 {F i lo : Nat} {vw vl : Value} (hi : i < 80) {L0 : List Int} {E : Value → Value → Value → Value → M Value} : ∀ j k x n (h : H) v (L : List Int), (bitsOf x).length ≤ j → j < k → x < 2 ^ 64 → h.get 0 = some ⟨deB, .ro⟩ → 0 < lo → NewI h lo v L → Fr n h → lo ≤ n → L.length + j ≤ 6000 → L0 = L ++ ints ((bitsOf x).map (64 * i + ·)) →
    ∃ n' h' v', (bitset_Set_All_l3 F E k v (i64 i) (u64 x) vw vl (i64 i)).run n h = (E v' vw vl (i64 i)).run n' h' ∧ NewI h' lo v' L0 ∧ Ev (fun c => lo ≤ c) n h n' h' := by
  intro j
  induction j with
  | zero =>
    intro k x n h v L hj hk hx hb hlo g f hn hl e
    obtain ⟨k, rfl⟩ : ∃ j, k = j + 1 := ⟨k - 1, by omega⟩
    have h0 : x = 0 := Classical.byContradiction fun h0 => by
      obtain ⟨t, l⟩ := low x hx h0
      rw [l.bits] at hj; simp at hj
    subst h0
    rw [bitset_Set_All_l3_s]
    unfold bitset_Set_All_b3 bitset_Set_All_r5
    simp only [st_gtr, onB_ite, run_ite, decide_eq_true_eq]
    rw [if_neg (by omega)]
    have : bitsOf 0 = [] := by decide
    rw [this] at e
    rw [e]
    simp only [ints, List.map_nil, List.append_nil]
    exact ⟨n, h, v, rfl, g, Ev.refl f⟩
  | succ j ih =>
    intro k x n h v L hj hk hx hb hlo g f hn hl e
    obtain ⟨k, rfl⟩ : ∃ j, k = j + 1 := ⟨k - 1, by omega⟩
    rw [bitset_Set_All_l3_s]
    unfold bitset_Set_All_b3 bitset_Set_All_r5
    simp only [st_gtr, onB_ite, run_ite, decide_eq_true_eq]
    by_cases h0 : x = 0
    · subst h0
      rw [if_neg (by omega)]
      have : bitsOf 0 = [] := by decide
      rw [this] at e
      rw [e]
      simp only [ints, List.map_nil, List.append_nil]
      exact ⟨n, h, v, rfl, g, Ev.refl f⟩
    · rw [if_pos (by omega)]
      obtain ⟨t, l⟩ := low x hx h0
      have ht := l.lt
      unfold bitset_Set_All_r7
      rw [sx_mul (by omega), run_bnd (tz_spec hx h0 l hb), sx_add (by omega), show (i : Int) * 64 + (t : Int) = ((64 * i + t : Nat) : Int) by omega, show (Value.int .i64 0) = i64 0 from rfl]
      obtain ⟨h1, v1, e1, g1, ev1⟩ := g.push (β := Value) (y := 0) (z := ((64 * i + t : Nat) : Int)) f hn (by omega)
      rw [e1]
      unfold bitset_Set_All_r6
      dsimp only
      rw [st_sub, show (x : Int) - 1 = ((x - 1 : Nat) : Int) by omega, wrapU (by omega), st_andU hx (by omega)]
      have hxx : x &&& (x - 1) < 2 ^ 64 := Nat.lt_of_le_of_lt Nat.and_le_left hx
      rw [l.bits] at hj e
      obtain ⟨n', h', v', q1, q2, q3⟩ := ih k (x &&& (x - 1)) (n + 2) h1 v1 (L ++ [((64 * i + t : Nat) : Int)]) (by simpa using hj) (by omega) hxx (by rw [ev1.keep 0 (by omega) (by omega)]; exact hb) hlo g1 ev1.f (by omega) (by simp; omega) (by rw [e]; simp)
      exact ⟨n', h', v', q1, q2, ev1.trans q3 fun c _ hc => hc⟩

theorem bitsOf_len (x : Nat) : (bitsOf x).length ≤ 64 := by
  unfold bitsOf
  have := List.length_filter_le x.testBit (List.range 64)
  rwa [List.length_range] at this

theorem all_l1 {F p b W lo : Nat} {w : Nat → Nat} {s : Nat → Bool} (hF : 100 < F) (hlo : 0 < lo) (hs : ∀ n, s n = (w (n / 64)).testBit (n % 64)) {E : Value → M Value} : ∀ j i k n (h : H) v, i + j = W → j < k → IsS h p b W w → p < lo → (W ≠ 0 → b < lo) → h.get 0 = some ⟨deB, .ro⟩ → NewI h lo v (ints (upTo s i)) → Fr n h → lo ≤ n →
    ∃ n' h' v', (bitset_Set_All_l1 F E k v (if W = 0 then nsl else sl b 0 W (U + 1)) (i64 W) (i64 i)).run n h = (E v').run n' h' ∧ NewI h' lo v' (ints (setL s)) ∧ Ev (fun c => lo ≤ c) n h n' h' := by
  intro j
  induction j with
  | zero =>
    intro i k n h v hij hk x hp hbl hb g f hn
    obtain ⟨k, rfl⟩ : ∃ j, k = j + 1 := ⟨k - 1, by omega⟩
    obtain rfl : i = W := by omega
    rw [bitset_Set_All_l1_s]
    unfold bitset_Set_All_b1 bitset_Set_All_r3
    simp only [st_lss, onB_ite, run_ite, decide_eq_true_eq]
    rw [if_neg (by omega)]
    rw [x.upTo hs] at g
    exact ⟨n, h, v, rfl, g, Ev.refl f⟩
  | succ j ih =>
    intro i k n h v hij hk x hp hbl hb g f hn
    obtain ⟨k, rfl⟩ : ∃ j, k = j + 1 := ⟨k - 1, by omega⟩
    rw [bitset_Set_All_l1_s]
    unfold bitset_Set_All_b1 bitset_Set_All_r3
    simp only [st_lss, onB_ite, run_ite, decide_eq_true_eq]
    rw [if_pos (by omega)]
    unfold bitset_Set_All_r4
    rw [x.word (by omega)]
    have h1 := upTo_len (s := s) (k := i)
    have h3 := x.few
    obtain ⟨n1, h1, v1, e1, g1, ev1⟩ := all_l3 (F := F) (i := i) (lo := lo) (vw := if W = 0 then nsl else sl b 0 W (U + 1)) (vl := i64 W) (by omega) (E := fun x3 x7 x8 x9 => bitset_Set_All_k2 F (bitset_Set_All_l1 F E k) x3 x7 x8 x9) 64 F (w i) n h v (ints (upTo s i)) (bitsOf_len _) (by omega) (x.lt i) hb hlo g f hn (by simp [ints]; omega) rfl
    rw [e1]
    unfold bitset_Set_All_k2 bitset_Set_All_r8
    dsimp only
    rw [sx_add (by omega)]
    have hk1 : ∀ c, c < lo → h1.get c = h.get c := fun c hc => ev1.keep c (by omega) (by omega)
    obtain ⟨n', h', v', q1, q2, q3⟩ := ih (i + 1) k n1 h1 v1 (by omega) (by omega) ⟨by rw [hk1 p hp]; exact x.ptr, x.ne, fun h0 => by rw [hk1 b (hbl h0)]; exact x.up h0, x.lt, x.zero, x.few, x.top⟩ hp hbl (by rw [hk1 0 hlo]; exact hb) (by
      rw [IsS.next hs, ints, List.map_append]; exact g1) ev1.f (by have := ev1.le; omega)
    exact ⟨n', h', v', q1, q2, ev1.trans q3 fun c _ hc => hc⟩

theorem all_spec {F n p : Nat} {O : Nat → Prop} {s : Nat → Bool} {h : H} (hF : 100 < F) (hn : 0 < n) (hb : h.get 0 = some ⟨deB, .ro⟩) (x : BS h p O s) (f : Fr n h) : ∃ n' h' v, (bitset_Set_All F (pt p 0)).run n h = some (v, n', h') ∧ NewI h' n v (ints (setL s)) ∧ Ev No n h n' h' := by
  obtain ⟨b, W, w, x, hs, _⟩ := x
  unfold bitset_Set_All bitset_Set_All_r0 bitset_Set_All_r1 bitset_Set_All_r2
  dsimp only
  rw [run_bnd (words_spec x), x.gl.len, tab_len]
  obtain ⟨n', h', v', q1, q2, q3⟩ := all_l1 (F := F) (lo := n) hF hn hs (E := fun x3 => bitset_Set_All_k0 F x3) W 0 F n h nsl (by omega) (by have := x.few; omega) x (f.lt x.ptr) (fun h0 => f.lt (x.up h0)) hb NewI.nil f (Nat.le_refl _)
  exact ⟨n', h', v', q1.trans rfl, q2, q3.f, q3.le, fun c hc _ => q3.keep c hc (by omega)⟩

end Go.Fw
