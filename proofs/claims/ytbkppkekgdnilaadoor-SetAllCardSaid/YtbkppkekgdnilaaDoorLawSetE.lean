/-
  Sets that lie between two marks; the contracts of package bitset once more, said of these.
-/
import Derived.Test.YtbkppkekgdnilaaDoorLawBitD
import Derived.Test.YtbkppkekgdnilaaDoorLawSetC
set_option maxRecDepth 20000
namespace Go.Fw

/-- A set whose blocks lie at lo or later, and ahead of hi. -/
def SetAt (h : H) (p lo hi : Nat) (s : Nat → Bool) : Prop := ∃ O, BS h p O s ∧ ∀ c, O c → lo ≤ c ∧ c < hi

section
variable {F n p lo hi : Nat} {s : Nat → Bool} {h : H}

theorem SetAt.keep {n' : Nat} {h' : H} {P : Nat → Prop} (x : SetAt h p lo hi s) (e : Ev P n h n' h') (hn : hi ≤ n) (hP : ∀ c, P c → lo ≤ c → hi ≤ c) : SetAt h' p lo hi s := by
  obtain ⟨O, x, q⟩ := x
  exact ⟨O, x.keep fun c hc => e.keep c (by have := q c hc; omega) fun hp => by have := q c hc; have := hP c hp this.1; omega, q⟩
theorem SetAt.kept {n' : Nat} {h' : H} (x : SetAt h p lo hi s) (e : Ev No n h n' h') (hn : hi ≤ n) : SetAt h' p lo hi s := x.keep e hn fun _ h => h.elim
theorem SetAt.mono {lo' hi' : Nat} (x : SetAt h p lo hi s) (h1 : lo' ≤ lo) (h2 : hi ≤ hi') : SetAt h p lo' hi' s := by
  obtain ⟨O, x, q⟩ := x
  exact ⟨O, x, fun c hc => by have := q c hc; omega⟩
theorem SetAt.congr {s' : Nat → Bool} (x : SetAt h p lo hi s) (e : ∀ m, s m = s' m) : SetAt h p lo hi s' := by
  have : s = s' := funext e
  subst this; exact x
theorem SetAt.small (x : SetAt h p lo hi s) {m : Nat} (hm : s m = true) : m < 5000 := by
  obtain ⟨O, x, q⟩ := x; exact x.small hm

theorem at_new {k : Value → M Value} (f : Fr n h) : ∃ h', (bnd (opBuild [.slice none 0 0] []) fun v6 => bnd (opBoxN v6) k).run n h = (k (pt n 0)).run (n + 1) h' ∧ SetAt h' n n (n + 1) (fun _ => false) ∧ Ev No n h (n + 1) h' := by
  obtain ⟨e, x, f1⟩ := new_set f (k := k)
  exact ⟨_, e, ⟨_, x, fun c hc => by omega⟩, f1, by omega, fun c hc _ => H.get_set_ne _ _ (by omega)⟩

theorem at_of {v : Value} {zs : List Int} (hF : 100 < F) (hn : 8 ≤ n) (hl : zs.length < F) (hl2 : zs.length < 9223372036854775000) (hv : IntsA h v zs) (f : Fr n h) :
    ∃ n' h', (bitset_Of F v).run n h = some (pt n 0, n', h') ∧ SetAt h' n n n' (setOf zs) ∧ Ev No n h n' h' := by
  obtain ⟨n', h', O, e, x, f', l, k, o⟩ := of_spec hF hn hl hl2 hv f
  exact ⟨n', h', e, ⟨O, x, fun c hc => ⟨o c hc, x.lt f' c hc⟩⟩, f', by omega, fun c hc _ => k c hc⟩

theorem at_add (hF : 100 < F) (x : SetAt h p lo hi s) (f : Fr n h) (hh : hi ≤ n) (hlo : lo ≤ n) (a : Int) :
    ∃ n' h', (bitset_Set_Add F (pt p 0) (i64 a)).run n h = some (bo (canAdd s a), n', h') ∧ SetAt h' p lo n' (if canAdd s a = true then putS s a.toNat else s) ∧ Ev (fun c => lo ≤ c ∧ c < hi) n h n' h' := by
  obtain ⟨O, x, q⟩ := x
  obtain ⟨n', h', O', e, x', f', l, k, o⟩ := add_spec x f a hF
  refine ⟨n', h', e, ⟨O', x', fun c hc => ⟨?_, x'.lt f' c hc⟩⟩, f', l, fun c hc hn => k c hc fun ho => hn (q c ho)⟩
  rcases o c hc with h1 | h1
  · exact (q c h1).1
  · omega

theorem at_rem (x : SetAt h p lo hi s) (f : Fr n h) (a : Int) :
    ∃ h', (bitset_Set_Remove F (pt p 0) (i64 a)).run n h = some (bo (isIn s a), n, h') ∧ SetAt h' p lo hi (fun m => s m && !decide ((m : Int) = a)) ∧ Ev (fun c => lo ≤ c ∧ c < hi) n h n h' := by
  obtain ⟨O, x, q⟩ := x
  obtain ⟨h', e, x', ev⟩ := rem_spec (F := F) x f a
  exact ⟨h', e, ⟨O, x', q⟩, ev.mono fun c _ hc => q c hc⟩

theorem at_has (x : SetAt h p lo hi s) (a : Int) : (bitset_Set_Has F (pt p 0) (i64 a)).run n h = some (bo (isIn s a), n, h) := by
  obtain ⟨O, x, q⟩ := x; exact has_spec x a
theorem at_len (hF : 100 < F) (x : SetAt h p lo hi s) : (bitset_Set_Len F (pt p 0)).run n h = some (i64 (setL s).length, n, h) := by
  obtain ⟨O, x, q⟩ := x; exact len_spec hF x
theorem at_all (hF : 100 < F) (hn : 0 < n) (hb : h.get 0 = some ⟨deB, .ro⟩) (x : SetAt h p lo hi s) (f : Fr n h) : ∃ n' h' v, (bitset_Set_All F (pt p 0)).run n h = some (v, n', h') ∧ NewI h' n v (ints (setL s)) ∧ Ev No n h n' h' := by
  obtain ⟨O, x, q⟩ := x; exact all_spec hF hn hb x f
theorem at_first (hF : 5056 < F) (x : SetAt h p lo hi s) (a : Int) : ∃ r, (bitset_Set_First F (pt p 0) (i64 a)).run n h = some (i64 r, n, h) ∧ IsFirst s a.toNat r := by
  obtain ⟨O, x, q⟩ := x; exact first_spec hF x a
theorem at_copy (x : SetAt h p lo hi s) (f : Fr n h) : ∃ n' h' q, (bitset_Set_Copy F (pt p 0)).run n h = some (pt q 0, n', h') ∧ SetAt h' q n n' s ∧ Ev No n h n' h' := by
  obtain ⟨O, x, q⟩ := x
  obtain ⟨n', h', p', O', e, x', ev, o⟩ := copy_spec (F := F) x f
  exact ⟨n', h', p', e, ⟨O', x', fun c hc => ⟨o c hc, x'.lt ev.f c hc⟩⟩, ev⟩
section
variable {p' lo' hi' : Nat} {s' : Nat → Bool}
theorem at_in (hF : 100 < F) (x : SetAt h p lo hi s) (x' : SetAt h p' lo' hi' s') : (bitset_Set_In F (pt p 0) (pt p' 0)).run n h = some (bo (subS s s'), n, h) := by
  obtain ⟨O, x, q⟩ := x; obtain ⟨O', x', q'⟩ := x'; exact in_spec hF x x'
theorem at_eq (hF : 100 < F) (x : SetAt h p lo hi s) (x' : SetAt h p' lo' hi' s') : (bitset_Set_Eq F (pt p 0) (pt p' 0)).run n h = some (bo (eqS s s'), n, h) := by
  obtain ⟨O, x, q⟩ := x; obtain ⟨O', x', q'⟩ := x'; exact seteq_spec hF x x'
theorem at_less (hF : 100 < F) (x : SetAt h p lo hi s) (x' : SetAt h p' lo' hi' s') (f : Fr n h) : ∃ n' h' q, (bitset_Set_Less F (pt p 0) (pt p' 0)).run n h = some (pt q 0, n', h') ∧ SetAt h' q n n' (fun m => s m && !s' m) ∧ Ev No n h n' h' := by
  obtain ⟨O, x, q⟩ := x; obtain ⟨O', x', q'⟩ := x'
  obtain ⟨n', h', p', Q, e, y, ev, o⟩ := less_spec hF x x' f
  exact ⟨n', h', p', e, ⟨Q, y, fun c hc => ⟨o c hc, y.lt ev.f c hc⟩⟩, ev⟩
theorem at_meet (hF : 100 < F) (x : SetAt h p lo hi s) (x' : SetAt h p' lo' hi' s') (f : Fr n h) : ∃ n' h' q, (bitset_Set_Meet F (pt p 0) (pt p' 0)).run n h = some (pt q 0, n', h') ∧ SetAt h' q n n' (fun m => s m && s' m) ∧ Ev No n h n' h' := by
  obtain ⟨O, x, q⟩ := x; obtain ⟨O', x', q'⟩ := x'
  obtain ⟨n', h', p', Q, e, y, ev, o⟩ := meet_spec hF x x' f
  exact ⟨n', h', p', e, ⟨Q, y, fun c hc => ⟨o c hc, y.lt ev.f c hc⟩⟩, ev⟩
/-- Is there anybody in the second alone? -/
noncomputable def newS (s s' : Nat → Bool) : Bool := @decide (∃ m, s' m = true ∧ s m = false) (Classical.propDecidable _)
theorem at_join (hF : 100 < F) (x : SetAt h p lo hi s) (x' : SetAt h p' lo' hi' s') (hd : hi' ≤ lo ∨ hi ≤ lo') (hlo : lo ≤ n) (f : Fr n h) : ∃ n' h', (bitset_Set_Join F (pt p 0) (pt p' 0)).run n h = some (bo (newS s s'), n', h') ∧ SetAt h' p lo n' (fun m => s m || s' m) ∧ Ev (fun c => lo ≤ c ∧ c < hi) n h n' h' := by
  obtain ⟨O, x, q⟩ := x; obtain ⟨O', x', q'⟩ := x'
  obtain ⟨n', h', Q, ch, e, hc, y, ev, o⟩ := join_spec hF x x' (fun c h1 h2 => by have := q c h1; have := q' c h2; omega) f
  have hch : ch = newS s s' := by
    unfold newS
    rw [Bool.eq_iff_iff, hc, @decide_eq_true_eq _ (Classical.propDecidable _)]
  subst hch
  refine ⟨n', h', e, ⟨Q, y, fun c hc => ⟨?_, y.lt ev.f c hc⟩⟩, ev.mono fun c _ hc => q c hc⟩
  rcases o c hc with h1 | h1
  · exact (q c h1).1
  · omega
end
end

/-! ## The law's own helpers -/

theorem may_spec {F n : Nat} {h : H} (a : Int) : (L1_may F (i64 a)).run n h = some (bo (decide (0 ≤ a ∧ a < 5000)), n, h) := by
  unfold L1_may L1_may_r0 L1_may_r1
  simp only [st_geq, st_lss, onB_ite, run_ite, decide_eq_true_eq]
  by_cases h1 : 0 ≤ a
  · rw [if_pos h1]
    have : decide (0 ≤ a ∧ a < 5000) = decide (a < 5000) := by rw [decide_eq_decide]; exact ⟨fun h => h.2, fun h => ⟨h1, h⟩⟩
    rw [this]; rfl
  · rw [if_neg h1, decide_eq_false (fun h => h1 h.1)]; rfl

end Go.Fw
