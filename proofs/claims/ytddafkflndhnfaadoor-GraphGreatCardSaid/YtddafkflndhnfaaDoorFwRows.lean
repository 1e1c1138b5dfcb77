/-
  Rows that are laid one by one into a table of lists.
-/
import Derived.Test.YtddafkflndhnfaaDoorFwZ
set_option maxRecDepth 20000
set_option linter.unusedVariables false
namespace Go.Fw

/-- A table of lists, each empty or in a block of its own at lo or later. -/
def LRow (h : H) (ob N lo : Nat) (L : Nat → List Int) : Prop := ∃ (iv : Nat → Value), TV h ob N iv ∧ ∀ a, a < N → (L a = [] ∧ iv a = nsl) ∨ ∃ rb, iv a = sl rb 0 (L a).length (L a).length ∧ lo ≤ rb ∧ rb ≠ ob ∧ h.get rb = some ⟨(L a).map i64, .own⟩

theorem LRow.start {h : H} {ob N lo : Nat} (t : TV h ob N fun _ => nsl) : LRow h ob N lo fun _ => [] := ⟨_, t, fun a _ => .inl ⟨rfl, rfl⟩⟩

theorem LRow.put {β : Type} {n ob N lo i : Nat} {h : H} {L : Nat → List Int} (x : LRow h ob N lo L) (f : Fr n h) (hlo : lo ≤ n) (hi : i < N) (l : List Int) :
    ∃ h2, (∀ k : Value → M β, (bnd (opIndexAddr 1 (sl ob 0 N N) (i64 i)) fun p => bnd (opStore p (sl n 0 l.length l.length)) k).run (n + 1) (h.set n ⟨l.map i64, .own⟩) = (k undef).run (n + 1) h2) ∧ LRow h2 ob N lo (upd L i l) ∧ Ev (fun c => c = ob) n h (n + 1) h2 := by
  obtain ⟨iv, t, r⟩ := x
  have hob := t.lt f
  have ev1 : Ev No n h (n + 1) (h.set n ⟨l.map i64, .own⟩) := ⟨f.new _, by omega, fun c hc _ => H.get_set_ne _ _ (by omega)⟩
  have t1 := t.ev ev1 hob (fun h => h)
  obtain ⟨h2, e2, t2, ev2⟩ := TV.set (β := β) t1 ev1.f hi (c := N) (v := sl n 0 l.length l.length) rfl
  have ev02 : Ev (fun c => c = ob) n h (n + 1) h2 := (ev1.mono fun _ _ h => h.elim).trans ev2 fun _ _ h => h
  refine ⟨h2, e2, ⟨_, t2, fun a ha => ?_⟩, ev02⟩
  by_cases e : a = i
  · subst e
    rw [upd_same, upd_same]
    exact .inr ⟨n, rfl, hlo, by omega, by rw [ev2.keep n (by omega) (by omega), H.get_set_same]⟩
  · rw [upd_ne e, upd_ne e]
    rcases r a ha with q | ⟨rb, e1, e2, e3, e4⟩
    · exact .inl q
    · exact .inr ⟨rb, e1, e2, e3, by rw [ev02.keep rb (f.lt e4) e3]; exact e4⟩

theorem LRow.gr {h : H} {n ob N lo : Nat} {L : Nat → List Int} {adj : Nat → List Nat} (x : LRow h ob N lo L) (f : Fr n h) (e : ∀ a, a < N → L a = nats (adj a)) : Gr h n (sl ob 0 N N) N adj := by
  obtain ⟨iv, t, r⟩ := x
  refine ⟨rfl, h, f, fun _ _ => rfl, iv, t.rd, fun a ha => ?_⟩
  rw [← e a ha]
  rcases r a ha with ⟨q1, q2⟩ | ⟨rb, e1, _, _, e4⟩
  · rw [q1, q2]; exact .inl ⟨rfl, rfl⟩
  · rw [e1]
    exact .inr ⟨rb, 0, (L a).length, .own, by rw [List.length_map], fun _ => ⟨_, e4, by decide, fun i _ => by rw [Nat.zero_add]⟩⟩

theorem LRow.ev {n n' ob N lo : Nat} {h h' : H} {P : Nat → Prop} {L : Nat → List Int} (x : LRow h ob N lo L) (f : Fr n h) (e : Ev P n h n' h') (h1 : ¬ P ob) (h2 : ∀ c, lo ≤ c → ¬ P c) : LRow h' ob N lo L := by
  obtain ⟨iv, t, r⟩ := x
  refine ⟨iv, t.ev e (t.lt f) h1, fun a ha => ?_⟩
  rcases r a ha with q | ⟨rb, e1, e2, e3, e4⟩
  · exact .inl q
  · exact .inr ⟨rb, e1, e2, e3, by rw [e.keep rb (f.lt e4) (h2 rb e2)]; exact e4⟩

end Go.Fw
