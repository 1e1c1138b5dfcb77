/-
  GraphPath, said of the abstract machine.
-/
import Derived.Test.YtddafkflndhnfaaDoorLawDFar
import Derived.Test.YtddafkflndhnfaaDoorGenDGraphPath
set_option maxRecDepth 20000
set_option linter.unusedVariables false
namespace Go.Fw

/-- A way is no longer than there are nodes. -/
theorem PW.bound {adj : Nat → List Nat} {N t a : Nat} (ok : GOk N adj) (ha : a < N) {l : List Nat} (h : PW adj t a l) : l.length ≤ N := PW.small ok h ha

theorem gpath_run {F : Nat} (hF : 1000000 ≤ F) (hbg : gaveTrue ((L5_begun F).run 8 (baseH deB)) = true) (hbk : (((L5_begun F).run 8 (baseH deB)).map fun x => x.2.2.get 0) = some (some ⟨deB, .ro⟩)) (h : H) (us : List Value) (f : Fr 8 h) (hb : h.get 0 = some ⟨deB, .ro⟩) (ha : ArgsAre h [.int, .flat 2, .int, .int] us) :
    ∃ n' h', (L5_GraphPath_m F us).run 8 h = some (.bool true, n', h') := by
  obtain ⟨_, v, _, _, rfl, ⟨z, rfl, hz⟩, hv, ⟨a, rfl, hza⟩, ⟨b, rfl, hzb⟩⟩ := args4 ha
  obtain ⟨len, Z, hp, hl, hZ⟩ := hv.pairs f
  show ∃ n' h', (L5_GraphPath F (i64 z) v (i64 a) (i64 b)).run 8 h = some (.bool true, n', h')
  unfold L5_GraphPath L5_GraphPath_r0 L5_GraphPath_r1
  try dsimp only
  obtain ⟨n1, h1, e1, f1, l1, k1⟩ := run_over_true hbg hbk f hb
  rw [run_bnd e1]
  unfold L5_GraphPath_r2
  simp only [st_not, onB_ite, Bool.not_true, Bool.false_eq_true, if_false]
  unfold L5_GraphPath_r4
  try dsimp only
  obtain ⟨n2, h2, g, ob, O, e2, x2, ev2⟩ := made_var (F := F) hF l1 hz hZ (hp.keep k1) f1
  rw [show (Value.int .i64 0) = i64 0 from rfl, show (Value.slice none 0 0) = nsl from rfl, e2]
  generalize nodesOf z = N at *
  generalize madeL N Z (min len 80) = adj at *
  have gr2 := x2.gr ev2.f
  have hN := x2.few
  have hN1 := x2.pos
  have hgl := x2.glt
  unfold L5_GraphPath_r5
  try dsimp only
  have chk : ∀ {n : Nat} {h' : H} {k : Unit → M Value}, GB h' g N (sl ob 0 N N) → (bnd (opChk false (pt g 1) (sl ob 0 N N)) k).run n h' = (k ()).run n h' := fun hg => run_chk hg (by decide) rfl (by simp [veq])
  have fa : ∀ k : Value → M Value, bnd (opFieldAddr 1 (pt g 0)) k = k (pt g 1) := fun k => rfl
  rw [x2.var.all, fa, ld1 x2.var (by decide) rfl]
  by_cases hin : a < 0 ∨ (N : Int) ≤ a ∨ b < 0 ∨ (N : Int) ≤ b
  · obtain ⟨n3, h3, e3, ev3⟩ := path_out (F := F) hF gr2 (Nat.le_refl _) x2.ok hin ev2.f
    have gb3 := x2.var.ev ev3 x2.glt (fun h => h)
    have gr3 := gr2.no ev3 (Nat.le_refl _)
    rw [run_bnd e3, chk gb3, run_bnd (rpath_out (F := F) (n := n3) hF gr3 hin)]
    have nl : RdI h3 nsl [] := .inl ⟨rfl, rfl⟩
    rw [run_bnd (req_spec nl nl (by simp; omega) (by simp))]
    exact ⟨n3, h3, rfl⟩
  · obtain ⟨a, rfl⟩ : ∃ m : Nat, a = (m : Int) := ⟨a.toNat, by omega⟩
    obtain ⟨b, rfl⟩ : ∃ m : Nat, b = (m : Int) := ⟨b.toNat, by omega⟩
    have haN : a < N := by omega
    have hbN : b < N := by omega
    obtain ⟨n3, h3, v3, e3, ev3, w3⟩ := path_in (F := F) hF gr2 (Nat.le_refl _) x2.ok haN hbN ev2.f
    have gb3 := x2.var.ev ev3 x2.glt (fun h => h)
    have gr3 := gr2.no ev3 (Nat.le_refl _)
    have l3 := ev3.le
    rw [run_bnd e3, chk gb3]
    obtain ⟨n4, h4, v4, e4, ev4, w4⟩ := rpath_in (F := F) hF gr3 l3 x2.ok haN hbN ev3.f
    rw [run_bnd e4]
    rcases w3 with ⟨rfl, nr⟩ | ⟨l, rd3, pw3⟩
    · rcases w4 with ⟨rfl, _⟩ | ⟨l', _, pw4⟩
      · have nl : RdI h4 nsl [] := .inl ⟨rfl, rfl⟩
        rw [run_bnd (req_spec nl nl (by simp; omega) (by simp))]
        exact ⟨n4, h4, rfl⟩
      · obtain ⟨k, d, _⟩ := pw4.len
        exact absurd (wk_rch.1 ⟨k, d.1⟩) nr
    · rcases w4 with ⟨rfl, nr⟩ | ⟨l', rd4, pw4⟩
      · obtain ⟨k, d, _⟩ := pw3.len
        exact absurd (wk_rch.1 ⟨k, d.1⟩) nr
      · have := pw3.uniq pw4
        subst this
        have rd34 : RdI h4 v3 (nats l) := rd3.kept ev3.f fun c hc => ev4.no hc
        have hll : (nats l).length ≤ 25 := by rw [nats_len]; have := pw3.bound x2.ok haN; omega
        rw [run_bnd (req_spec rd34 rd4 (by omega) (by omega)), decide_eq_true rfl]
        exact ⟨n4, h4, rfl⟩

theorem gpath_law (h : H) (us : List Value) (f : Fr 8 h) (hb : h.get 0 = some ⟨deB, .ro⟩) (ha : ArgsAre h [.int, .flat 2, .int, .int] us) : ∃ n' h', (L5_GraphPath_m 1000000 us).run 8 h = some (.bool true, n', h') := gpath_run (Nat.le_refl _) begunD_runs begunD_keeps h us f hb ha

end Go.Fw
