/-
  The strongly connected parts of a graph, by Tarjan, in plain numbers: what a visit leaves, and that the parts are the parts.
-/
import Derived.Test.YtddafkflndhnfaaDoorFwZ
import Derived.Test.YtddafkflndhnfaaDoorFwDfs
namespace Go.Fw

structure TS where
  num : Nat → Nat
  low : Nat → Nat
  on : Nat → Bool
  st : List Nat
  nx : Nat
  ps : List (List Nat)

/-- Those of some, in order. -/
def partOf (N : Nat) (l : List Nat) : List Nat := (List.range N).filter fun i => decide (i ∈ l)

def tStart (a : Nat) (s : TS) : TS := ⟨upd s.num a (s.nx + 1), upd s.low a (s.nx + 1), upd s.on a true, s.st ++ [a], s.nx + 1, s.ps⟩
def tStep (rc : Nat → TS → TS) (a : Nat) (s : TS) (b : Nat) : TS :=
  if s.num b = 0 then { rc b s with low := upd (rc b s).low a (min ((rc b s).low a) ((rc b s).low b)) }
  else if s.on b = true then { s with low := upd s.low a (min (s.low a) (s.num b)) } else s
def tEnd (N a : Nat) (s : TS) : TS :=
  if s.low a < s.num a then s else
    { s with on := fun i => s.on i && !decide (i ∈ s.st.drop (s.st.idxOf a)), st := s.st.take (s.st.idxOf a), ps := s.ps ++ [partOf N (s.st.drop (s.st.idxOf a))] }
def tvis (adj : Nat → List Nat) (N : Nat) : Nat → Nat → TS → TS
  | 0, _, s => s
  | k + 1, a, s => tEnd N a ((adj a).foldl (tStep (tvis adj N k) a) (tStart a s))

/-- Who is met. -/
def vis (s : TS) (v : Nat) : Bool := decide (s.num v ≠ 0)

open Classical in
/-- Who reaches a and is reached by it. -/
noncomputable def sccOf (adj : Nat → List Nat) (N a : Nat) : List Nat := (List.range N).filter fun v => decide (Rch adj a v ∧ Rch adj v a)

structure TInv (adj : Nat → List Nat) (N : Nat) (g : Nat → Prop) (s : TS) : Prop where
  nxl : ∀ v, s.num v ≤ s.nx
  lt : ∀ v, s.num v ≠ 0 → v < N
  vis : ∀ v, v ∈ s.st → s.num v ≠ 0
  inc : s.st.Pairwise fun x y => s.num x < s.num y
  onst : ∀ v, s.on v = true ↔ v ∈ s.st
  gst : ∀ v, g v → v ∈ s.st
  blk : ∀ v, s.num v ≠ 0 → ¬ g v → ∀ w, w ∈ adj v → s.num w ≠ 0
  don : ∀ v, s.num v ≠ 0 → v ∉ s.st → ∀ w, w ∈ adj v → s.num w ≠ 0 ∧ w ∉ s.st
  rch : ∀ x y, x ∈ s.st → y ∈ s.st → s.num x ≤ s.num y → Rch adj x y
  bak : ∀ x, x ∈ s.st → ∃ z, g z ∧ s.num z ≤ s.num x ∧ Rch adj x z
  prt : ∀ v, v ∈ s.ps.flatten ↔ (s.num v ≠ 0 ∧ v ∉ s.st)
  scc : ∀ P, P ∈ s.ps → P ≠ [] ∧ ∀ a, a ∈ P → P = sccOf adj N a
  dis : s.ps.Pairwise fun P Q => ∀ v, v ∈ P → v ∉ Q

theorem TInv.low {adj : Nat → List Nat} {N : Nat} {g : Nat → Prop} {s : TS} (x : TInv adj N g s) (l : Nat → Nat) : TInv adj N g { s with low := l } :=
  ⟨x.nxl, x.lt, x.vis, x.inc, x.onst, x.gst, x.blk, x.don, x.rch, x.bak, x.prt, x.scc, x.dis⟩

structure TPost (adj : Nat → List Nat) (N : Nat) (g : Nat → Prop) (s t : TS) (a : Nat) : Prop where
  inv : TInv adj N g t
  keep : ∀ v, s.num v ≠ 0 → t.num v = s.num v ∧ t.low v = s.low v
  nx : s.nx ≤ t.nx
  new : ∀ v, s.num v = 0 → t.num v ≠ 0 → s.nx < t.num v
  vis : t.num a ≠ 0
  ext : ∃ e, t.st = s.st ++ e ∧ (∀ v, v ∈ e → s.num v = 0) ∧ ∀ x, x ∈ e → ∀ y, y ∈ adj x → y ∈ s.st → t.low a ≤ s.num y
  low : (t.st = s.st ∧ t.low a = t.num a) ∨ ∃ y, y ∈ s.st ∧ t.low a = s.num y ∧ Rch adj a y

/-- A node is black, now. -/
abbrev more (g : Nat → Prop) (a : Nat) : Nat → Prop := fun v => g v ∨ v = a

structure TMid (adj : Nat → List Nat) (N : Nat) (g : Nat → Prop) (s r : TS) (a : Nat) (ds : List Nat) : Prop where
  inv : TInv adj N (more g a) r
  keep : ∀ v, s.num v ≠ 0 → r.num v = s.num v ∧ r.low v = s.low v
  nx : s.nx + 1 ≤ r.nx
  na : r.num a = s.nx + 1
  new : ∀ v, s.num v = 0 → r.num v ≠ 0 → s.nx < r.num v
  ext : ∃ e, r.st = s.st ++ a :: e ∧ (∀ v, v ∈ e → s.num v = 0 ∧ v ≠ a) ∧ ∀ x, x ∈ e → ∀ y, y ∈ adj x → y ∈ s.st → r.low a ≤ s.num y
  done : ∀ d, d ∈ ds → r.num d ≠ 0 ∧ (d ∈ s.st → r.low a ≤ s.num d)
  le : r.low a ≤ s.nx + 1
  low : ∃ y, y ∈ r.st ∧ r.low a = r.num y ∧ Rch adj a y

section
variable {adj : Nat → List Nat} {N : Nat} {g : Nat → Prop} {s r t : TS} {a : Nat}

theorem TInv.start (x : TInv adj N g s) (ha : s.num a = 0) (hN : a < N) (hg : ∀ z, g z → Rch adj z a) : TMid adj N g s (tStart a s) a [] := by
  have hne : ∀ v, v ∈ s.st → v ≠ a := fun v hv e => x.vis v hv (by rw [e]; exact ha)
  have un : ∀ v, v ≠ a → (tStart a s).num v = s.num v := fun v h => upd_ne h
  have ua : (tStart a s).num a = s.nx + 1 := upd_same
  have cov : ∀ v, (tStart a s).num v ≠ 0 → v ≠ a → s.num v ≠ 0 := fun v h e => by rw [un v e] at h; exact h
  have mem : ∀ v, v ∈ (tStart a s).st ↔ (v ∈ s.st ∨ v = a) := fun v => by show v ∈ s.st ++ [a] ↔ _; rw [List.mem_append, List.mem_singleton]
  refine ⟨⟨fun v => ?_, fun v hv => ?_, fun v hv => ?_, ?_, fun v => ?_, fun v hv => ?_, fun v hv hn w hw => ?_, fun v hv hn w hw => ?_, fun u v hu hv huv => ?_, fun u hu => ?_, fun v => ?_, x.scc, x.dis⟩,
    fun v hv => ?_, Nat.le_refl _, ua, fun v hv hn => ?_, ⟨[], rfl, fun v hv => (by cases hv), fun v hv => (by cases hv)⟩, fun d hd => (by cases hd), ?_, ⟨a, (mem a).2 (.inr rfl), ?_, .refl⟩⟩
  · by_cases e : v = a
    · subst e; rw [ua]; exact Nat.le_refl _
    · rw [un v e]; exact Nat.le_succ_of_le (x.nxl v)
  · by_cases e : v = a
    · subst e; exact hN
    · exact x.lt v (cov v hv e)
  · rcases (mem v).1 hv with h | rfl
    · rw [un v (hne v h)]; exact x.vis v h
    · rw [ua]; omega
  · show (s.st ++ [a]).Pairwise _
    refine List.pairwise_append.2 ⟨?_, List.pairwise_singleton _ _, fun u hu v hv => ?_⟩
    · refine List.Pairwise.imp_of_mem (fun {u v} hu hv h => ?_) x.inc
      rw [un u (hne u hu), un v (hne v hv)]; exact h
    · rw [List.mem_singleton] at hv; subst hv
      rw [ua, un u (hne u hu)]; exact Nat.lt_succ_of_le (x.nxl u)
  · rw [mem]
    by_cases e : v = a
    · subst e; exact ⟨fun _ => .inr rfl, fun _ => upd_same⟩
    · have : (tStart a s).on v = s.on v := upd_ne e
      rw [this, x.onst]; exact ⟨.inl, fun h => h.resolve_right e⟩
  · rw [mem]; exact hv.imp (x.gst v) id
  · have e : v ≠ a := fun e => hn (.inr e)
    have := x.blk v (cov v hv e) (fun h => hn (.inl h)) w hw
    rw [un w (fun e => this (by rw [e]; exact ha))]; exact this
  · have e : v ≠ a := fun e => hn ((mem v).2 (.inr e))
    have h := x.don v (cov v hv e) (fun h => hn ((mem v).2 (.inl h))) w hw
    have we : w ≠ a := fun e => h.1 (by rw [e]; exact ha)
    exact ⟨by rw [un w we]; exact h.1, fun q => ((mem w).1 q).elim h.2 we⟩
  · rcases (mem u).1 hu with h1 | rfl
    · rcases (mem v).1 hv with h2 | rfl
      · rw [un u (hne u h1), un v (hne v h2)] at huv
        exact x.rch u v h1 h2 huv
      · obtain ⟨z, gz, _, rz⟩ := x.bak u h1
        exact rz.trans (hg z gz)
    · rcases (mem v).1 hv with h2 | rfl
      · rw [ua, un v (hne v h2)] at huv
        have := x.nxl v; omega
      · exact .refl
  · rcases (mem u).1 hu with h1 | rfl
    · obtain ⟨z, gz, lz, rz⟩ := x.bak u h1
      exact ⟨z, .inl gz, by rw [un z (hne z (x.gst z gz)), un u (hne u h1)]; exact lz, rz⟩
    · exact ⟨u, .inr rfl, Nat.le_refl _, .refl⟩
  · show v ∈ s.ps.flatten ↔ _
    rw [x.prt, mem]
    by_cases e : v = a
    · subst e; exact ⟨fun h => absurd ha h.1, fun h => absurd (.inr rfl) h.2⟩
    · rw [un v e]; exact ⟨fun h => ⟨h.1, fun q => q.elim h.2 e⟩, fun h => ⟨h.1, fun q => h.2 (.inl q)⟩⟩
  · have e : v ≠ a := fun e => hv (by rw [e]; exact ha)
    exact ⟨un v e, upd_ne e⟩
  · by_cases e : v = a
    · subst e; rw [ua]; omega
    · rw [un v e] at hn; exact absurd hv hn
  · show upd s.low a (s.nx + 1) a ≤ _; rw [upd_same]; exact Nat.le_refl _
  · show upd s.low a (s.nx + 1) a = upd s.num a (s.nx + 1) a; rw [upd_same, upd_same]

/-- One edge more. -/
theorem TMid.step {b : Nat} {ds : List Nat} {rc : Nat → TS → TS} (xs : TInv adj N g s) (x : TMid adj N g s r a ds) (ha : s.num a = 0) (hb : b ∈ adj a) (hg : ∀ z, g z → Rch adj z a)
    (hrc : r.num b = 0 → (∀ z, more g a z → Rch adj z b) → TPost adj N (more g a) r (rc b r) b) : TMid adj N g s (tStep rc a r b) a (ds ++ [b]) := by
  obtain ⟨e, he, hev, hec⟩ := x.ext
  have sv : ∀ v, v ∈ s.st → v ∈ r.st := fun v hv => by rw [he]; exact List.mem_append_left _ hv
  obtain ⟨y, hy, ly, ry⟩ := x.low
  unfold tStep
  by_cases hb0 : r.num b = 0
  · rw [if_pos hb0]
    have p := hrc hb0 fun z hz => hz.elim (fun h => .step (hg z h) hb) fun h => by subst h; exact .step .refl hb
    generalize rc b r = t at p
    have ra : r.num a ≠ 0 := by rw [x.na]; omega
    have na : t.num a = s.nx + 1 := by rw [(p.keep a ra).1, x.na]
    have la : t.low a = r.low a := (p.keep a ra).2
    obtain ⟨e2, he2, hev2, hec2⟩ := p.ext
    have un : ∀ v, s.num v ≠ 0 → r.num v ≠ 0 := fun v hv => by rw [(x.keep v hv).1]; exact hv
    have low' : ({ t with low := upd t.low a (min (t.low a) (t.low b)) } : TS).low a = min (t.low a) (t.low b) := upd_same
    have le1 : min (t.low a) (t.low b) ≤ r.low a := by rw [← la]; exact Nat.min_le_left _ _
    refine ⟨p.inv.low _, fun v hv => ?_, Nat.le_trans x.nx p.nx, na, fun v hv hn => ?_, ⟨e ++ e2, ?_, fun v hv => ?_, fun u hu v hv hvs => ?_⟩, fun d hd => ?_, ?_, ?_⟩
    · have ne : v ≠ a := fun q => hv (by rw [q]; exact ha)
      obtain ⟨k1, k2⟩ := p.keep v (un v hv)
      obtain ⟨k3, k4⟩ := x.keep v hv
      exact ⟨k1.trans k3, (upd_ne ne).trans (k2.trans k4)⟩
    · by_cases h : r.num v = 0
      · have h1 := p.new v h hn
        have h2 := x.nx
        show s.nx < t.num v
        omega
      · have := x.new v hv h
        have := (p.keep v h).1
        show s.nx < t.num v
        omega
    · show t.st = _
      rw [he2, he]; simp
    · rcases List.mem_append.1 hv with h | h
      · exact hev v h
      · have h0 := hev2 v h
        refine ⟨?_, fun q => ra (by rw [← q]; exact h0)⟩
        by_cases q : s.num v = 0
        · exact q
        · exact absurd h0 (un v q)
    · rw [low']
      rcases List.mem_append.1 hu with h | h
      · exact Nat.le_trans le1 (hec u h v hv hvs)
      · have := hec2 u h v hv (sv v hvs)
        rw [(x.keep v (xs.vis v hvs)).1] at this
        exact Nat.le_trans (Nat.min_le_right _ _) this
    · rw [low']
      rcases List.mem_append.1 hd with h | h
      · obtain ⟨h1, h2⟩ := x.done d h
        exact ⟨by show t.num d ≠ 0; rw [(p.keep d h1).1]; exact h1, fun q => Nat.le_trans le1 (h2 q)⟩
      · rw [List.mem_singleton] at h; subst h
        exact ⟨p.vis, fun q => absurd hb0 (x.inv.vis d (sv d q))⟩
    · rw [low']; exact Nat.le_trans le1 x.le
    · rw [low']
      by_cases hm : t.low a ≤ t.low b
      · refine ⟨y, ?_, ?_, ry⟩
        · show y ∈ t.st; rw [he2]; exact List.mem_append_left _ hy
        · show _ = t.num y
          rw [Nat.min_eq_left hm, la, ly, (p.keep y (x.inv.vis y hy)).1]
      · have hm' : t.low b ≤ t.low a := by omega
        rw [Nat.min_eq_right hm']
        rcases p.low with ⟨_, q⟩ | ⟨z, hz, lz, rz⟩
        · have := p.new b hb0 p.vis
          have := x.le; have := x.nx
          omega
        · refine ⟨z, ?_, ?_, rz.head hb⟩
          · show z ∈ t.st; rw [he2]; exact List.mem_append_left _ hz
          · show _ = t.num z
            rw [lz, (p.keep z (x.inv.vis z hz)).1]
  · rw [if_neg hb0]
    by_cases hon : r.on b = true
    · rw [if_pos hon]
      have hbs : b ∈ r.st := (x.inv.onst b).1 hon
      have low' : ({ r with low := upd r.low a (min (r.low a) (r.num b)) } : TS).low a = min (r.low a) (r.num b) := upd_same
      have le1 : min (r.low a) (r.num b) ≤ r.low a := Nat.min_le_left _ _
      refine ⟨x.inv.low _, fun v hv => ?_, x.nx, x.na, x.new, ⟨e, he, hev, fun u hu v hv hvs => ?_⟩, fun d hd => ?_, ?_, ?_⟩
      · have ne : v ≠ a := fun q => hv (by rw [q]; exact ha)
        exact ⟨(x.keep v hv).1, (upd_ne ne).trans (x.keep v hv).2⟩
      · rw [low']; exact Nat.le_trans le1 (hec u hu v hv hvs)
      · rw [low']
        rcases List.mem_append.1 hd with h | h
        · exact ⟨(x.done d h).1, fun q => Nat.le_trans le1 ((x.done d h).2 q)⟩
        · rw [List.mem_singleton] at h; subst h
          refine ⟨hb0, fun q => ?_⟩
          rw [← (x.keep d (xs.vis d q)).1]; exact Nat.min_le_right _ _
      · rw [low']; exact Nat.le_trans le1 x.le
      · rw [low']
        by_cases hm : r.low a ≤ r.num b
        · exact ⟨y, hy, by rw [Nat.min_eq_left hm]; exact ly, ry⟩
        · exact ⟨b, hbs, by rw [Nat.min_eq_right (by omega)], .step .refl hb⟩
    · rw [if_neg hon]
      refine ⟨x.inv, x.keep, x.nx, x.na, x.new, ⟨e, he, hev, hec⟩, fun d hd => ?_, x.le, ⟨y, hy, ly, ry⟩⟩
      rcases List.mem_append.1 hd with h | h
      · exact x.done d h
      · rw [List.mem_singleton] at h; subst h
        exact ⟨hb0, fun q => absurd ((x.inv.onst d).2 (sv d q)) hon⟩

/-- All edges. -/
theorem TMid.fold {rc : Nat → TS → TS} (xs : TInv adj N g s) (ha : s.num a = 0) (hg : ∀ z, g z → Rch adj z a) {K : Nat} (hK : cnt N (vis (tStart a s)) ≤ K)
    (hrc : ∀ b r, b ∈ adj a → r.num b = 0 → (∀ z, more g a z → Rch adj z b) → TInv adj N (more g a) r → cnt N (vis r) ≤ K → TPost adj N (more g a) r (rc b r) b) :
    ∀ (bs ds : List Nat) (r : TS), (∀ b, b ∈ bs → b ∈ adj a) → TMid adj N g s r a ds → TMid adj N g s (bs.foldl (tStep rc a) r) a (ds ++ bs)
  | [], ds, r, _, x => by rw [List.append_nil]; exact x
  | b :: bs, ds, r, hb, x => by
    have x' := TMid.step (rc := rc) xs x ha (hb b List.mem_cons_self) hg fun h0 hz => hrc b r (hb b List.mem_cons_self) h0 hz x.inv (Nat.le_trans (cnt_mono (fun m hm => by
      have hm : (tStart a s).num m ≠ 0 := of_decide_eq_true hm
      refine decide_eq_true ?_
      by_cases e : m = a
      · subst e; rw [x.na]; omega
      · have : s.num m ≠ 0 := by
          have : (tStart a s).num m = s.num m := upd_ne e
          rw [← this]; exact hm
        rw [(x.keep m this).1]; exact this) N) hK)
    have := TMid.fold xs ha hg hK hrc bs (ds ++ [b]) _ (fun c hc => hb c (List.mem_cons_of_mem _ hc)) x'
    rw [List.append_assoc] at this
    exact this

/-- A node is left. -/
theorem TMid.close (xs : TInv adj N g s) (x : TMid adj N g s r a (adj a)) (ha : s.num a = 0) : TPost adj N g s (tEnd N a r) a := by
  obtain ⟨e, he, hev, hec⟩ := x.ext
  obtain ⟨y, hy, ly, ry⟩ := x.low
  have sv : ∀ v, v ∈ s.st → v ∈ r.st := fun v hv => by rw [he]; exact List.mem_append_left _ hv
  have nas : a ∉ s.st := fun h => xs.vis a h ha
  have nae : ∀ v, v ∈ a :: e → s.num v = 0 := fun v hv => by
    rcases List.mem_cons.1 hv with rfl | h
    · exact ha
    · exact (hev v h).1
  have nes : ∀ v, v ∈ a :: e → v ∉ s.st := fun v hv q => xs.vis v q (nae v hv)
  have ain : a ∈ r.st := by rw [he]; exact List.mem_append_right _ List.mem_cons_self
  have split : ∀ v, v ∈ r.st ↔ (v ∈ s.st ∨ v ∈ a :: e) := fun v => by rw [he, List.mem_append]
  have high : ∀ v, v ∈ a :: e → s.nx + 1 ≤ r.num v := fun v hv => x.new v (nae v hv) (x.inv.vis v ((split v).2 (.inr hv)))
  have lown : ∀ v, v ∈ s.st → r.num v ≤ s.nx := fun v hv => by rw [(x.keep v (xs.vis v hv)).1]; exact xs.nxl v
  have blk : ∀ v, r.num v ≠ 0 → ¬ g v → ∀ w, w ∈ adj v → r.num w ≠ 0 := fun v hv hn w hw => by
    by_cases q : v = a
    · subst q; exact (x.done w hw).1
    · exact x.inv.blk v hv (fun h => h.elim hn q) w hw
  unfold tEnd
  by_cases hlt : r.low a < r.num a
  · rw [if_pos hlt]
    have ys : y ∈ s.st := by
      rcases (split y).1 hy with h | h
      · exact h
      · have := high y h
        have := x.na
        omega
    refine ⟨⟨x.inv.nxl, x.inv.lt, x.inv.vis, x.inv.inc, x.inv.onst, fun v hv => sv v (xs.gst v hv), blk, x.inv.don, x.inv.rch, fun u hu => ?_, x.inv.prt, x.inv.scc, x.inv.dis⟩,
      x.keep, Nat.le_of_succ_le x.nx, x.new, by rw [x.na]; omega, ⟨a :: e, he, nae, fun u hu v hv hvs => ?_⟩, .inr ⟨y, ys, by rw [ly, (x.keep y (xs.vis y ys)).1], ry⟩⟩
    · obtain ⟨z, gz, lz, rz⟩ := x.inv.bak u hu
      rcases gz with gz | rfl
      · exact ⟨z, gz, lz, rz⟩
      · obtain ⟨z2, g2, l2, r2⟩ := x.inv.bak y hy
        rcases g2 with g2 | rfl
        · exact ⟨z2, g2, by omega, rz.trans (ry.trans r2)⟩
        · omega
    · rcases List.mem_cons.1 hu with rfl | h
      · exact (x.done v hv).2 hvs
      · exact hec u h v hv hvs
  · rw [if_neg hlt]
    have la : r.low a = s.nx + 1 := by have := x.le; have := x.na; omega
    have idx : r.st.idxOf a = s.st.length := by
      rw [he, List.idxOf_append, if_neg nas]; simp
    have tk : r.st.take (r.st.idxOf a) = s.st := by rw [idx, he]; simp
    have dr : r.st.drop (r.st.idxOf a) = a :: e := by rw [idx, he]; simp
    rw [tk, dr]
    -- what is met and isn't on the stack that stays is closed
    have noE : ∀ u, u ∈ a :: e → ∀ w, w ∈ adj u → w ∉ s.st := fun u hu w hw q => by
      have hle : r.low a ≤ s.num w := by
        rcases List.mem_cons.1 hu with rfl | h
        · exact (x.done w hw).2 q
        · exact hec u h w hw q
      have := xs.nxl w
      omega
    have cl : ∀ v, r.num v ≠ 0 → v ∉ s.st → ∀ w, w ∈ adj v → r.num w ≠ 0 ∧ w ∉ s.st := fun v hv hn w hw => by
      by_cases q : v ∈ r.st
      · have hve : v ∈ a :: e := ((split v).1 q).resolve_left hn
        exact ⟨blk v hv (fun h => hn (xs.gst v h)) w hw, noE v hve w hw⟩
      · have := x.inv.don v hv q w hw
        exact ⟨this.1, fun h => this.2 (sv w h)⟩
    have clR : ∀ u v, r.num u ≠ 0 → u ∉ s.st → Rch adj u v → r.num v ≠ 0 ∧ v ∉ s.st := fun u v hu hn h => by
      induction h with
      | refl => exact ⟨hu, hn⟩
      | step _ h2 ih => exact cl _ ih.1 ih.2 _ h2
    have dnR : ∀ u v, r.num u ≠ 0 → u ∉ r.st → Rch adj u v → r.num v ≠ 0 ∧ v ∉ r.st := fun u v hu hn h => by
      induction h with
      | refl => exact ⟨hu, hn⟩
      | step _ h2 ih => exact x.inv.don _ ih.1 ih.2 _ h2
    have visE : ∀ v, v ∈ a :: e → r.num v ≠ 0 := fun v hv => x.inv.vis v ((split v).2 (.inr hv))
    have toA : ∀ v, v ∈ a :: e → Rch adj v a := fun v hv => by
      obtain ⟨z, gz, _, rz⟩ := x.inv.bak v ((split v).2 (.inr hv))
      rcases gz with gz | rfl
      · exact absurd (xs.gst z gz) (clR v z (visE v hv) (nes v hv) rz).2
      · exact rz
    have ofA : ∀ v, v ∈ a :: e → Rch adj a v := fun v hv => x.inv.rch a v ain ((split v).2 (.inr hv)) (by rw [x.na]; exact high v hv)
    have pm : ∀ v, v ∈ partOf N (a :: e) ↔ v ∈ a :: e := fun v => by
      unfold partOf
      rw [List.mem_filter, decide_eq_true_eq, List.mem_range]
      exact ⟨fun h => h.2, fun h => ⟨x.inv.lt v (visE v h), h⟩⟩
    refine ⟨⟨x.inv.nxl, x.inv.lt, fun v hv => x.inv.vis v (sv v hv), ?_, fun v => ?_, fun v hv => xs.gst v hv, blk, cl, fun u v hu hv => x.inv.rch u v (sv u hu) (sv v hv), fun u hu => ?_, fun v => ?_, fun P hP => ?_, ?_⟩,
      x.keep, Nat.le_of_succ_le x.nx, x.new, by show r.num a ≠ 0; rw [x.na]; omega, ⟨[], by simp, fun v hv => (by cases hv), fun v hv => (by cases hv)⟩, .inl ⟨rfl, by show r.low a = r.num a; rw [la, x.na]⟩⟩
    · have := x.inv.inc
      rw [he] at this
      exact (List.pairwise_append.1 this).1
    · show (r.on v && !decide (v ∈ a :: e)) = true ↔ v ∈ s.st
      rw [Bool.and_eq_true, x.inv.onst, split, Bool.not_eq_true', decide_eq_false_iff_not]
      exact ⟨fun h => h.1.resolve_right h.2, fun h => ⟨.inl h, fun q => nes v q h⟩⟩
    · obtain ⟨z, gz, lz, rz⟩ := x.inv.bak u (sv u hu)
      rcases gz with gz | rfl
      · exact ⟨z, gz, lz, rz⟩
      · exfalso
        have h1 : r.num z ≤ r.num u := lz
        have h2 := lown u hu
        have h3 := x.na
        omega
    · show v ∈ (r.ps ++ [partOf N (a :: e)]).flatten ↔ (r.num v ≠ 0 ∧ v ∉ s.st)
      rw [List.flatten_append, List.mem_append, x.inv.prt, List.flatten_singleton, pm, split]
      constructor
      · rintro (h | h)
        · exact ⟨h.1, fun q => h.2 (.inl q)⟩
        · exact ⟨visE v h, nes v h⟩
      · intro h
        by_cases q : v ∈ a :: e
        · exact .inr q
        · exact .inl ⟨h.1, fun w => w.elim h.2 q⟩
    · rcases List.mem_append.1 hP with h | h
      · exact x.inv.scc P h
      · rw [List.mem_singleton] at h; subst h
        refine ⟨List.ne_nil_of_mem ((pm a).2 List.mem_cons_self), fun c hc => ?_⟩
        have hc := (pm c).1 hc
        unfold partOf sccOf
        refine List.filter_congr fun v hv => ?_
        rw [decide_eq_decide]
        constructor
        · intro h
          exact ⟨(toA c hc).trans (ofA v h), (toA v h).trans (ofA c hc)⟩
        · intro h
          have h1 := clR c v (visE c hc) (nes c hc) h.1
          have h2 : v ∈ r.st := by
            refine Classical.byContradiction fun q => ?_
            exact (dnR v c h1.1 q h.2).2 ((split c).2 (.inr hc))
          exact ((split v).1 h2).resolve_left h1.2
    · show (r.ps ++ [partOf N (a :: e)]).Pairwise _
      refine List.pairwise_append.2 ⟨x.inv.dis, List.pairwise_singleton _ _, fun P hP Q hQ v hv q => ?_⟩
      rw [List.mem_singleton] at hQ; subst hQ
      have h1 := (x.inv.prt v).1 (List.mem_flatten.2 ⟨P, hP, hv⟩)
      exact h1.2 ((split v).2 (.inr ((pm v).1 q)))

/-- A visit. -/
theorem tvis_post (hlt : ∀ a, a < N → ∀ b, b ∈ adj a → b < N) : ∀ (k : Nat) (g : Nat → Prop) (s : TS) (a : Nat), TInv adj N g s → s.num a = 0 → a < N → (∀ z, g z → Rch adj z a) → cnt N (vis s) < k →
    TPost adj N g s (tvis adj N k a s) a
  | 0, _, _, _, _, _, _, _, h => absurd h (Nat.not_lt_zero _)
  | k + 1, g, s, a, x, ha, hN, hg, hk => by
    have e1 : cnt N (vis (tStart a s)) + 1 = cnt N (vis s) := by
      have h := cnt_put (s := vis s) (a := a) (decide_eq_false (by simp [ha])) N
      rw [if_pos hN] at h
      have : vis (tStart a s) = putM (vis s) a := by
        funext m
        unfold vis putM
        by_cases e : m = a
        · subst e
          rw [decide_eq_true (show (tStart m s).num m ≠ 0 by rw [show (tStart m s).num m = s.nx + 1 from upd_same]; omega)]
          simp
        · rw [show (tStart a s).num m = s.num m from upd_ne e, decide_eq_false e, Bool.or_false]
      rw [this]; exact h
    have m := TMid.fold (rc := tvis adj N k) x ha hg (Nat.le_refl _) (fun b r hb h0 hz hi hc => tvis_post hlt k _ r b hi h0 (hlt a hN b hb) hz (by omega)) (adj a) [] _ (fun _ h => h) (x.start ha hN hg)
    exact TMid.close x (by rw [List.nil_append] at m; exact m) ha
end

def tInit : TS := ⟨fun _ => 0, fun _ => 0, fun _ => false, [], 0, []⟩
theorem tInit_inv {adj : Nat → List Nat} {N : Nat} : TInv adj N (fun _ => False) tInit :=
  ⟨fun _ => Nat.le_refl _, fun _ h => absurd rfl h, fun _ h => (by cases h), List.Pairwise.nil, fun _ => ⟨fun h => (by cases h), fun h => (by cases h)⟩, fun _ h => h.elim, fun _ h => absurd rfl h, fun _ h => absurd rfl h,
    fun _ _ h => (by cases h), fun _ h => (by cases h), fun _ => ⟨fun h => (by cases h), fun h => absurd rfl h.1⟩, fun _ h => (by cases h), List.Pairwise.nil⟩

/-- All nodes up to one. -/
def tall (adj : Nat → List Nat) (N k : Nat) : Nat → TS
  | 0 => tInit
  | i + 1 => if (tall adj N k i).num i = 0 then tvis adj N k i (tall adj N k i) else tall adj N k i

theorem cnt_le (N : Nat) (s : Nat → Bool) : cnt N s ≤ N := by
  unfold cnt; exact Nat.le_trans (List.length_filter_le _ _) (by simp)

theorem tall_inv {adj : Nat → List Nat} {N k : Nat} (hlt : ∀ a, a < N → ∀ b, b ∈ adj a → b < N) (hk : N < k) : ∀ i, i ≤ N → TInv adj N (fun _ => False) (tall adj N k i) ∧ (tall adj N k i).st = [] ∧ ∀ v, v < i → (tall adj N k i).num v ≠ 0
  | 0, _ => ⟨tInit_inv, rfl, fun v hv => absurd hv (Nat.not_lt_zero _)⟩
  | i + 1, hi => by
    obtain ⟨x, hs, hv⟩ := tall_inv hlt hk i (by omega)
    unfold tall
    by_cases h0 : (tall adj N k i).num i = 0
    · rw [if_pos h0]
      have p := tvis_post hlt k _ _ i x h0 (by omega) (fun _ h => h.elim) (Nat.lt_of_le_of_lt (cnt_le _ _) hk)
      refine ⟨p.inv, ?_, fun v hv2 => ?_⟩
      · match hq : (tvis adj N k i (tall adj N k i)).st with
        | [] => rfl
        | z :: _ =>
          obtain ⟨_, h, _⟩ := p.inv.bak z (by rw [hq]; exact List.mem_cons_self)
          exact h.elim
      · by_cases e : v = i
        · subst e; exact p.vis
        · have := hv v (by omega)
          rw [(p.keep v this).1]; exact this
    · rw [if_neg h0]
      refine ⟨x, hs, fun v hv2 => ?_⟩
      by_cases e : v = i
      · subst e; exact h0
      · exact hv v (by omega)

/-- The parts are the parts: each once. -/
structure Scc (adj : Nat → List Nat) (N : Nat) (ps : List (List Nat)) : Prop where
  all : ∀ v, v ∈ ps.flatten ↔ v < N
  scc : ∀ P, P ∈ ps → P ≠ [] ∧ ∀ a, a ∈ P → P = sccOf adj N a
  dis : ps.Pairwise fun P Q => ∀ v, v ∈ P → v ∉ Q

theorem tall_scc {adj : Nat → List Nat} {N k : Nat} (hlt : ∀ a, a < N → ∀ b, b ∈ adj a → b < N) (hk : N < k) : Scc adj N (tall adj N k N).ps := by
  obtain ⟨x, hs, hv⟩ := tall_inv hlt hk N (Nat.le_refl _)
  refine ⟨fun v => ?_, x.scc, x.dis⟩
  rw [x.prt, hs]
  exact ⟨fun h => x.lt v h.1, fun h => ⟨hv v h, by simp⟩⟩

end Go.Fw
