/-
  A law's call: from the row's own world into the abstract one, and back.
-/
import Derived.Test.YtdomcfoabnhlfaaFwP
import Derived.ProofKit
namespace Go.Fw

/-- A world that came in, as an abstract heap: nothing of it may be written. -/
structure Entry (G : Nat) (W : World) (n : Nat) (ρ : Map) (h : H) : Prop where
  r : R G ρ h W
  ro : ∀ b B, h.get b = some B → ¬ B.ours
  fresh : ∀ b, n ≤ b → h.get b = none

theorem Entry.noOwn {G : Nat} {W : World} {n : Nat} {ρ : Map} {h : H} (e : Entry G W n ρ h) (k : Nat) : ¬ Own ρ h k := fun ⟨b, B, _, hb, hm, _, _⟩ => e.ro b B hb hm

theorem Entry.nil (W : World) : Entry 0 W 0 (fun _ => none) .leaf := by
  refine ⟨⟨fun b => by simp [H.get], fun g hg => by omega, fun b B L hb => by simp [H.get] at hb, fun b c B C L M _ hb => by simp [H.get] at hb, fun b B L hb => by simp [H.get] at hb, fun b c B C L M _ hb => by simp [H.get] at hb⟩, fun b B hb => by simp [H.get] at hb, fun b _ => by simp [H.get]⟩

theorem not_mine_ro (cs : List Value) : ¬ (⟨cs, .ro⟩ : Blk).mine := fun h => by rcases h with h | h <;> cases h
theorem not_ours_ro (cs : List Value) : ¬ (⟨cs, .ro⟩ : Blk).ours := fun h => by
  rcases h with h | h
  · exact not_mine_ro cs h
  · cases h.1
theorem not_ours_dead : ¬ (⟨[], .dead⟩ : Blk).ours := fun h => by
  rcases h with (h | h) | h
  · cases h
  · cases h
  · cases h.2

theorem Entry.add {G : Nat} {W : World} {n : Nat} {ρ : Map} {h : H} (e : Entry G W n ρ h) (L : Loc) {B : Blk} (hm : ¬ B.ours) (hB : B.live → BlkOK (ρ.add n L) W L B) : Entry G W (n + 1) (ρ.add n L) (h.set n B) := by
  have hn : ρ n = none := by
    have := e.r.dom n
    rw [e.fresh n (Nat.le_refl _)] at this
    cases hq : ρ n with
    | none => rfl
    | some L => rw [hq] at this; cases this
  have hle := Map.add_le L hn
  refine ⟨⟨fun c => ?_, fun g hg => ?_, fun c C N hc hl hN => ?_, fun c d C D N O hne hc hd hl hmd hN hO => ?_, fun c C N hc hmm hN => ?_, fun c d C D N O hne hc hd hmc hmd hN hO => ?_⟩, fun c C hc => ?_, fun c hc => ?_⟩
  rotate_left 4
  · exfalso
    rw [H.get_set] at hc
    split at hc
    · cases hc; exact hm (.inr hmm)
    · exact e.ro _ _ hc (.inr hmm)
  · exfalso
    rw [H.get_set] at hd
    split at hd
    · cases hd; exact hm (.inr hmd)
    · exact e.ro _ _ hd (.inr hmd)
  rotate_left 2
  · rw [H.get_set]; unfold Map.add
    split
    · rfl
    · exact e.r.dom c
  · obtain ⟨lim, hl⟩ := e.r.glob g hg
    exact ⟨lim, hle _ _ hl⟩
  · rw [H.get_set] at hc
    unfold Map.add at hN
    split at hc
    · rename_i ee; subst ee; simp only [if_true, Option.some.injEq] at hc hN; subst hc hN; exact hB hl
    · rename_i ne
      rw [if_neg ne] at hN
      obtain ⟨⟨arr, elem, fz, g1, g2, g3, g4⟩, g5, g6⟩ := e.r.blk c C N hc hl hN
      exact ⟨⟨arr, elem, fz, g1, g2, g3, fun i v hv => let ⟨v', h1, h2⟩ := g4 i v hv; ⟨v', h1, h2.mono hle⟩⟩, g5, g6⟩
  · exfalso
    rw [H.get_set] at hd
    split at hd
    · cases hd; exact hm (.inl hmd)
    · exact e.ro _ _ hd (.inl hmd)
  · rw [H.get_set] at hc
    split at hc
    · cases hc; exact hm
    · exact e.ro _ _ hc
  · rw [H.get_set]
    split
    · omega
    · exact e.fresh c (by omega)

/-- A slice that came in: its cells, all of which are known. -/
theorem Entry.slice {G : Nat} {W : World} {n : Nat} {ρ : Map} {h : H} (e : Entry G W n ρ h) (a : Addr) (len cap : Nat) (cs : List Value) (hlen : len ≤ cap) (hcap : cap < U) (hcs : 0 < cap → 0 < cs.length)
    (hc : ∀ i v, cs[i]? = some v → W.cell? (a.add i) = some v) (hv : ∀ v ∈ cs, VR (fun _ => none) v v) :
    ∃ ρ' h', Entry G W (n + 1) ρ' h' ∧ Le ρ ρ' ∧ VW ρ' (.slice (some ⟨n, 0, none⟩) len cap) (.slice (some a) len cap) ∧ h' = h.set n ⟨if cap = 0 then [] else cs, if cap = 0 then .dead else .ro⟩ := by
  have hn : ρ n = none := by
    have := e.r.dom n
    rw [e.fresh n (Nat.le_refl _)] at this
    cases hq : ρ n with
    | none => rfl
    | some L => rw [hq] at this; cases this
  by_cases h0 : cap = 0
  · subst h0
    refine ⟨_, _, e.add ⟨a.block, a.off, 0⟩ (B := ⟨[], .dead⟩) not_ours_dead (fun hl => absurd rfl hl), Map.add_le _ hn, .inr (.slice n 0 len 0 a 0 ⟨a.block, a.off, 0⟩ (Map.add_same _ _ _) ⟨fun _ => rfl, hlen, fun h => absurd rfl h, fun s hs _ => by omega⟩), by simp⟩
  · have hpos := hcs (by omega)
    obtain ⟨v0, hv0⟩ : ∃ v, cs[0]? = some v := ⟨cs[0], by simp [hpos]⟩
    have h00 := hc 0 v0 hv0
    -- the block
    have hblk : ∃ arr elem fz, W.heap[a.block]? = some (.cells arr elem fz) ∧ a.spot = none := by
      unfold Addr.add at h00
      simp only [if_true] at h00
      unfold World.cell? at h00
      split at h00
      · rename_i c _ _ hh
        refine ⟨_, _, _, hh, ?_⟩
        cases hr : a.spot with
        | none => rfl
        | some x => simp [hr] at h00
      · cases h00
    obtain ⟨arr, elem, fz, hb, hr⟩ := hblk
    obtain ⟨ab, ao, ar⟩ := a
    simp only at hb hr
    subst hr
    have hcell : ∀ i v, cs[i]? = some v → arr[ao + i]? = some v := by
      intro i v hi
      have := hc i v hi
      have hadd : Addr.add ⟨ab, ao, none⟩ i = ⟨ab, ao + i, none⟩ := by
        unfold Addr.add
        split
        · rename_i h; subst h; rfl
        · rfl
      rw [hadd] at this
      unfold World.cell? at this
      simp only [hb] at this
      simpa using this
    have hsz : ao + cs.length ≤ arr.size := by
      obtain ⟨u, hu⟩ : ∃ u, cs[cs.length - 1]? = some u := ⟨cs[cs.length - 1], by simp [hpos]⟩
      have := hcell _ _ hu
      have := (Array.getElem?_eq_some_iff.1 this).1
      omega
    refine ⟨_, _, e.add ⟨ab, ao, ao + cs.length⟩ (B := ⟨cs, .ro⟩) (not_ours_ro _) (fun _ => ⟨⟨arr, elem, fz, hb, fun h => absurd h (not_mine_ro _), hsz, fun i v hi => ⟨v, hcell i v hi, ?_⟩⟩, Nat.le_refl _, fun h => by cases h⟩), Map.add_le _ hn, .inr (.slice n 0 len cap _ cap _ (Map.add_same _ _ _) ⟨fun _ => rfl, hlen, fun _ => by simp, fun s hs _ => by omega⟩), by simp [h0]⟩
    exact (hv v (List.mem_of_getElem? hi)).mono fun _ _ h => by cases h

theorem sameAt_of_heap {W W' : World} (hk : ∀ k, k < W.heap.size → W'.heap[k]? = W.heap[k]?) {p : MemPlace} (hp : p.block < W.heap.size) : W.sameAt W' p := by
  cases p with
  | cell b o =>
    show W'.cell? ⟨b, o, none⟩ = W.cell? ⟨b, o, none⟩
    unfold World.cell?
    rw [show W'.heap[(⟨b, o, none⟩ : Addr).block]? = W.heap[(⟨b, o, none⟩ : Addr).block]? from hk b hp]
  | map b => exact hk b hp

theorem trodAll_carry {H' : Type} {enc : TypeId × Value → H'} {P : Program} {W W' : World} {base : Nat} {spare : Nat → Bool} {held : Bool} : ∀ {ts : List TypeId} {vs : List Value} {ds : List (DataW H')} {ps : List MemPlace},
    DataW.TrodAll enc P W base spare held ts vs ds ps → (∀ p ∈ ps, W.sameAt W' p) → DataW.TrodAll enc P W' base spare held ts vs ds ps
  | [], [], [], _, h, _ => h
  | _ :: _, _ :: _, _ :: _, _, ⟨p, q, ⟨n, h1⟩, h2, e⟩, hs =>
    ⟨p, q, ⟨n, DataW.trod_carry n _ _ _ h1 fun x hx => hs x (by rw [e]; exact List.mem_append_left _ hx)⟩, trodAll_carry h2 (fun x hx => hs x (by rw [e]; exact List.mem_append_right _ hx)), e⟩

theorem keptBut_of_heap {W W' : World} {may : MemPlace → Prop} (hk : ∀ k, k < W.heap.size → W'.heap[k]? = W.heap[k]?) (hos : W'.os = W.os) (hout : W'.output = W.output) : W.keptBut W' may := by
  refine ⟨hos, hout, fun i hi => ?_⟩
  rw [hk i hi]
  cases hq : W.heap[i]? with
  | none => rfl
  | some o =>
    cases o with
    | cells c t fr => exact ⟨rfl, rfl, rfl, fun _ _ => rfl⟩
    | map es clock => exact .inr ⟨rfl, rfl⟩
    | _ => rfl

/-- What the row asks behind the call of a law. -/
theorem law_post {H' : Type} {enc : TypeId × Value → H'} {P : Program} {f : Func} {s : ChangeSpec} {apart fresh handsOn : Bool} {W W' : World} {args : Array Value} {tb : TypeId} {ds : List (DataW H')} {before : List MemPlace}
    (hW : DataW.Whole enc P f.params.toList s.vars apart W args.toList ds [] before) (hvars : s.vars = []) (hfn : s.fn H' (ds ++ []) = { results := [.lit (.bool true)], args := ds })
    (hres : f.resultTypes = #[tb]) (hb : P.underlying tb = some .bool) (hk : ∀ k, k < W.heap.size → W'.heap[k]? = W.heap[k]?) (hos : W'.os = W.os) (hout : W'.output = W.output)
    (K : Kids P (· < P.types.size)) (hfull : ∀ t e, t < P.types.size → P.underlying t = some (.slice e) → 0 < P.cellsOf e) (hts : ∀ t ∈ f.params.toList, t < P.types.size) :
    s.post enc P f apart fresh handsOn false W args (.bool true) W' := by
  have hlt := hW.lt
  have hW0 := hW
  obtain ⟨p, q, h1, h2, h3, _, _⟩ := hW
  rw [hvars] at h2
  have hq : q = [] := h2
  subst hq
  rw [List.append_nil] at h3
  subst h3
  refine ⟨ds, [], before, [], before, [], hW0, ?_, ?_, ?_, keptBut_of_heap hk hos hout, fun h => by cases h⟩
  · rw [hfn, hres]
    exact Go.ChangeShapes.trodAll_mk1 (Go.RowKit.shut_bool hb true)
  · rw [hfn]
    exact trodAll_carry (DataW.TrodAll.respare K hfull hts h1 fun x hx => by simpa using hlt x hx) fun x hx => sameAt_of_heap hk (hlt x hx)
  · rw [hfn, hvars]
    rfl

/-- A call that gave true. -/
def gaveTrue : Option (Value × Nat × H) → Bool
  | some (.bool true, _, _) => true
  | _ => false
theorem gaveTrue_some {x : Option (Value × Nat × H)} (h : gaveTrue x = true) : ∃ n g, x = some (.bool true, n, g) := by
  unfold gaveTrue at h
  split at h
  · exact ⟨_, _, rfl⟩
  · cases h

/-- A law's call, out of the abstract one. -/
theorem law_calls {H' : Type} {enc : TypeId × Value → H'} {P : Program} {G g : Nat} {f : Func} {s : ChangeSpec} {apart fresh handsOn : Bool} {W : World} {args : Array Value} {tb : TypeId} {ds : List (DataW H')} {before : List MemPlace} {m : List Value → M Value}
    (hS : Sim P G g m) {n : Nat} {ρ : Map} {h : H} (he : Entry G W n ρ h) {vs : List Value} (hvs : WL ρ vs args.toList) {n' : Nat} {h' : H} (hm : m vs n h = some (.bool true, n', h'))
    (hW : DataW.Whole enc P f.params.toList s.vars apart W args.toList ds [] before) (hvars : s.vars = []) (hfn : s.fn H' (ds ++ []) = { results := [.lit (.bool true)], args := ds })
    (hres : f.resultTypes = #[tb]) (hb : P.underlying tb = some .bool)
    (K : Kids P (· < P.types.size)) (hfull : ∀ t e, t < P.types.size → P.underlying t = some (.slice e) → 0 < P.cellsOf e) (hts : (f.params.toList.all fun t => decide (t < P.types.size)) = true) :
    Calls P g args W fun e W' => ∃ v, e = .returned v ∧ s.post enc P f apart fresh handsOn false W args v W' := by
  have := hS.calls vs n h _ _ _ hm ρ W args.toList he.r hvs
  rw [Array.toArray_toList] at this
  refine this.mono fun e W' ⟨v', ρ', e1, e2, e3, e4⟩ => ?_
  have := e2.bool_inv
  subst this
  exact ⟨_, e1, law_post hW hvars hfn hres hb (fun k hk => e4.frame k hk (he.noOwn k)) e4.os e4.output K hfull (fun t ht => by simpa using List.all_eq_true.1 hts t ht)⟩

end Go.Fw
