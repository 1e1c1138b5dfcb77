/-
  slices.SortFunc at slices of numbers, by their first ones, that are all different: out of the library's contract for it.
-/
import Derived.Test.YtddafkflndhnfaaDoorFwSort
import Derived.Shelf.SlSortCmp.Whole1
namespace Go.Fw
open Go.Sort Go.Shelf Go.Proofs

/-- Slices with their first numbers. -/
def keysM : List Value → M (List (Int × Value))
  | [] => ret []
  | .slice (some ⟨b, o, none⟩) len c :: r => if len = 0 then fail else bnd (rd b o) fun x => match x with
    | .int .i64 z => bnd (keysM r) fun l => ret ((z, .slice (some ⟨b, o, none⟩) len c) :: l)
    | _ => fail
  | _ :: _ => fail

def blkOf : Value → Nat
  | .slice (some ⟨b, _, _⟩) _ _ => b
  | _ => 0

/-- May it be sorted so? All numbers are small, all different, and no slice lies in the sorted one. -/
def keysOK (b : Nat) (ks : List (Int × Value)) : Bool :=
  ks.all (fun p => decide (-1000000 ≤ p.1 ∧ p.1 ≤ 1000000 ∧ blkOf p.2 ≠ b)) && decide ((ks.map (·.1)).Pairwise (· ≠ ·))

def sortByM (g : Nat) (x f : Value) : M Value :=
  match x, f with
  | .slice (some ⟨b, o, none⟩) n _, .func (.func g') fi cs => if n = 0 ∨ 1000000 < n ∨ g' ≠ g ∨ fi.size ≠ 0 ∨ cs.size ≠ 0 then fail else bnd (rdN b o n) fun vs =>
    bnd (keysM vs) fun ks => if keysOK b ks = true then bnd (wrN b o ((sortBy (·.1) ks).map (·.2))) fun _ => ret undef else fail
  | _, _ => fail
def sortByL (g : Nat) : List Value → M Value
  | [x, f] => sortByM g x f
  | _ => fail

/-- A slice in the world, and the number that it begins with. -/
structure KS (B lo hi : Nat) (w : World) where
  key : Int
  a : Addr
  len : Nat
  cap : Nat
  pos : len ≠ 0
  small : -1000000 ≤ key ∧ key ≤ 1000000
  plain : a.spot = none
  cell : w.cell? a = some (i64 key)
  off : a.block ≠ B ∨ a.off < lo ∨ hi ≤ a.off
def KS.enc {B lo hi : Nat} {w : World} (x : KS B lo hi w) : Value := .slice (some x.a) x.len x.cap

theorem keysM_some : ∀ {vs : List Value} {n n' : Nat} {h h' : H} {ks : List (Int × Value)}, keysM vs n h = some (ks, n', h') → n' = n ∧ h' = h ∧ ks.map (·.2) = vs ∧
    ∀ p, p ∈ ks → ∃ b o len c, p.2 = .slice (some ⟨b, o, none⟩) len c ∧ len ≠ 0 ∧ rd b o n h = some (i64 p.1, n, h)
  | [], n, n', h, h', ks, e => by
    simp only [keysM, ret, Option.some.injEq, Prod.mk.injEq] at e
    obtain ⟨rfl, rfl, rfl⟩ := e
    exact ⟨rfl, rfl, rfl, fun p hp => by cases hp⟩
  | v :: r, n, n', h, h', ks, e => by
    unfold keysM at e
    split at e
    · rename_i h1; cases h1
    · rename_i b o len c r' h1
      simp only [List.cons.injEq] at h1
      obtain ⟨rfl, rfl⟩ := h1
      split at e
      · cases e
      · rename_i hl
        replace e := bnd_some e
        obtain ⟨x, n1, h1, e1, e⟩ := e
        obtain ⟨rfl, rfl, _⟩ := rd_some e1
        try dsimp only at e
        split at e
        · rename_i z
          replace e := bnd_some e
          obtain ⟨l, n2, h2, e2, e⟩ := e
          obtain ⟨rfl, rfl, q1, q2⟩ := keysM_some e2
          simp only [ret, Option.some.injEq, Prod.mk.injEq] at e
          obtain ⟨rfl, rfl, rfl⟩ := e
          refine ⟨rfl, rfl, by rw [List.map_cons, q1], fun p hp => ?_⟩
          rcases List.mem_cons.1 hp with rfl | hp
          · exact ⟨b, o, len, c, rfl, hl, e1⟩
          · exact q2 p hp
        · cases e
    · cases e

section
variable {P : Program} {G : Nat} {ρ : Map} {h : H} {w : World}

theorem R.nonempty_slice {b o len c n : Nat} {v' : Value} {z : Int} (r : R G ρ h w) (hl : len ≠ 0) (e : Go.Fw.rd b o n h = some (i64 z, n, h)) (hv : VR ρ (.slice (some ⟨b, o, none⟩) len c) v') :
    ∃ L cap', ρ b = some L ∧ v' = .slice (some ⟨L.blk, L.off + o, none⟩) len cap' ∧ w.cell? ⟨L.blk, L.off + o, none⟩ = some (i64 z) := by
  obtain ⟨_, _, L, hL, u, hu, hc⟩ := r.rd e
  cases hu
  cases hv with
  | slice _ _ _ _ a' cap' L' hL' hs =>
    rw [hL] at hL'
    simp only [Option.some.injEq] at hL'
    subst hL'
    exact ⟨L, cap', hL, by rw [hs.at_ (by have := hs.le; omega)], hc⟩


theorem insBy_map {α β : Type} (k : β → Int) (f : α → β) (x : α) : ∀ l : List α, insBy k (f x) (l.map f) = (insBy (fun z => k (f z)) x l).map f
  | [] => rfl
  | y :: r => by
    rw [List.map_cons, insBy, insBy]
    split
    · rfl
    · rw [insBy_map k f x r]; rfl
theorem sortBy_map {α β : Type} (k : β → Int) (f : α → β) : ∀ l : List α, sortBy k (l.map f) = (sortBy (fun z => k (f z)) l).map f
  | [] => rfl
  | x :: r => by
    show insBy k (f x) (sortBy k (r.map f)) = _
    rw [sortBy_map k f r, insBy_map]; rfl
theorem insBy_congr {α : Type} {k k' : α → Int} {x : α} (hx : k x = k' x) : ∀ {l : List α}, (∀ z, z ∈ l → k z = k' z) → insBy k x l = insBy k' x l
  | [], _ => rfl
  | y :: r, h => by
    unfold insBy
    rw [hx, h y List.mem_cons_self, insBy_congr hx fun z hz => h z (List.mem_cons_of_mem _ hz)]
theorem sortBy_congr {α : Type} {k k' : α → Int} : ∀ {l : List α}, (∀ z, z ∈ l → k z = k' z) → sortBy k l = sortBy k' l
  | [], _ => rfl
  | x :: r, h => by
    unfold sortBy
    rw [sortBy_congr fun z hz => h z (List.mem_cons_of_mem _ hz)]
    exact insBy_congr (h x List.mem_cons_self) fun z hz => h z (List.mem_cons_of_mem _ ((sortBy_perm k' r).mem_iff.1 hz))

/-- The slices in the world, with those of the abstract heap. -/
theorem zipped {b o n N : Nat} {L : Loc} {B : Blk} (r : R G ρ h w) (hb : h.get b = some B) (hm : B.mine) (hL : ρ b = some L) (hle : o + N ≤ B.cells.length) : ∀ (ks : List (Int × Value)) (vs' : List Value), VL ρ (ks.map (·.2)) vs' →
    (∀ p, p ∈ ks → (∃ b o len c, p.2 = .slice (some ⟨b, o, none⟩) len c ∧ len ≠ 0 ∧ Go.Fw.rd b o n h = some (i64 p.1, n, h)) ∧ -1000000 ≤ p.1 ∧ p.1 ≤ 1000000 ∧ blkOf p.2 ≠ b) →
    ∃ zs : List ((Int × Value) × KS L.blk (L.off + o) (L.off + o + N) w), zs.map (·.1) = ks ∧ (zs.map Prod.snd).map KS.enc = vs' ∧ ∀ z, z ∈ zs → z.1.1 = z.2.key ∧ VR ρ z.1.2 z.2.enc
  | [], vs', hv, _ => by
    have : vs' = [] := List.eq_nil_of_length_eq_zero (by rw [← hv.1]; rfl)
    subst this
    exact ⟨[], rfl, rfl, fun z hz => by cases hz⟩
  | p :: ks, [], hv, _ => by have := hv.1; simp at this
  | p :: ks, v' :: vs', hv, hk => by
    obtain ⟨zs, h1, h2, h3⟩ := zipped (n := n) r hb hm hL hle ks vs' ⟨by have := hv.1; simpa using this, fun i u u' hu hu' => hv.2 (i + 1) u u' (by simpa using hu) (by simpa using hu')⟩ fun q hq => hk q (List.mem_cons_of_mem _ hq)
    obtain ⟨⟨bi, oi, len, c, e1, hl, er⟩, k1, k2, k3⟩ := hk p List.mem_cons_self
    have hvr : VR ρ p.2 v' := hv.2 0 _ _ rfl rfl
    have hvr0 := hvr
    rw [e1] at hvr
    obtain ⟨Li, cap', hLi, rfl, hc⟩ := r.nonempty_slice hl er hvr
    have hne : bi ≠ b := by rw [e1] at k3; exact k3
    obtain ⟨_, _, Bi, hbi, hli, hci⟩ := rd_some er
    have hfi := (r.blk bi Bi Li hbi hli hLi).fits
    have hff := (r.blk b B L hb hm.live hL).fits
    have hoi : oi < Bi.cells.length := (List.getElem?_eq_some_iff.1 hci).1
    have hap := r.apart bi b Bi B Li L hne hbi hb hli hm hLi hL
    have ko : Li.blk ≠ L.blk ∨ Li.off + oi < L.off + o ∨ L.off + o + N ≤ Li.off + oi := by omega
    refine ⟨(p, ⟨p.1, ⟨Li.blk, Li.off + oi, none⟩, len, cap', hl, ⟨k1, k2⟩, rfl, hc, ko⟩) :: zs, by rw [List.map_cons, h1], ?_, fun z hz => ?_⟩
    · rw [List.map_cons, List.map_cons, h2]; rfl
    · rcases List.mem_cons.1 hz with rfl | hz
      · exact ⟨rfl, hvr0⟩
      · exact h3 z hz

theorem cell_sortWorld {α : Type} [Inhabited α] {enc : α → Value} {B lo m : Nat} {d dk : Array α} {os : Array Obj} {a : Addr} {v : Value} (hH : Go.Sort.Holds enc w B lo d) (hk : dk.size = d.size) (hc : w.cell? a = some v) (ho : a.block ≠ B ∨ a.off < lo ∨ lo + d.size ≤ a.off) :
    (sortWorld enc w B lo m dk os).cell? a = some v := by
  unfold sortWorld
  rw [show dk = dk.toList.toArray by simp, Lib.sorted_world enc w B lo m d dk.toList os hH (by simpa using hk)]
  have hlt := World.block_lt_of_cell? _ _ hc
  obtain ⟨g1, g2, g3, g4, g5, g6⟩ := setCells_heap B (dk.toList.map enc) lo (w.drewN m)
  have hgr : (grow ((w.drewN m).setCells B lo (dk.toList.map enc)) os).heap[a.block]? = ((w.drewN m).setCells B lo (dk.toList.map enc)).heap[a.block]? := grow_at _ _ _ (by rw [g4]; exact hlt)
  unfold World.cell? at hc ⊢
  rw [hgr]
  by_cases hb : a.block = B
  · rw [hb] at hc ⊢
    split at hc
    · rename_i arr e fz ha
      obtain ⟨arr', q1, q2, q3⟩ := g6 arr e fz ha
      rw [q1]
      dsimp only
      split at hc
      · cases hc
      · rename_i hs
        rw [if_neg hs, q3, if_neg (by rw [List.length_map, Array.length_toList]; omega)]
        exact hc
    · cases hc
  · rw [g5 _ hb]; exact hc

theorem ltOf_key {α : Type} {k : α → Int} {x y : α} : ltOf (fun x y => k x - k y) x y = decide (k x < k y) := by
  unfold ltOf
  rw [decide_eq_decide]
  show k x - k y < 0 ↔ _
  omega
theorem SWO_key {α : Type} (k : α → Int) : SWO (ltOf fun x y => k x - k y) :=
  ⟨fun x => by rw [ltOf_key]; exact decide_eq_false (by omega), fun x y z h1 h2 => by rw [ltOf_key, decide_eq_true_eq] at *; omega,
    fun x y z h1 h2 => by rw [ltOf_key, decide_eq_false_iff_not] at *; omega⟩

/-- What is sorted by different numbers is sorted in one way. -/
theorem sorted_one {α : Type} [Inhabited α] {k : α → Int} {d d' : Array α} (hp : PermIn 0 d.size d d') (hs : SortedIn (ltOf fun x y => k x - k y) 0 d.size d') (hd : d.toList.Pairwise fun x y => k x ≠ k y) : d'.toList = sortBy k d.toList := by
  obtain ⟨hsz, _, hperm⟩ := hp
  have hP : d'.toList.Perm d.toList := by
    have e1 : d'.extract 0 d.size = d' := by rw [← hsz]; exact Array.extract_size
    rw [e1, Array.extract_size] at hperm
    exact hperm
  have huniq : ∀ x y, x ∈ d.toList → y ∈ d.toList → k x = k y → x = y := by
    intro x y hx hy he
    obtain ⟨i, hi, rfl⟩ := List.mem_iff_getElem.1 hx
    obtain ⟨j, hj, rfl⟩ := List.mem_iff_getElem.1 hy
    rcases Nat.lt_trichotomy i j with q | q | q
    · exact absurd he (List.pairwise_iff_getElem.1 hd i j hi hj q)
    · subst q; rfl
    · exact absurd he.symm (List.pairwise_iff_getElem.1 hd j i hj hi q)
  refine List.Perm.eq_of_pairwise (le := fun x y => k x ≤ k y) (fun x y hx hy h1 h2 => huniq x y (hP.mem_iff.1 hx) ((sortBy_perm k _).mem_iff.1 hy) (by omega)) ?_ (sortBy_pw k _) (hP.trans (sortBy_perm k _).symm)
  refine List.pairwise_iff_getElem.2 fun i j hi hj hij => ?_
  have hi' : i < d'.size := by simpa using hi
  have hj' : j < d'.size := by simpa using hj
  have h := hs i j (Nat.zero_le _) hij (by omega)
  rw [ltOf_key, decide_eq_false_iff_not] at h
  rw [getElem!_pos d' j hj', getElem!_pos d' i hi'] at h
  simp only [Array.getElem_toList]
  omega

/-- slices.SortFunc at slices of numbers, by their first ones. -/
theorem Sim.sortBy {ρr : Ren} {g : Nat} (L : SlLaysF.n6 P ρr) (enter : ∀ (args : Array Value) (w : World), (callFunc (ρr.f 6) args).run P w = .ok (.enter (ρr.f 6) args) w) (eg : ∀ (args : Array Value) (w : World), (callFunc g args).run P w = .ok (.enter g args) w)
    (hclo : ∀ (W : World) (ka kb : Int) (a b : Addr) (la ca lb cb : Nat), a.spot = none → b.spot = none → la ≠ 0 → lb ≠ 0 → W.cell? a = some (i64 ka) → W.cell? b = some (i64 kb) → (-1000000 ≤ ka ∧ ka ≤ 1000000) → (-1000000 ≤ kb ∧ kb ≤ 1000000) →
      Calls P g #[.slice (some a) la ca, .slice (some b) lb cb] W fun e w' => e = .returned (.int .i64 (ka - kb)) ∧ ∃ q, w' = W.drewN q) : Sim P G (ρr.f 6) (sortByL g) := by
  refine ⟨enter, fun args n h v n' h' e ρ w args' r wl => ?_⟩
  unfold sortByL at e
  split at e
  · rename_i x f
    unfold sortByM at e
    split at e
    · rename_i b o len cap g' fi cs
      split at e
      · cases e
      · rename_i hn
        obtain ⟨hn0, hn1, hg, hfi, hcs⟩ : len ≠ 0 ∧ len ≤ 1000000 ∧ g' = g ∧ fi.size = 0 ∧ cs.size = 0 := by
          simp only [not_or, Decidable.not_not] at hn
          exact ⟨hn.1, by omega, hn.2.2.1, hn.2.2.2.1, hn.2.2.2.2⟩
        subst hg
        replace e := bnd_some e
        obtain ⟨vs, n1, h1, e1, e⟩ := e
        obtain ⟨rfl, rfl, hk, Lb, hL, vs', hvl, hcell⟩ := r.rdN e1
        replace e := bnd_some e
        obtain ⟨ks, n2, h2, e2, e⟩ := e
        obtain ⟨rfl, rfl, hks, hkk⟩ := keysM_some e2
        split at e
        · rename_i hok
          unfold keysOK at hok
          rw [Bool.and_eq_true, List.all_eq_true, decide_eq_true_eq] at hok
          replace e := bnd_some e
          obtain ⟨u, n3, h3, e3, e⟩ := e
          obtain ⟨rfl, B, hb, hm, hle, _, _⟩ := wrN_some e3
          simp only [ret, Option.some.injEq, Prod.mk.injEq] at e
          obtain ⟨rfl, rfl, rfl⟩ := e
          subst hks
          have hlk : ks.length = len := by rw [← hk, List.length_map]
          have hsl : (Fw.sortBy (fun p : Int × Value => p.1) ks).length = len := by rw [(sortBy_perm _ ks).length_eq, hlk]
          rw [List.length_map, hsl] at hle
          obtain ⟨zs, z1, z2, z3⟩ := zipped (n := n3) (N := len) r hb hm hL hle ks vs' hvl fun p hp => ⟨hkk p hp, by have := of_decide_eq_true (hok.1 p hp); exact this⟩
          have hzl : zs.length = len := by
            have := congrArg List.length z1
            rw [List.length_map] at this
            omega
          -- the arguments in the world
          obtain ⟨hl, hw⟩ := wl
          match args', hl with
          | [x', f'], _ =>
            have hx := (hw 0 _ _ rfl rfl).strict rfl
            have hf := (hw 1 _ _ rfl rfl).strict rfl
            have hfc : f' = .func (.func g') #[] #[] := by
              cases hf with
              | func _ _ cs' hsz _ =>
                have : cs' = #[] := Array.eq_empty_of_size_eq_zero (by rw [← hsz]; exact hcs)
                subst this; rfl
            subst hfc
            cases hx with
            | slice _ _ _ _ a' cap' L' hL' hs =>
              rw [hL] at hL'
              simp only [Option.some.injEq] at hL'
              subst hL'
              have hcap : cap' ≠ 0 := by have := hs.le; omega
              rw [hs.at_ hcap]
              have hne : zs ≠ [] := fun e => by rw [e] at hzl; exact hn0 hzl.symm
              haveI : Inhabited (KS Lb.blk (Lb.off + o) (Lb.off + o + len) w) := ⟨(zs.head hne).2⟩
              have hds : (zs.map Prod.snd).toArray.size = len := by simp [hzl]
              have hcell' : ∀ j (hj : j < len), w.cell? ⟨Lb.blk, Lb.off + o + j, none⟩ = some ((zs.map Prod.snd)[j]'(by rw [List.length_map, hzl]; exact hj)).enc := fun j hj => hcell j _ (by
                rw [← z2, List.getElem?_map, List.getElem?_eq_getElem (by rw [List.length_map, hzl]; exact hj)]; rfl)
              have hH : Go.Sort.Holds KS.enc w Lb.blk (Lb.off + o) (zs.map Prod.snd).toArray := fun j hj => by
                have hj' : j < len := by rw [hds] at hj; exact hj
                refine ⟨?_, r.unfrozen hb hm hL _⟩
                rw [hcell' j hj', getElem!_pos _ j hj]
                simp
              have hblk : Lb.blk < w.heap.size := World.block_lt_of_cell? _ _ (hcell' 0 (by omega))
              have hcmp : CmpLays1 P g' #[] KS.enc (fun x y : KS Lb.blk (Lb.off + o) (Lb.off + o + len) w => x.key - y.key) Lb.blk (Lb.off + o) (zs.map Prod.snd).toArray.size w := fun m os dk hdk x y => by
                have hcw : ∀ z : KS Lb.blk (Lb.off + o) (Lb.off + o + len) w, (sortWorld KS.enc w Lb.blk (Lb.off + o) m dk os).cell? z.a = some (i64 z.key) := fun z =>
                  cell_sortWorld hH hdk z.cell (by rw [hds]; exact z.off)
                refine (hclo _ x.key y.key x.a y.a x.len x.cap y.len y.cap x.plain y.plain x.pos y.pos (hcw x) (hcw y) x.small y.small).mono ?_
                rintro e w' ⟨rfl, q, rfl⟩
                exact ⟨rfl, q, #[], by rw [grow_empty]⟩
              have hcall := Any.slices_SortFunc L KS.enc (fun _ => rfl) (fun x y : KS Lb.blk (Lb.off + o) (Lb.off + o + len) w => x.key - y.key) (SWO_key _) g' #[] Lb.blk (Lb.off + o) cap' (zs.map Prod.snd).toArray w eg hcmp hH hblk (by rw [hds]; omega)
              rw [hds] at hcall
              refine hcall.mono ?_
              rintro e w' ⟨rfl, d', q, os, hp, hso, rfl⟩
              have hkeys : ∀ z, z ∈ zs → z.1.1 = z.2.key := fun z hz => (z3 z hz).1
              have hd' : d'.toList = Fw.sortBy KS.key (zs.map Prod.snd) := by
                refine sorted_one (k := KS.key) (d := (zs.map Prod.snd).toArray) (d' := d') (by rw [hds]; exact hp) (by rw [hds]; exact hso) ?_
                have := hok.2
                rw [← z1, List.map_map] at this
                rw [List.pairwise_map] at this
                rw [show (zs.map Prod.snd).toArray.toList = zs.map Prod.snd from rfl, List.pairwise_map]
                refine List.Pairwise.imp_of_mem (fun {a b} ha hb h => ?_) this
                rw [← hkeys a ha, ← hkeys b hb]; exact h
              have hvl2 : VL ρ ((Fw.sortBy (fun p : Int × Value => p.1) ks).map (·.2)) (d'.toList.map KS.enc) := by
                rw [hd', ← z1, sortBy_map, sortBy_map, sortBy_congr (k := fun z : (Int × Value) × KS Lb.blk (Lb.off + o) (Lb.off + o + len) w => z.1.1) (k' := fun z => z.2.key) hkeys, List.map_map, List.map_map]
                refine ⟨by rw [List.length_map, List.length_map], fun i a a' ha ha' => ?_⟩
                rw [List.getElem?_map, Option.map_eq_some_iff] at ha ha'
                obtain ⟨z, hz, rfl⟩ := ha
                obtain ⟨z', hz', rfl⟩ := ha'
                rw [hz] at hz'
                simp only [Option.some.injEq] at hz'
                subst hz'
                exact (z3 z ((sortBy_perm _ zs).mem_iff.1 (List.mem_of_getElem? hz))).2
              have hdl : d'.toList.length = (zs.map Prod.snd).toArray.size := by
                have := hp.1
                rw [Array.length_toList]; exact this
              unfold sortWorld
              rw [show d' = d'.toList.toArray by simp, Lib.sorted_world KS.enc w Lb.blk (Lb.off + o) q (zs.map Prod.snd).toArray d'.toList os hH hdl]
              have rq : R G ρ _ (w.drewN q) := r.heapMore fun k hk => rfl
              obtain ⟨_, L2, hL2, r2, x2, _, _, _⟩ := rq.wrN e3 hvl2
              rw [hL] at hL2
              simp only [Option.some.injEq] at hL2
              subst hL2
              refine ⟨_, ρ, rfl, .inl (.inl rfl), r2.heapMore fun k hk => grow_at _ _ _ hk, ?_⟩
              exact ((Ext.heapMore (w := w) (w' := w.drewN q) (Nat.le_refl _) (fun _ _ => rfl) rfl rfl rfl).trans x2).trans (Ext.heapMore (grow_size _ _) (fun k hk => grow_at _ _ _ hk) rfl rfl rfl)
        · cases e
    · cases e
  · cases e

end
end Go.Fw
