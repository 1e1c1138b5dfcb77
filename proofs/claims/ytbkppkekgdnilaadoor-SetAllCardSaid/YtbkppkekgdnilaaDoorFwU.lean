/-
  A program with one package variable, a table of bytes that a row lists.
-/
import Derived.Test.YtbkppkekgdnilaaDoorFwT
import Derived.LaidMore
import Derived.LaidLaws
import Derived.LaidHandle
import Derived.Stop.Joined
import Derived.SevenTiedAt
namespace Go.Fw

def baseH (cs : List Value) : H := H.leaf.set 0 ⟨cs, .ro⟩

theorem Entry.table {W : World} {cs : List Value} (hne : cs ≠ []) (hc : ∀ i v, cs[i]? = some v → W.cell? ⟨0, i, none⟩ = some v) (hv : ∀ v ∈ cs, VR (fun _ => none) v v) :
    Entry 1 W 1 (fun b => if b = 0 then some ⟨0, 0, cs.length⟩ else none) (baseH cs) := by
  have hget : ∀ b, (baseH cs).get b = if b = 0 then some ⟨cs, .ro⟩ else none := fun b => by
    unfold baseH; rw [H.get_set]; split <;> rfl
  have hpos : 0 < cs.length := List.length_pos_iff.2 hne
  -- the block
  obtain ⟨arr, elem, fz, hb⟩ : ∃ arr elem fz, W.heap[0]? = some (.cells arr elem fz) := by
    have h0 := hc 0 cs[0] (by simp [hpos])
    unfold World.cell? at h0
    split at h0
    · exact ⟨_, _, _, by assumption⟩
    · cases h0
  have hcell : ∀ i v, cs[i]? = some v → arr[i]? = some v := fun i v hi => by
    have := hc i v hi
    unfold World.cell? at this
    simp only [hb] at this
    simpa using this
  have hsz : cs.length ≤ arr.size := by
    have := hcell (cs.length - 1) cs[cs.length - 1] (by simp [hpos])
    have := (Array.getElem?_eq_some_iff.1 this).1
    omega
  refine ⟨⟨fun b => ?_, fun g hg => ⟨cs.length, by rw [if_pos (by omega)]; congr 2; omega⟩, fun b B L hB hl hL => ?_, fun b c B C L M _ _ hC _ hm => ?_⟩, fun b B hB => ?_, fun b hb => ?_⟩
  · rw [hget]; split <;> rfl
  · rw [hget] at hB
    split at hB
    · cases hB
      rename_i e
      subst e
      simp only [if_true, Option.some.injEq] at hL
      subst hL
      exact ⟨⟨arr, elem, fz, hb, fun h => absurd h (not_mine_ro _), hsz, fun i v hi => ⟨v, by rw [Nat.zero_add]; exact hcell i v hi, (hv v (List.mem_of_getElem? hi)).mono fun _ _ h => by cases h⟩⟩, by simp, fun h => by cases h⟩
    · cases hB
  · rw [hget] at hC
    split at hC
    · cases hC; exact absurd hm (not_mine_ro _)
    · cases hC
  · rw [hget] at hB
    split at hB
    · cases hB; exact not_mine_ro _
    · cases hB
  · rw [hget, if_neg (by omega)]

/-- The cells of a listed table of bytes. -/
theorem table_cells {P : Program} {W : World} {nm : String} {t e : TypeId} {ns : List Nat} (hg0 : P.globalNamed nm = some 0) (ht0 : (P.globals[0]?).map (·.type) = some t) (hu : P.underlying t = some (.array ns.length e)) (hc : P.cellsOf e = 1) (he : P.underlying e = some (.int .u8))
    (hH : ∀ w, laidMetH P [(nm, .agg (ns.map fun n : Nat => .lit (.int .u8 (n : Int))))] w → laidMet P [(nm, .agg (ns.map fun n : Nat => .lit (.int .u8 (n : Int))))] w) (h : laidMetH P [(nm, .agg (ns.map fun n : Nat => .lit (.int .u8 (n : Int))))] W) :
    ∀ i v, (ns.map fun n : Nat => Value.int .u8 (n : Int))[i]? = some v → W.cell? ⟨0, i, none⟩ = some v := by
  obtain ⟨ps, ⟨g0, t0, cs0, f0, p0, q0, hg, ht, hv0, hd0, _⟩, _⟩ := hH W h
  obtain rfl := Option.some.inj (hg0.symm.trans hg)
  obtain rfl := Option.some.inj (ht0.symm.trans ht)
  obtain ⟨xs, m, rfl, hx1, hlen, hn, hel⟩ := DataW.trod_array hu hd0
  intro i v hi
  simp only [Prod.mk.injEq, DataW.agg.injEq] at hx1
  have hil : i < ns.length := by
    have := (List.getElem?_eq_some_iff.1 hi).1
    simpa using this
  have h1 := hel i hil
  obtain ⟨y, hy⟩ : ∃ y, xs[i]? = some y := ⟨xs[i]'(by omega), by simp [hn, hil]⟩
  rw [hc, Nat.mul_one, hy] at h1
  obtain ⟨z, e1, e2, _⟩ := DataW.trod_int he h1
  have h2 : (ns.map fun n : Nat => (DataW.lit (.int .u8 (n : Int)) : DataW Unit))[i]? = some y.1 := by
    rw [hx1.1]; simp [hy]
  have hz : ns[i]? = some ns[i] := by simp [hil]
  simp only [List.getElem?_map, hz, Option.map_some, Option.some.injEq] at h2 hi
  rw [e2] at h2
  simp only [DataW.lit.injEq, Lit.int.injEq, true_and] at h2
  subst hi
  have h3 : (cs0.toList)[i]? = some (.int .u8 z) := by
    have h0 : ((cs0.toList.drop i).take 1)[0]? = some (Value.int .u8 z) := by rw [e1]; rfl
    simpa [List.getElem?_take, List.getElem?_drop] using h0
  have h4 := World.var?_cell hg hv0 i
  rw [h4]
  rw [← h2] at h3
  simpa using h3

end Go.Fw
