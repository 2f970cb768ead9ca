/- Slices of strings and of integers that came in, read as lists. -/
import Derived.Test.YtkkickalleelkaaL
import Derived.SliceStrings
import Derived.OpenShut
import Derived.ProofKit
namespace Go.Acre
open Go.ChangeShapes Go.WideShapes Go.RowKit
theorem StrsAt_of_cells {w : World} {x : Addr} {len cap : Nat} {ss : List ByteArray} (hl : len ≤ cap) (hm : cap ≤ maxLen) (hz : len ≤ ss.length)
    (hc : ∀ i, i < ss.length → w.cell? (x.add i) = some (.string (ss.getD i ByteArray.empty))) : StrsAt w (.slice (some x) len cap) (ss.take len) := by
  have hlen : (ss.take len).length = len := by simp; omega
  refine ⟨by simp, some x, cap, by rw [hlen], by omega, hm, fun e => (by cases e), fun hne => ?_⟩
  have hpos : 0 < ss.length := by
    rcases Nat.eq_zero_or_pos ss.length with h0 | h0
    · exact absurd (by simp [List.eq_nil_of_length_eq_zero h0]) hne
    · exact h0
  obtain ⟨b, off, spot⟩ := x
  have hspot : spot = none := by simpa [Addr.add] using World.cell?_spot (hc 0 hpos)
  subst hspot
  refine ⟨b, off, rfl, fun i hi => ?_⟩
  simp only [List.length_map, hlen] at hi
  have h5 := hc i (by omega)
  have hadd : (⟨b, off, none⟩ : Addr).add i = ⟨b, off + i, none⟩ := by unfold Addr.add; split <;> simp_all
  rw [hadd] at h5
  rw [h5]
  simp [List.getD, List.getElem?_take, hi, show i < ss.length by omega]
theorem StrsAt_open {H : Type} {enc : TypeId × Value → H} {P : Program} {w : World} {base : Nat} {spare : Nat → Bool} {held : Bool} {t e : TypeId} {fuel len cap : Nat} {a : Option Addr} {x : DataW H × List MemPlace}
    (ht : P.underlying t = some (.slice e)) (he : P.underlying e = some .string) (hc : P.cellsOf e = 1) (h : DataW.trod enc P w base spare held fuel t (Value.slice a len cap).cells.toList = some x) :
    ∃ ss, StrsAt w (.slice a len cap) ss ∧ len = ss.length ∧ ∀ s ∈ ss, s.size ≤ maxLen := by
  rcases open_strings ht he hc h with ⟨hcs, _⟩ | ⟨ad, l, c, ss, hcs, _, hl, hm, hz, _, hcell, hsz⟩
  · simp [Value.cells] at hcs
    obtain ⟨rfl, rfl, rfl⟩ := hcs
    exact ⟨[], StrsAt.nil w, rfl, by simp⟩
  · simp [Value.cells] at hcs
    obtain ⟨rfl, rfl, rfl⟩ := hcs
    have hlen : len ≤ ss.length := by rw [hz]; split <;> omega
    exact ⟨ss.take len, StrsAt_of_cells hl hm hlen hcell, by simp; omega, fun s hs => hsz s (List.mem_of_mem_take hs)⟩
theorem IntsAt_open {H : Type} {enc : TypeId × Value → H} {P : Program} {w : World} {base : Nat} {held : Bool} {k : IntKind} {t e : TypeId} {fuel len cap : Nat} {a : Option Addr} {x : DataW H × List MemPlace}
    (ht : P.underlying t = some (.slice e)) (he : P.underlying e = some (.int k)) (hc : P.cellsOf e = 1) (h : DataW.trod enc P w base (fun _ => true) held fuel t (Value.slice a len cap).cells.toList = some x) :
    ∃ zs, IntsAt k w (.slice a len cap) zs ∧ len = zs.length ∧ ∀ n ∈ zs, (Lit.int k n).wf = true := by
  rcases open_ints ht he hc h with ⟨hcs, _⟩ | ⟨x, l, c, zs, hcs, _, hl, hm, hz, _, hcell, hwz⟩
  · simp [Value.cells] at hcs
    obtain ⟨rfl, rfl, rfl⟩ := hcs
    exact ⟨[], IntsAt.nil k w, rfl, by simp⟩
  · simp [Value.cells] at hcs
    obtain ⟨rfl, rfl, rfl⟩ := hcs
    have hz' : zs.length = cap := by simpa using hz
    have := IntsAt_of_row (k := k) (w := w) (a := some x) (len := len) (cap := cap) (zs := zs) (.inr ⟨x, rfl, hl, hm, hz', hcell, hwz⟩)
    exact ⟨zs.take len, this.1, by simp; omega, this.2⟩
end Go.Acre
