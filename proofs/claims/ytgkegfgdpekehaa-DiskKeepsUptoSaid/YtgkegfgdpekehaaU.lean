/- A slice of strings that came in, read as a list, with its datum. -/
import Derived.Test.YtgkegfgdpekehaaS
namespace Go.Acre
open Go.ChangeShapes Go.WideShapes Go.RowKit
theorem StrsAt_open2 {H : Type} {enc : TypeId × Value → H} {P : Program} {w : World} {base : Nat} {spare : Nat → Bool} {held : Bool} {t e : TypeId} {fuel len cap : Nat} {a : Option Addr} {d : DataW H} {ps : List MemPlace}
    (ht : P.underlying t = some (.slice e)) (he : P.underlying e = some .string) (hc : P.cellsOf e = 1) (h : DataW.trod enc P w base spare held fuel t (Value.slice a len cap).cells.toList = some (d, ps)) :
    ∃ ss r, StrsAt w (.slice a len cap) ss ∧ len = ss.length ∧ (d = .slice (strs ss) r ∨ ss = []) := by
  rcases open_strings ht he hc h with ⟨hcs, _⟩ | ⟨ad, l, c, ss, hcs, _, hl, hm, hz, hx, hcell, hsz⟩
  · simp [Value.cells] at hcs
    obtain ⟨rfl, rfl, rfl⟩ := hcs
    exact ⟨[], [], StrsAt.nil w, rfl, .inr rfl⟩
  · simp [Value.cells] at hcs
    obtain ⟨rfl, rfl, rfl⟩ := hcs
    have hlen : len ≤ ss.length := by rw [hz]; split <;> omega
    simp only [Prod.mk.injEq] at hx
    exact ⟨ss.take len, _, StrsAt_of_cells hl hm hlen hcell, by simp; omega, .inl hx.1⟩
end Go.Acre
