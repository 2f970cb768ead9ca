/- The walks of Same and of the law's works. -/
import Derived.Test.YtgkegfgdpekehaaGreatH
namespace Go.Proofs.YtgkegfgdpekehaaGreat
open Go.RowKit Go.Acre

def SamePost (b : Bool) (w : World) (e : Ending) (w' : World) : Prop := e = .returned (.bool b) ∧ Upd (fun _ => False) w w'
theorem take_next {α : Type} {a b : List α} {k : Nat} (ha : k < a.length) (hb : k < b.length) (h : a.take k = b.take k) (e : a[k] = b[k]) : a.take (k + 1) = b.take (k + 1) := by
  rw [List.take_succ_eq_append_getElem ha, List.take_succ_eq_append_getElem hb, h, e]

theorem works_sum : Crc.sum (cat [⟨#[49, 50, 51, 52, 53, 54, 55, 56, 57]⟩]) = 3421780262 := by kernel_rfl
theorem works_frame : frameB ⟨#[]⟩ = ⟨#[0, 0, 0, 0, 28, 223, 68, 33]⟩ := by kernel_rfl
theorem works_open : openM (frameB ⟨#[]⟩ ++ ⟨#[120]⟩) = some (⟨#[]⟩, 8) := openM_frame (body := ⟨#[]⟩) (by decide)

end Go.Proofs.YtgkegfgdpekehaaGreat
