/- Pick and Nodes at the chapter's locs and loads. -/
import Derived.Test.YtkkickalleelkaaR
namespace Go.Proofs.Ytkkickalleelkaa
open Go.RowKit Go.Acre
def acc3 : List CX := [(4619567317775286272, 4607182418800017408), (4617315517961601024, 0), (4607182418800017408, 0)]
theorem nodes3 : nodesF 3 (List.replicate 3 (0, 0)) (ls3.zip qs3) = some (some acc3) := by decide +kernel
theorem may_q (q : CX) (b : Bool) (h : mayC q = b) (h1 : (geZ q.1 && leT q.1 && (floatToIntVal .f64 q.1 .u64).isNone) = false) (h2 : (geZ q.2 && leT q.2 && (floatToIntVal .f64 q.2 .u64).isNone) = false) : MayIs q.1 q.2 (mayC q) := by
  rw [h]
  exact may_of _ _ _ h h1 h2
theorem may3 : ∀ q ∈ qs3, MayIs q.1 q.2 (mayC q) := by
  intro q hq
  simp only [qs3, List.mem_cons, List.not_mem_nil, or_false] at hq
  rcases hq with rfl | rfl | rfl
  · exact may_q _ true (by decide +kernel) (by decide +kernel) (by decide +kernel)
  · exact may_q _ true (by decide +kernel) (by decide +kernel) (by decide +kernel)
  · exact may_q _ true (by decide +kernel) (by decide +kernel) (by decide +kernel)
def wa3 : List Nat := [4620693217682128896, 4617315517961601024, 4607182418800017408]
def wq3 : List Nat := [4617315517961601024, 4613937818241073152, 4607182418800017408]
theorem sums_of {qs : List CX} {ws : List Nat} (h : qs.length = ws.length) (h2 : (qs.zip ws).all (fun x => floatBits .add .f64 x.1.1 x.1.2 == some x.2) = true) : ∀ i (h1 : i < qs.length) (h2 : i < ws.length), floatBits .add .f64 qs[i].1 qs[i].2 = some ws[i] := by
  intro i h3 h4
  have := List.all_eq_true.1 h2 (qs[i], ws[i]) (by
    rw [List.mem_iff_getElem]
    exact ⟨i, by rw [List.length_zip]; omega, by rw [List.getElem_zip]⟩)
  simpa using this
theorem pick3 {w : World} {a b : Option Addr} {c d : Nat} (hl : LocsAt w a 3 ls3) (hq : CxAt w b 3 qs3) : Calls Try.prog 15 #[.int .i64 3, .slice a 3 c, .slice b 3 d] w (PickPost (some (3, 2, 0)) w) :=
  pick_any (N := 3) (heavy := 0) (light := 2) (room := 4619567317775286272) (best := 0) (wa := wa3) (wq := wq3) hl hq (by omega) may3 (by omega) nodes3 rfl (sums_of rfl (by decide +kernel)) rfl (sums_of rfl (by decide +kernel)) (by decide +kernel) (by decide +kernel) (by omega) (by omega) (by decide +kernel) (by decide +kernel) (by omega) rfl
end Go.Proofs.Ytkkickalleelkaa
