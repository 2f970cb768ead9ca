/- works answers true and turns nothing that was there. -/
import Derived.Test.YtilojboanilpbaaE
namespace Go.Proofs.Ytilojboanilpbaa
open Go.RowKit Go.Acre

theorem next_of (n : Int) (w : World) (B : Nat) (bs : List Int) (v : Int) (r : List Int) (h : BoxAt 37 B w bs) (hr : nextM bs n = (v, r)) (hb : ∀ x ∈ bs, 0 ≤ x ∧ x < 256) (hlen : bs.length ≤ 100000) :
    Calls Try.prog 10 #[.pointer (some ⟨B, 0, none⟩), .int .i64 n] w (fun e w' => e = .returned (.int .i64 v) ∧ BoxAt 37 B w' r ∧ Upd (fun i => i = B) w w') := by
  have := next_any n w B bs h hb hlen
  rw [hr] at this
  exact this

def Fresh (b : Bool) (w : World) (e : Ending) (w' : World) : Prop := e = .returned (.bool b) ∧ Upd (fun _ => False) w w'

theorem ints_alloc {w : World} {k : IntKind} {t : TypeId} (zs : List Int) (h : zs.length ≤ 1000000) : IntsAt k (w.alloc (.cells (zs.map (.int k)).toArray t)) (.slice (some ⟨w.heap.size, 0, none⟩) zs.length zs.length) zs := by
  refine IntsAt.mk rfl (Nat.le_refl _) (by unfold maxLen; omega) (fun i hi => ?_)
  rw [cell_of_heap (heap_alloc _)]
  simp [List.getD, hi]

set_option maxRecDepth 100000 in
theorem works_any (w : World) : Calls Try.prog 11 #[] w (Fresh true w) := by
  go_enter Try.func11, Try.ntmps11
  go_wp2_with fail
  refine (new_any _ [7, 255, 1, 2] _ (ints_alloc _ (by simp)) (by simp)).mono ?_
  rintro e w1 ⟨B, rfl, hB, hbox, hu⟩
  have hu0 := ((Upd.refl (fun _ => False) w).alloc (.cells ([7, 255, 1, 2].map (.int .u8)).toArray 5)).trans hu (fun _ _ h => h)
  have hBw : w.heap.size ≤ B := by simp at hB; omega
  clear hu hB
  go_wp2_with fail
  refine (next_of 4 _ B _ 3 [255, 1, 2] hbox rfl (by simp) (by simp)).mono ?_
  rintro e w2 ⟨rfl, hbox2, hu2⟩
  have hu02 := hu0.trans hu2 (fun i hi e => by omega)
  clear hbox hu0 hu2
  go_wp2_with fail
  refine (next_of 1 _ B _ 0 [255, 1, 2] hbox2 rfl (by simp) (by simp)).mono ?_
  rintro e w3 ⟨rfl, hbox3, hu3⟩
  have hu03 := hu02.trans hu3 (fun i hi e => by omega)
  clear hbox2 hu02 hu3
  go_wp2_with fail
  refine (next_of 256 _ B _ 255 [1, 2] hbox3 rfl (by simp) (by simp)).mono ?_
  rintro e w4 ⟨rfl, hbox4, hu4⟩
  have hu04 := hu03.trans hu4 (fun i hi e => by omega)
  clear hbox3 hu03 hu4
  go_wp2_with fail
  refine (next_of 300 _ B _ 258 [] hbox4 rfl (by simp) (by simp)).mono ?_
  rintro e w5 ⟨rfl, hbox5, hu5⟩
  have hu05 := hu04.trans hu5 (fun i hi e => by omega)
  clear hbox4 hu04 hu5
  go_wp2_with fail
  refine (left_any B [] _ hbox5).mono ?_
  rintro e w6 ⟨rfl, rfl⟩
  go_wp2_with fail
  go_ret
  exact ⟨rfl, hu05⟩
end Go.Proofs.Ytilojboanilpbaa
