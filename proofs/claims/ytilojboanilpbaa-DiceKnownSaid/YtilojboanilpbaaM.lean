/- The walk of DiceKnown: the chapter's examples. -/
import Derived.Test.YtilojboanilpbaaK
namespace Go.Proofs.Ytilojboanilpbaa
open Go.RowKit Go.Acre

theorem box_kept {T B : Nat} {w w' : World} {bs : List Int} (h : BoxAt T B w bs) (hu : Upd (fun _ => False) w w') : BoxAt T B w' bs := by
  obtain ⟨v, hv, hi⟩ := h
  exact ⟨v, hu.keep hv (fun f => f), hi.upd0 hu⟩
theorem box_lt {T B : Nat} {w : World} {bs : List Int} (h : BoxAt T B w bs) : B < w.heap.size := by
  obtain ⟨v, hv, hi⟩ := h
  exact lt_of_heap hv

theorem known_lay : strOfNums (layM [1, 256, -1, 300]) = ⟨#[1, 0, 255, 44]⟩ := by decide

set_option maxHeartbeats 4000000 in
set_option maxRecDepth 100000 in
theorem known_walk (w : World) : Calls Try.prog 7 #[] w (Fresh true w) := by
  go_enter Try.func7, Try.ntmps7
  go_wp2_with fail
  refine (new_any _ [7] _ (ints_alloc _ (by simp)) (by simp)).mono ?_
  rintro e w1 ⟨A, rfl, hA, hbA, hu⟩
  have hu0 := ((Upd.refl (fun _ => False) w).alloc (.cells ([7].map (.int .u8)).toArray 5)).trans hu (fun _ _ h => h)
  have hA2 : w.heap.size ≤ A := by simp at hA; omega
  clear hu hA
  go_wp2_with fail
  refine (new_any _ [] _ (IntsAt.nil _ _) (by simp)).mono ?_
  rintro e w2 ⟨B, rfl, hB, hbB, hu⟩
  have hbA1 := box_kept hbA hu
  have hAB : ¬ A = B := by have := box_lt hbA; omega
  have hB2 : w.heap.size ≤ B := by have := hu0.size; omega
  have hu1 := hu0.trans hu (fun _ _ h => h)
  clear hu hu0 hB hbA
  go_wp2_with fail
  refine (new_any _ [255, 255, 255, 255] _ (ints_alloc _ (by simp)) (by simp)).mono ?_
  rintro e w3 ⟨C, rfl, hC, hbC, hu⟩
  have hua := ((Upd.refl (fun _ => False) w2).alloc (.cells ([255, 255, 255, 255].map (.int .u8)).toArray 5)).trans hu (fun _ _ h => h)
  have hbA2 := box_kept hbA1 hua
  have hbB2 := box_kept hbB hua
  have hC1 : w2.heap.size ≤ C := by simp at hC; omega
  have hAC : ¬ A = C := by have := box_lt hbA1; omega
  have hBC : ¬ B = C := by have := box_lt hbB; omega
  have hC2 : w.heap.size ≤ C := by have := hu1.size; omega
  have hu2 := hu1.trans hua (fun _ _ h => h)
  clear hu hu1 hC hC1 hbA1 hbB hua
  go_wp2_with fail
  refine (next_of 300 _ A _ 0 [] hbA2 rfl (by simp) (by simp)).mono ?_
  rintro e w4 ⟨rfl, hA3, hu⟩
  have hB3 := box_other hbB2 hbA2 hu (fun h => hAB h.symm)
  have hC3 := box_other hbC hbA2 hu (fun h => hAC h.symm)
  have hu3 := hu2.trans hu (fun i hi e => by omega)
  clear hu hu2 hbA2 hbB2 hbC
  go_wp2_with fail
  refine (left_any A [] _ hA3).mono ?_
  rintro e w5 ⟨rfl, rfl⟩
  go_wp2_with fail
  refine (next_of 5 _ B _ 0 [] hB3 rfl (by simp) (by simp)).mono ?_
  rintro e w5 ⟨rfl, hB4, hu⟩
  have hC4 := box_other hC3 hB3 hu (fun h => hBC h.symm)
  have hu4 := hu3.trans hu (fun i hi e => by omega)
  clear hu hu3 hA3 hB3 hC3 hB4
  go_wp2_with fail
  refine (next_of 65536 _ C _ 65535 [255, 255] hC4 rfl (by simp) (by simp)).mono ?_
  rintro e w6 ⟨rfl, hC5, hu⟩
  have hu5 := hu4.trans hu (fun i hi e => by omega)
  clear hu hu4 hC4
  go_wp2_with fail
  refine (next_of 1099511627776 _ C _ 65535 [] hC5 rfl (by simp) (by simp)).mono ?_
  rintro e w7 ⟨rfl, hC6, hu⟩
  have hu6 := hu5.trans hu (fun i hi e => by omega)
  clear hu hu5 hC5 hC6
  go_wp2_with fail
  refine (lay_any _ [1, 256, -1, 300] _ (ints_alloc _ (by simp)) (by simp) (by simp)).mono ?_
  rintro e w8 ⟨v8, rfl, hv8, hu⟩
  have hua := ((Upd.refl (fun _ => False) w7).alloc (.cells ([1, 256, -1, 300].map (.int .i64)).toArray 3)).trans hu (fun _ _ h => h)
  have hu7 := hu6.trans hua (fun _ _ h => h)
  have c1 := convert_ints (P := Try.prog) hv8 22 9 5 Try.underlying22 Try.underlying5 Try.underlying9
  rw [known_lay] at c1
  clear hu hua hu6 hv8
  go_wp2_with fail
  refine (lay_any _ [] _ (IntsAt.nil _ _) (by simp) (by simp)).mono ?_
  rintro e w9 ⟨v9, rfl, hv9, hu⟩
  have hu8 := hu7.trans hu (fun _ _ h => h)
  obtain ⟨a9, c9, rfl⟩ := hv9.slice
  clear hu hu7 hv9 c1
  go_wp2_with fail
  refine (next_nil 9 _).mono ?_
  rintro e w10 ⟨rfl, rfl⟩
  go_wp2_with fail
  refine (left_nil _).mono ?_
  rintro e w10 ⟨rfl, rfl⟩
  go_wp2_with fail
  refine (copy_nil _).mono ?_
  rintro e w10 ⟨rfl, rfl⟩
  go_wp2_with fail
  refine (works_any _).mono ?_
  rintro e w11 ⟨rfl, hu⟩
  have huf := hu8.trans hu (fun _ _ h => h)
  clear hu hu8
  go_wp2_with fail
  go_ret
  exact ⟨rfl, huf⟩
end Go.Proofs.Ytilojboanilpbaa
