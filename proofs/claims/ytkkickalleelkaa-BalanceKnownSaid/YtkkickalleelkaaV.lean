/- The walk of works. -/
import Derived.Test.YtkkickalleelkaaT
namespace Go.Proofs.Ytkkickalleelkaa
open Go.RowKit Go.Acre
attribute [local go_sem] run_store_float run_store_complex
def sA : ByteArray := ⟨#[97]⟩
def sB : ByteArray := ⟨#[98]⟩
def sC : ByteArray := ⟨#[99]⟩
def ceR (s : ByteArray) : Ce := ⟨s, ⟨#[]⟩, 0, false, ⟨#[]⟩⟩
theorem cells_alloc {w : World} (l : List Ce) (h : l.length ≤ 300) : CellsAt (w.alloc (.cells (flatC l).toArray 48)) (.slice (some ⟨w.heap.size, 0, none⟩) l.length l.length) l := by
  refine ⟨flatC_len l, _, _, rfl, Nat.le_refl _, by unfold maxLen; omega, (fun e => by cases e), fun _ => ⟨w.heap.size, 0, rfl, fun i hi => ?_⟩⟩
  rw [Nat.zero_add, cell_of_heap (heap_alloc (w := w) _) i]
  simp
theorem mid_works : midR ⟨#[]⟩ (dist (rowsOf ⟨#[]⟩ ⟨#[]⟩ [ceR sA, ceR sB, ceR sB, ceR sC])) = (sB, true) := by
  rw [dist_eq]
  decide +kernel
set_option maxHeartbeats 2000000 in
set_option maxRecDepth 100000 in
theorem works_any (w : World) : Calls Try.prog 13 #[] w (PureUpd (.bool true) w) := by
  go_enter Try.func13, Try.ntmps13
  go_wp2_with fail
  refine (three_any w).mono ?_
  rintro e w1 ⟨a, b, rfl, hl, hb, hbw, hu⟩
  have HL := Lib.hid hl
  have HB := Lib.hid hb
  have HQ := Lib.hid (CxAt.of_out hb)
  have HU := Lib.hid hu
  clear hl hb hu
  have HN : Hid (Calls Try.prog 16 #[.int .i64 3, .slice (some ⟨a, 0, none⟩) 3 3, .slice (some ⟨b, 0, none⟩) 3 3] w1 (NodesPost 3 (some acc3) w1)) := Lib.hid (nodes_any HL.out HQ.out (by omega) may3 (N := 3) (by omega) nodes3)
  go_wp2_with fail
  refine HN.out.mono ?_
  rintro e w2 ⟨g, rfl, hg1, hg2, hg3, hu2⟩
  have HG := Lib.hid hg3
  have HU2 := Lib.hid hu2
  have HP := Lib.hid (pick3 (c := 3) (d := 3) (HL.out.upd0 hu2) (HQ.out.upd0 hu2))
  clear hg2 hg3 hu2 HN
  go_wp2_with fail
  refine HP.out.mono ?_
  rintro e w3 ⟨rfl, hu3⟩
  simp only [agW, Option.isSome_some]
  go_upto_region 4 with fail
  have hx := heap_alloc (w := w3) (.cells #[.bool true, .int .i64 3, .string ⟨#[]⟩, .int .i64 2, .int .i64 0] 43)
  have hu4 : Upd (fun _ => False) w3 (w3.alloc (.cells #[.bool true, .int .i64 3, .string ⟨#[]⟩, .int .i64 2, .int .i64 0] 43)) := (Upd.refl _ w3).alloc _
  have HX := Lib.hid hx
  have HG4 := Lib.hid (hu4.keep (hu3.keep HG.out (fun f => f)) (fun f => f))
  have HU4 := Lib.hid (((HU.out.trans HU2.out (fun _ _ f => f)).trans hu3 (fun _ _ f => f)).trans hu4 (fun _ _ f => f))
  clear hx hu3 hu4 HP HG HU2
  generalize w3.alloc (.cells #[.bool true, .int .i64 3, .string ⟨#[]⟩, .int .i64 2, .int .i64 0] 43) = w4 at *
  generalize w3.heap.size = pb at *
  have hce := cells_alloc (w := w4) [ceR sA, ceR sB, ceR sB, ceR sC] (by simp)
  have hmd := middle_any hce (by intro f hf; simp only [List.mem_cons, List.not_mem_nil, or_false] at hf; rcases hf with rfl | rfl | rfl | rfl <;> exact ⟨by decide, by decide, by decide, by decide⟩) (by simp) ⟨#[]⟩ ⟨#[]⟩
  rw [mid_works] at hmd
  have HMD := Lib.hid hmd
  clear hce hmd
  go_wp2_with fail
  have HMD2 : Hid (Calls Try.prog 7 #[.slice (some ⟨w4.heap.size, 0, none⟩) 4 4, .agg #[.string ⟨#[]⟩, .string ⟨#[]⟩]] (w4.alloc (.cells #[.string ⟨#[97]⟩, .string ⟨#[]⟩, .int .u64 0, .bool false, .string ⟨#[]⟩, .string ⟨#[98]⟩, .string ⟨#[]⟩, .int .u64 0, .bool false, .string ⟨#[]⟩, .string ⟨#[98]⟩, .string ⟨#[]⟩, .int .u64 0, .bool false, .string ⟨#[]⟩, .string ⟨#[99]⟩, .string ⟨#[]⟩, .int .u64 0, .bool false, .string ⟨#[]⟩] 48)) (MidPost (⟨#[98]⟩, true) (w4.alloc (.cells #[.string ⟨#[97]⟩, .string ⟨#[]⟩, .int .u64 0, .bool false, .string ⟨#[]⟩, .string ⟨#[98]⟩, .string ⟨#[]⟩, .int .u64 0, .bool false, .string ⟨#[]⟩, .string ⟨#[98]⟩, .string ⟨#[]⟩, .int .u64 0, .bool false, .string ⟨#[]⟩, .string ⟨#[99]⟩, .string ⟨#[]⟩, .int .u64 0, .bool false, .string ⟨#[]⟩] 48)))) := HMD
  refine HMD2.out.mono ?_
  rintro e w5 ⟨rfl, hu5⟩
  have hu6 : Upd (fun _ => False) w4 w5 := ((Upd.refl _ w4).alloc _).trans hu5 (fun _ _ f => f)
  have HG5 := Lib.hid (hu6.keep HG4.out (fun f => f))
  have HX5 := Lib.hid (hu6.keep HX.out (fun f => f))
  have HU5 := Lib.hid (HU4.out.trans hu6 (fun _ _ f => f))
  clear hu5 hu6 HMD HMD2
  obtain ⟨b0, b1, b2, b3, b4⟩ := box5 HX5.out
  have g0 := cell_of_heap HG5.out 0
  have g1 := cell_of_heap HG5.out 1
  have g2 := cell_of_heap HG5.out 2
  simp only [outCells, acc3, cv, List.map_cons, List.map_nil, List.getElem?_toArray, List.getElem?_cons_zero, List.getElem?_cons_succ] at g0 g1 g2
  have o7 : FloatKind.f64.format.order 4619567317775286272 4619567317775286272 = some .eq := by decide +kernel
  have o5 : FloatKind.f64.format.order 4617315517961601024 4617315517961601024 = some .eq := by decide +kernel
  have o1 : FloatKind.f64.format.order 4607182418800017408 4607182418800017408 = some .eq := by decide +kernel
  have o0 : FloatKind.f64.format.order 0 0 = some .eq := by decide +kernel
  go_wp2_with fail
  have hld := load_any (cells_alloc (w := w5) [⟨⟨#[97]⟩, ⟨#[120]⟩, 0, false, ⟨#[118, 118]⟩⟩, ceR ⟨#[98]⟩] (by simp)) (by intro f hf; simp only [List.mem_cons, List.not_mem_nil, or_false] at hf; rcases hf with rfl | rfl <;> exact ⟨by decide, by decide, by decide, by decide⟩) (by simp) 7 (by omega)
  rw [show cxOf (loadP [⟨⟨#[97]⟩, ⟨#[120]⟩, 0, false, ⟨#[118, 118]⟩⟩, ceR ⟨#[98]⟩] 7) = .complex .f64 4617315517961601024 4619567317775286272 from by kernel_rfl] at hld
  refine Calls.mono hld ?_
  rintro e w6 ⟨rfl, hu6⟩
  go_wp2_with fail
  refine (unlike_works _).mono ?_
  rintro e w7 ⟨rfl, rfl⟩
  go_wp2_with fail
  go_ret
  exact ⟨rfl, (HU5.out.trans ((Upd.refl _ w5).alloc _) (fun _ _ f => f)).trans hu6 (fun _ _ f => f)⟩
end Go.Proofs.Ytkkickalleelkaa
