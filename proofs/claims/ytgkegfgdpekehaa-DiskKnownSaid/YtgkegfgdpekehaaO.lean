/- Bytes that make has zeroed; the walk of the law SealKnown. -/
import Derived.Test.YtgkegfgdpekehaaJ
import Derived.Laws.MakeOwn
import Derived.Laws.OwnMore
namespace Go.Proofs.Ytgkegfgdpekehaa
open Go.RowKit Go.Acre

theorem info5 : (Try.prog.info? 5).map (fun i => (i.zero, i.size, i.bytes)) = some (some (.int .u8 0), 1, 1) := by kernel_rfl
/-- n noughts -/
def zeros (n : Nat) : ByteArray := strOfNums (List.replicate n 0)
theorem zeros_size (n : Nat) : (zeros n).size = n := by simp [zeros, strOfNums_size]
theorem nums_zeros (n : Nat) : ∀ b ∈ nums (zeros n), b = 0 := by
  intro b hb
  simp only [nums, zeros, strOfNums_data, List.map_map, List.mem_map] at hb
  obtain ⟨x, hx, rfl⟩ := hb
  rw [List.eq_of_mem_replicate hx]
  rfl
def zcells (n : Nat) : Array Value := madeCells #[.int .u8 0] n
theorem made (n : Nat) (hn : n ≤ 100000000) (u : World) : (Instr.makeSlice 34 (.int .i64 (n : Int)) (.int .i64 (n : Int))).run Try.prog u = .ok (.slice (some ⟨u.heap.size, 0, none⟩) n n) (u.alloc (.cells (zcells n) 5)) := by
  obtain ⟨i0, hi, hz0, hz1, hz2⟩ := info_parts info5
  have h := run_make (P := Try.prog) u 34 5 i0 (.int .u8 0) Try.underlying34 hi hz0 .i64 .i64 (n : Int) (n : Int) (by omega) (Int.le_refl _) (by rw [hz2]; omega) (by omega)
  rw [Int.toNat_natCast, hz1, Nat.mul_one] at h
  exact h
theorem made_conv (n : Nat) (hn : n ≤ 100000000) (u : World) : (convert 34 9 (.slice (some ⟨u.heap.size, 0, none⟩) n n)).run Try.prog (u.alloc (.cells (zcells n) 5)) = .ok (.string (zeros n)) (u.alloc (.cells (zcells n) 5)) := by
  refine convert_ints (IntsAt.mk (zs := List.replicate n 0) (by simp) (by simp) (by unfold maxLen; omega) fun i hi => ?_) 34 9 5 Try.underlying34 Try.underlying5 Try.underlying9
  simp only [List.length_replicate] at hi
  rw [cell_of_heap (heap_alloc _), Nat.zero_add, zcells, ← Array.getElem?_toList, toList_madeCells_one]
  simp [hi]

theorem known_bad : openM (⟨#[0, 16, 0, 1]⟩ ++ zeros 40) = none := by kernel_rfl
theorem known_a : frameB ⟨#[97]⟩ = ⟨#[0, 0, 0, 1, 146, 151, 140, 229, 97]⟩ := by kernel_rfl
theorem known_scan : scanR (frameB ⟨#[]⟩ ++ frameB ⟨#[97]⟩ ++ ⟨#[0, 0]⟩) = ([⟨#[]⟩, ⟨#[97]⟩], 17) := by
  rw [str_append_assoc, scanR_frame (by decide), scanR_frame (by decide), scanR_none (openM_short (by decide))]
  rfl
theorem known_sum : Crc.sum (cat [⟨#[49, 50, 51, 52]⟩, ⟨#[53, 54, 55, 56, 57]⟩]) = 3421780262 := by kernel_rfl
theorem known_nosum : Crc.sum (cat []) = 0 := by kernel_rfl

set_option maxHeartbeats 4000000 in
set_option maxRecDepth 100000 in
theorem known_walk (w : World) : Calls Try.prog 10 #[] w (SamePost true w) := by
  obtain ⟨g, hg⟩ : ∃ g, g = frameB ⟨#[97]⟩ := ⟨_, rfl⟩
  have HG := Lib.hid hg
  have hgs : g.size = 9 := by rw [hg]; rfl
  have hgl : 8 < g.size := by omega
  have hgb : (g[8].toNat : Int) = 97 := by
    subst hg
    rfl
  clear hg
  obtain ⟨f, hf⟩ : ∃ f, f = frameB ⟨#[]⟩ := ⟨_, rfl⟩
  have HF := Lib.hid hf
  have HSC : Hid (scanR (f ++ g ++ ⟨#[0, 0]⟩) = ([⟨#[]⟩, ⟨#[97]⟩], 17)) := by rw [hf, HG.out]; exact known_scan
  have hsz : Hid ((f ++ g ++ ⟨#[0, 0]⟩).size ≤ 1099511627776) := by show _ ≤ _; rw [hf, HG.out]; decide
  have hfs : f.size = 8 := by rw [hf]; rfl
  clear hf
  have m7 : ∀ u : World, (Instr.makeSlice 34 (.int .i64 7) (.int .i64 7)).run Try.prog u = .ok (.slice (some ⟨u.heap.size, 0, none⟩) 7 7) (u.alloc (.cells (zcells 7) 5)) := made 7 (by decide)
  have c7 := made_conv 7 (by decide)
  have m8 : ∀ u : World, (Instr.makeSlice 34 (.int .i64 8) (.int .i64 8)).run Try.prog u = .ok (.slice (some ⟨u.heap.size, 0, none⟩) 8 8) (u.alloc (.cells (zcells 8) 5)) := made 8 (by decide)
  have c8 := made_conv 8 (by decide)
  have m40 : ∀ u : World, (Instr.makeSlice 34 (.int .i64 40) (.int .i64 40)).run Try.prog u = .ok (.slice (some ⟨u.heap.size, 0, none⟩) 40 40) (u.alloc (.cells (zcells 40) 5)) := made 40 (by decide)
  have c40 := made_conv 40 (by decide)
  have m77 : ∀ u : World, (Instr.makeSlice 34 (.int .i64 1048577) (.int .i64 1048577)).run Try.prog u = .ok (.slice (some ⟨u.heap.size, 0, none⟩) 1048577 1048577) (u.alloc (.cells (zcells 1048577) 5)) := made 1048577 (by decide)
  have c77 := made_conv 1048577 (by decide)
  have m76 : ∀ u : World, (Instr.makeSlice 34 (.int .i64 1048576) (.int .i64 1048576)).run Try.prog u = .ok (.slice (some ⟨u.heap.size, 0, none⟩) 1048576 1048576) (u.alloc (.cells (zcells 1048576) 5)) := made 1048576 (by decide)
  have c76 := made_conv 1048576 (by decide)
  have s77 := zeros_size 1048577
  have s76 := zeros_size 1048576
  have s40 := zeros_size 40
  have n7 : Hid (openM (zeros 7) = none) := openM_noughts (nums_zeros 7)
  have n8 : Hid (openM (zeros 8) = none) := openM_noughts (nums_zeros 8)
  have n40 := Lib.hid known_bad
  have z7 : Hid ((zeros 7).size ≤ 9223372036854775807) := by show _ ≤ _; rw [zeros_size]; decide
  have z8 : Hid ((zeros 8).size ≤ 9223372036854775807) := by show _ ≤ _; rw [zeros_size]; decide
  have z40 : Hid (((⟨#[0, 16, 0, 1]⟩ : ByteArray) ++ zeros 40).size ≤ 9223372036854775807) := by show _ ≤ _; rw [ByteArray.size_append, zeros_size]; decide
  have z77 : Hid (1048576 < (zeros 1048577).size ∧ (zeros 1048577).size ≤ 9223372036854775807) := by show _ ∧ _; rw [s77]; decide
  have z76 : Hid ((zeros 1048576).size ≤ 1048576) := by show _ ≤ _; rw [s76]; decide
  clear s77 s76
  generalize zeros 7 = Z7 at *
  generalize zeros 8 = Z8 at *
  generalize zeros 40 = Z40 at *
  generalize zeros 1048577 = Z77 at *
  have hfz : (((frameB (zeros 1048576)).size : Int) == 1048584) = true := by rw [frameB_size, zeros_size]; rfl
  generalize zeros 1048576 = Z76 at *
  generalize zcells 7 = C7 at *
  generalize zcells 8 = C8 at *
  generalize zcells 40 = C40 at *
  generalize zcells 1048577 = C77 at *
  generalize zcells 1048576 = C76 at *
  go_enter Try.func10, Try.ntmps10
  go_wp2_with fail
  refine (frame_any ⟨#[]⟩ _ (by decide)).mono ?_
  rintro e w1 ⟨rfl, hu1⟩
  rw [← HF.out]
  go_wp2_with fail
  refine (frame_any ⟨#[97]⟩ _ (by decide)).mono ?_
  rintro e w2 ⟨rfl, hu2⟩
  rw [← HG.out]
  have hu := hu1.trans hu2 (fun _ _ h => h)
  clear hu1 hu2
  go_wp2_with fail
  refine (scan_any _ _ hsz.out).mono ?_
  rintro e w3 ⟨v, rfl, ho, hu1⟩
  rw [HSC.out] at ho
  rw [HSC.out]
  have HU := Lib.hid (hu.trans hu1 (fun _ _ h => h))
  have hu2 := Upd.refl (fun _ => False) w3
  clear hu hu1 hsz HSC
  have hl := StrsAt.of_own ho
  obtain ⟨a, cap, rfl⟩ := hl.slice
  obtain ⟨b0, o0, rfl, hc0⟩ := hl.cell (i := 0) (by decide)
  obtain ⟨b1, o1, e1, hc1⟩ := hl.cell (i := 1) (by decide)
  simp only [Option.some.injEq, Addr.mk.injEq, and_true] at e1
  obtain ⟨rfl, rfl⟩ := e1
  have HC0 := Lib.hid hc0
  have HC1 := Lib.hid hc1
  clear hc0 hc1 hl ho
  go_wp2_with fail
  refine (open_none _ z7.out n7.out).mono ?_
  rintro e w4 ⟨rfl, hu1⟩
  have hu3 := (hu2.alloc (.cells C7 5)).trans hu1 (fun _ _ h => h)
  clear hu2 hu1 m7 c7
  go_wp2_with fail
  refine (open_none _ z8.out n8.out).mono ?_
  rintro e w5 ⟨rfl, hu1⟩
  have hu4 := (hu3.alloc (.cells C8 5)).trans hu1 (fun _ _ h => h)
  clear hu3 hu1 m8 c8
  go_wp2_with fail
  refine (open_none _ z40.out n40.out).mono ?_
  rintro e w6 ⟨rfl, hu1⟩
  have hu5 := (hu4.alloc (.cells C40 5)).trans hu1 (fun _ _ h => h)
  clear hu4 hu1 m40 c40
  go_wp2_with fail
  refine (frame_long _ _ z77.out.1 z77.out.2).mono ?_
  rintro e w7 ⟨rfl, rfl⟩
  have hu6 := hu5.alloc (.cells C77 5)
  clear hu5 m77 c77
  generalize w6.alloc (.cells C77 5) = w7 at *
  go_wp2_with fail
  refine (frame_any _ _ z76.out).mono ?_
  rintro e w8 ⟨rfl, hu1⟩
  have hu7 := (hu6.alloc (.cells C76 5)).trans hu1 (fun _ _ h => h)
  clear hu6 hu1 m76 c76
  generalize frameB Z76 = h76 at *
  go_wp2_with fail
  refine (works_any _).mono ?_
  rintro e w9 ⟨rfl, hu1⟩
  have hu8 := hu7.trans hu1 (fun _ _ h => h)
  clear hu7 hu1
  go_wp2_with fail
  refine (sum_any _ [] _ (StrsAt.nil _) (by simp)).mono ?_
  rintro e w10 ⟨rfl, hu1⟩
  rw [known_nosum]
  have hu9 := hu8.trans hu1 (fun _ _ h => h)
  clear hu8 hu1
  go_wp2_with fail
  refine (sum_any _ [⟨#[49, 50, 51, 52]⟩, ⟨#[53, 54, 55, 56, 57]⟩] _ (strs_alloc _ (by simp)) (by simp; decide)).mono ?_
  rintro e w11 ⟨rfl, hu1⟩
  rw [known_sum]
  have hu10 := (hu9.alloc (.cells ([⟨#[49, 50, 51, 52]⟩, ⟨#[53, 54, 55, 56, 57]⟩].map Value.string).toArray 9)).trans hu1 (fun _ _ h => h)
  clear hu9 hu1
  have c0 : w11.cell? ⟨b0, o0, none⟩ = some (.string ⟨#[]⟩) := cell_upd hu10 HC0.out (fun f => f)
  have c1 : w11.cell? ⟨b0, o0 + 1, none⟩ = some (.string ⟨#[97]⟩) := cell_upd hu10 HC1.out (fun f => f)
  go_wp2_with fail
  go_ret
  exact ⟨rfl, HU.out.trans hu10 (fun _ _ h => h)⟩
end Go.Proofs.Ytgkegfgdpekehaa
