/- The walks of the laws SealSums, SealOpens, SealParts, SealBack. -/
import Derived.Test.YtgkegfgdpekehaaI
namespace Go.Proofs.Ytgkegfgdpekehaa
open Go.RowKit Go.Acre

theorem cat_two (a b : ByteArray) : cat [a, b] = nums (a ++ b) := by simp [cat, nums_append]
theorem cat_three (a b c : ByteArray) : cat [a, b, c] = nums ((a ++ b) ++ c) := by simp [cat, nums_append]
theorem cat_one (a : ByteArray) : cat [a] = nums a := by simp [cat]

set_option maxHeartbeats 2000000 in
set_option maxRecDepth 100000 in
theorem sums_walk (a b : ByteArray) (w : World) (h0 : a.size ≤ 140737488351232) (h1 : b.size ≤ 140737488351232) : Calls Try.prog 3 #[.string a, .string b] w (SamePost true w) := by
  have hab : (a ++ b).size ≤ 9223372036854775807 := by rw [ByteArray.size_append]; omega
  have hs : ∀ s ∈ [a, b], s.size ≤ 9223372036854775807 := by simp; omega
  have HC := Lib.hid (cat_two a b)
  by_cases hl : (a ++ b).size ≤ 1048576
  · go_enter Try.func3, Try.ntmps3
    go_wp2_with fail
    refine (frame_any (a ++ b) _ hl).mono ?_
    rintro e w1 ⟨rfl, hu1⟩
    go_wp2_with fail
    refine (rframe_any (a ++ b) _ hl).mono ?_
    rintro e w2 ⟨rfl, hu2⟩
    have hu3 := hu1.trans hu2 (fun _ _ h => h)
    clear hu1 hu2
    go_wp2_with fail
    refine (sum_any _ [a, b] _ (strs_alloc _ (by simp)) hs).mono ?_
    rintro e w3 ⟨rfl, hu4⟩
    have hu5 := (hu3.alloc (.cells #[.string a, .string b] 9)).trans hu4 (fun _ _ h => h)
    clear hu3 hu4
    rw [HC.out]
    go_wp2_with fail
    refine (rsum_any (a ++ b) _ hab).mono ?_
    rintro e w4 ⟨rfl, rfl⟩
    generalize frameB (a ++ b) = f at *
    generalize Crc.sum (nums (a ++ b)) = x at *
    have hf : (f.toList == f.toList) = true := by simp
    go_wp2_with fail
    refine (works_any _).mono ?_
    rintro e w5 ⟨rfl, hu6⟩
    go_wp2_with fail
    go_ret
    exact ⟨rfl, hu5.trans hu6 (fun _ _ h => h)⟩
  · go_enter Try.func3, Try.ntmps3
    go_wp2_with fail
    refine (frame_long (a ++ b) _ (by omega) hab).mono ?_
    rintro e w1 ⟨rfl, rfl⟩
    go_wp2_with fail
    refine (rframe_long (a ++ b) _ (by omega) hab).mono ?_
    rintro e w2 ⟨rfl, rfl⟩
    go_wp2_with fail
    refine (sum_any _ [a, b] _ (strs_alloc _ (by simp)) hs).mono ?_
    rintro e w3 ⟨rfl, hu4⟩
    have hu5 := ((Upd.refl _ w).alloc (.cells #[.string a, .string b] 9)).trans hu4 (fun _ _ h => h)
    clear hu4
    rw [HC.out]
    go_wp2_with fail
    refine (rsum_any (a ++ b) _ hab).mono ?_
    rintro e w4 ⟨rfl, rfl⟩
    generalize Crc.sum (nums (a ++ b)) = x at *
    go_wp2_with fail
    refine (works_any _).mono ?_
    rintro e w5 ⟨rfl, hu6⟩
    go_wp2_with fail
    go_ret
    exact ⟨rfl, hu5.trans hu6 (fun _ _ h => h)⟩

set_option maxHeartbeats 2000000 in
set_option maxRecDepth 100000 in
theorem opens_walk (s : ByteArray) (w : World) (h0 : s.size ≤ 140737488351232) : Calls Try.prog 4 #[.string s] w (SamePost true w) := by
  have hs : s.size ≤ 9223372036854775807 := by omega
  cases ho : openM s with
  | none =>
    have HO := Lib.hid ho
    clear ho
    go_enter Try.func4, Try.ntmps4
    go_wp2_with fail
    refine (open_none _ hs HO.out).mono ?_
    rintro e w1 ⟨rfl, hu1⟩
    go_wp2_with fail
    refine (ropen_none _ hs HO.out).mono ?_
    rintro e w2 ⟨rfl, hu2⟩
    have hu3 := hu1.trans hu2 (fun _ _ h => h)
    clear hu1 hu2
    go_wp2_with fail
    refine (works_any _).mono ?_
    rintro e w5 ⟨rfl, hu6⟩
    go_wp2_with fail
    go_ret
    exact ⟨rfl, hu3.trans hu6 (fun _ _ h => h)⟩
  | some r =>
    obtain ⟨b, n⟩ := r
    have HO := Lib.hid ho
    clear ho
    go_enter Try.func4, Try.ntmps4
    go_wp2_with fail
    refine (open_some _ hs HO.out).mono ?_
    rintro e w1 ⟨rfl, hu1⟩
    go_wp2_with fail
    refine (ropen_some _ hs HO.out).mono ?_
    rintro e w2 ⟨rfl, hu2⟩
    have hu3 := hu1.trans hu2 (fun _ _ h => h)
    clear hu1 hu2
    have hf : (b.toList == b.toList) = true := by simp
    go_wp2_with fail
    refine (works_any _).mono ?_
    rintro e w5 ⟨rfl, hu6⟩
    go_wp2_with fail
    go_ret
    exact ⟨rfl, hu3.trans hu6 (fun _ _ h => h)⟩

set_option maxHeartbeats 2000000 in
set_option maxRecDepth 100000 in
theorem parts_walk (a b c : ByteArray) (w : World) (h0 : a.size ≤ 140737488351232) (h1 : b.size ≤ 140737488351232) (h2 : c.size ≤ 140737488351232) : Calls Try.prog 5 #[.string a, .string b, .string c] w (SamePost true w) := by
  have hab : (a ++ b).size ≤ 281474976702464 := by rw [ByteArray.size_append]; omega
  have hbc : (b ++ c).size ≤ 281474976702464 := by rw [ByteArray.size_append]; omega
  have habc : (a ++ b ++ c).size ≤ 9223372036854775807 := by rw [ByteArray.size_append]; omega
  have s1 : ∀ s ∈ [a, b, c], s.size ≤ 9223372036854775807 := by simp; omega
  have s2 : ∀ s ∈ [(a ++ b) ++ c], s.size ≤ 9223372036854775807 := by simpa using habc
  have s3 : ∀ s ∈ [a ++ b, ⟨#[]⟩, c], s.size ≤ 9223372036854775807 := by
    intro s hs
    simp only [List.mem_cons, List.not_mem_nil, or_false] at hs
    rcases hs with rfl | rfl | rfl
    · omega
    · decide
    · omega
  have s4 : ∀ s ∈ [a, b ++ c], s.size ≤ 9223372036854775807 := by
    intro s hs
    simp only [List.mem_cons, List.not_mem_nil, or_false] at hs
    rcases hs with rfl | rfl <;> omega
  have C1 := Lib.hid (cat_three a b c)
  have C2 := Lib.hid (cat_one (a ++ b ++ c))
  have C3 : Hid (cat [a ++ b, ⟨#[]⟩, c] = nums (a ++ b ++ c)) := by
    show _ = _
    rw [cat_three, str_append_nil]
  have C4 : Hid (cat [a, b ++ c] = nums (a ++ b ++ c)) := by
    show _ = _
    rw [cat_two, str_append_assoc]
  go_enter Try.func5, Try.ntmps5
  go_wp2_with fail
  refine (works_any _).mono ?_
  rintro e w1 ⟨rfl, hu⟩
  go_wp2_with fail
  refine (sum_any _ [a, b, c] _ (strs_alloc _ (by simp)) s1).mono ?_
  rintro e w3 ⟨rfl, hu2⟩
  have hu3 := (hu.alloc (.cells #[.string a, .string b, .string c] 9)).trans hu2 (fun _ _ h => h)
  clear hu hu2
  rw [C1.out]
  go_wp2_with fail
  refine (sum_any _ [(a ++ b) ++ c] _ (strs_alloc _ (by simp)) s2).mono ?_
  rintro e w4 ⟨rfl, hu2⟩
  have hu4 := (hu3.alloc (.cells #[.string ((a ++ b) ++ c)] 9)).trans hu2 (fun _ _ h => h)
  clear hu3 hu2
  rw [C2.out]
  generalize hx : Crc.sum (nums (a ++ b ++ c)) = x at *
  have HX := Lib.hid hx
  clear hx
  go_wp2_with fail
  refine (sum_any _ [a ++ b, ⟨#[]⟩, c] _ (strs_alloc _ (by simp)) s3).mono ?_
  rintro e w5 ⟨rfl, hu2⟩
  have hu5 := (hu4.alloc (.cells #[.string (a ++ b), .string ⟨#[]⟩, .string c] 9)).trans hu2 (fun _ _ h => h)
  clear hu4 hu2
  rw [C3.out, HX.out]
  go_wp2_with fail
  refine (sum_any _ [a, b ++ c] _ (strs_alloc _ (by simp)) s4).mono ?_
  rintro e w6 ⟨rfl, hu2⟩
  have hu6 := (hu5.alloc (.cells #[.string a, .string (b ++ c)] 9)).trans hu2 (fun _ _ h => h)
  clear hu5 hu2
  rw [C4.out, HX.out]
  go_wp2_with fail
  go_ret
  exact ⟨rfl, hu6⟩

set_option maxHeartbeats 2000000 in
set_option maxRecDepth 100000 in
theorem back_walk (body behind : ByteArray) (w : World) (h0 : body.size ≤ 140737488351232) (h1 : behind.size ≤ 140737488351232) : Calls Try.prog 6 #[.string body, .string behind] w (SamePost true w) := by
  have hl2 : body.size ≤ 9223372036854775807 := by omega
  by_cases hl : body.size ≤ 1048576
  · have HF := Lib.hid (openM_frame (behind := behind) hl)
    have hfs := frameB_size body
    have HS : Hid ((frameB body ++ behind).size ≤ 9223372036854775807) := by
      show _ ≤ _
      rw [ByteArray.size_append, hfs]
      omega
    go_enter Try.func6, Try.ntmps6
    go_wp2_with fail
    refine (works_any _).mono ?_
    rintro e w1 ⟨rfl, hu⟩
    go_wp2_with fail
    refine (frame_any body _ hl).mono ?_
    rintro e w2 ⟨rfl, hu1⟩
    have hu2 := hu.trans hu1 (fun _ _ h => h)
    clear hu hu1
    generalize frameB body = f at *
    go_wp2_with fail
    refine (open_some _ HS.out HF.out).mono ?_
    rintro e w3 ⟨rfl, hu1⟩
    have hu3 := hu2.trans hu1 (fun _ _ h => h)
    clear hu2 hu1 HF HS
    have hd : (body.toList == body.toList) = true := by simp
    have he : ((8 : Int) + (body.size : Int) == (f.size : Int)) = true := by rw [hfs]; simp; omega
    have hg : ((f.size : Int) == (body.size : Int) + 8) = true := by rw [hfs]; simp
    clear hfs
    go_wp2_with fail
    go_ret
    exact ⟨rfl, hu3⟩
  · go_enter Try.func6, Try.ntmps6
    go_wp2_with fail
    refine (works_any _).mono ?_
    rintro e w1 ⟨rfl, hu⟩
    go_wp2_with fail
    refine (frame_long body _ (by omega) hl2).mono ?_
    rintro e w2 ⟨rfl, rfl⟩
    go_wp2_with fail
    go_ret
    exact ⟨by show Ending.returned (Value.bool (decide _)) = _; rw [decide_eq_true (by omega)], hu⟩
end Go.Proofs.Ytgkegfgdpekehaa
