/- Open as a whole; the reference's Open comes to the same. -/
import Derived.Test.YtgkegfgdpekehaaGreatD
namespace Go.Proofs.YtgkegfgdpekehaaGreat
open Go.RowKit Go.Acre

theorem openM_short {s : ByteArray} (h : ¬ 8 ≤ s.size) : openM s = none := by unfold openM; rw [dif_neg h]
theorem openM_bad {s : ByteArray} (h : 8 ≤ s.size) (hn : ¬ (lenOf s h ≤ 1048576 ∧ lenOf s h ≤ s.size - 8)) : openM s = none := by unfold openM; rw [dif_pos h, if_neg hn]
theorem open_any (s : ByteArray) (w : World) (hs : s.size ≤ 9223372036854775807) : Calls Tryz.prog 46 #[.string s] w (OpenPost (openM s) w) := by
  by_cases h : 8 ≤ s.size
  · by_cases hn : lenOf s h ≤ 1048576 ∧ lenOf s h ≤ s.size - 8
    · exact open_sum s w h hs hn.1 hn.2
    · refine (open_bad s w h hs hn).mono ?_
      rintro e w' ⟨rfl, hu⟩
      rw [openM_bad h hn]
      exact ⟨rfl, hu⟩
  · refine (open_short s w (by omega)).mono ?_
    rintro e w' ⟨rfl, rfl⟩
    rw [openM_short h]
    exact ⟨rfl, Upd.refl _ _⟩

/-! ### the reference -/
theorem nums_inj {a b : ByteArray} (h : nums a = nums b) : a = b := by
  apply ByteArray.ext
  apply Array.ext'
  have hf : Function.Injective UInt8.toNat := fun x y hxy => UInt8.toNat_inj.1 hxy
  exact (List.map_inj_right (fun x y hxy => UInt8.toNat_inj.1 hxy)).1 h
theorem nums_extract (s : ByteArray) (a b : Nat) : nums (s.extract a b) = ((nums s).take b).drop a := by
  simp only [nums, ByteArray.data_extract, Array.toList_extract, List.extract_eq_take_drop, List.map_take, List.map_drop]
  rw [List.drop_take]
theorem nums_eight {s : ByteArray} (h : 8 ≤ s.size) : ∃ rest, nums s = s[0].toNat :: s[1].toNat :: s[2].toNat :: s[3].toNat :: s[4].toNat :: s[5].toNat :: s[6].toNat :: s[7].toNat :: rest := by
  have hl : 8 ≤ (nums s).length := by rw [nums_length]; exact h
  refine ⟨(nums s).drop 8, ?_⟩
  have e : ∀ k (hk : k < s.size) (hk' : k < (nums s).length), (nums s).drop k = s[k].toNat :: (nums s).drop (k + 1) := fun k hk hk' => by
    rw [List.drop_eq_getElem_cons hk', nums_get s k hk hk']
  have := e 0 (by omega) (by omega)
  rw [List.drop_zero] at this
  conv => lhs; rw [this, e 1 (by omega) (by omega), e 2 (by omega) (by omega), e 3 (by omega) (by omega), e 4 (by omega) (by omega), e 5 (by omega) (by omega), e 6 (by omega) (by omega), e 7 (by omega) (by omega)]
theorem head_be {a b c d : Nat} (ha : a < 256) (hb : b < 256) (hc : c < 256) (hd : d < 256) : head (be4 a b c d) = [a, b, c, d] := by
  unfold head be4
  simp only [List.cons.injEq, and_true]
  omega
theorem le4_be {a b c d : Nat} (ha : a < 256) (hb : b < 256) (hc : c < 256) (hd : d < 256) : le4 (be4 a b c d) = [d, c, b, a] := by
  unfold le4 be4
  simp only [List.cons.injEq, and_true]
  omega
theorem le4_inj {x y : Nat} (hx : x < 4294967296) (hy : y < 4294967296) (h : le4 x = le4 y) : x = y := by
  unfold le4 at h
  simp only [List.cons.injEq, and_true] at h
  omega

theorem list_frame {a0 a1 a2 a3 a4 a5 a6 a7 n : Nat} {rest : List Nat} :
    ((a0 :: a1 :: a2 :: a3 :: a4 :: a5 :: a6 :: a7 :: rest).take 4).drop 0 = [a0, a1, a2, a3] ∧
    ((a0 :: a1 :: a2 :: a3 :: a4 :: a5 :: a6 :: a7 :: rest).take (8 + n)).drop 8 = rest.take n ∧
    ((a0 :: a1 :: a2 :: a3 :: a4 :: a5 :: a6 :: a7 :: rest).take (8 + n)).drop 0 = [a0, a1, a2, a3] ++ [a4, a5, a6, a7] ++ rest.take n := by
  rw [Nat.add_comm 8 n]
  refine ⟨rfl, ?_, ?_⟩ <;> simp [List.take_succ_cons]
theorem list_iff {hd s1 s2 body : List Nat} : hd ++ s1 ++ body = hd ++ s2 ++ body ↔ s1 = s2 := by
  rw [List.append_cancel_right_eq, List.append_cancel_left_eq]
theorem frame_is (s : ByteArray) (h : 8 ≤ s.size) (h2 : lenOf s h ≤ s.size - 8) :
    (frameB (s.extract 8 (8 + lenOf s h)) = s.extract 0 (8 + lenOf s h)) ↔ Crc.sum (nums (s.extract 0 4) ++ nums (s.extract 8 (8 + lenOf s h))) = sumOf s h := by
  have hsz : (s.extract 8 (8 + lenOf s h)).size = lenOf s h := by rw [ByteArray.size_extract]; omega
  obtain ⟨rest, hr⟩ := nums_eight h
  have hhd : head (lenOf s h) = [s[0].toNat, s[1].toNat, s[2].toNat, s[3].toNat] := head_be (byte_lt _) (byte_lt _) (byte_lt _) (byte_lt _)
  have hle : le4 (sumOf s h) = [s[4].toNat, s[5].toNat, s[6].toNat, s[7].toNat] := le4_be (byte_lt _) (byte_lt _) (byte_lt _) (byte_lt _)
  have hlt1 := sumOf_lt s h
  generalize lenOf s h = n at *
  generalize sumOf s h = m at *
  have h04 : nums (s.extract 0 4) = head n := by rw [nums_extract, hr, hhd]; exact (list_frame (n := 0)).1
  have hbody : nums (s.extract 8 (8 + n)) = rest.take n := by rw [nums_extract, hr]; exact list_frame.2.1
  have hall : nums (s.extract 0 (8 + n)) = head n ++ le4 m ++ rest.take n := by rw [nums_extract, hr, hhd, hle]; exact list_frame.2.2
  have hfr : nums (frameB (s.extract 8 (8 + n))) = head n ++ le4 (Crc.sum (head n ++ rest.take n)) ++ rest.take n := by
    unfold frameB
    rw [nums_append, nums_append, hsz, nums_str (head_byte _), hbody, nums_str (le4_byte _)]
  rw [h04, hbody]
  have hlt2 : Crc.sum (head n ++ rest.take n) < 4294967296 := Crc.sum_lt (fun b hb => by
    rcases List.mem_append.1 hb with h | h
    · exact head_byte _ b h
    · rw [← hbody] at h
      exact nums_byte _ b h)
  generalize Crc.sum (head n ++ rest.take n) = x at *
  constructor
  · intro e
    have e2 := congrArg nums e
    rw [hfr, hall] at e2
    exact le4_inj hlt2 hlt1 (list_iff.1 e2)
  · intro e
    apply nums_inj
    rw [hfr, hall, e]
theorem str_eql (a b : ByteArray) : (a.toList == b.toList) = decide (a = b) := by
  rw [ByteArray.toList_eq, ByteArray.toList_eq]
  by_cases h : a = b
  · subst h; simp
  · simp only [h, decide_false, beq_eq_false_iff_ne]
    intro e
    exact h (ByteArray.ext (Array.ext' e))
end Go.Proofs.YtgkegfgdpekehaaGreat
