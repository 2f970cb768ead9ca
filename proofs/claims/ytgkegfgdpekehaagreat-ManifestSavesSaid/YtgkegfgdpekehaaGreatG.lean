/- Plain facts of frames: what is framed is opened; the frames of a row of bytes; no program in sight. -/
import Derived.Test.YtgkegfgdpekehaaGreatF
namespace Go.Proofs.YtgkegfgdpekehaaGreat
open Go.RowKit Go.Acre

theorem openM_bound {t b : ByteArray} {n : Nat} (h : openM t = some (b, n)) : n = 8 + b.size ∧ n ≤ t.size ∧ b.size ≤ 1048576 ∧ b = t.extract 8 n := by
  unfold openM at h
  split at h
  · rename_i h8
    split at h
    · rename_i hn
      split at h
      · simp only [Option.some.injEq, Prod.mk.injEq] at h
        obtain ⟨rfl, rfl⟩ := h
        have : (t.extract 8 (8 + lenOf t h8)).size = lenOf t h8 := by rw [ByteArray.size_extract]; omega
        exact ⟨by omega, by omega, by omega, rfl⟩
      · cases h
    · cases h
  · cases h

/-- the frames with which bytes begin, and how many bytes they are -/
def scanR (t : ByteArray) : List ByteArray × Nat :=
  match h : openM t with
  | none => ([], 0)
  | some (b, n) => (b :: (scanR (t.extract n t.size)).1, n + (scanR (t.extract n t.size)).2)
termination_by t.size
decreasing_by
  all_goals
    have := openM_bound h
    rw [ByteArray.size_extract]
    omega
theorem scanR_none {t : ByteArray} (h : openM t = none) : scanR t = ([], 0) := by
  rw [scanR]
  split
  · rfl
  · rename_i h2; rw [h] at h2; cases h2
theorem scanR_some {t b : ByteArray} {n : Nat} (h : openM t = some (b, n)) : scanR t = (b :: (scanR (t.extract n t.size)).1, n + (scanR (t.extract n t.size)).2) := by
  rw [scanR]
  split
  · rename_i h2; rw [h] at h2; cases h2
  · rename_i b2 n2 h2
    rw [h] at h2
    simp only [Option.some.injEq, Prod.mk.injEq] at h2
    obtain ⟨rfl, rfl⟩ := h2
    rfl

theorem extract_drop {s : ByteArray} {g n : Nat} : (s.extract g s.size).extract n (s.extract g s.size).size = s.extract (g + n) s.size := by
  apply nums_inj
  rw [nums_extract, nums_extract, nums_extract, ← nums_length (s.extract g s.size), nums_extract]
  simp only [List.take_length, List.drop_drop]

/-- bytes that begin as a frame might -/
theorem openM_put {n x : Nat} {body behind : ByteArray} (hn : n = body.size) (h1 : body.size ≤ 1048576) (hx : x < 4294967296) :
    openM (((str (head n) ++ str (le4 x)) ++ body) ++ behind) = if Crc.sum (head n ++ nums body) = x then some (body, 8 + n) else none := by
  subst hn
  generalize hs : ((str (head body.size) ++ str (le4 x)) ++ body) ++ behind = s
  have hsn : nums s = head body.size ++ le4 x ++ nums body ++ nums behind := by
    rw [← hs, nums_append, nums_append, nums_append, nums_str (head_byte _), nums_str (le4_byte _)]
  have hsz : s.size = 8 + body.size + behind.size := by
    rw [← hs]; simp [ByteArray.size_append, str_size, head, le4]
  have h8 : 8 ≤ s.size := by omega
  obtain ⟨rest, hr⟩ := nums_eight h8
  have hhd : head (lenOf s h8) = [s[0].toNat, s[1].toNat, s[2].toNat, s[3].toNat] := head_be (byte_lt _) (byte_lt _) (byte_lt _) (byte_lt _)
  have hle : le4 (sumOf s h8) = [s[4].toNat, s[5].toNat, s[6].toNat, s[7].toNat] := le4_be (byte_lt _) (byte_lt _) (byte_lt _) (byte_lt _)
  have e1 : head (lenOf s h8) = head body.size := by
    rw [hhd]
    rw [hr] at hsn
    simp only [head, le4, List.cons_append, List.nil_append, List.cons.injEq] at hsn ⊢
    exact ⟨hsn.1, hsn.2.1, hsn.2.2.1, hsn.2.2.2.1, trivial⟩
  have e2 : le4 (sumOf s h8) = le4 x := by
    rw [hle]
    rw [hr] at hsn
    simp only [head, le4, List.cons_append, List.nil_append, List.cons.injEq] at hsn ⊢
    exact ⟨hsn.2.2.2.2.1, hsn.2.2.2.2.2.1, hsn.2.2.2.2.2.2.1, hsn.2.2.2.2.2.2.2.1, trivial⟩
  have e3 : lenOf s h8 = body.size := by
    have := lenOf_lt s h8
    unfold head at e1
    simp only [List.cons.injEq, and_true] at e1
    omega
  have e4 : sumOf s h8 = x := le4_inj (sumOf_lt s h8) hx e2
  rw [openM_eq s h8 (by omega) (by omega), e3, e4]
  have f1 : nums (s.extract 0 4) = head body.size := by
    rw [nums_extract, hsn]; simp [head]
  have f2 : s.extract 8 (8 + body.size) = body := by
    apply nums_inj
    rw [nums_extract, hsn, Nat.add_comm 8]
    simp [head, le4, List.take_succ_cons, ← nums_length body]
  rw [f1, f2]

theorem frameB_size (body : ByteArray) : (frameB body).size = body.size + 8 := by
  simp [frameB, ByteArray.size_append, str_size, head, le4]; omega
theorem head_sum_lt (body : ByteArray) : Crc.sum (head body.size ++ nums body) < 4294967296 := Crc.sum_lt (fun b hb => by
  rcases List.mem_append.1 hb with h | h
  · exact head_byte _ b h
  · exact nums_byte _ b h)
theorem openM_frame {body behind : ByteArray} (h : body.size ≤ 1048576) : openM (frameB body ++ behind) = some (body, 8 + body.size) := by
  unfold frameB
  rw [openM_put rfl h (head_sum_lt body), if_pos rfl]
theorem extract_behind {a b : ByteArray} : (a ++ b).extract a.size (a ++ b).size = b := by
  apply nums_inj
  rw [nums_extract, nums_append, ← nums_length (a ++ b), nums_append, List.take_length, ← nums_length a, List.drop_left]
theorem scanR_frame {body behind : ByteArray} (h : body.size ≤ 1048576) : scanR (frameB body ++ behind) = (body :: (scanR behind).1, 8 + body.size + (scanR behind).2) := by
  rw [scanR_some (openM_frame h)]
  have : (frameB body ++ behind).extract (8 + body.size) (frameB body ++ behind).size = behind := by
    rw [show 8 + body.size = (frameB body).size from by rw [frameB_size]; omega]
    exact extract_behind
  rw [this]
theorem str_append_nil (a : ByteArray) : a ++ (⟨#[]⟩ : ByteArray) = a := by
  apply nums_inj; rw [nums_append]; simp [nums]
/-- a frame that is cut is none -/
theorem openM_cut {body : ByteArray} {n : Nat} (h1 : body.size ≤ 1048576) (hn : n < 8 + body.size) : openM ((frameB body).extract 0 n) = none := by
  generalize hs : (frameB body).extract 0 n = s
  have hsz : s.size = n := by rw [← hs, ByteArray.size_extract, frameB_size]; omega
  by_cases h8 : 8 ≤ s.size
  · refine openM_bad h8 ?_
    have hf := openM_frame (behind := ⟨#[]⟩) h1
    rw [str_append_nil] at hf
    obtain ⟨rest, hr⟩ := nums_eight h8
    have hhd : head (lenOf s h8) = [s[0].toNat, s[1].toNat, s[2].toNat, s[3].toNat] := head_be (byte_lt _) (byte_lt _) (byte_lt _) (byte_lt _)
    have hsn : nums s = (head body.size ++ le4 (Crc.sum (head body.size ++ nums body)) ++ nums body).take n := by
      rw [← hs, nums_extract]
      unfold frameB
      rw [nums_append, nums_append, nums_str (head_byte _), nums_str (le4_byte _), List.drop_zero]
    have e1 : head (lenOf s h8) = head body.size := by
      rw [hhd]
      rw [hr, show n = (n - 4) + 4 from by omega] at hsn
      simp only [head, le4, List.cons_append, List.nil_append, List.take_succ_cons, List.cons.injEq] at hsn ⊢
      exact ⟨hsn.1, hsn.2.1, hsn.2.2.1, hsn.2.2.2.1, trivial⟩
    have e3 : lenOf s h8 = body.size := by
      have := lenOf_lt s h8
      unfold head at e1
      simp only [List.cons.injEq, and_true] at e1
      omega
    omega
  · exact openM_short h8
/-- noughts are no frame -/
theorem openM_noughts {s : ByteArray} (h : ∀ b ∈ nums s, b = 0) : openM s = none := by
  by_cases h8 : 8 ≤ s.size
  · obtain ⟨rest, hr⟩ := nums_eight h8
    rw [hr] at h
    have b0 := h s[0].toNat (by simp)
    have b1 := h s[1].toNat (by simp)
    have b2 := h s[2].toNat (by simp)
    have b3 := h s[3].toNat (by simp)
    have b4 := h s[4].toNat (by simp)
    have b5 := h s[5].toNat (by simp)
    have b6 := h s[6].toNat (by simp)
    have b7 := h s[7].toNat (by simp)
    have hl : lenOf s h8 = 0 := by unfold lenOf; rw [b0, b1, b2, b3]; rfl
    have hm : sumOf s h8 = 0 := by unfold sumOf; rw [b4, b5, b6, b7]; rfl
    rw [openM_eq s h8 (by omega) (by omega), hl, hm, if_neg]
    rw [nums_extract, nums_extract, hr, b0, b1, b2, b3]
    simp only [List.take_succ_cons, List.take_zero, List.drop_zero, List.drop_succ_cons, List.append_nil]
    decide
  · exact openM_short h8
end Go.Proofs.YtgkegfgdpekehaaGreat
