/- The walk of the law SealTurned. -/
import Derived.Test.YtgkegfgdpekehaaK
namespace Go.Proofs.Ytgkegfgdpekehaa
open Go.RowKit Go.Acre
open Go.Lib (bytesWorld bytesCells bytesWorld_at_new bytesWorld_at_old bytesWorld_size)
theorem isEmpty_false {b : ByteArray} (h : 0 < b.size) : b.toList.isEmpty = false := by
  rw [ByteArray.toList_eq]
  cases hb : b.data.toList with
  | nil => have : b.size = 0 := by show b.data.size = 0; rw [← Array.length_toList, hb]; rfl
           omega
  | cons x l => rfl
theorem pow_u8 (q : Nat) (h : q < 8) : (2 : Int) ^ q % 256 = ((2 ^ q : Nat) : Int) := by
  have : 2 ^ q < 256 := Nat.pow_lt_pow_right (m := q) (n := 8) (a := 2) (by omega) h
  have e : (2 : Int) ^ q = ((2 ^ q : Nat) : Int) := by simp
  rw [e]
  generalize (2 : Nat) ^ q = z at *
  omega
set_option maxHeartbeats 4000000 in
set_option maxRecDepth 100000 in
theorem turned_walk (body : ByteArray) (a1 a2 : Int) (w : World) (h1 : (Lit.int .i64 a1).wf = true) (h2 : (Lit.int .u32 a2).wf = true) (hl : body.size ≤ 1048576) (hne : 0 < body.size) : Calls Try.prog 7 #[.string body, .int .i64 a1, .int .u32 a2] w (SamePost true w) := by
  have hi1 := int_of_wf h1
  obtain ⟨t, rfl, ht⟩ : ∃ t : Nat, a2 = (t : Int) ∧ t < 4294967296 := by
    simp [Lit.wf, IntKind.min, IntKind.max, IntKind.signed, IntKind.bits] at h2
    exact ⟨a2.toNat, by omega, by omega⟩
  obtain ⟨f, hf⟩ : ∃ f, f = frameB body := ⟨_, rfl⟩
  have hfs : f.size = body.size + 8 := by rw [hf, frameB_size]
  have HFS := Lib.hid hfs
  have HN : Hid (nums f = head body.size ++ le4 (Crc.sum (head body.size ++ nums body)) ++ nums body) := by rw [hf]; exact frame_nums body
  have HF := Lib.hid hf
  have hd := isEmpty_false hne
  have hmany : (0 : Int) < 8 * (body.size : Int) := by omega
  have hat := at_place a1 (8 * (body.size : Int)) hmany
  have hcv := fun w : World => Lib.run_convert_string_bytes (P := Try.prog) w 9 34 5 f Try.underlying9 Try.underlying34 Try.underlying5
  clear hf hfs
  have hsgn : (∃ p : Nat, a1.tmod (8 * (body.size : Int)) = (p : Int) ∧ p < 8 * body.size ∧ decide ((p : Int) < 0) = false) ∨
      (∃ q : Int, ∃ p : Nat, a1.tmod (8 * (body.size : Int)) = q ∧ decide (q < 0) = true ∧ q < 0 ∧ -(8 * (body.size : Int)) ≤ q ∧ q + 8 * (body.size : Int) = (p : Int) ∧ p < 8 * body.size) := by
    rcases hat with hat | hat
    · exact .inl ⟨(a1.tmod (8 * (body.size : Int))).toNat, by omega, by omega, by simp; omega⟩
    · exact .inr ⟨_, (a1.tmod (8 * (body.size : Int)) + 8 * (body.size : Int)).toNat, rfl, by simp; omega, by omega, by omega, by omega, by omega⟩
  clear hat h1 hi1
  rcases hsgn with ⟨p, hp, hplt, hp0⟩ | ⟨q, p, hq0, hqn, hq1, hq2, hp, hplt⟩
  all_goals
    go_enter Try.func7, Try.ntmps7
    go_wp2_with fail
    refine (works_any _).mono ?_
    rintro e w1 ⟨rfl, hu⟩
    go_wp2_with fail
    refine (frame_any body _ hl).mono ?_
    rintro e w2 ⟨rfl, hu1⟩
    have hu2 := hu.trans hu1 (fun _ _ h => h)
    clear hu hu1
    rw [← HF.out]
    go_wp2_with fail
    obtain ⟨hbb, hbu⟩ := bytes_made w2 f
    rw [HN.out] at hbb
    have hu3 := hu2.trans hbu (fun _ _ h => h)
    have hBsz : Hid (w.heap.size ≤ w2.heap.size) := hu2.size
    have hcapr : f.size ≤ grownCap w2 f.size 0 5 := grownCap_ge w2 f.size 0 5
    have hcapm : grownCap w2 f.size 0 5 ≤ maxLen := grownCap_le_maxLen w2 f.size 0 5 (by have := HFS.out; unfold maxLen; omega)
    clear hbu hu2 hcv
    generalize bytesWorld w2 5 f = w3 at *
    generalize grownCap w2 f.size 0 5 = cap at *
    generalize w2.heap.size = B at *
    generalize hh8 : head body.size ++ le4 (Crc.sum (head body.size ++ nums body)) = h8 at *
    have hl8 : h8.length = 8 := by rw [← hh8]; rfl
    have H8 := Lib.hid hh8
    clear hh8
    clear hp hmany HF
    go_loopw [11, 12] (fun tb i wr => ∃ (k W : Nat) (l : List Nat), i = .int .i64 k ∧ k ≤ 32 ∧ tb = .bool (decide (W ≠ 0)) ∧ Hid (Turned (nums body) p k W l) ∧ BytesBlk (h8 ++ l) B wr ∧ Upd (fun _ => False) w wr) (fun _ i _ => 32 - (intOf i).toNat)
    case atStart => exact ⟨0, 0, nums body, rfl, by omega, rfl, Turned.start p (nums_byte body), hbb, hu3⟩
    case round =>
      obtain ⟨k, W, l, rfl, hk, rfl, HT, hb, hu⟩ := hrel
      by_cases hgo : k < 32 ∧ p + k < 8 * body.size
      · obtain ⟨hg1, hg2⟩ := hgo
        have d1 : decide ((k : Int) < 32) = true := by simp; omega
        have d2 : decide ((p : Int) + (k : Int) < 8 * (body.size : Int)) = true := by simp; omega
        have htest := bit_test t k ht
        by_cases hodd : (t / 2 ^ k) % 2 = 1
        · have hd1 : (bits .and .u32 ((t : Int) / 2 ^ k) 1 == 1) = true := by rw [htest, hodd]; rfl
          clear htest hodd
          obtain ⟨j, hj⟩ : ∃ j, j = (p + k) / 8 := ⟨_, rfl⟩
          obtain ⟨r, hr⟩ : ∃ r, r = (p + k) % 8 := ⟨_, rfl⟩
          have hq : ((p : Int) + (k : Int)).tdiv 8 = (j : Int) := by
            rw [Int.tdiv_eq_ediv_of_nonneg (by omega)]; omega
          have hrm : ((p : Int) + (k : Int)).tmod 8 = (r : Int) := by
            rw [Int.tmod_eq_emod_of_nonneg (by omega)]; omega
          have hll : l.length = body.size := by rw [HT.out.1, nums_length]
          have hjl : j < l.length := by rw [hll]; omega
          have hjf : (8 : Int) + (j : Int) < (f.size : Int) := by have := HFS.out; omega
          have hj0 : (0 : Int) ≤ 8 + (j : Int) := by omega
          have hjn : ((8 : Int) + (j : Int)).toNat = 8 + j := by omega
          have hwp : IntKind.i64.wrap ((p : Int) + (k : Int)) = (p : Int) + (k : Int) := by rw [IntKind.wrap_i64]; omega
          have hwj : IntKind.i64.wrap (j : Int) = (j : Int) := by rw [IntKind.wrap_i64]; omega
          have hwj8 : IntKind.i64.wrap (8 + (j : Int)) = 8 + (j : Int) := by rw [IntKind.wrap_i64]; omega
          have hwr : IntKind.i64.wrap (r : Int) = (r : Int) := by rw [IntKind.wrap_i64]; omega
          have hr8 : r < 8 := by omega
          obtain ⟨hc, hfz⟩ := hb.cell (i := 8 + j) (by simp [hl8]; omega)
          have hget : (h8 ++ l).getD (8 + j) 0 = l[j] := by
            rw [List.getD_eq_getElem?_getD, List.getElem?_append_right (by omega), hl8, Nat.add_sub_cancel_left, List.getElem?_eq_getElem hjl]; rfl
          rw [hget] at hc
          have hlb : l[j] < 256 := HT.out.2.2.2 _ (List.getElem_mem hjl)
          have hpw := pow_u8 r hr8
          have hp2 : 2 ^ r < 256 := Nat.pow_lt_pow_right (m := r) (n := 8) (a := 2) (by omega) hr8
          have hx : bits .xor .u8 (l[j] : Int) ((2 : Int) ^ r) = ((l[j] ^^^ 2 ^ r : Nat) : Int) := by
            rw [← u8_xor_nat l[j] (2 ^ r) hlb hp2]; simp
          obtain ⟨HT2, hW0⟩ := HT.out.flip (x := l[j] ^^^ 2 ^ r) hj hjl (by rw [hr])
          have HBS : Hid (BytesBlk (h8 ++ l.set j (l[j] ^^^ 2 ^ r)) B (wr.setCell ⟨B, 8 + j, none⟩ (.int .u8 ((l[j] ^^^ 2 ^ r : Nat) : Int)))) := by
            have := hb.set (j := 8 + j) (x := l[j] ^^^ 2 ^ r)
            rw [List.set_append_right _ _ (by omega), hl8, Nat.add_sub_cancel_left] at this
            exact this
          have HT3 := Lib.hid HT2
          have HW := Lib.hid hW0
          have HLL := Lib.hid hll
          clear hget hj hr HT HT2 hW0 hll hb
          generalize hxx : l[j] ^^^ 2 ^ r = x at *
          clear hxx
          generalize l[j] = y at *
          go_wp2_with fail
          go_still_tail 14, (by kernel_rfl)
          go_wp2_with fail
          exact ⟨⟨k + 1, W ^^^ 2 ^ k, l.set j x, by go_num, by omega, by rw [decide_eq_true HW.out], HT3, HBS.out, hu.drew.setCell (p := ⟨B, 8 + j, none⟩) (fun h => by have := hBsz.out; simp at h; omega) _⟩, by simp [intOf]; omega⟩
        · have hd1 : (bits .and .u32 ((t : Int) / 2 ^ k) 1 == 1) = false := by rw [htest, show (t / 2 ^ k) % 2 = 0 from by omega]; rfl
          have HT2 := Lib.hid HT.out.skip
          clear htest hodd HT
          go_wp2_with fail
          exact ⟨⟨k + 1, W, l, by go_num, by omega, by simp, HT2, hb, hu⟩, by simp [intOf]; omega⟩
      · have HO := Lib.hid (turned_open hl HT.out hk (by omega))
        have hln : (h8 ++ l).length = f.size := by rw [List.length_append, hl8, HT.out.1, nums_length, HFS.out]; omega
        have hcs := convert_ints (hb.ints (n := f.size) (cap := cap) hln.symm (by rw [hln]; exact hcapr) hcapm) 34 9 5 Try.underlying34 Try.underlying5 Try.underlying9
        rw [H8.out] at HO
        have hsz : (strOfNums ((h8 ++ l).map Int.ofNat)).size ≤ 9223372036854775807 := by
          rw [strOfNums_size, List.length_map, hln, HFS.out]; omega
        generalize strOfNums ((h8 ++ l).map Int.ofNat) = s at *
        clear HT hb hln
        have hdd : (decide ((k : Int) < 32) = false) ∨ (decide ((k : Int) < 32) = true ∧ decide ((p : Int) + (k : Int) < 8 * (body.size : Int)) = false) := by
          by_cases h : k < 32
          · right; constructor <;> simp <;> omega
          · left; simp; omega
        have hz : ((8 : Int) + (body.size : Int) == 0) = false := by simp; omega
        rcases hdd with d1 | ⟨d1, d2⟩
        all_goals
          by_cases hW : W = 0
          · have HO1 := Lib.hid (HO.out.trans (if_pos hW))
            have hdw : decide (W ≠ 0) = false := by simp [hW]
            clear HO hgo
            rw [hdw]
            go_wp2_with fail
            refine (open_some _ hsz HO1.out).mono ?_
            rintro e w5 ⟨rfl, hu5⟩
            go_wp2_with fail
            go_ret
            exact ⟨rfl, hu.trans hu5 (fun _ _ h => h)⟩
          · have HO1 := Lib.hid (HO.out.trans (if_neg hW))
            have hdw : decide (W ≠ 0) = true := by simp [hW]
            clear HO hgo
            rw [hdw]
            go_wp2_with fail
            refine (open_none _ hsz HO1.out).mono ?_
            rintro e w5 ⟨rfl, hu5⟩
            go_wp2_with fail
            go_ret
            exact ⟨rfl, hu.trans hu5 (fun _ _ h => h)⟩
theorem turned_empty (body : ByteArray) (a1 a2 : Int) (w : World) (hne : body.size = 0) : Calls Try.prog 7 #[.string body, .int .i64 a1, .int .u32 a2] w (SamePost true w) := by
  obtain rfl : body = ⟨#[]⟩ := by
    apply ByteArray.ext
    exact Array.eq_empty_of_size_eq_zero hne
  clear hne
  go_enter Try.func7, Try.ntmps7
  go_wp2_with fail
  refine (works_any _).mono ?_
  rintro e w1 ⟨rfl, hu⟩
  go_wp2_with fail
  refine (frame_any ⟨#[]⟩ _ (by decide)).mono ?_
  rintro e w2 ⟨rfl, hu1⟩
  have hu2 := hu.trans hu1 (fun _ _ h => h)
  clear hu hu1
  generalize frameB ⟨#[]⟩ = f at *
  go_wp2_with fail
  go_ret
  exact ⟨rfl, hu2⟩
theorem turned_long (body : ByteArray) (a1 a2 : Int) (w : World) (h0 : body.size ≤ 140737488351232) (hl : 1048576 < body.size) : Calls Try.prog 7 #[.string body, .int .i64 a1, .int .u32 a2] w (SamePost true w) := by
  have hl2 : body.size ≤ 9223372036854775807 := by omega
  go_enter Try.func7, Try.ntmps7
  go_wp2_with fail
  refine (works_any _).mono ?_
  rintro e w1 ⟨rfl, hu⟩
  go_wp2_with fail
  refine (frame_long body _ (by omega) hl2).mono ?_
  rintro e w2 ⟨rfl, rfl⟩
  go_wp2_with fail
  go_ret
  exact ⟨rfl, hu⟩
theorem turned_all (body : ByteArray) (a1 a2 : Int) (w : World) (h0 : body.size ≤ 140737488351232) (h1 : (Lit.int .i64 a1).wf = true) (h2 : (Lit.int .u32 a2).wf = true) : Calls Try.prog 7 #[.string body, .int .i64 a1, .int .u32 a2] w (SamePost true w) := by
  by_cases hne : body.size = 0
  · exact turned_empty body a1 a2 w hne
  · by_cases hl : body.size ≤ 1048576
    · exact turned_walk body a1 a2 w h1 h2 hl (by omega)
    · exact turned_long body a1 a2 w h0 (by omega)
end Go.Proofs.Ytgkegfgdpekehaa
