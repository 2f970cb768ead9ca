/- The walk of seal.Sum: the sum of parts. -/
import Derived.Test.YtgkegfgdpekehaaGreatA
namespace Go.Proofs.YtgkegfgdpekehaaGreat
open Go.RowKit Go.Acre

/-- the bytes of parts, one behind the other -/
def cat (ps : List ByteArray) : List Nat := ps.flatMap nums
theorem cat_byte (ps : List ByteArray) : ∀ b ∈ cat ps, b < 256 := by
  intro b hb
  obtain ⟨s, _, h⟩ := List.mem_flatMap.1 hb
  exact nums_byte s b h
theorem cat_take {ps : List ByteArray} {k : Nat} (h : k < ps.length) : cat (ps.take (k + 1)) = cat (ps.take k) ++ nums ps[k] := by
  rw [List.take_succ_eq_append_getElem h]
  simp only [cat, List.flatMap_append, List.flatMap_cons, List.flatMap_nil, List.append_nil]

def SumPost (n : Nat) (w : World) (e : Ending) (w' : World) : Prop := e = .returned (.int .u32 n) ∧ Upd (fun _ => False) w w'

theorem sum_entry (y b : Nat) (hb : b < 256) : bits .xor .u8 ((y : Int) % 256) (b : Int) = ((y % 256 ^^^ b : Nat) : Int) := by
  rw [show (y : Int) % 256 = ((y % 256 : Nat) : Int) from by omega, u8_xor_nat _ _ (by omega) hb]
theorem sum_round (y b : Nat) (hy : y < 4294967296) (hb : b < 256) : bits .xor .u32 ((y : Int) / 256) ((Crc.Lk 8 (y % 256 ^^^ b) : Nat) : Int) = ((Crc.T y b : Nat) : Int) := by
  have hx : y % 256 ^^^ b < 256 := Nat.xor_lt_two_pow (n := 8) (by omega) hb
  rw [show (y : Int) / 256 = ((y / 256 : Nat) : Int) from by omega, u32_xor_nat _ _ (by omega) (Crc.Lk_lt 8 (by omega))]
  rfl

set_option maxHeartbeats 2000000 in
set_option maxRecDepth 100000 in
theorem sum_any (v : Value) (ps : List ByteArray) (w : World) (hv : StrsAt w v ps) (hs : ∀ s ∈ ps, s.size ≤ 9223372036854775807) :
    Calls Tryz.prog 69 #[v] w (SumPost (Crc.sum (cat ps)) w) := by
  obtain ⟨a, cap, rfl⟩ := hv.slice
  have hn := hv.bound
  unfold maxLen at hn
  obtain ⟨n, hnl⟩ : ∃ n, n = ps.length := ⟨_, rfl⟩
  have HV := Lib.hid hv
  have HS := Lib.hid hs
  rw [← hnl] at hn
  have HL := Lib.hid hnl
  rw [← hnl]
  clear hv hs hnl
  go_enter Tryz.func69, Tryz.ntmps69
  go_wp2_with fail
  refine (table_any _).mono ?_
  rintro e w1 ⟨B, rfl, hB, ht, hu⟩
  have HB := Lib.hid hB
  clear hB
  go_wp2_with fail
  go_loopw [4, 11] (fun x i wr => ∃ (k : Nat), i = .int .i64 k ∧ k ≤ n ∧ x = .int .u32 (Crc.crc 4294967295 (cat (ps.take k)) : Nat) ∧ TabTo 256 B wr ∧ Upd (fun _ => False) w wr) (fun _ i _ => n - (intOf i).toNat)
  case atStart => exact ⟨0, rfl, by omega, by simp [cat, Crc.crc], ht, hu⟩
  case round =>
    obtain ⟨k, rfl, hk, rfl, ht, hu⟩ := hrel
    by_cases hlt : k < n
    · have hkl : k < ps.length := by rw [← HL.out]; exact hlt
      obtain ⟨g, o, rfl, hcell⟩ := HV.out.cell hkl
      have hsz := HS.out ps[k] (List.getElem_mem hkl)
      have hcr := cell_upd hu hcell (fun f => f)
      have hy : Crc.crc 4294967295 (cat (ps.take k)) < 4294967296 := Crc.crc_lt (fun b hb => cat_byte _ b hb) (by omega)
      have hnx : Crc.crc 4294967295 (cat (ps.take (k + 1))) = Crc.crc (Crc.crc 4294967295 (cat (ps.take k))) (nums ps[k]) := by rw [cat_take hkl, Crc.crc_append]
      generalize Crc.crc 4294967295 (cat (ps.take k)) = y0 at *
      generalize ps[k] = s at *
      have HX := Lib.hid hnx
      clear hcell hnx hkl
      go_wp2_with fail
      go_loopw [4, 17] (fun x i wr => ∃ (j : Nat), i = .int .i64 j ∧ j ≤ s.size ∧ x = .int .u32 (Crc.crc y0 ((nums s).take j) : Nat) ∧ TabTo 256 B wr ∧ Upd (fun _ => False) w wr) (fun _ i _ => s.size - (intOf i).toNat)
      case atStart => exact ⟨0, rfl, by omega, by simp [Crc.crc], ht, hu⟩
      case round =>
        obtain ⟨j, rfl, hj, rfl, ht, hu⟩ := hrel
        by_cases hjs : j < s.size
        · have hy1 : Crc.crc y0 ((nums s).take j) < 4294967296 := Crc.crc_lt (fun b hb => nums_byte s b (List.mem_of_mem_take hb)) hy
          have hn1 : Crc.T (Crc.crc y0 ((nums s).take j)) s[j].toNat = Crc.crc y0 ((nums s).take (j + 1)) := by
            rw [nums_take hjs, Crc.crc_append]; rfl
          generalize Crc.crc y0 ((nums s).take j) = y at *
          have hb : s[j].toNat < 256 := s[j].toNat_lt
          have hx : y % 256 ^^^ s[j].toNat < 256 := Nat.xor_lt_two_pow (n := 8) (by omega) hb
          have hent := sum_entry y s[j].toNat hb
          have hc2 := ht.cell hx
          have hrd := sum_round y s[j].toNat hy1 hb
          have HT := Lib.hid ht
          have HN := Lib.hid hn1
          have HRD := Lib.hid hrd
          clear ht hn1 hrd
          go_wp2_with fail
          go_quiet (fail)
          go_wp2_with fail
          go_roundw
          case rel => exact ⟨j + 1, by go_num, by omega, by rw [HRD.out, HN.out], HT.out, hu.drewN _⟩
          case measure => simp [intOf]; omega
        · have e : (nums s).take j = nums s := List.take_of_length_le (by rw [nums_length]; omega)
          rw [e]
          clear e
          go_wp2_with fail
          go_roundw
          case rel => exact ⟨k + 1, by go_num, by omega, by rw [HX.out], ht, hu⟩
          case measure => simp [intOf]; omega
    · have e : cat (ps.take k) = cat ps := by rw [List.take_of_length_le (by rw [← HL.out]; omega)]
      rw [e]
      have hx : Crc.crc 4294967295 (cat ps) < 4294967296 := Crc.crc_lt (cat_byte ps) (by omega)
      have HX := Lib.hid (not_u32 _ hx)
      clear e
      go_wp2_with fail
      go_ret
      exact ⟨ret_int HX.out, hu⟩
end Go.Proofs.YtgkegfgdpekehaaGreat
