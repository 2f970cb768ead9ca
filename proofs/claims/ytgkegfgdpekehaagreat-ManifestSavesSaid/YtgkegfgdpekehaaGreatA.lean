/- The walks of seal's parts. -/
import Derived.Test.YtgkegfgdpekehaaGreatRows
import Derived.Test.YtgkegfgdpekehaaGreatL
import Derived.Test.YtgkegfgdpekehaaGreatP
namespace Go.Proofs.YtgkegfgdpekehaaGreat
open Go.RowKit Go.Acre

theorem sh_nat (b k : Nat) : (b : Int) / 2 ^ k = ((b / 2 ^ k : Nat) : Int) := by simp
theorem step_test (y b k : Nat) (hy : y < 4294967296) (hb : b < 256) :
    bits .and .u32 (bits .xor .u32 (y : Int) ((b : Int) / 2 ^ k % 4294967296)) 1 = (((y ^^^ (b / 2 ^ k)) % 2 : Nat) : Int) := by
  have hc : b / 2 ^ k < 256 := Nat.lt_of_le_of_lt (Nat.div_le_self _ _) hb
  rw [sh_nat]
  generalize b / 2 ^ k = c at *
  rw [show ((c : Nat) : Int) % 4294967296 = ((c : Nat) : Int) from by omega, u32_xor_nat y c hy (by omega)]
  have hx : y ^^^ c < 4294967296 := Nat.xor_lt_two_pow (n := 32) hy (by omega)
  rw [show (1 : Int) = ((1 : Nat) : Int) from rfl, u32_and_nat _ 1 hx (by omega), Nat.and_one_is_mod]
theorem step_odd (y : Nat) (hy : y < 4294967296) : bits .xor .u32 ((y : Int) / 2) 3988292384 = ((y / 2 ^^^ Crc.poly : Nat) : Int) := by
  rw [show (y : Int) / 2 = ((y / 2 : Nat) : Int) from by omega, show (3988292384 : Int) = ((Crc.poly : Nat) : Int) from rfl, u32_xor_nat _ _ (by omega) (by decide)]
theorem step_round {x b y k z : Nat} (hk : k < 8) (hr : Crc.Rn (8 - k) y (b / 2 ^ k) = Crc.Rn 8 x b) (hz : z = Crc.R y (b / 2 ^ k)) : Crc.Rn (8 - (k + 1)) z (b / 2 ^ (k + 1)) = Crc.Rn 8 x b := by
  rw [← hr, show 8 - k = (8 - (k + 1)) + 1 from by omega]
  simp only [Crc.Rn]
  rw [hz, Nat.div_div_eq_div_mul, Nat.pow_succ]
theorem step_end {x b y k : Nat} (hk : k = 8) (hr : Crc.Rn (8 - k) y (b / 2 ^ k) = Crc.Rn 8 x b) (hb : b < 256) : y = Crc.T x b := by
  subst hk
  rw [Crc.T_eq, ← Crc.Rn_eq 8 x b hb, ← hr]
  rfl
theorem R_odd {y c : Nat} (h : (y ^^^ c) % 2 = 1) : y / 2 ^^^ Crc.poly = Crc.R y c := by unfold Crc.R; rw [if_pos h]
theorem R_even {y c : Nat} (h : ¬ (y ^^^ c) % 2 = 1) : y / 2 = Crc.R y c := by unfold Crc.R; rw [if_neg h]

theorem step_any (x b : Nat) (w : World) (hx : x < 4294967296) (hb : b < 256) :
    Calls Tryz.prog 90 #[.int .u32 x, .int .u8 b] w fun e w' => e = .returned (.int .u32 (Crc.T x b : Nat)) ∧ w = w' := by
  go_enter Tryz.func90, Tryz.ntmps90
  go_wp2_with fail
  go_loop [0, 5] (fun v i => ∃ (k y : Nat), i = .int .i64 k ∧ k ≤ 8 ∧ v = .int .u32 y ∧ y < 4294967296 ∧ Crc.Rn (8 - k) y (b / 2 ^ k) = Crc.Rn 8 x b) (fun _ i => 8 - (intOf i).toNat)
  case atStart => exact ⟨0, x, rfl, by omega, rfl, hx, by simp⟩
  case round =>
    obtain ⟨k, y, rfl, hk, rfl, hy, hr⟩ := hrel
    have HR := Lib.hid hr
    clear hr
    by_cases hlt : k < 8
    · have ht := step_test y b k hy hb
      by_cases hodd : (y ^^^ (b / 2 ^ k)) % 2 = 1
      · have hz := step_round hlt HR.out (R_odd hodd)
        have hd : (bits .and .u32 (bits .xor .u32 (y : Int) ((b : Int) / 2 ^ k % 4294967296)) 1 == 1) = true := by rw [ht, hodd]; rfl
        have HZ := Lib.hid hz
        have HO := Lib.hid (step_odd y hy)
        clear ht hodd hz HR
        go_wp2_with fail
        exact ⟨⟨k + 1, y / 2 ^^^ Crc.poly, by go_num, by omega, by rw [HO.out], Nat.xor_lt_two_pow (n := 32) (by omega) (by decide), HZ.out⟩, by simp [intOf]; omega⟩
      · have hz := step_round hlt HR.out (R_even hodd)
        have hd : (bits .and .u32 (bits .xor .u32 (y : Int) ((b : Int) / 2 ^ k % 4294967296)) 1 == 1) = false := by
          rw [ht, show (y ^^^ (b / 2 ^ k)) % 2 = 0 from by omega]; rfl
        have HZ := Lib.hid hz
        clear ht hodd hz HR
        go_wp2_with fail
        exact ⟨⟨k + 1, y / 2, by go_num, by omega, by go_num, by omega, HZ.out⟩, by simp [intOf]; omega⟩
    · have e : k = 8 := by omega
      have hT : (y : Int) = (Crc.T x b : Nat) := by rw [← step_end e HR.out hb]
      have HT := Lib.hid hT
      clear hT e HR
      go_wp2_with fail
      go_ret
      exact ⟨by rw [← HT.out]; rfl, rfl⟩

/-- the bytes of a string as numbers -/
def nums (s : ByteArray) : List Nat := s.data.toList.map (·.toNat)
theorem nums_byte (s : ByteArray) : ∀ b ∈ nums s, b < 256 := by
  intro b hb
  obtain ⟨x, _, rfl⟩ := List.mem_map.1 hb
  exact x.toNat_lt
theorem nums_length (s : ByteArray) : (nums s).length = s.size := by unfold nums; rw [List.length_map]; rfl
theorem nums_get (s : ByteArray) (k : Nat) (h : k < s.size) (h' : k < (nums s).length) : (nums s)[k] = s[k].toNat := by
  simp only [nums, List.getElem_map]
  rfl
theorem nums_take {s : ByteArray} {k : Nat} (h : k < s.size) : (nums s).take (k + 1) = (nums s).take k ++ [s[k].toNat] := by
  have h' : k < (nums s).length := Nat.lt_of_lt_of_eq h (nums_length s).symm
  rw [List.take_succ_eq_append_getElem h', nums_get s k h h']

theorem not_u32 (x : Nat) (hx : x < 4294967296) : bits .xor .u32 IntKind.u32.max (x : Int) = ((x ^^^ 4294967295 : Nat) : Int) := by
  rw [show IntKind.u32.max = ((4294967295 : Nat) : Int) from by decide, u32_xor_nat _ x (by decide) hx, Nat.xor_comm]
theorem ret_int {k : IntKind} {a b : Int} (h : a = b) : Ending.returned (.int k a) = .returned (.int k b) := by rw [h]

set_option maxHeartbeats 1000000 in
theorem rsum_any (s : ByteArray) (w : World) (hs : s.size ≤ 9223372036854775807) :
    Calls Tryz.prog 82 #[.string s] w fun e w' => e = .returned (.int .u32 (Crc.sum (nums s) : Nat)) ∧ w = w' := by
  go_enter Tryz.func82, Tryz.ntmps82
  go_wp2_with fail
  go_loop [3, 4] (fun v i => ∃ (k : Nat), i = .int .i64 k ∧ k ≤ s.size ∧ v = .int .u32 (Crc.crc 4294967295 ((nums s).take k) : Nat)) (fun _ i => s.size - (intOf i).toNat)
  case atStart => exact ⟨0, rfl, by omega, by simp [Crc.crc]⟩
  case round =>
    obtain ⟨k, rfl, hk, rfl⟩ := hrel
    by_cases hlt : k < s.size
    · have hy : Crc.crc 4294967295 ((nums s).take k) < 4294967296 := Crc.crc_lt (fun b hb => nums_byte s b (List.mem_of_mem_take hb)) (by omega)
      have hn : Crc.T (Crc.crc 4294967295 ((nums s).take k)) s[k].toNat = Crc.crc 4294967295 ((nums s).take (k + 1)) := by
        rw [nums_take hlt, Crc.crc_append]; rfl
      generalize Crc.crc 4294967295 ((nums s).take k) = y at *
      have hb : s[k].toNat < 256 := s[k].toNat_lt
      have HN := Lib.hid hn
      clear hn
      go_wp2_with fail
      refine (step_any y s[k].toNat _ hy hb).mono ?_
      rintro e w' ⟨rfl, rfl⟩
      go_wp2_with fail
      exact ⟨⟨k + 1, by go_num, by omega, by rw [HN.out]⟩, by simp [intOf]; omega⟩
    · have e : (nums s).take k = nums s := List.take_of_length_le (by rw [nums_length]; omega)
      rw [e]
      clear e
      have hx : Crc.crc 4294967295 (nums s) < 4294967296 := Crc.crc_lt (nums_byte s) (by omega)
      have HX := Lib.hid (not_u32 _ hx)
      go_wp2_with fail
      go_ret
      exact ⟨ret_int HX.out, rfl⟩

/-- Block B is the table, its first n entries laid. -/
def TabTo (n B : Nat) (w : World) : Prop := ∃ cur : Array Value, ∃ T, w.heap[B]? = some (.cells cur T (0, 0)) ∧ cur.size = 256 ∧ (∀ i, i < 256 → ∃ x : Int, cur[i]? = some (.int .u32 x)) ∧ ∀ i, i < n → cur[i]? = some (.int .u32 (Crc.Lk 8 i : Nat))
theorem TabTo.upd {n B : Nat} {w w' : World} {S : Nat → Prop} (h : TabTo n B w) (hu : Upd S w w') (hS : ¬ S B) : TabTo n B w' := by
  obtain ⟨cur, T, h1, h2⟩ := h
  exact ⟨cur, T, hu.keep h1 hS, h2⟩
theorem TabTo.cell {B : Nat} {w : World} (h : TabTo 256 B w) {i : Nat} (hi : i < 256) : w.cell? ⟨B, i, none⟩ = some (.int .u32 (Crc.Lk 8 i : Nat)) := by
  obtain ⟨cur, T, h1, _, _, h3⟩ := h
  rw [cell_of_heap h1, h3 i hi]
theorem TabTo.any {n B : Nat} {w : World} (h : TabTo n B w) {i : Nat} (hi : i < 256) : (∃ x : Int, w.cell? ⟨B, i, none⟩ = some (.int .u32 x)) ∧ w.frozen? ⟨B, i, none⟩ = false := by
  obtain ⟨cur, T, h1, _, h2, _⟩ := h
  obtain ⟨x, hx⟩ := h2 i hi
  exact ⟨⟨x, by rw [cell_of_heap h1, hx]⟩, frozen_of_heap h1 i none⟩
theorem TabTo.next {n B : Nat} {w : World} (h : TabTo n B w) (hn : n < 256) {x : Int} (hx : x = (Crc.Lk 8 n : Nat)) : TabTo (n + 1) B (w.setCell ⟨B, n, none⟩ (.int .u32 x)) := by
  obtain ⟨cur, T, h1, hs, h2, h3⟩ := h
  refine ⟨_, T, heap_setCell h1 _, by simpa using hs, fun i hi => ?_, fun i hi => ?_⟩
  · by_cases e : n = i
    · subst e; exact ⟨x, by simp [hs, hn]⟩
    · obtain ⟨y, hy⟩ := h2 i hi
      exact ⟨y, by simp [Array.getElem?_setIfInBounds, e, hy]⟩
  · by_cases e : n = i
    · subst e; simp [hs, hn, hx]
    · simp only [Array.getElem?_setIfInBounds, e, if_false]
      exact h3 i (by omega)

theorem table_test (y : Nat) (hy : y < 4294967296) : bits .and .u32 (y : Int) 1 = ((y % 2 : Nat) : Int) := by
  rw [show (1 : Int) = ((1 : Nat) : Int) from rfl, u32_and_nat y 1 hy (by omega), Nat.and_one_is_mod]
theorem L_odd {y : Nat} (h : y % 2 = 1) : Crc.L y = y / 2 ^^^ Crc.poly := by unfold Crc.L; rw [if_pos h]
theorem L_even {y : Nat} (h : ¬ y % 2 = 1) : Crc.L y = y / 2 := by unfold Crc.L; rw [if_neg h]
theorem Lk_round {n y z k : Nat} (hk : k < 8) (h : Crc.Lk (8 - k) y = Crc.Lk 8 n) (hz : Crc.L y = z) : Crc.Lk (8 - (k + 1)) z = Crc.Lk 8 n := by
  rw [← h, show 8 - k = (8 - (k + 1)) + 1 from by omega, ← hz]
  rfl

set_option maxHeartbeats 1000000 in
set_option maxRecDepth 100000 in
theorem table_any (w : World) : Calls Tryz.prog 86 #[] w fun e w' => ∃ B, e = .returned (.pointer (some ⟨B, 0, none⟩)) ∧ w.heap.size ≤ B ∧ TabTo 256 B w' ∧ Upd (fun _ => False) w w' := by
  have hz : Tryz.zeroCells149 = Array.replicate 256 (.int .u32 0) := by kernel_rfl
  have h0 : TabTo 0 w.heap.size (w.alloc (.cells Tryz.zeroCells149 149)) := by
    refine ⟨_, _, heap_alloc _, ?_, fun i hi => ⟨0, ?_⟩, fun i hi => by omega⟩
    · rw [hz]; simp
    · rw [hz]; simp [hi]
  have hu0 : Upd (fun _ => False) w (w.alloc (.cells Tryz.zeroCells149 149)) := (Upd.refl _ w).alloc _
  have HZ := Lib.hid hz
  have hB : w.heap.size ≤ w.heap.size := Nat.le_refl _
  clear hz
  go_enter Tryz.func86, Tryz.ntmps86
  go_wp2_with fail
  generalize hBe : w.heap.size = B at *
  have HBE := Lib.hid hBe
  clear hBe
  go_loopw [4] (fun i wr => ∃ (n : Nat), i = .int .i64 n ∧ n ≤ 256 ∧ TabTo n B wr ∧ Upd (fun _ => False) w wr) (fun i _ => 256 - (intOf i).toNat)
  case atStart => exact ⟨0, rfl, by omega, h0, hu0⟩
  case round =>
    obtain ⟨n, rfl, hn, ht, hu⟩ := hrel
    clear h0 hu0
    by_cases hlt : n < 256
    · go_wp2_with fail
      go_loop [3, 9] (fun v i => ∃ (k y : Nat), i = .int .i64 k ∧ k ≤ 8 ∧ v = .int .u32 y ∧ y < 4294967296 ∧ Hid (Crc.Lk (8 - k) y = Crc.Lk 8 n)) (fun _ i => 8 - (intOf i).toNat)
      case atStart => exact ⟨0, n, rfl, by omega, by go_num, by omega, rfl⟩
      case round =>
        obtain ⟨k, y, rfl, hk, rfl, hy, hr⟩ := hrel
        by_cases hk8 : k < 8
        · have hT := table_test y hy
          by_cases hodd : y % 2 = 1
          · have hd : (bits .and .u32 (y : Int) 1 == 1) = true := by rw [hT, hodd]; rfl
            have HO := Lib.hid (step_odd y hy)
            have HR2 := Lib.hid (Lk_round hk8 hr.out (L_odd hodd))
            clear hT hodd hr
            go_wp2_with fail
            exact ⟨⟨k + 1, y / 2 ^^^ Crc.poly, by go_num, by omega, by rw [HO.out], Nat.xor_lt_two_pow (n := 32) (by omega) (by decide), HR2⟩, by simp [intOf]; omega⟩
          · have hd : (bits .and .u32 (y : Int) 1 == 1) = false := by rw [hT, show y % 2 = 0 from by omega]; rfl
            have HR2 := Lib.hid (Lk_round hk8 hr.out (L_even hodd))
            clear hT hodd hr
            go_wp2_with fail
            exact ⟨⟨k + 1, y / 2, by go_num, by omega, by go_num, by omega, HR2⟩, by simp [intOf]; omega⟩
        · have hy2 : (y : Int) = (Crc.Lk 8 n : Nat) := by
            have := hr.out
            rw [show 8 - k = 0 from by omega] at this
            exact congrArg _ this
          obtain ⟨⟨x0, hx0⟩, hfz⟩ := ht.any hlt
          have HT := Lib.hid ht
          have HY := Lib.hid hy2
          clear ht hy2 hr
          go_wp2_with fail
          go_roundw
          case rel => exact ⟨n + 1, by go_num, by omega, HT.out.next hlt HY.out, hu.setCell (p := ⟨B, n, none⟩) (fun h => by have := HBE.out; simp at h; omega) _⟩
          case measure => simp [intOf]; omega
    · have e : n = 256 := by omega
      subst e
      go_wp2_with fail
      go_ret
      exact ⟨B, rfl, by rw [HBE.out]; exact Nat.le_refl _, ht, hu⟩
end Go.Proofs.YtgkegfgdpekehaaGreat
