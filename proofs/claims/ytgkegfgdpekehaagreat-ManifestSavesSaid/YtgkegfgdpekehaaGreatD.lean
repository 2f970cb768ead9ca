/- The walks of Open and of the reference's Open. -/
import Derived.Test.YtgkegfgdpekehaaGreatC
namespace Go.Proofs.YtgkegfgdpekehaaGreat
open Go.RowKit Go.Acre

theorem i64_or_nat (a b : Nat) (ha : a < 9223372036854775808) (hb : b < 9223372036854775808) : bits .or .i64 (a : Int) (b : Int) = ((a ||| b : Nat) : Int) := by
  have key : (BitVec.ofInt 64 (a : Int) ||| BitVec.ofInt 64 (b : Int)).toNat = a ||| b := by
    rw [BitVec.toNat_or, BitVec.toNat_ofInt, BitVec.toNat_ofInt]
    congr 1 <;> omega
  have h : a ||| b < 9223372036854775808 := Nat.or_lt_two_pow (n := 63) ha hb
  show IntKind.i64.wrap ((BitVec.ofInt 64 (a : Int) ||| BitVec.ofInt 64 (b : Int)).toNat : Nat) = _
  rw [key, IntKind.wrap_i64]
  omega
theorem or_add (i a b : Nat) (hb : b < 2 ^ i) : 2 ^ i * a ||| b = 2 ^ i * a + b := (Nat.two_pow_add_eq_or_of_lt hb a).symm
def be4 (a b c d : Nat) : Nat := a * 16777216 + b * 65536 + c * 256 + d
theorem be_or (a b c d : Nat) (ha : a < 256) (hb : b < 256) (hc : c < 256) (hd : d < 256) :
    bits .or .i64 (bits .or .i64 (bits .or .i64 ((a : Int) * 16777216) ((b : Int) * 65536)) ((c : Int) * 256)) (d : Int) = ((be4 a b c d : Nat) : Int) := by
  have e1 : (a : Int) * 16777216 = ((2 ^ 24 * a : Nat) : Int) := by omega
  have e2 : (b : Int) * 65536 = ((2 ^ 16 * b : Nat) : Int) := by omega
  have e3 : (c : Int) * 256 = ((2 ^ 8 * c : Nat) : Int) := by omega
  rw [e1, e2, e3, i64_or_nat _ _ (by omega) (by omega), or_add 24 a _ (by omega)]
  rw [i64_or_nat _ _ (by omega) (by omega), show 2 ^ 24 * a + 2 ^ 16 * b = 2 ^ 16 * (2 ^ 8 * a + b) from by omega, or_add 16 _ _ (by omega)]
  rw [i64_or_nat _ _ (by omega) (by omega), show 2 ^ 16 * (2 ^ 8 * a + b) + 2 ^ 8 * c = 2 ^ 8 * (2 ^ 16 * a + 2 ^ 8 * b + c) from by omega, or_add 8 _ _ (by omega)]
  unfold be4
  omega
theorem le_or (a b c d : Nat) (ha : a < 256) (hb : b < 256) (hc : c < 256) (hd : d < 256) :
    bits .or .u32 (bits .or .u32 (bits .or .u32 (a : Int) ((b : Int) * 256)) ((c : Int) * 65536)) ((d : Int) * 16777216) = ((be4 d c b a : Nat) : Int) := by
  have e1 : (d : Int) * 16777216 = ((2 ^ 24 * d : Nat) : Int) := by omega
  have e2 : (c : Int) * 65536 = ((2 ^ 16 * c : Nat) : Int) := by omega
  have e3 : (b : Int) * 256 = ((2 ^ 8 * b : Nat) : Int) := by omega
  rw [e1, e2, e3, u32_or_nat _ _ (by omega) (by omega), Nat.or_comm a, or_add 8 b _ (by omega)]
  rw [u32_or_nat _ _ (by omega) (by omega), Nat.or_comm _ (2 ^ 16 * c), or_add 16 c _ (by omega)]
  rw [u32_or_nat _ _ (by omega) (by omega), Nat.or_comm _ (2 ^ 24 * d), or_add 24 d _ (by omega)]
  unfold be4
  omega

/-- the number in the first four bytes; the one in the next four -/
def lenOf (s : ByteArray) (h : 8 ≤ s.size) : Nat := be4 s[0].toNat s[1].toNat s[2].toNat s[3].toNat
def sumOf (s : ByteArray) (h : 8 ≤ s.size) : Nat := be4 s[7].toNat s[6].toNat s[5].toNat s[4].toNat
theorem len_or (s : ByteArray) (h : 8 ≤ s.size) :
    bits .or .i64 (bits .or .i64 (bits .or .i64 ((s[0].toNat : Int) * 16777216) ((s[1].toNat : Int) * 65536)) ((s[2].toNat : Int) * 256)) (s[3].toNat : Int) = ((lenOf s h : Nat) : Int) :=
  be_or _ _ _ _ s[0].toNat_lt s[1].toNat_lt s[2].toNat_lt s[3].toNat_lt
theorem sum_or (s : ByteArray) (h : 8 ≤ s.size) :
    bits .or .u32 (bits .or .u32 (bits .or .u32 (s[4].toNat : Int) ((s[5].toNat : Int) * 256)) ((s[6].toNat : Int) * 65536)) ((s[7].toNat : Int) * 16777216) = ((sumOf s h : Nat) : Int) :=
  le_or _ _ _ _ s[4].toNat_lt s[5].toNat_lt s[6].toNat_lt s[7].toNat_lt
theorem be4_lt {a b c d : Nat} (ha : a < 256) (hb : b < 256) (hc : c < 256) (hd : d < 256) : be4 a b c d < 4294967296 := by unfold be4; omega
theorem lenOf_lt (s : ByteArray) (h : 8 ≤ s.size) : lenOf s h < 4294967296 := be4_lt s[0].toNat_lt s[1].toNat_lt s[2].toNat_lt s[3].toNat_lt
theorem sumOf_lt (s : ByteArray) (h : 8 ≤ s.size) : sumOf s h < 4294967296 := be4_lt s[7].toNat_lt s[6].toNat_lt s[5].toNat_lt s[4].toNat_lt
theorem byte_lt (b : UInt8) : b.toNat < 256 := b.toNat_lt
/-- THE PLAIN FUNCTION: the body of the frame with which bytes begin, and its size -/
def openM (s : ByteArray) : Option (ByteArray × Nat) :=
  if h : 8 ≤ s.size then
    if lenOf s h ≤ 1048576 ∧ lenOf s h ≤ s.size - 8 then
      if Crc.sum (nums (s.extract 0 4) ++ nums (s.extract 8 (8 + lenOf s h))) = sumOf s h then some (s.extract 8 (8 + lenOf s h), 8 + lenOf s h) else none
    else none
  else none
def OpenPost (r : Option (ByteArray × Nat)) (w : World) (e : Ending) (w' : World) : Prop :=
  e = .returned (match r with | none => .tuple #[.string ⟨#[]⟩, .int .i64 0, .int .i64 4] | some (b, n) => .tuple #[.string b, .int .i64 n, .int .i64 0]) ∧ Upd (fun _ => False) w w'

theorem openM_eq (s : ByteArray) (h : 8 ≤ s.size) (h1 : lenOf s h ≤ 1048576) (h2 : lenOf s h ≤ s.size - 8) :
    openM s = if Crc.sum (nums (s.extract 0 4) ++ nums (s.extract 8 (8 + lenOf s h))) = sumOf s h then some (s.extract 8 (8 + lenOf s h), 8 + lenOf s h) else none := by
  unfold openM
  simp only [dif_pos h, h1, h2, and_self, if_true]
theorem open_short (s : ByteArray) (w : World) (h : s.size < 8) : Calls Tryz.prog 46 #[.string s] w fun e w' => e = .returned (.tuple #[.string ⟨#[]⟩, .int .i64 0, .int .i64 4]) ∧ w = w' := by
  go_enter Tryz.func46, Tryz.ntmps46
  go_wp2_with fail
  go_ret3
  exact ⟨rfl, rfl⟩
def Fault (w : World) (e : Ending) (w' : World) : Prop := e = .returned (.tuple #[.string ⟨#[]⟩, .int .i64 0, .int .i64 4]) ∧ Upd (fun _ => False) w w'
set_option maxRecDepth 100000 in
theorem open_bad (s : ByteArray) (w : World) (h : 8 ≤ s.size) (hs : s.size ≤ 9223372036854775807) (hn : ¬ (lenOf s h ≤ 1048576 ∧ lenOf s h ≤ s.size - 8)) : Calls Tryz.prog 46 #[.string s] w (Fault w) := by
  have i0 : 0 < s.size := by omega
  have j0 : (0 : Int) < (s.size : Int) := by omega
  have j1 : (1 : Int) < (s.size : Int) := by omega
  have j2 : (2 : Int) < (s.size : Int) := by omega
  have j3 : (3 : Int) < (s.size : Int) := by omega
  have b0 := byte_lt s[0]
  have b1 := byte_lt s[1]
  have b2 := byte_lt s[2]
  have b3 := byte_lt s[3]
  have hor := len_or s h
  have hbd := lenOf_lt s h
  generalize lenOf s h = n at *
  by_cases h1 : n ≤ 1048576
  · have h2 : ((s.size : Int) - 8 < (n : Int)) := by omega
    have d1 : decide ((1048576 : Int) < (n : Int)) = false := by simp; omega
    have d2 : decide ((s.size : Int) - 8 < (n : Int)) = true := by simp; omega
    clear hn
    go_enter Tryz.func46, Tryz.ntmps46
    go_wp2_with fail
    go_quiet (fail)
    go_wp2_with fail
    go_ret3
    exact ⟨rfl, (Upd.refl _ w).drewN _⟩
  · have d1 : decide ((1048576 : Int) < (n : Int)) = true := by simp; omega
    clear hn
    go_enter Tryz.func46, Tryz.ntmps46
    go_wp2_with fail
    go_quiet (fail)
    go_wp2_with fail
    go_ret3
    exact ⟨rfl, (Upd.refl _ w).drewN _⟩

theorem str_extract_size (s : ByteArray) (a b : Nat) (h : b ≤ s.size) : (s.extract a b).size = b - a := by rw [ByteArray.size_extract]; omega

set_option maxHeartbeats 1000000 in
set_option maxRecDepth 100000 in
theorem open_sum (s : ByteArray) (w : World) (h : 8 ≤ s.size) (hs : s.size ≤ 9223372036854775807) (h1 : lenOf s h ≤ 1048576) (h2 : lenOf s h ≤ s.size - 8) :
    Calls Tryz.prog 46 #[.string s] w (OpenPost (openM s) w) := by
  have HM := Lib.hid (openM_eq s h h1 h2)
  have i0 : 0 < s.size := by omega
  have j0 : (0 : Int) < (s.size : Int) := by omega
  have j1 : (1 : Int) < (s.size : Int) := by omega
  have j2 : (2 : Int) < (s.size : Int) := by omega
  have j3 : (3 : Int) < (s.size : Int) := by omega
  have j4 : (4 : Int) < (s.size : Int) := by omega
  have j5 : (5 : Int) < (s.size : Int) := by omega
  have j6 : (6 : Int) < (s.size : Int) := by omega
  have j7 : (7 : Int) < (s.size : Int) := by omega
  have b0 := byte_lt s[0]
  have b1 := byte_lt s[1]
  have b2 := byte_lt s[2]
  have b3 := byte_lt s[3]
  have b4 := byte_lt s[4]
  have b5 := byte_lt s[5]
  have b6 := byte_lt s[6]
  have b7 := byte_lt s[7]
  have HOR := Lib.hid (len_or s h)
  have HSR := Lib.hid (sum_or s h)
  have hlt := sumOf_lt s h
  generalize lenOf s h = n at *
  generalize sumOf s h = m at *
  have d1 : decide ((1048576 : Int) < (n : Int)) = false := by simp; omega
  have d2 : decide ((s.size : Int) - 8 < (n : Int)) = false := by simp; omega
  have e1 : (8 : Int) + (n : Int) ≤ (s.size : Int) := by omega
  have e2 : (8 : Int) ≤ 8 + (n : Int) := by omega
  have hor := HOR.out
  go_enter Tryz.func46, Tryz.ntmps46
  go_wp2_with fail
  go_quiet (fail)
  clear hor HOR
  go_wp2_with fail
  have hsr := HSR.out
  go_quiet (fail)
  clear hsr HSR
  go_wp2_with fail
  refine (sum_any _ [s.extract 0 4, s.extract 8 (8 + n)] _ (strs_alloc _ (by simp)) ?_).mono ?_
  · intro t ht
    simp only [List.mem_cons, List.not_mem_nil, or_false] at ht
    rcases ht with rfl | rfl <;> rw [ByteArray.size_extract] <;> omega
  rintro e w2 ⟨rfl, hu2⟩
  have hcat : cat [s.extract 0 4, s.extract 8 (8 + n)] = nums (s.extract 0 4) ++ nums (s.extract 8 (8 + n)) := by simp [cat]
  rw [hcat]
  have hu3 : Upd (fun _ => False) w w2 := (((Upd.refl (fun _ => False) w).drewN _).alloc _).trans hu2 (fun _ _ h => h)
  clear hu2 hcat
  have hxlt : Crc.sum (nums (s.extract 0 4) ++ nums (s.extract 8 (8 + n))) < 4294967296 := Crc.sum_lt (fun b hb => by
    rcases List.mem_append.1 hb with h | h <;> exact nums_byte _ b h)
  by_cases hx : Crc.sum (nums (s.extract 0 4) ++ nums (s.extract 8 (8 + n))) = m
  · have HM1 := Lib.hid (HM.out.trans (if_pos hx))
    rw [hx]
    clear HM hx hxlt
    go_wp2_with fail
    go_ret3
    rw [HM1.out]
    exact ⟨rfl, hu3⟩
  · have HM1 := Lib.hid (HM.out.trans (if_neg hx))
    generalize Crc.sum (nums (s.extract 0 4) ++ nums (s.extract 8 (8 + n))) = x at *
    have hne : ((x : Int) != (m : Int)) = true := by simp; omega
    clear HM hx
    go_wp2_with fail
    go_ret3
    rw [HM1.out]
    exact ⟨rfl, hu3⟩
end Go.Proofs.YtgkegfgdpekehaaGreat
