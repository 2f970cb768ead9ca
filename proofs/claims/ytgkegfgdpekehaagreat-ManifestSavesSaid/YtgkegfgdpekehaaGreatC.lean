/- The walks of laid, of Frame and of the reference's Frame. -/
import Derived.Test.YtgkegfgdpekehaaGreatB
namespace Go.Proofs.YtgkegfgdpekehaaGreat
open Go.RowKit Go.Acre

/-- bytes as a string -/
def str (l : List Nat) : ByteArray := strOfNums (l.map Int.ofNat)
theorem nums_str {l : List Nat} (h : ∀ b ∈ l, b < 256) : nums (str l) = l := by
  simp only [nums, str, strOfNums_data, List.map_map]
  conv => rhs; rw [← List.map_id l]
  apply List.map_congr_left
  intro b hb
  have := h b hb
  simp
  omega
theorem nums_append (a b : ByteArray) : nums (a ++ b) = nums a ++ nums b := by
  simp [nums, ByteArray.data_append]
def head (n : Nat) : List Nat := [n / 16777216 % 256, n / 65536 % 256, n / 256 % 256, n % 256]
def le4 (n : Nat) : List Nat := [n % 256, n / 256 % 256, n / 65536 % 256, n / 16777216 % 256]
theorem head_byte (n : Nat) : ∀ b ∈ head n, b < 256 := by simp [head]; omega
theorem le4_byte (n : Nat) : ∀ b ∈ le4 n, b < 256 := by simp [le4]; omega
theorem str4 {a b c d : Int} {x y z u : Nat} (ha : a = x) (hb : b = y) (hc : c = z) (hd : d = u) : strOfNums [a, b, c, d] = str [x, y, z, u] := by
  subst ha; subst hb; subst hc; subst hd; rfl
/-- the frame of a body -/
def frameB (body : ByteArray) : ByteArray := (str (head body.size) ++ str (le4 (Crc.sum (head body.size ++ nums body)))) ++ body

theorem conv4 (w : World) (a b c d : Int) :
    (convert 111 9 (.slice (some ⟨w.heap.size, 0, none⟩) 4 4)).run Tryz.prog (w.alloc (.cells #[.int .u8 a, .int .u8 b, .int .u8 c, .int .u8 d] 5)) =
      .ok (.string (strOfNums [a, b, c, d])) (w.alloc (.cells #[.int .u8 a, .int .u8 b, .int .u8 c, .int .u8 d] 5)) :=
  convert_ints (ints_alloc [a, b, c, d] (by simp)) 111 9 5 Tryz.underlying111 Tryz.underlying5 Tryz.underlying9

def StrPost (s : ByteArray) (w : World) (e : Ending) (w' : World) : Prop := e = .returned (.string s) ∧ Upd (fun _ => False) w w'

theorem laid_any (n : Nat) (w : World) (hn : n ≤ 4294967295) : Calls Tryz.prog 68 #[.int .i64 n] w (StrPost (str (head n)) w) := by
  have hc := conv4
  go_enter Tryz.func68, Tryz.ntmps68
  go_wp2_with fail
  go_ret
  exact ⟨congrArg (fun s => Ending.returned (.string s)) (str4 (by omega) (by omega) (by omega) (by omega)), (Upd.refl _ w).alloc _⟩

def FramePost (body : ByteArray) (w : World) (e : Ending) (w' : World) : Prop := e = .returned (.tuple #[.string (frameB body), .int .i64 0]) ∧ Upd (fun _ => False) w w'

theorem frame_long (body : ByteArray) (w : World) (h : 1048576 < body.size) (hs : body.size ≤ 9223372036854775807) : Calls Tryz.prog 44 #[.string body] w fun e w' => e = .returned (.tuple #[.string ⟨#[]⟩, .int .i64 3]) ∧ w = w' := by
  go_enter Tryz.func44, Tryz.ntmps44
  go_wp2_with fail
  go_ret2
  exact ⟨rfl, rfl⟩
theorem rframe_long (body : ByteArray) (w : World) (h : 1048576 < body.size) (hs : body.size ≤ 9223372036854775807) : Calls Tryz.prog 61 #[.string body] w fun e w' => e = .returned (.tuple #[.string ⟨#[]⟩, .int .i64 3]) ∧ w = w' := by
  go_enter Tryz.func61, Tryz.ntmps61
  go_wp2_with fail
  go_ret2
  exact ⟨rfl, rfl⟩

theorem nums4_size (a b c d : Int) : (strOfNums [a, b, c, d]).size = 4 := by simp [strOfNums_size]
theorem str_size (l : List Nat) : (str l).size = l.length := by simp [str, strOfNums_size]

set_option maxHeartbeats 1000000 in
theorem frame_any (body : ByteArray) (w : World) (h : body.size ≤ 1048576) : Calls Tryz.prog 44 #[.string body] w (FramePost body w) := by
  have hc := conv4
  go_enter Tryz.func44, Tryz.ntmps44
  go_wp2_with fail
  refine (laid_any body.size _ (by omega)).mono ?_
  rintro e w1 ⟨rfl, hu⟩
  go_wp2_with fail
  refine (sum_any _ [str (head body.size), body] _ (strs_alloc _ (by simp)) (by simp [str_size, head]; omega)).mono ?_
  rintro e w2 ⟨rfl, hu2⟩
  have hu3 := (hu.alloc (.cells ([str (head body.size), body].map .string).toArray 9)).trans hu2 (fun _ _ h => h)
  have hcat : cat [str (head body.size), body] = head body.size ++ nums body := by simp [cat, nums_str (head_byte _)]
  have hlt : Crc.sum (head body.size ++ nums body) < 4294967296 := Crc.sum_lt (fun b hb => by
    rcases List.mem_append.1 hb with h | h
    · exact head_byte _ b h
    · exact nums_byte _ b h)
  rw [hcat]
  have hfr : frameB body = (str (head body.size) ++ str (le4 (Crc.sum (head body.size ++ nums body)))) ++ body := rfl
  have HFR := Lib.hid hfr
  generalize Crc.sum (head body.size ++ nums body) = x at *
  have hsz : (str (head body.size)).size = 4 := by simp [str_size, head]
  generalize str (head body.size) = hd at *
  clear hu hu2 hcat hfr
  have hsn := nums4_size
  go_wp2_with fail
  go_ret2
  rw [str4 (show (x : Int) % 256 = ((x % 256 : Nat) : Int) from by omega) (show (x : Int) / 256 % 256 = ((x / 256 % 256 : Nat) : Int) from by omega) (show (x : Int) / 65536 % 256 = ((x / 65536 % 256 : Nat) : Int) from by omega) (show (x : Int) / 16777216 = ((x / 16777216 % 256 : Nat) : Int) from by omega)]
  exact ⟨by rw [HFR.out]; rfl, hu3.alloc _⟩

set_option maxHeartbeats 1000000 in
set_option maxRecDepth 100000 in
theorem rframe_any (body : ByteArray) (w : World) (h : body.size ≤ 1048576) : Calls Tryz.prog 61 #[.string body] w (FramePost body w) := by
  have hc := conv4
  have hu0 : Upd (fun _ => False) w w := Upd.refl _ _
  have hsn := nums4_size
  have hd1 : Hid (strOfNums [(body.size : Int) / 16777216, (body.size : Int) / 65536, (body.size : Int) / 256 % 256, (body.size : Int) % 256] = str (head body.size)) :=
    str4 (by omega) (by omega) (by omega) (by omega)
  have hlt : Crc.sum (head body.size ++ nums body) < 4294967296 := Crc.sum_lt (fun b hb => by
    rcases List.mem_append.1 hb with h | h
    · exact head_byte _ b h
    · exact nums_byte _ b h)
  have HFR : Hid (frameB body = (str (head body.size) ++ str (le4 (Crc.sum (head body.size ++ nums body)))) ++ body) := rfl
  have hsz : (str (head body.size)).size = 4 := by simp [str_size, head]
  have hnum : Hid (nums (str (head body.size) ++ body) = head body.size ++ nums body) := by
    show _ = _
    rw [nums_append, nums_str (head_byte _)]
  go_enter Tryz.func61, Tryz.ntmps61
  go_wp2_with fail
  rw [hd1.out]
  refine (rsum_any _ _ (by simp [ByteArray.size_append, hsz]; omega)).mono ?_
  rintro e w2 ⟨rfl, rfl⟩
  rw [hnum.out]
  have hu1 := hu0.alloc (.cells #[.int .u8 ((body.size : Int) / 16777216), .int .u8 ((body.size : Int) / 65536), .int .u8 ((body.size : Int) / 256 % 256), .int .u8 ((body.size : Int) % 256)] 5)
  generalize w.alloc (.cells #[.int .u8 ((body.size : Int) / 16777216), .int .u8 ((body.size : Int) / 65536), .int .u8 ((body.size : Int) / 256 % 256), .int .u8 ((body.size : Int) % 256)] 5) = w2 at *
  generalize Crc.sum (head body.size ++ nums body) = x at *
  generalize str (head body.size) = hd at *
  clear hnum hd1
  go_wp2_with fail
  go_ret2
  rw [str4 (show (x : Int) % 256 = ((x % 256 : Nat) : Int) from by omega) (show (x : Int) / 256 % 256 = ((x / 256 % 256 : Nat) : Int) from by omega) (show (x : Int) / 65536 % 256 = ((x / 65536 % 256 : Nat) : Int) from by omega) (show (x : Int) / 16777216 = ((x / 16777216 % 256 : Nat) : Int) from by omega)]
  exact ⟨by rw [HFR.out]; rfl, hu1.alloc _⟩
end Go.Proofs.YtgkegfgdpekehaaGreat
