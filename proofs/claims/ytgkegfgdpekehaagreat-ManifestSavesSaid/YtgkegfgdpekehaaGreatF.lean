/- The walk of the reference's Open. -/
import Derived.Test.YtgkegfgdpekehaaGreatE
namespace Go.Proofs.YtgkegfgdpekehaaGreat
open Go.RowKit Go.Acre

theorem ropen_short (s : ByteArray) (w : World) (h : s.size < 8) : Calls Tryz.prog 54 #[.string s] w fun e w' => e = .returned (.tuple #[.string ⟨#[]⟩, .int .i64 0, .int .i64 4]) ∧ w = w' := by
  go_enter Tryz.func54, Tryz.ntmps54
  go_wp2_with fail
  go_ret3
  exact ⟨rfl, rfl⟩
set_option maxRecDepth 100000 in
theorem ropen_bad (s : ByteArray) (w : World) (h : 8 ≤ s.size) (hs : s.size ≤ 9223372036854775807) (hn : ¬ (lenOf s h ≤ 1048576 ∧ lenOf s h ≤ s.size - 8)) : Calls Tryz.prog 54 #[.string s] w (Fault w) := by
  have i0 : 0 < s.size := by omega
  have j0 : (0 : Int) < (s.size : Int) := by omega
  have j1 : (1 : Int) < (s.size : Int) := by omega
  have j2 : (2 : Int) < (s.size : Int) := by omega
  have j3 : (3 : Int) < (s.size : Int) := by omega
  have b0 := byte_lt s[0]
  have b1 := byte_lt s[1]
  have b2 := byte_lt s[2]
  have b3 := byte_lt s[3]
  have hor := len_or s h
  have hbd := lenOf_lt s h
  generalize lenOf s h = n at *
  by_cases h1 : n ≤ 1048576
  · have h2 : ((s.size : Int) - 8 < (n : Int)) := by omega
    have d1 : decide ((1048576 : Int) < (n : Int)) = false := by simp; omega
    have d2 : decide ((s.size : Int) - 8 < (n : Int)) = true := by simp; omega
    clear hn
    go_enter Tryz.func54, Tryz.ntmps54
    go_wp2_with fail
    go_quiet (fail)
    go_wp2_with fail
    go_ret3
    exact ⟨rfl, (Upd.refl _ w).drewN _⟩
  · have d1 : decide ((1048576 : Int) < (n : Int)) = true := by simp; omega
    clear hn
    go_enter Tryz.func54, Tryz.ntmps54
    go_wp2_with fail
    go_quiet (fail)
    go_wp2_with fail
    go_ret3
    exact ⟨rfl, (Upd.refl _ w).drewN _⟩

set_option maxHeartbeats 1000000 in
set_option maxRecDepth 100000 in
theorem ropen_sum (s : ByteArray) (w : World) (h : 8 ≤ s.size) (hs : s.size ≤ 9223372036854775807) (h1 : lenOf s h ≤ 1048576) (h2 : lenOf s h ≤ s.size - 8) :
    Calls Tryz.prog 54 #[.string s] w (OpenPost (openM s) w) := by
  have HM := Lib.hid (openM_eq s h h1 h2)
  have HF := Lib.hid (frame_is s h h2)
  have i0 : 0 < s.size := by omega
  have j0 : (0 : Int) < (s.size : Int) := by omega
  have j1 : (1 : Int) < (s.size : Int) := by omega
  have j2 : (2 : Int) < (s.size : Int) := by omega
  have j3 : (3 : Int) < (s.size : Int) := by omega
  have b0 := byte_lt s[0]
  have b1 := byte_lt s[1]
  have b2 := byte_lt s[2]
  have b3 := byte_lt s[3]
  have HOR := Lib.hid (len_or s h)
  generalize lenOf s h = n at *
  generalize sumOf s h = m at *
  have d1 : decide ((1048576 : Int) < (n : Int)) = false := by simp; omega
  have d2 : decide ((s.size : Int) - 8 < (n : Int)) = false := by simp; omega
  have e1 : (8 : Int) + (n : Int) ≤ (s.size : Int) := by omega
  have e2 : (8 : Int) ≤ 8 + (n : Int) := by omega
  have e3 : (0 : Int) ≤ 8 + (n : Int) := by omega
  have hor := HOR.out
  go_enter Tryz.func54, Tryz.ntmps54
  go_wp2_with fail
  go_quiet (fail)
  clear hor HOR
  go_wp2_with fail
  refine (rframe_any (s.extract 8 (8 + n)) _ (by rw [ByteArray.size_extract]; omega)).mono ?_
  rintro e w2 ⟨rfl, hu2⟩
  have hu3 : Upd (fun _ => False) w w2 := (((Upd.refl (fun _ => False) w).drewN _)).trans hu2 (fun _ _ h => h)
  clear hu2
  by_cases hx : frameB (s.extract 8 (8 + n)) = s.extract 0 (8 + n)
  · have HM1 := Lib.hid (HM.out.trans (if_pos (HF.out.1 hx)))
    have hb : ((frameB (s.extract 8 (8 + n))).toList == (s.extract 0 (8 + n)).toList) = true := by rw [hx]; simp
    clear HM HF hx
    generalize frameB (s.extract 8 (8 + n)) = f at *
    go_wp2_with fail
    go_ret3
    rw [HM1.out]
    exact ⟨rfl, hu3⟩
  · have HM1 := Lib.hid (HM.out.trans (if_neg (fun h => hx (HF.out.2 h))))
    have hb : ((frameB (s.extract 8 (8 + n))).toList == (s.extract 0 (8 + n)).toList) = false := by rw [str_eql]; simp [hx]
    clear HM HF hx
    generalize frameB (s.extract 8 (8 + n)) = f at *
    go_wp2_with fail
    go_ret3
    rw [HM1.out]
    exact ⟨rfl, hu3⟩
theorem ropen_any (s : ByteArray) (w : World) (hs : s.size ≤ 9223372036854775807) : Calls Tryz.prog 54 #[.string s] w (OpenPost (openM s) w) := by
  by_cases h : 8 ≤ s.size
  · by_cases hn : lenOf s h ≤ 1048576 ∧ lenOf s h ≤ s.size - 8
    · exact ropen_sum s w h hs hn.1 hn.2
    · refine (ropen_bad s w h hs hn).mono ?_
      rintro e w' ⟨rfl, hu⟩
      rw [openM_bad h hn]
      exact ⟨rfl, hu⟩
  · refine (ropen_short s w (by omega)).mono ?_
    rintro e w' ⟨rfl, rfl⟩
    rw [openM_short h]
    exact ⟨rfl, Upd.refl _ _⟩
end Go.Proofs.YtgkegfgdpekehaaGreat
