/- Plain: the states and the disks of ManifestKnown. -/
import Derived.Test.YtgkegfgdpekehaaYb
namespace Go.Proofs.Ytgkegfgdpekehaa
open Go.RowKit Go.Acre Go.Acre.Dk
def kA : PF := ⟨1, ⟨#[97]⟩, ⟨#[99]⟩, 1⟩
def kB : PF := ⟨2, ⟨#[98]⟩, ⟨#[100]⟩, 1⟩
def kC : PF := ⟨1, ⟨#[98]⟩, ⟨#[97]⟩, 1⟩
def kD : PF := ⟨1, ⟨#[]⟩, ⟨#[]⟩, 0⟩
def kE : PF := ⟨1, ⟨#[]⟩, ⟨#[]⟩, 1073741825⟩
def kF : PF := ⟨0, ⟨#[]⟩, ⟨#[]⟩, 1⟩
def long : ByteArray := ⟨#[0, 0, 0, 0, 0, 0, 0, 0, 0, 0, 0, 0, 0, 0, 0, 0, 0, 0, 0, 0, 0, 0, 0, 0, 0, 0, 0, 0, 0, 0, 0, 0, 0]⟩
def kG : PF := ⟨1, ⟨#[]⟩, long, 1⟩
def kH : PF := ⟨1, ⟨#[97]⟩, ⟨#[98]⟩, 1⟩
def kI : PF := ⟨2, ⟨#[98]⟩, ⟨#[98]⟩, 1⟩
def s0 : MSt := ⟨1, 1, []⟩
def s1 : MSt := ⟨1099511627776, 1099511627776, [[], [], [], [], [], [], []]⟩
def s2 : MSt := ⟨3, 1, [[kA, kB]]⟩
def okL : List MSt := [s0, s1, s2]
def t0 : MSt := ⟨0, 1, []⟩
def t1 : MSt := ⟨1, 0, []⟩
def t2 : MSt := ⟨1, 1099511627777, []⟩
def t3 : MSt := ⟨1099511627777, 1, []⟩
def t4 : MSt := ⟨1, 1, [[], [], [], [], [], [], [], []]⟩
def t5 : MSt := ⟨3, 1, [[], [kA, kB]]⟩
def t6 : MSt := ⟨2, 1, [[kB]]⟩
def t7 : MSt := ⟨3, 1, [[kA], [kA]]⟩
def t8 : MSt := ⟨3, 1, [[kC]]⟩
def t9 : MSt := ⟨3, 1, [[kD]]⟩
def t10 : MSt := ⟨3, 1, [[kE]]⟩
def t11 : MSt := ⟨3, 1, [[kF]]⟩
def t12 : MSt := ⟨3, 1, [[kG]]⟩
def t13 : MSt := ⟨9, 1, [[], [kH, kI]]⟩
def badL : List MSt := [t0, t1, t2, t3, t4, t5, t6, t7, t8, t9, t10, t11, t12, t13]
def rd3 : List Rd := [.st s0, .levs [[], [], [], [], [], [], []], .st s1, .val (agF kA), .val (agF kB), .lev [kA, kB], .levs [[kA, kB]], .st s2, .sts okL, .sts okL]
def rd10 : List Rd := [.st t0, .st t1, .st t2, .st t3, .levs [[], [], [], [], [], [], [], []], .st t4, .val (agF kA), .val (agF kB), .lev [kA, kB], .levs [[], [kA, kB]], .st t5, .val (agF kB), .lev [kB], .levs [[kB]], .st t6, .val (agF kA), .lev [kA], .val (agF kA), .lev [kA], .levs [[kA], [kA]], .st t7, .val (agF kC), .lev [kC], .levs [[kC]], .st t8, .val (agF kD), .lev [kD], .levs [[kD]], .st t9, .val (agF kE), .lev [kE], .levs [[kE]], .st t10, .val (agF kF), .lev [kF], .levs [[kF]], .st t11, .val (.string long), .val (agF kG), .lev [kG], .levs [[kG]], .st t12, .val (agF kH), .val (agF kI), .lev [kH, kI], .levs [[], [kH, kI]], .st t13, .sts badL, .sts badL]
theorem ok_may : ∀ s ∈ okL, mayS s = true := by
  intro s hs
  unfold okL at hs
  simp only [List.mem_cons, List.not_mem_nil, or_false] at hs
  rcases hs with rfl | rfl | rfl <;> kernel_rfl
theorem bad_may : ∀ s ∈ badL, mayS s = false := by
  intro s hs
  unfold badL at hs
  simp only [List.mem_cons, List.not_mem_nil, or_false] at hs
  rcases hs with rfl | rfl | rfl | rfl | rfl | rfl | rfl | rfl | rfl | rfl | rfl | rfl | rfl | rfl <;> kernel_rfl
theorem kn_ids : ∀ s ∈ okL ++ badL, ∀ y ∈ flat s.levels, y.2.id < 18446744073709551616 := by
  have h : (okL ++ badL).all (fun s => (flat s.levels).all (fun y => decide (y.2.id < 18446744073709551616))) = true := by kernel_rfl
  intro s hs y hy
  have h1 := List.all_eq_true.1 h s hs
  have h2 := List.all_eq_true.1 h1 y hy
  simpa using h2
theorem size_s2 : (stateB s2).size ≤ 100 := of_decide_eq_true (by kernel_rfl)
theorem size_s0 : 1 ≤ (stateB s0).size := of_decide_eq_true (by kernel_rfl)
def mN' : ByteArray := ⟨#[109]⟩
def xN : ByteArray := ⟨#[120]⟩
theorem app_one {room : Nat} {b : ByteArray} (hb : b.size ≤ room) : appendD room [] (mN' ++ nwN) b = ([⟨mN' ++ nwN, b, 0⟩], 0) := by
  unfold appendD
  have h0 : total [] = 0 := rfl
  rw [if_pos (by kernel_rfl), h0, if_pos (show b.size ≤ room - 0 by omega)]
  rfl
theorem save_fit {room : Nat} {b : ByteArray} (hb : b.size ≤ room) : saveD room [] mN' (mN' ++ nwN) b = ([⟨mN', b, b.size⟩], 0) := by
  have h1 : (removeD [] (mN' ++ nwN)).1 = [] := rfl
  have h3 : syncD [⟨mN' ++ nwN, b, 0⟩] (mN' ++ nwN) = ([⟨mN' ++ nwN, b, b.size⟩], 0) := by kernel_rfl
  have h4 : renameD [⟨mN' ++ nwN, b, b.size⟩] (mN' ++ nwN) mN' = ([⟨mN', b, b.size⟩], 0) := by kernel_rfl
  unfold saveD
  rw [h1, app_one hb, if_pos rfl]
  simp only [h3, h4, if_true]
theorem save_over {room : Nat} {b : ByteArray} (hb : room < b.size) : saveD room [] mN' (mN' ++ nwN) b = ([], 7) := by
  have h1 : (removeD [] (mN' ++ nwN)).1 = [] := rfl
  have h2 : appendD room [] (mN' ++ nwN) b = ([], 7) := by
    unfold appendD
    have h0 : total [] = 0 := rfl
    rw [if_pos (by kernel_rfl), h0, if_neg (show ¬ b.size ≤ room - 0 by omega)]
  unfold saveD
  rw [h1, h2, if_neg (by decide)]
theorem crash_one (b : ByteArray) : crashD [⟨mN', b, b.size⟩] [] = [⟨mN', b, b.size⟩] := by
  have h : crashD [⟨mN', b, b.size⟩] [] = [cutE none ⟨mN', b, b.size⟩] := rfl
  rw [h, cut_whole]
theorem get_one (b : ByteArray) (n : Nat) : get En [⟨mN', b, n⟩] mN' = some ⟨mN', b, n⟩ := by kernel_rfl
theorem more_one {room : Nat} {b : ByteArray} (hb : b.size < room) : appendD room [⟨mN', b, b.size⟩] mN' xN = ([⟨mN', b ++ xN, b.size⟩], 0) := by
  have ht : total [⟨mN', b, b.size⟩] = b.size := by
    have h := total_cons (⟨mN', b, b.size⟩ : Ent) []
    rw [h]
    exact Nat.add_zero _
  unfold appendD
  rw [if_pos (by kernel_rfl), ht, if_pos (show xN.size ≤ room - b.size from by have : xN.size = 1 := rfl; omega), get_one]
  show (put En ⟨mN', b ++ xN, b.size⟩ [⟨mN', b, b.size⟩], 0) = _
  have h : put En ⟨mN', b ++ xN, b.size⟩ [⟨mN', b, b.size⟩] = [⟨mN', b ++ xN, b.size⟩] := by kernel_rfl
  rw [h]
theorem rest_none : decodeS (frameB ⟨#[1, 1, 0, 0]⟩) = none := by
  have e : rdState M40 (⟨#[1, 1, 0, 0]⟩ : ByteArray) = some (⟨1, 1, []⟩, ⟨#[0]⟩) := by kernel_rfl
  have h := open_back (body := (⟨#[1, 1, 0, 0]⟩ : ByteArray)) (by decide)
  have hs : (frameB (⟨#[1, 1, 0, 0]⟩ : ByteArray)).size = 12 := by rw [frameB_size]; rfl
  rw [decodeS_open (body := (⟨#[1, 1, 0, 0]⟩ : ByteArray)) (by rw [h, hs]; rfl), e]
  rfl
theorem frame_s2 : (frameB (stateB s2)).size < 1000 := by rw [frameB_size]; have := size_s2; omega
theorem frame_s0 : 5 < (frameB (stateB s0)).size := by rw [frameB_size]; have := size_s0; omega
/-- what the first disk has, step by step -/
def kD1 : Files := [⟨mN', frameB (stateB s2), (frameB (stateB s2)).size⟩]
def kD2 : Files := [⟨mN', frameB (stateB s2) ++ xN, (frameB (stateB s2)).size⟩]
theorem kn_save : saveR 1000 [] mN' s2 = (kD1, 0) := by
  unfold saveR
  rw [if_pos ⟨ok_may s2 (by simp [okL]), by decide, by decide⟩]
  exact save_fit (by have := frame_s2; omega)
theorem kn_over : saveR 5 [] mN' s0 = ([], 7) := by
  unfold saveR
  rw [if_pos ⟨ok_may s0 (by simp [okL]), by decide, by decide⟩]
  exact save_over frame_s0
theorem kn_crash : crashD kD1 [] = kD1 := crash_one _
theorem kn_load0 : loadR [] mN' = (none, 5) := rfl
theorem kn_load1 : loadR kD1 mN' = (some s2, 0) := by
  unfold loadR kD1
  rw [get_one]
  simp only [decodeS_back (ok_may s2 (by simp [okL]))]
theorem kn_more : appendD 1000 kD1 mN' xN = (kD2, 0) := more_one frame_s2
theorem kn_load2 : loadR kD2 mN' = (none, 4) := by
  unfold loadR kD2
  rw [get_one]
  simp only [decodeS_long (ok_may s2 (by simp [okL])) xN (by decide)]
theorem zeros_long : strOfNums (List.replicate 33 0) = long := by kernel_rfl
end Go.Proofs.Ytgkegfgdpekehaa
