/- The walk of made. -/
import Derived.Test.YtgkegfgdpekehaaGreatMu
namespace Go.Proofs.YtgkegfgdpekehaaGreat
open Go.RowKit Go.Acre Go.Acre.Dk
def MadePost (x : MSt) (w : World) (e : Ending) (w' : World) : Prop := ∃ a cap, e = .returned (.agg #[.int .u64 (x.next : Nat), .int .u64 (x.log : Nat), .slice a x.levels.length cap]) ∧ OutAt w' w.heap.size (.slice a x.levels.length cap) x.levels ∧ Upd (fun _ => False) w w'
theorem conv2 (w : World) (a b : Int) : (convert 111 9 (.slice (some ⟨w.heap.size, 0, none⟩) 2 2)).run Tryz.prog (w.alloc (.cells #[.int .u8 a, .int .u8 b] 5)) = .ok (.string (strOfNums [a, b])) (w.alloc (.cells #[.int .u8 a, .int .u8 b] 5)) :=
  convert_ints (ints_alloc [a, b] (by simp)) 111 9 5 Tryz.underlying111 Tryz.underlying5 Tryz.underlying9
theorem lo_str (m i : Nat) : strOfNums [2 * (m : Int), (i : Int)] = str [2 * m, i] := by
  unfold str
  simp
theorem hi_str (m : Nat) : strOfNums [2 * (m : Int) + 1] = str [2 * m + 1] := by
  unfold str
  simp
theorem cell_lt {w : World} {g o : Nat} {v : Value} (h : w.cell? ⟨g, o, none⟩ = some v) : g < w.heap.size := by
  by_cases hg : g < w.heap.size
  · exact hg
  · exfalso
    simp [World.cell?, Array.getElem?_eq_none (show w.heap.size ≤ g by omega)] at h
theorem flatF (f : PF) : flatP [f] = [.int .u64 (f.id : Nat), .string f.low, .string f.high, .int .i64 f.cells] := rfl
end Go.Proofs.YtgkegfgdpekehaaGreat
/- The walk of works. -/
namespace Go.Proofs.YtgkegfgdpekehaaGreat
open Go.RowKit Go.Acre Go.Acre.Dk
def f0 : PF := ⟨1, ⟨#[97]⟩, ⟨#[98]⟩, 7⟩
def x0 : MSt := ⟨2, 5, [[f0]]⟩
def b0 : ByteArray := ⟨#[2, 5, 1, 1, 1, 1, 97, 1, 98, 7]⟩
theorem s97 : (⟨#[97]⟩ : ByteArray) = str [97] := rfl
theorem s98 : (⟨#[98]⟩ : ByteArray) = str [98] := rfl
theorem right_f0 : rightB f0 2 = true := by
  refine right_iff.2 ⟨by decide, by decide, by decide, by decide, ?_, by decide, by decide⟩
  show bf (⟨#[98]⟩ : ByteArray) ⟨#[97]⟩ = false
  rw [s97, s98]
  exact bf_asymm (bf_first (by omega) (by omega) (by omega))
theorem may_x0 : mayS x0 = true := by
  unfold mayS
  rw [Bool.and_eq_true]
  refine ⟨head_iff.2 ⟨by decide, by decide, by decide, by decide, by decide⟩, ?_⟩
  show allOk 2 [] [(0, f0)] = true
  have h : okAt 2 [] (0, f0) = true := by
    unfold okAt
    show (newB [] (0, f0) && decide (0 ≠ 1024) && rightB f0 2 && stepB [] (0, f0)) = true
    rw [right_f0]
    rfl
  rw [allOk, h]
  rfl
theorem state_x0 : stateB x0 = b0 := by
  apply nums_inj
  have e : nums b0 = [2, 5, 1, 1, 1, 1, 97, 1, 98, 7] := rfl
  rw [e]
  have e1 : ∀ v, v < 128 → nums (str (num v)) = [v] := fun v h => by rw [num_small h, nums_str]; intro b hb; simp at hb; omega
  have e2 : nums (⟨#[97]⟩ : ByteArray) = [97] := rfl
  have e3 : nums (⟨#[98]⟩ : ByteArray) = [98] := rfl
  have z1 : (⟨#[97]⟩ : ByteArray).size = 1 := rfl
  have z2 : (⟨#[98]⟩ : ByteArray).size = 1 := rfl
  have z3 : nums (⟨#[]⟩ : ByteArray) = [] := rfl
  simp only [stateB, x0, levelsB, levelB, filesB, fileB, f0, txt, nums_append, List.length_cons, List.length_nil, z1, z2, z3, e2, e3, Nat.zero_add, Nat.reduceAdd]
  rw [e1 2 (by omega), e1 5 (by omega), e1 1 (by omega), show (7 : Int).toNat = 7 from rfl, e1 7 (by omega)]
  rfl
theorem levs_x0 (w : World) : LevsAt (((w.alloc (.cells #[.int .u64 1, .string ⟨#[97]⟩, .string ⟨#[98]⟩, .int .i64 7] 72)).alloc (.cells #[.slice (some ⟨w.heap.size, 0, none⟩) 1 1] 70))) (.slice (some ⟨w.heap.size + 1, 0, none⟩) 1 1) x0.levels := by
  have h1 := slc4 (w := w) (.int .u64 1) (.string ⟨#[97]⟩) (.string ⟨#[98]⟩) (.int .i64 7)
  have hu : Upd (fun _ => False) (w.alloc (.cells #[.int .u64 1, .string ⟨#[97]⟩, .string ⟨#[98]⟩, .int .i64 7] 72)) ((w.alloc (.cells #[.int .u64 1, .string ⟨#[97]⟩, .string ⟨#[98]⟩, .int .i64 7] 72)).alloc (.cells #[.slice (some ⟨w.heap.size, 0, none⟩) 1 1] 70)) := (Upd.refl _ _).alloc _
  have h2 := slc_alloc (w := w.alloc (.cells #[.int .u64 1, .string ⟨#[97]⟩, .string ⟨#[98]⟩, .int .i64 7] 72)) (.slice (some ⟨w.heap.size, 0, none⟩) 1 1)
  rw [World.size_alloc] at h2
  refine ⟨_, h2, fun i hi => ?_⟩
  have hi0 : i = 0 := by
    have : i < 1 := hi
    omega
  subst hi0
  exact ⟨_, rfl, RowAt.upd0 h1 hu⟩
set_option maxHeartbeats 8000000 in
set_option maxRecDepth 100000 in
theorem mworks_any (w : World) : Calls Tryz.prog 19 #[] w (Fresh true w) := by
  have HL := Lib.hid (levs_x0 w)
  have hu0 : Upd (fun _ => False) w (((w.alloc (.cells #[.int .u64 1, .string ⟨#[97]⟩, .string ⟨#[98]⟩, .int .i64 7] 72)).alloc (.cells #[.slice (some ⟨w.heap.size, 0, none⟩) 1 1] 70))) := ((Upd.refl _ w).alloc _).alloc _
  have HU := Lib.hid hu0
  clear hu0
  obtain ⟨fb, hfb⟩ : ∃ fb, frameB b0 = fb := ⟨_, rfl⟩
  have hE := enc_yes may_x0
  rw [state_x0, hfb] at hE
  have hD := decodeS_back may_x0
  rw [state_x0, hfb] at hD
  have hfs : fb.size ≤ 9223372036854775807 := by
    rw [← hfb, frameB_size]
    show 10 + 8 ≤ _
    omega
  have HE : Hid (∀ {w' : World} {a : Option Addr} {ca : Nat}, LevsAt w' (.slice a 1 ca) x0.levels → Calls Tryz.prog 28 #[.agg #[.int .u64 2, .int .u64 5, .slice a 1 ca]] w' (fun e w2 => e = .returned (.tuple #[.string fb, .int .i64 0]) ∧ Upd (fun _ => False) w' w2)) := fun h => by
    have h2 := encode_any (s := x0) (n := 1) rfl h (flat_ids may_x0)
    unfold EncPost at h2
    rw [hE.1, hE.2] at h2
    exact h2
  have HF : Hid (∀ w' : World, Calls Tryz.prog 44 #[.string ⟨#[2, 5, 1, 1, 1, 1, 97, 1, 98, 7]⟩] w' (fun e w2 => e = .returned (.tuple #[.string fb, .int .i64 0]) ∧ Upd (fun _ => False) w' w2)) := fun w' => by
    have h2 := frame_any b0 w' (by decide)
    unfold FramePost at h2
    rw [hfb] at h2
    exact h2
  have HDD : Hid (∀ w' : World, Calls Tryz.prog 25 #[.string fb] w' (fun e w2 => ∃ a cap, e = .returned (.tuple #[.agg #[.int .u64 2, .int .u64 5, .slice a 1 cap], .int .i64 0]) ∧ LevsAt w2 (.slice a 1 cap) x0.levels ∧ Upd (fun _ => False) w' w2)) := fun w' => by
    have h2 := decode_any (w := w') fb hfs
    rw [hD] at h2
    exact h2
  clear hfb hE hD hfs
  go_enter Tryz.func19, Tryz.ntmps19
  go_upto_region 2 with fail
  have hsa : ((w.alloc (.cells #[.int .u64 1, .string ⟨#[97]⟩, .string ⟨#[98]⟩, .int .i64 7] 72)).alloc (.cells #[.slice (some ⟨w.heap.size, 0, none⟩) 1 1] 70)).heap.size = w.heap.size + 1 + 1 := by simp
  generalize (w.alloc (.cells #[.int .u64 1, .string ⟨#[97]⟩, .string ⟨#[98]⟩, .int .i64 7] 72)).alloc (.cells #[.slice (some ⟨w.heap.size, 0, none⟩) 1 1] 70) = wa at *
  generalize w.heap.size + 1 = ga at *
  have hu1 : Upd (fun _ => False) wa (wa.alloc (.cells #[.int .u64 2, .int .u64 5, .slice (some ⟨ga, 0, none⟩) 1 1] 28)) := (Upd.refl _ wa).alloc _
  have hx1 := heap_alloc (w := wa) (.cells #[.int .u64 2, .int .u64 5, .slice (some ⟨ga, 0, none⟩) 1 1] 28)
  rw [hsa] at hx1
  have hl1 := HL.out.upd0 hu1
  have HU1 := Lib.hid (HU.out.trans hu1 (fun _ _ f => f))
  clear hu1 HL HU
  generalize wa.alloc (.cells #[.int .u64 2, .int .u64 5, .slice (some ⟨ga, 0, none⟩) 1 1] 28) = wb at *
  clear hsa
  obtain ⟨p0, p1, p2⟩ := box_cells hx1
  go_wp2_with fail
  refine (HE.out hl1).mono ?_
  rintro e w1 ⟨rfl, hu⟩
  have hx2 := hu.keep hx1 (fun f => f)
  have hl2 := hl1.upd0 hu
  have HU2 := Lib.hid (HU1.out.trans hu (fun _ _ f => f))
  clear p0 p1 p2 hx1 hl1 hu
  go_wp2_with fail
  refine (HF.out _).mono ?_
  rintro e w2 ⟨rfl, hu⟩
  have hx3 := hu.keep hx2 (fun f => f)
  have hl3 := hl2.upd0 hu
  have HU3 := Lib.hid (HU2.out.trans hu (fun _ _ f => f))
  clear hx2 hl2 hu
  go_wp2_with fail
  refine (HDD.out _).mono ?_
  rintro e w3 ⟨da, dc, rfl, hl4, hu⟩
  have hx4 := hu.keep hx3 (fun f => f)
  have hl5 := hl3.upd0 hu
  have HU4 := Lib.hid (HU3.out.trans hu (fun _ _ f => f))
  clear hx3 hl3 hu
  go_upto_region 5 with fail
  have hua : Upd (fun _ => False) w3 (w3.alloc (.cells #[.int .u64 2, .int .u64 5, .slice da 1 dc] 28)) := (Upd.refl _ w3).alloc _
  have hya := heap_alloc (w := w3) (.cells #[.int .u64 2, .int .u64 5, .slice da 1 dc] 28)
  have hx5 := hua.keep hx4 (fun f => f)
  have hl6 := hl4.upd0 hua
  have hl7 := hl5.upd0 hua
  have HU5 := Lib.hid (HU4.out.trans hua (fun _ _ f => f))
  clear hua hx4 hl4 hl5
  generalize w3.alloc (.cells #[.int .u64 2, .int .u64 5, .slice da 1 dc] 28) = w4 at *
  generalize w3.heap.size = yb at *
  obtain ⟨p0, p1, p2⟩ := box_cells hx5
  obtain ⟨q0, q1, q2⟩ := box_cells hya
  obtain ⟨g, o, la, lc, rfl, c1, l1, m1, m2⟩ := hl6.cell (i := 0) (show 0 < x0.levels.length by decide)
  obtain ⟨g2, o2, la2, lc2, e2, c2, l2, _, _⟩ := hl7.cell (i := 0) (show 0 < x0.levels.length by decide)
  simp only [Option.some.injEq, Addr.mk.injEq, and_true] at e2
  obtain ⟨rfl, rfl⟩ := e2
  obtain ⟨g3, o3, rfl, d0, d1, d2, d3⟩ := l1.cell (i := 0) (show 0 < x0.levels[0].length by decide)
  obtain ⟨g4, o4, rfl, k0, k1, k2, k3⟩ := l2.cell (i := 0) (show 0 < x0.levels[0].length by decide)
  have D0 : w4.cell? ⟨g3, o3 + 0 * 4, none⟩ = some (.int .u64 1) := d0
  have D1 : w4.cell? ⟨g3, o3 + 0 * 4 + 1, none⟩ = some (.string ⟨#[97]⟩) := d1
  have D2 : w4.cell? ⟨g3, o3 + 0 * 4 + 2, none⟩ = some (.string ⟨#[98]⟩) := d2
  have D3 : w4.cell? ⟨g3, o3 + 0 * 4 + 3, none⟩ = some (.int .i64 7) := d3
  have K0 : w4.cell? ⟨g4, o4 + 0 * 4, none⟩ = some (.int .u64 1) := k0
  have K1 : w4.cell? ⟨g4, o4 + 0 * 4 + 1, none⟩ = some (.string ⟨#[97]⟩) := k1
  have K2 : w4.cell? ⟨g4, o4 + 0 * 4 + 2, none⟩ = some (.string ⟨#[98]⟩) := k2
  have K3 : w4.cell? ⟨g4, o4 + 0 * 4 + 3, none⟩ = some (.int .i64 7) := k3
  have C1 : w4.cell? ⟨g, o + 0, none⟩ = some (.slice (some ⟨g3, o3, none⟩) 1 lc) := c1
  have C2 : w4.cell? ⟨ga, 0 + 0, none⟩ = some (.slice (some ⟨g4, o4, none⟩) 1 lc2) := c2
  simp only [Nat.zero_mul, Nat.add_zero] at D0 D1 D2 D3 K0 K1 K2 K3 C1 C2
  clear d0 d1 d2 d3 k0 k1 k2 k3 c1 c2 l1 l2 hl6 hl7 hx5 hya HE HF HDD
  go_wp2_with fail
  go_quiet (fail)
  go_wp2_with fail
  go_ret
  exact ⟨rfl, HU5.out.drewN _⟩
end Go.Proofs.YtgkegfgdpekehaaGreat
