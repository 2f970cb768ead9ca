/- The walk of ManifestBack. -/
import Derived.Test.YtgkegfgdpekehaaMv
namespace Go.Proofs.Ytgkegfgdpekehaa
open Go.RowKit Go.Acre Go.Acre.Dk
theorem byte_list {z : List Int} (h : ∀ n ∈ z, (Lit.int .u8 n).wf = true) : z = (z.map Int.toNat).map Int.ofNat ∧ ∀ x ∈ z.map Int.toNat, x < 256 := by
  constructor
  · rw [List.map_map]
    conv => lhs; rw [← List.map_id z]
    apply List.map_congr_left
    intro n hn
    have := byte_of_wf (h n hn)
    show n = ((n.toNat : Nat) : Int)
    omega
  · intro x hx
    obtain ⟨n, hn, rfl⟩ := List.mem_map.1 hx
    have := byte_of_wf (h n hn)
    omega
theorem u32_of_wf {n : Int} (h : (Lit.int .u32 n).wf = true) : 0 ≤ n ∧ n < 4294967296 := by
  simp [Lit.wf, IntKind.min, IntKind.max, IntKind.signed, IntKind.bits] at h
  omega
set_option maxHeartbeats 8000000 in
set_option maxRecDepth 100000 in
theorem mback_any (a : Option Addr) (len cap : Nat) (z : List Int) (l : Int) (w : World) (h0 : IntsAt .u8 w (.slice a len cap) z ∧ len = z.length ∧ ∀ n ∈ z, (Lit.int .u8 n).wf = true) (h1 : (Lit.int .u32 l).wf = true) :
    Calls Try.prog 12 #[.slice a len cap, .int .u32 l] w (Fresh true w) := by
  obtain ⟨hz, hlen, hwf⟩ := h0
  obtain ⟨log, rfl⟩ : ∃ log : Nat, l = (log : Int) := ⟨l.toNat, by have := u32_of_wf h1; omega⟩
  have hlog : log < 4294967296 := by have := u32_of_wf h1; omega
  obtain ⟨hb1, hb2⟩ := byte_list hwf
  have hlb : len ≤ 9223372036854775807 := by
    obtain ⟨_, _, _, hv, h3, h4, _⟩ := hz
    simp only [Value.slice.injEq] at hv
    obtain ⟨_, rfl, _⟩ := hv
    unfold maxLen at h4
    omega
  have hll : len = (z.map Int.toNat).length := by rw [List.length_map]; exact hlen
  rw [hb1] at hz
  have HM := Lib.hid (made_any (w := w) hll hz hb2 hlog hlb)
  have hmay := made_may (z.map Int.toNat) log hlog
  generalize hx : madeS (z.map Int.toNat) log = x at *
  have HEN := enc_yes hmay
  have HBK := decodeS_back hmay
  have HCUT := Lib.hid (decodeS_cut hmay)
  have HLNG := Lib.hid (decodeS_long hmay ⟨#[0]⟩ (by decide))
  have HIDS := Lib.hid (flat_ids hmay)
  have HMAY := Lib.hid hmay
  have hsz : (frameB (stateB x)).size ≤ 200008 ∧ 8 ≤ (frameB (stateB x)).size := by
    have := stateB_le hmay
    rw [frameB_size]
    omega
  have HE : Hid (∀ {w' : World} {a : Option Addr} {ca : Nat}, LevsAt w' (.slice a x.levels.length ca) x.levels → Calls Try.prog 31 #[.agg #[.int .u64 (x.next : Nat), .int .u64 (x.log : Nat), .slice a x.levels.length ca]] w' (fun e w2 => e = .returned (.tuple #[.string (frameB (stateB x)), .int .i64 0]) ∧ Upd (fun _ => False) w' w2)) := fun h => by
    have h2 := encode_any (s := x) rfl h (flat_ids hmay)
    unfold EncPost at h2
    rw [HEN.1, HEN.2] at h2
    exact h2
  have HD1 : Hid (∀ w' : World, Calls Try.prog 36 #[.string (frameB (stateB x))] w' (fun e w2 => ∃ a cap, e = .returned (.tuple #[.agg #[.int .u64 (x.next : Nat), .int .u64 (x.log : Nat), .slice a x.levels.length cap], .int .i64 0]) ∧ LevsAt w2 (.slice a x.levels.length cap) x.levels ∧ Upd (fun _ => False) w' w2)) := fun w' => by
    have h2 := decode_any (w := w') (frameB (stateB x)) (by omega)
    rw [HBK] at h2
    exact h2
  generalize frameB (stateB x) = fb at *
  have HD2 : Hid (∀ w' : World, Calls Try.prog 36 #[.string (fb.extract 0 (fb.size - 1))] w' (fun e w2 => e = .returned (.tuple #[.agg #[.int .u64 0, .int .u64 0, .slice none 0 0], .int .i64 4]) ∧ Upd (fun _ => False) w' w2)) := fun w' => by
    have h2 := decode_any (w := w') (fb.extract 0 (fb.size - 1)) (by rw [ByteArray.size_extract]; omega)
    rw [HCUT.out] at h2
    exact h2
  have HD3 : Hid (∀ w' : World, Calls Try.prog 36 #[.string (fb ++ ⟨#[0]⟩)] w' (fun e w2 => e = .returned (.tuple #[.agg #[.int .u64 0, .int .u64 0, .slice none 0 0], .int .i64 4]) ∧ Upd (fun _ => False) w' w2)) := fun w' => by
    have h2 := decode_any (w := w') (fb ++ ⟨#[0]⟩) (by rw [ByteArray.size_append]; show fb.size + 1 ≤ _; omega)
    rw [HLNG.out] at h2
    exact h2
  have HC : Hid (∀ {w' : World} {a : Option Addr} {ca : Nat}, LevsAt w' (.slice a x.levels.length ca) x.levels → Calls Try.prog 33 #[.agg #[.int .u64 (x.next : Nat), .int .u64 (x.log : Nat), .slice a x.levels.length ca]] w' (fun e w2 => e = .returned (.int .i64 0) ∧ Upd (fun _ => False) w' w2)) := fun h => by
    have h2 := check_any (s := x) rfl h HIDS.out
    unfold CheckPost at h2
    rw [if_pos HMAY.out] at h2
    exact h2
  have HS : Hid (∀ {w' : World} {a b : Option Addr} {ca cb : Nat}, LevsAt w' (.slice a x.levels.length ca) x.levels → LevsAt w' (.slice b x.levels.length cb) x.levels → Calls Try.prog 40 #[.agg #[.int .u64 (x.next : Nat), .int .u64 (x.log : Nat), .slice a x.levels.length ca], .agg #[.int .u64 (x.next : Nat), .int .u64 (x.log : Nat), .slice b x.levels.length cb]] w' (Fresh true w')) := fun h1 h2 => lsame_state rfl h1 h2
  have h01 : (⟨#[0]⟩ : ByteArray).size = 1 := rfl
  have hadd : ∀ u : World, (Op.stringOp .add fb (⟨#[0]⟩ : ByteArray)).run Try.prog u = .ok (.string (fb ++ ⟨#[0]⟩)) u := fun u => run_string_add_sum u _ _ (by rw [h01]; omega)
  have hnot : ¬ (fb.size + (⟨#[0]⟩ : ByteArray).size > 9223372036854775807) := by rw [h01]; omega
  have hf0 : ((fb.size : Int) == 0) = false := by rw [beq_eq_false_iff_ne]; omega
  have hf1 : (1 : Int) ≤ (fb.size : Int) := by omega
  have HSZ := Lib.hid hsz
  clear hz hb1 hb2 hll hwf h1 hlen hmay HEN HBK hx HCUT HLNG hsz
  go_enter Try.func12, Try.ntmps12
  go_wp2_with fail
  refine HM.out.mono ?_
  rintro e w1 ⟨va, vc, rfl, hout1, hu⟩
  have hl1 := hout1.levs
  clear hout1
  go_upto_region 2 with fail
  have hua : Upd (fun _ => False) w1 (w1.alloc (.cells #[.int .u64 (x.next : Nat), .int .u64 (x.log : Nat), .slice va x.levels.length vc] 45)) := (Upd.refl _ w1).alloc _
  have hx1 := heap_alloc (w := w1) (.cells #[.int .u64 (x.next : Nat), .int .u64 (x.log : Nat), .slice va x.levels.length vc] 45)
  have hl2 := hl1.upd0 hua
  have HU2 := Lib.hid (hu.trans hua (fun _ _ f => f))
  clear hua hl1 hu HM
  generalize w1.alloc (.cells #[.int .u64 (x.next : Nat), .int .u64 (x.log : Nat), .slice va x.levels.length vc] 45) = w2 at *
  generalize w1.heap.size = xb at *
  obtain ⟨p0, p1, p2⟩ := box_cells hx1
  go_wp2_with fail
  refine (HE.out hl2).mono ?_
  rintro e w3 ⟨rfl, hu⟩
  have hx3 := hu.keep hx1 (fun f => f)
  have hl3 := hl2.upd0 hu
  have HU3 := Lib.hid (HU2.out.trans hu (fun _ _ f => f))
  clear p0 p1 p2 hx1 hl2 hu
  go_wp2_with fail
  refine (HD1.out _).mono ?_
  rintro e w4 ⟨da, dc, rfl, hl4, hu⟩
  have hx4 := hu.keep hx3 (fun f => f)
  have hl5 := hl3.upd0 hu
  have HU4 := Lib.hid (HU3.out.trans hu (fun _ _ f => f))
  clear hx3 hl3 hu
  go_upto_region 4 with fail
  have hua : Upd (fun _ => False) w4 (w4.alloc (.cells #[.int .u64 (x.next : Nat), .int .u64 (x.log : Nat), .slice da x.levels.length dc] 45)) := (Upd.refl _ w4).alloc _
  have hya := heap_alloc (w := w4) (.cells #[.int .u64 (x.next : Nat), .int .u64 (x.log : Nat), .slice da x.levels.length dc] 45)
  have hx5 := hua.keep hx4 (fun f => f)
  have hl6 := hl4.upd0 hua
  have hl7 := hl5.upd0 hua
  have HU5 := Lib.hid (HU4.out.trans hua (fun _ _ f => f))
  clear hua hx4 hl4 hl5
  generalize w4.alloc (.cells #[.int .u64 (x.next : Nat), .int .u64 (x.log : Nat), .slice da x.levels.length dc] 45) = w5 at *
  generalize w4.heap.size = yb at *
  obtain ⟨p0, p1, p2⟩ := box_cells hx5
  obtain ⟨q0, q1, q2⟩ := box_cells hya
  have HX5 := Lib.hid hx5
  have HL6 := Lib.hid hl6
  have HL7 := Lib.hid hl7
  clear hx5 hya hl6 hl7
  go_wp2_with fail
  refine (HS.out HL6.out HL7.out).mono ?_
  rintro e w6 ⟨rfl, hu⟩
  have hx6 := hu.keep HX5.out (fun f => f)
  have hl8 := HL7.out.upd0 hu
  have HU6 := Lib.hid (HU5.out.trans hu (fun _ _ f => f))
  clear hu p0 p1 p2 q0 q1 q2
  obtain ⟨p0, p1, p2⟩ := box_cells hx6
  go_wp2_with fail
  refine (HC.out hl8).mono ?_
  rintro e w7 ⟨rfl, hu⟩
  have HU7 := Lib.hid (HU6.out.trans hu (fun _ _ f => f))
  clear hu p0 p1 p2 hx6 hl8
  go_wp2_with fail
  refine (HD2.out _).mono ?_
  rintro e w8 ⟨rfl, hu⟩
  have HU8 := Lib.hid (HU7.out.trans hu (fun _ _ f => f))
  clear hu
  go_wp2_with fail
  refine (HD3.out _).mono ?_
  rintro e w9 ⟨rfl, hu⟩
  have HU9 := Lib.hid (HU8.out.trans hu (fun _ _ f => f))
  clear hu
  go_wp2_with (go_at_call 38; refine (mworks_any _).mono ?_; rintro e w10 ⟨rfl, hu10⟩)
  go_ret
  exact ⟨rfl, HU9.out.trans hu10 (fun _ _ f => f)⟩
end Go.Proofs.Ytgkegfgdpekehaa
