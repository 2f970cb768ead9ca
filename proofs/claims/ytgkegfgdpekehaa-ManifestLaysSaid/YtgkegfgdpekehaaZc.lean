/- The walk of the reference's Check. -/
import Derived.Test.YtgkegfgdpekehaaZb
namespace Go.Proofs.Ytgkegfgdpekehaa
open Go.RowKit Go.Acre Go.Acre.Dk
set_option maxHeartbeats 4000000 in
set_option maxRecDepth 100000 in
theorem rcheck_any {w : World} {s : MSt} {a : Option Addr} {n ca : Nat} (hn : n = s.levels.length) (hL : LevsAt w (.slice a n ca) s.levels) (hlb : ∀ l ∈ s.levels, l.length ≤ 1000000) :
    Calls Try.prog 34 #[.agg #[.int .u64 (s.next : Nat), .int .u64 (s.log : Nat), .slice a n ca]] w (CheckPost s w) := by
  have hu1 : Upd (fun _ => False) w (w.alloc (.cells #[.int .u64 (s.next : Nat), .int .u64 (s.log : Nat), .slice a n ca] 45)) := (Upd.refl _ w).alloc _
  have hx1 := heap_alloc (w := w) (.cells #[.int .u64 (s.next : Nat), .int .u64 (s.log : Nat), .slice a n ca] 45)
  have HM := Lib.hid (rmay_any hn (hL.upd0 hu1) hlb)
  have HU := Lib.hid hu1
  have HX := Lib.hid hx1
  clear hn hL hlb hu1 hx1
  go_enter Try.func34, Try.ntmps34
  go_upto_region 1 with fail
  generalize w.alloc (.cells #[.int .u64 (s.next : Nat), .int .u64 (s.log : Nat), .slice a n ca] 45) = wb at *
  generalize w.heap.size = xb at *
  obtain ⟨p0, p1, p2⟩ := box_cells HX.out
  cases hm : mayS s with
  | true =>
    rw [hm] at HM
    have HMM := Lib.hid hm
    clear hm
    go_wp2_with fail
    refine HM.out.mono ?_
    rintro e w1 ⟨rfl, hu⟩
    go_wp2_with fail
    go_ret
    exact ⟨by rw [if_pos HMM.out]; rfl, HU.out.trans hu (fun _ _ f => f)⟩
  | false =>
    rw [hm] at HM
    have HMM : Hid (¬ mayS s = true) := fun h => by rw [hm] at h; cases h
    clear hm
    go_wp2_with fail
    refine HM.out.mono ?_
    rintro e w1 ⟨rfl, hu⟩
    go_wp2_with fail
    go_ret
    exact ⟨by rw [if_neg HMM.out]; rfl, HU.out.trans hu (fun _ _ f => f)⟩
end Go.Proofs.Ytgkegfgdpekehaa
/- The walk of the reference's Encode. -/
namespace Go.Proofs.Ytgkegfgdpekehaa
open Go.RowKit Go.Acre Go.Acre.Dk
set_option maxHeartbeats 8000000 in
set_option maxRecDepth 100000 in
theorem rencode_any {w : World} {s : MSt} {a : Option Addr} {n ca : Nat} (hn : n = s.levels.length) (hL : LevsAt w (.slice a n ca) s.levels) (hid : ∀ l ∈ s.levels, l.length ≤ 1000000) :
    Calls Try.prog 32 #[.agg #[.int .u64 (s.next : Nat), .int .u64 (s.log : Nat), .slice a n ca]] w (EncPost s w) := by
  have hu1 : Upd (fun _ => False) w (w.alloc (.cells #[.int .u64 (s.next : Nat), .int .u64 (s.log : Nat), .slice a n ca] 45)) := (Upd.refl _ w).alloc _
  have hx1 := heap_alloc (w := w) (.cells #[.int .u64 (s.next : Nat), .int .u64 (s.log : Nat), .slice a n ca] 45)
  have HN := Lib.hid hn
  have HU := Lib.hid hu1
  have HX1 := Lib.hid hx1
  have HL := Lib.hid (hL.upd0 hu1)
  have HID := Lib.hid hid
  by_cases hm : mayS s = true
  · have HM := Lib.hid hm
    have HFIT := Lib.hid (mayS_fits hm)
    have HSZ := Lib.hid (stateB_le hm)
    have HE := Lib.hid (enc_yes hm)
    obtain ⟨_, g2, _, g4, g5, _⟩ := mayS_fits hm
    have hn7 : n ≤ 7 := by omega
    clear hn hu1 hx1 hL hid hm g5
    go_enter Try.func32, Try.ntmps32
    go_upto_region 1 with fail
    generalize w.alloc (.cells #[.int .u64 (s.next : Nat), .int .u64 (s.log : Nat), .slice a n ca] 45) = wb at *
    generalize w.heap.size = xb at *
    obtain ⟨p0, p1, p2⟩ := box_cells HX1.out
    go_upto_region 3 with (go_at_call 67; refine (rmay_any HN.out HL.out HID.out).mono ?_; rintro e w1 ⟨rfl, hu⟩; rw [HM.out])
    have HU1 := Lib.hid ((HU.out.trans hu (fun _ _ f => f)).drew)
    have HL1 := Lib.hid (HL.out.upd0 hu.drew)
    have HB1 := Lib.hid (hu.drew.keep HX1.out (fun f => f))
    clear hu p0 p1 p2
    go_wp2_with fail
    obtain ⟨p0, p1, p2⟩ := box_cells HB1.out
    have hkp : ∀ w5 : World, Upd (fun _ => False) w1.drew w5 → w5.cell? ⟨xb, 0, none⟩ = some (.int .u64 (s.next : Nat)) ∧ w5.cell? ⟨xb, 1, none⟩ = some (.int .u64 (s.log : Nat)) := fun w5 h => ⟨cell_upd h p0 (fun f => f), cell_upd h p1 (fun f => f)⟩
    have HKP := Lib.hid hkp
    have hc0 : w1.drew.cell? ⟨xb, 0, none⟩ = some (.int .u64 (s.next : Nat)) ∧ w1.drew.cell? ⟨xb, 1, none⟩ = some (.int .u64 (s.log : Nat)) := ⟨p0, p1⟩
    have HC0 := Lib.hid hc0
    clear hkp hc0 p0 p1 p2
    have HP1 : Hid (∀ w : World, Calls Try.prog 68 #[.string ⟨#[]⟩, .int .u64 (s.next : Nat)] w (StrPost (str (num s.next)) w)) := fun w => by
      have h := rput_number ⟨#[]⟩ s.next w (Nat.zero_le _) g2
      unfold PutPost at h
      rw [nil_app] at h
      exact h
    have HP2 : Hid (∀ w : World, Calls Try.prog 68 #[.string (str (num s.next)), .int .u64 (s.log : Nat)] w (PutPost (str (num s.next)) (str (num s.log)) w)) := fun w => rput_number (str (num s.next)) s.log w (by rw [str_size]; have := num_ten g2; omega) g4
    go_region_held3 (fun w' => w'.cell? ⟨xb, 0, none⟩ = some (.int .u64 (s.next : Nat)) ∧ w'.cell? ⟨xb, 1, none⟩ = some (.int .u64 (s.log : Nat))) (first | exact HC0.out | exact hcs5 | exact hcs6) (first | (go_at_call 68; refine (HP1.out _).mono ?_; clear HP1; rintro e w5 ⟨rfl, hu5⟩; have hcs5 := HKP.out w5 hu5) | (go_at_call 68; refine (HP2.out _).mono ?_; clear HP2; rintro e w6 ⟨rfl, hu6⟩; have hu7 := hu5.trans hu6 (fun _ _ f => f); have hcs6 := HKP.out w6 hu7))
    have HB6 := Lib.hid (hu7.keep HB1.out (fun f => f))
    have HL6 := Lib.hid (HL1.out.upd0 hu7)
    have HU6 := Lib.hid (HU1.out.trans hu7 (fun _ _ f => f))
    have HACC : Hid (str (num s.next) ++ str (num s.log) ++ str (num s.levels.length) ++ levelsB s.levels = stateB s) := rfl
    clear hcs5 hcs6 hu5 hu6 hu7
    have hn10 := num_ten g2
    have hl10 := num_ten g4
    have hxs : (str (num s.next) ++ str (num s.log)).size ≤ 20 := by rw [ByteArray.size_append, str_size, str_size]; omega
    generalize str (num s.next) ++ str (num s.log) = hd0 at *
    clear hn10 hl10
    obtain ⟨p0, p1, p2⟩ := box_cells HB6.out
    go_wp2_with fail
    refine (rput_int hd0 n _ (by omega) (by omega)).mono ?_
    rintro e w7 ⟨rfl, hu7⟩
    have p3 := cell_upd hu7 p2 (fun f => f)
    have HU7 := Lib.hid (HU6.out.trans hu7 (fun _ _ f => f))
    have HL7 := Lib.hid (HL6.out.upd0 hu7)
    rw [← HN.out] at HACC
    generalize hd0 ++ str (num n) = hd1 at *
    clear hu7 p0 p1 p2 hxs
    have hsz1 := size_pre HACC.out
    have HSZ1 := HSZ.out
    go_wp2_with fail
    go_loopw [5, 4] (fun i b wr => ∃ (k : Nat) (bs : ByteArray), i = .int .i64 k ∧ k ≤ n ∧ b = .string bs ∧ Hid (bs ++ levelsB (s.levels.drop k) = stateB s) ∧ Upd (fun _ => False) w7 wr) (fun i _ _ => n - (intOf i).toNat)
    case atStart => exact ⟨0, hd1, rfl, by omega, rfl, by show _ = _; rw [List.drop_zero]; exact HACC.out, Upd.refl _ _⟩
    case round =>
      obtain ⟨k, bs, rfl, hk, rfl, HA, hu⟩ := hrel
      have hbs := size_pre HA.out
      have b2 := cell_upd hu p3 (fun f => f)
      by_cases hlt : k < n
      · have hks : k < s.levels.length := by rw [← HN.out]; exact hlt
        obtain ⟨g, o, la, lc, rfl, c1, l1, m1, m2⟩ := HL7.out.cell hks
        have d1 := cell_upd hu c1 (fun f => f)
        have hlt2 : (k : Int) < (n : Int) := by omega
        have hk0 : (0 : Int) ≤ (k : Int) := by omega
        have L1 := Lib.hid (l1.upd0 hu)
        have hfl := HFIT.out.2.2.2.2.2 s.levels[k] (List.getElem_mem hks)
        have HFL := Lib.hid hfl.2
        have hl1 := hfl.1
        have HA2 : Hid (bs ++ str (num s.levels[k].length) ++ (filesB s.levels[k] ++ levelsB (s.levels.drop (k + 1))) = stateB s) := by
          show _ = _
          rw [levelsB_drop s.levels hks bs]
          exact HA.out
        clear l1 hfl
        generalize s.levels[k] = l at *
        go_wp2_with fail
        refine (rput_int bs l.length _ (by omega) (by omega)).mono ?_
        rintro e w8 ⟨rfl, hu8⟩
        have HU8 := Lib.hid (hu.trans hu8 (fun _ _ f => f))
        have L8 := Lib.hid (L1.out.upd0 hu8)
        generalize bs ++ str (num l.length) = bs1 at *
        clear d1 hu hu8 hbs
        go_wp2_with fail
        go_loopw [6, 4] (fun i b ws => ∃ (m : Nat) (bs2 : ByteArray), i = .int .i64 m ∧ m ≤ l.length ∧ b = .string bs2 ∧ Hid (bs2 ++ (filesB (l.drop m) ++ levelsB (s.levels.drop (k + 1))) = stateB s) ∧ Upd (fun _ => False) w8 ws) (fun i _ _ => l.length - (intOf i).toNat)
        case atStart => exact ⟨0, bs1, rfl, by omega, rfl, by show _ = _; rw [List.drop_zero]; exact HA2.out, Upd.refl _ _⟩
        case round =>
          obtain ⟨m, bs2, rfl, hm, rfl, HB, hu⟩ := hrel
          have hbs := size_pre HB.out
          have b3 := cell_upd (HU8.out.trans hu (fun _ _ f => f)) p3 (fun f => f)
          have d2 := cell_upd (HU8.out.trans hu (fun _ _ f => f)) c1 (fun f => f)
          by_cases hml : m < l.length
          · have hml2 : (m : Int) < (l.length : Int) := by omega
            have hm0 : (0 : Int) ≤ (m : Int) := by omega
            have hl9 : (l.length : Int) ≤ 9223372036854775807 := by omega
            have h2 := L8.out.upd0 hu
            obtain ⟨g3, o3, rfl, c0, c1, c2, c3⟩ := h2.cell hml
            have HB2 := Lib.hid ((filesB_drop l hml bs2 (levelsB (s.levels.drop (k + 1)))).trans HB.out)
            obtain ⟨q1, q2, q3, q4, q5, q6⟩ := HFL.out l[m] (List.getElem_mem hml)
            clear h2
            generalize l[m] = f at *
            obtain ⟨fid, flo, fhi, fce⟩ := f
            dsimp only at c0 c1 c2 c3 HB2 q1 q2 q3 q4 q5 q6
            obtain ⟨c, rfl⟩ : ∃ c : Nat, fce = (c : Int) := ⟨fce.toNat, by omega⟩
            rw [Int.toNat_natCast] at HB2
            have hb1 : (bs2 ++ str (num fid)).size ≤ 200000 := by
              have h := HB2.out
              simp only [app_assoc] at h
              rw [← app_assoc] at h
              have := size_pre h
              omega
            have hb2 : (bs2 ++ str (num fid) ++ txt flo).size ≤ 200000 := by
              have h := HB2.out
              simp only [app_assoc] at h
              rw [← app_assoc, ← app_assoc] at h
              have := size_pre h
              omega
            have hb3 : (bs2 ++ str (num fid) ++ txt flo ++ txt fhi).size ≤ 200000 := by
              have h := HB2.out
              simp only [app_assoc] at h
              rw [← app_assoc, ← app_assoc, ← app_assoc] at h
              have := size_pre h
              omega
            go_upto_region 13 with fail
            have hua : Upd (fun _ => False) wr (wr.alloc (.cells #[.int .u64 (fid : Nat), .string flo, .string fhi, .int .i64 (c : Nat)] 93)) := (Upd.refl _ wr).alloc _
            have hfa := heap_alloc (w := wr) (.cells #[.int .u64 (fid : Nat), .string flo, .string fhi, .int .i64 (c : Nat)] 93)
            have HUA := Lib.hid ((hu.trans hua (fun _ _ f => f)).drew)
            clear hu hua c0 c1 c2 c3
            generalize wr.alloc (.cells #[.int .u64 (fid : Nat), .string flo, .string fhi, .int .i64 (c : Nat)] 93) = wa at *
            generalize wr.heap.size = fb at *
            have e0 := cell_of_heap hfa 0
            have e1 := cell_of_heap hfa 1
            have e2 := cell_of_heap hfa 2
            simp only [List.getElem?_toArray, List.getElem?_cons_zero, List.getElem?_cons_succ] at e0 e1 e2
            have HFA := Lib.hid hfa
            clear hfa
            have HP1 : Hid (∀ w : World, Calls Try.prog 68 #[.string bs2, .int .u64 (fid : Nat)] w (PutPost bs2 (str (num fid)) w)) := fun w => rput_number bs2 fid w (by omega) q2
            have HP2 : Hid (∀ w : World, Calls Try.prog 70 #[.string (bs2 ++ str (num fid)), .string flo] w (PutPost (bs2 ++ str (num fid)) (txt flo) w)) := fun w => rput_text _ _ w (by omega) (by omega)
            have HP3 : Hid (∀ w : World, Calls Try.prog 70 #[.string (bs2 ++ str (num fid) ++ txt flo), .string fhi] w (PutPost (bs2 ++ str (num fid) ++ txt flo) (txt fhi) w)) := fun w => rput_text _ _ w (by omega) (by omega)
            have HP4 : Hid (∀ w : World, Calls Try.prog 69 #[.string (bs2 ++ str (num fid) ++ txt flo ++ txt fhi), .int .i64 (c : Nat)] w (PutPost (bs2 ++ str (num fid) ++ txt flo ++ txt fhi) (str (num c)) w)) := fun w => rput_int _ c w (by omega) (by omega)
            have HKP : Hid (∀ w5 : World, Upd (fun _ => False) wa.drew w5 → w5.cell? ⟨fb, 0, none⟩ = some (.int .u64 (fid : Nat)) ∧ w5.cell? ⟨fb, 1, none⟩ = some (.string flo) ∧ w5.cell? ⟨fb, 2, none⟩ = some (.string fhi)) := fun w5 h => ⟨cell_upd h e0 (fun f => f), cell_upd h e1 (fun f => f), cell_upd h e2 (fun f => f)⟩
            have HC0 : Hid (wa.drew.cell? ⟨fb, 0, none⟩ = some (.int .u64 (fid : Nat)) ∧ wa.drew.cell? ⟨fb, 1, none⟩ = some (.string flo) ∧ wa.drew.cell? ⟨fb, 2, none⟩ = some (.string fhi)) := ⟨e0, e1, e2⟩
            clear e0 e1 e2 hb1 hb2 hb3
            go_wp2_with fail
            go_region_held3 (fun w' => w'.cell? ⟨fb, 0, none⟩ = some (.int .u64 (fid : Nat)) ∧ w'.cell? ⟨fb, 1, none⟩ = some (.string flo) ∧ w'.cell? ⟨fb, 2, none⟩ = some (.string fhi)) (first | exact HC0.out | exact hcs5 | exact hcs6 | exact hcs7) (first | (go_at_call 68; refine (HP1.out _).mono ?_; clear HP1; rintro e w5 ⟨rfl, hu5⟩; have hcs5 := HKP.out w5 hu5) | (go_at_call 70; refine (HP2.out _).mono ?_; clear HP2; rintro e w6 ⟨rfl, hu6⟩; have hu6a := hu5.trans hu6 (fun _ _ f => f); have hcs6 := HKP.out w6 hu6a) | (go_at_call 70; refine (HP3.out _).mono ?_; clear HP3; rintro e w7' ⟨rfl, hu7⟩; have hu7a := hu6a.trans hu7 (fun _ _ f => f); have hcs7 := HKP.out w7' hu7a))
            have e3 := cell_of_heap (hu7a.keep (show wa.drew.heap[fb]? = _ from HFA.out) (fun f => f)) 3
            simp only [List.getElem?_toArray, List.getElem?_cons_zero, List.getElem?_cons_succ] at e3
            have HU9 := Lib.hid (HUA.out.trans hu7a (fun _ _ f => f))
            have hci : (c : Int) ≤ 1073741824 := by omega
            have hc18 : c < 18446744073709551616 := by omega
            clear hcs5 hcs6 hcs7 hu5 hu6 hu7 hu6a hu7a
            go_wp2_with fail
            refine (HP4.out _).mono ?_
            rintro e w9 ⟨rfl, hu9⟩
            go_wp2_with fail
            exact ⟨⟨m + 1, _, by go_num, by omega, rfl, HB2, HU9.out.trans hu9 (fun _ _ f => f)⟩, by simp [intOf]; omega⟩
          · have hge : ¬ (m : Int) < (l.length : Int) := by omega
            have HB3 : Hid (bs2 ++ levelsB (s.levels.drop (k + 1)) = stateB s) := by
              have h := HB.out
              rw [List.drop_eq_nil_of_le (by omega)] at h
              simp only [filesB, nil_app] at h
              exact h
            go_wp2_with fail
            exact ⟨⟨k + 1, bs2, by go_num, by omega, rfl, HB3, HU8.out.trans hu (fun _ _ f => f)⟩, by simp [intOf]; omega⟩
      · have hge : ¬ (k : Int) < (n : Int) := by omega
        have hfin : bs = stateB s := by
          have h := HA.out
          rw [List.drop_eq_nil_of_le (by have := HN.out; omega)] at h
          simp only [levelsB, app_nil] at h
          exact h
        have hs1 := HSZ.out
        rw [← hfin] at hs1
        have HFIN := Lib.hid hfin
        clear hfin hbs
        go_wp2_with fail
        refine (rframe_any bs _ (by omega)).mono ?_
        rintro e w9 ⟨rfl, hu9⟩
        go_wp2_with fail
        go_ret2
        exact ⟨by rw [HE.out.1, HE.out.2, HFIN.out]; rfl, (HU7.out.trans hu (fun _ _ f => f)).trans hu9 (fun _ _ f => f)⟩
  · have HE := Lib.hid (enc_no hm)
    have HM := Lib.hid hm
    clear hn hu1 hx1 hL hid hm
    go_enter Try.func32, Try.ntmps32
    go_upto_region 1 with fail
    generalize w.alloc (.cells #[.int .u64 (s.next : Nat), .int .u64 (s.log : Nat), .slice a n ca] 45) = wb at *
    generalize w.heap.size = xb at *
    obtain ⟨p0, p1, p2⟩ := box_cells HX1.out
    go_wp2_with (go_at_call 67; refine (rmay_any HN.out HL.out HID.out).mono ?_; rintro e w1 ⟨rfl, hu⟩; rw [Bool.eq_false_iff.2 HM.out])
    go_ret2
    exact ⟨by rw [HE.out.1, HE.out.2]; rfl, HU.out.trans hu (fun _ _ f => f)⟩
end Go.Proofs.Ytgkegfgdpekehaa
/- Plain: what the reference's reader hands back, read as numbers and texts. -/
namespace Go.Proofs.Ytgkegfgdpekehaa
open Go.RowKit Go.Acre Go.Acre.Dk
theorem rdNum_few (B : Nat) (s : ByteArray) : rdNum B s = if (fewS B s).2 = true then some ((fewS B s).1, (numS s).2.2) else none := by
  rw [rdNum_numS]
  unfold fewS
  by_cases h : (numS s).2.1 = true ∧ (numS s).1 ≤ B
  · rw [if_pos h, if_pos h, if_pos rfl]
  · rw [if_neg h, if_neg h]
    simp
theorem few_zero {B : Nat} {s : ByteArray} (h : (fewS B s).2 = false) : (fewS B s).1 = 0 := by
  unfold fewS at h ⊢
  by_cases h2 : (numS s).2.1 = true ∧ (numS s).1 ≤ B
  · rw [if_pos h2] at h; cases h
  · rw [if_neg h2]
theorem few_le {B : Nat} {s : ByteArray} : (fewS B s).1 ≤ B := by
  unfold fewS
  by_cases h2 : (numS s).2.1 = true ∧ (numS s).1 ≤ B
  · rw [if_pos h2]; exact h2.2
  · rw [if_neg h2]; exact Nat.zero_le _
theorem numS_lt (s : ByteArray) : (numS s).1 < 18446744073709551616 := by
  unfold numS
  cases h : numB s with
  | none => simp
  | some p =>
    obtain ⟨v, n⟩ := p
    exact (numB_some h).2.2.1
/-- every number is at most the greatest one -/
theorem rdNum_all (s : ByteArray) : rdNum MX s = if (numS s).2.1 = true then some ((numS s).1, (numS s).2.2) else none := by
  have h := numS_lt s
  have h2 : (numS s).1 ≤ MX := by
    have e : MX = 18446744073709551615 := rfl
    omega
  rw [rdNum_numS]
  by_cases h3 : (numS s).2.1 = true
  · rw [if_pos ⟨h3, h2⟩, if_pos h3]
  · rw [if_neg (fun h4 => h3 h4.1), if_neg h3]
end Go.Proofs.Ytgkegfgdpekehaa
/- Plain: what the reference's read makes of bytes, from its numbers and texts; what is handed back. -/
namespace Go.Proofs.Ytgkegfgdpekehaa
open Go.RowKit Go.Acre Go.Acre.Dk
theorem rdFile_ref {s s1 s2 s3 s4 lo hi : ByteArray} {id v ce : Nat} {a b c k d : Bool} (h1 : numS s = (id, a, s1)) (h2 : textS s1 = (lo, b, s2)) (h3 : textS s2 = (hi, c, s3)) (h4 : numS s3 = (v, k, s4)) (h5 : fewS 1073741824 s3 = (ce, d)) :
    rdFile MX s = if (a && b && c && d) = true then some (⟨id, lo, hi, (ce : Int)⟩, s4) else none := by
  unfold rdFile
  rw [rdNum_all, h1]
  cases a with
  | false => simp
  | true =>
    simp only [if_true]
    rw [rdTxt_textS, h2]
    cases b with
    | false => simp
    | true =>
      simp only [if_true]
      rw [rdTxt_textS, h3]
      cases c with
      | false => simp
      | true =>
        simp only [if_true]
        rw [rdNum_few, h5, h4]
        cases d with
        | false => simp
        | true => simp
theorem rdLevel_ref {s s1 : ByteArray} {v n : Nat} {k is : Bool} (h1 : numS s = (v, k, s1)) (h2 : fewS 1024 s = (n, is)) :
    rdLevel MX s = if is = true then rdN (rdFile MX) n s1 else none := by
  unfold rdLevel
  rw [rdNum_few, h2, h1]
  cases is with
  | false => simp
  | true => simp
theorem rdState_ref {s s1 s2 s3 : ByteArray} {nx lg v n : Nat} {k1 k2 k k3 : Bool} (h1 : numS s = (nx, k1, s1)) (h2 : numS s1 = (lg, k2, s2)) (h3 : numS s2 = (v, k, s3)) (h4 : fewS 7 s2 = (n, k3)) :
    rdState MX s = if (k1 && k2 && k3) = true then asSt nx lg (rdN (rdLevel MX) n s3) else none := by
  unfold rdState
  rw [rdNum_all, h1]
  cases k1 with
  | false => simp
  | true =>
    simp only [if_true]
    rw [rdNum_all, h2]
    cases k2 with
    | false => simp
    | true =>
      simp only [if_true]
      rw [rdNum_few, h4, h3]
      cases k3 with
      | false => simp
      | true =>
        simp only [if_true, Bool.and_self]
        cases rdN (rdLevel MX) n s3 with
        | none => rfl
        | some p => rfl
/-- a state, where nothing is behind it -/
def whole : Option (MSt × ByteArray) → Option MSt
  | some (x, r) => if r.size = 0 then some x else none
  | none => none
/-- what is handed back by read -/
def RdPost (r : Option MSt) (w : World) (e : Ending) (w' : World) : Prop :=
  match r with
  | some x => ∃ a cap, e = .returned (.tuple #[.agg #[.int .u64 (x.next : Nat), .int .u64 (x.log : Nat), .slice a x.levels.length cap], .bool true]) ∧ OutAt w' w.heap.size (.slice a x.levels.length cap) x.levels ∧ Upd (fun _ => False) w w'
  | none => ∃ (nx lg : Nat) (a : Option Addr) (n cap : Nat), e = .returned (.tuple #[.agg #[.int .u64 (nx : Nat), .int .u64 (lg : Nat), .slice a n cap], .bool false]) ∧ Upd (fun _ => False) w w'
theorem read_no {r : Option MSt} (h : r = none) {nx lg : Nat} {a : Option Addr} {n cap : Nat} {w w' : World} (hu : Upd (fun _ => False) w w') : RdPost r w (.returned (.tuple #[.agg #[.int .u64 (nx : Nat), .int .u64 (lg : Nat), .slice a n cap], .bool false])) w' := by
  subst h
  exact ⟨nx, lg, a, n, cap, rfl, hu⟩
theorem read_yes {r : Option MSt} {nx lg : Nat} {ls : List (List PF)} (h : r = some ⟨nx, lg, ls⟩) {a : Option Addr} {cap : Nat} {w w' : World} (ho : OutAt w' w.heap.size (.slice a ls.length cap) ls) (hu : Upd (fun _ => False) w w') :
    RdPost r w (.returned (.tuple #[.agg #[.int .u64 (nx : Nat), .int .u64 (lg : Nat), .slice a ls.length cap], .bool true])) w' := by
  subst h
  exact ⟨a, cap, rfl, ho, hu⟩
end Go.Proofs.Ytgkegfgdpekehaa
