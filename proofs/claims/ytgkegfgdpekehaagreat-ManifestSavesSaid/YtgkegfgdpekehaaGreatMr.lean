/- The walk of Encode. -/
import Derived.Test.YtgkegfgdpekehaaGreatMq
import Derived.Test.YtgkegfgdpekehaaGreatMo
namespace Go.Proofs.YtgkegfgdpekehaaGreat
open Go.RowKit Go.Acre Go.Acre.Dk
def encB (s : MSt) : ByteArray := if mayS s = true then frameB (stateB s) else ⟨#[]⟩
def encE (s : MSt) : Nat := if mayS s = true then 0 else 2
def EncPost (s : MSt) (w : World) (e : Ending) (w' : World) : Prop := e = .returned (.tuple #[.string (encB s), .int .i64 (encE s : Nat)]) ∧ Upd (fun _ => False) w w'
theorem enc_yes {s : MSt} (h : mayS s = true) : encB s = frameB (stateB s) ∧ encE s = 0 := ⟨if_pos h, if_pos h⟩
theorem enc_no {s : MSt} (h : ¬ mayS s = true) : encB s = ⟨#[]⟩ ∧ encE s = 2 := ⟨if_neg h, if_neg h⟩
theorem levelsB_drop (ls : List (List PF)) {k : Nat} (h : k < ls.length) (bs : ByteArray) : bs ++ str (num ls[k].length) ++ (filesB ls[k] ++ levelsB (ls.drop (k + 1))) = bs ++ levelsB (ls.drop k) := by
  rw [List.drop_eq_getElem_cons h]
  simp only [levelsB, levelB, app_assoc]
theorem filesB_drop (l : List PF) {m : Nat} (h : m < l.length) (bs r : ByteArray) : bs ++ str (num l[m].id) ++ txt l[m].low ++ txt l[m].high ++ str (num l[m].cells.toNat) ++ (filesB (l.drop (m + 1)) ++ r) = bs ++ (filesB (l.drop m) ++ r) := by
  rw [List.drop_eq_getElem_cons h]
  simp only [filesB, fileB, app_assoc]
theorem size_pre {a b c : ByteArray} (h : a ++ b = c) : a.size ≤ c.size := by
  rw [← h, ByteArray.size_append]
  omega
theorem flat_ids {s : MSt} (h : mayS s = true) : ∀ y ∈ flat s.levels, y.2.id < 18446744073709551616 := by
  intro y hy
  have h1 := mayS_ref s
  rw [h] at h1
  have h2 := h1.symm
  simp only [Bool.and_eq_true, decide_eq_true_eq] at h2
  have h3 := allR_right h2.2 y hy
  have h4 := (mayS_fits h).2.1
  simp only [rightB, Bool.and_eq_true, decide_eq_true_eq] at h3
  omega
set_option maxHeartbeats 8000000 in
set_option maxRecDepth 100000 in
theorem encode_any {w : World} {s : MSt} {a : Option Addr} {n ca : Nat} (hn : n = s.levels.length) (hL : LevsAt w (.slice a n ca) s.levels) (hid : ∀ y ∈ flat s.levels, y.2.id < 18446744073709551616) :
    Calls Tryz.prog 28 #[.agg #[.int .u64 (s.next : Nat), .int .u64 (s.log : Nat), .slice a n ca]] w (EncPost s w) := by
  have hu1 : Upd (fun _ => False) w (w.alloc (.cells #[.int .u64 (s.next : Nat), .int .u64 (s.log : Nat), .slice a n ca] 28)) := (Upd.refl _ w).alloc _
  have hx1 := heap_alloc (w := w) (.cells #[.int .u64 (s.next : Nat), .int .u64 (s.log : Nat), .slice a n ca] 28)
  have HN := Lib.hid hn
  have HU := Lib.hid hu1
  have HX1 := Lib.hid hx1
  have HL := Lib.hid (hL.upd0 hu1)
  have HID := Lib.hid hid
  by_cases hm : mayS s = true
  · have HM := Lib.hid hm
    have HFIT := Lib.hid (mayS_fits hm)
    have HSZ := Lib.hid (stateB_le hm)
    have HE := Lib.hid (enc_yes hm)
    obtain ⟨_, g2, _, g4, g5, _⟩ := mayS_fits hm
    have hn7 : n ≤ 7 := by omega
    clear hn hu1 hx1 hL hid hm g5
    go_enter Tryz.func28, Tryz.ntmps28
    go_upto_region 1 with fail
    generalize w.alloc (.cells #[.int .u64 (s.next : Nat), .int .u64 (s.log : Nat), .slice a n ca] 28) = wb at *
    generalize w.heap.size = xb at *
    obtain ⟨p0, p1, p2⟩ := box_cells HX1.out
    go_upto_region 4 with (go_at_call 53; refine (check_any HN.out HL.out HID.out).mono ?_; rintro e w1 ⟨rfl, hu⟩; rw [if_pos HM.out])
    have HU1 := Lib.hid ((HU.out.trans hu (fun _ _ f => f)).drew)
    have HL1 := Lib.hid (HL.out.upd0 hu.drew)
    have HB1 := Lib.hid (hu.drew.keep HX1.out (fun f => f))
    clear hu p0 p1 p2
    go_wp2_with fail
    obtain ⟨p0, p1, p2⟩ := box_cells HB1.out
    have hkp : ∀ w5 : World, Upd (fun _ => False) w1.drew w5 → w5.cell? ⟨xb, 0, none⟩ = some (.int .u64 (s.next : Nat)) ∧ w5.cell? ⟨xb, 1, none⟩ = some (.int .u64 (s.log : Nat)) := fun w5 h => ⟨cell_upd h p0 (fun f => f), cell_upd h p1 (fun f => f)⟩
    have HKP := Lib.hid hkp
    have hc0 : w1.drew.cell? ⟨xb, 0, none⟩ = some (.int .u64 (s.next : Nat)) ∧ w1.drew.cell? ⟨xb, 1, none⟩ = some (.int .u64 (s.log : Nat)) := ⟨p0, p1⟩
    have HC0 := Lib.hid hc0
    clear hkp hc0 p0 p1 p2
    have HP1 : Hid (∀ w : World, Calls Tryz.prog 56 #[.string ⟨#[]⟩, .int .u64 (s.next : Nat)] w (StrPost (str (num s.next)) w)) := fun w => by
      have h := put_number ⟨#[]⟩ s.next w (Nat.zero_le _) g2
      unfold PutPost at h
      rw [nil_app] at h
      exact h
    have HP2 : Hid (∀ w : World, Calls Tryz.prog 56 #[.string (str (num s.next)), .int .u64 (s.log : Nat)] w (PutPost (str (num s.next)) (str (num s.log)) w)) := fun w => put_number (str (num s.next)) s.log w (by rw [str_size]; have := num_ten g2; omega) g4
    go_region_held3 (fun w' => w'.cell? ⟨xb, 0, none⟩ = some (.int .u64 (s.next : Nat)) ∧ w'.cell? ⟨xb, 1, none⟩ = some (.int .u64 (s.log : Nat))) (first | exact HC0.out | exact hcs5 | exact hcs6) (first | (go_at_call 56; refine (HP1.out _).mono ?_; clear HP1; rintro e w5 ⟨rfl, hu5⟩; have hcs5 := HKP.out w5 hu5) | (go_at_call 56; refine (HP2.out _).mono ?_; clear HP2; rintro e w6 ⟨rfl, hu6⟩; have hu7 := hu5.trans hu6 (fun _ _ f => f); have hcs6 := HKP.out w6 hu7))
    have HB6 := Lib.hid (hu7.keep HB1.out (fun f => f))
    have HL6 := Lib.hid (HL1.out.upd0 hu7)
    have HU6 := Lib.hid (HU1.out.trans hu7 (fun _ _ f => f))
    have HACC : Hid (str (num s.next) ++ str (num s.log) ++ str (num s.levels.length) ++ levelsB s.levels = stateB s) := rfl
    clear hcs5 hcs6 hu5 hu6 hu7
    have hn10 := num_ten g2
    have hl10 := num_ten g4
    have hxs : (str (num s.next) ++ str (num s.log)).size ≤ 20 := by rw [ByteArray.size_append, str_size, str_size]; omega
    generalize str (num s.next) ++ str (num s.log) = hd0 at *
    clear hn10 hl10
    obtain ⟨p0, p1, p2⟩ := box_cells HB6.out
    go_wp2_with fail
    refine (put_number hd0 n _ (by omega) (by omega)).mono ?_
    rintro e w7 ⟨rfl, hu7⟩
    have p3 := cell_upd hu7 p2 (fun f => f)
    have HU7 := Lib.hid (HU6.out.trans hu7 (fun _ _ f => f))
    have HL7 := Lib.hid (HL6.out.upd0 hu7)
    rw [← HN.out] at HACC
    generalize hd0 ++ str (num n) = hd1 at *
    clear hu7 p0 p1 p2 hxs
    have hsz1 := size_pre HACC.out
    have HSZ1 := HSZ.out
    go_wp2_with fail
    go_loopw [30, 5] (fun i b wr => ∃ (k : Nat) (bs : ByteArray), i = .int .i64 k ∧ k ≤ n ∧ b = .string bs ∧ Hid (bs ++ levelsB (s.levels.drop k) = stateB s) ∧ Upd (fun _ => False) w7 wr) (fun i _ _ => n - (intOf i).toNat)
    case atStart => exact ⟨0, hd1, rfl, by omega, rfl, by show _ = _; rw [List.drop_zero]; exact HACC.out, Upd.refl _ _⟩
    case round =>
      obtain ⟨k, bs, rfl, hk, rfl, HA, hu⟩ := hrel
      have hbs := size_pre HA.out
      by_cases hlt : k < n
      · have hks : k < s.levels.length := by rw [← HN.out]; exact hlt
        obtain ⟨g, o, la, lc, rfl, c1, l1, m1, m2⟩ := HL7.out.cell hks
        have d1 := cell_upd hu c1 (fun f => f)
        have hlt2 : (k : Int) < (n : Int) := by omega
        have hk0 : (0 : Int) ≤ (k : Int) := by omega
        have L1 := Lib.hid (l1.upd0 hu)
        have hfl := HFIT.out.2.2.2.2.2 s.levels[k] (List.getElem_mem hks)
        have HFL := Lib.hid hfl.2
        have hl1 := hfl.1
        have HA2 : Hid (bs ++ str (num s.levels[k].length) ++ (filesB s.levels[k] ++ levelsB (s.levels.drop (k + 1))) = stateB s) := by
          show _ = _
          rw [levelsB_drop s.levels hks bs]
          exact HA.out
        clear c1 l1 hfl p3
        generalize s.levels[k] = l at *
        go_wp2_with fail
        refine (put_number bs l.length _ (by omega) (by omega)).mono ?_
        rintro e w8 ⟨rfl, hu8⟩
        have HU8 := Lib.hid (hu.trans hu8 (fun _ _ f => f))
        have L8 := Lib.hid (L1.out.upd0 hu8)
        generalize bs ++ str (num l.length) = bs1 at *
        clear d1 hu hu8 hbs
        go_wp2_with fail
        go_loopw [41, 5] (fun i b ws => ∃ (m : Nat) (bs2 : ByteArray), i = .int .i64 m ∧ m ≤ l.length ∧ b = .string bs2 ∧ Hid (bs2 ++ (filesB (l.drop m) ++ levelsB (s.levels.drop (k + 1))) = stateB s) ∧ Upd (fun _ => False) w8 ws) (fun i _ _ => l.length - (intOf i).toNat)
        case atStart => exact ⟨0, bs1, rfl, by omega, rfl, by show _ = _; rw [List.drop_zero]; exact HA2.out, Upd.refl _ _⟩
        case round =>
          obtain ⟨m, bs2, rfl, hm, rfl, HB, hu⟩ := hrel
          have hbs := size_pre HB.out
          by_cases hml : m < l.length
          · have hml2 : (m : Int) < (l.length : Int) := by omega
            have hm0 : (0 : Int) ≤ (m : Int) := by omega
            have hl9 : (l.length : Int) ≤ 9223372036854775807 := by omega
            have h2 := L8.out.upd0 hu
            obtain ⟨g3, o3, rfl, c0, c1, c2, c3⟩ := h2.cell hml
            have HB2 := Lib.hid ((filesB_drop l hml bs2 (levelsB (s.levels.drop (k + 1)))).trans HB.out)
            obtain ⟨q1, q2, q3, q4, q5, q6⟩ := HFL.out l[m] (List.getElem_mem hml)
            clear h2
            generalize l[m] = f at *
            obtain ⟨fid, flo, fhi, fce⟩ := f
            dsimp only at c0 c1 c2 c3 HB2 q1 q2 q3 q4 q5 q6
            obtain ⟨c, rfl⟩ : ∃ c : Nat, fce = (c : Int) := ⟨fce.toNat, by omega⟩
            rw [Int.toNat_natCast] at HB2
            have hb1 : (bs2 ++ str (num fid)).size ≤ 200000 := by
              have h := HB2.out
              simp only [app_assoc] at h
              rw [← app_assoc] at h
              have := size_pre h
              omega
            have hb2 : (bs2 ++ str (num fid) ++ txt flo).size ≤ 200000 := by
              have h := HB2.out
              simp only [app_assoc] at h
              rw [← app_assoc, ← app_assoc] at h
              have := size_pre h
              omega
            have hb3 : (bs2 ++ str (num fid) ++ txt flo ++ txt fhi).size ≤ 200000 := by
              have h := HB2.out
              simp only [app_assoc] at h
              rw [← app_assoc, ← app_assoc, ← app_assoc] at h
              have := size_pre h
              omega
            go_upto_region 13 with fail
            have hua : Upd (fun _ => False) wr (wr.alloc (.cells #[.int .u64 (fid : Nat), .string flo, .string fhi, .int .i64 (c : Nat)] 72)) := (Upd.refl _ wr).alloc _
            have hfa := heap_alloc (w := wr) (.cells #[.int .u64 (fid : Nat), .string flo, .string fhi, .int .i64 (c : Nat)] 72)
            have HUA := Lib.hid ((hu.trans hua (fun _ _ f => f)).drew)
            clear hu hua c0 c1 c2 c3
            generalize wr.alloc (.cells #[.int .u64 (fid : Nat), .string flo, .string fhi, .int .i64 (c : Nat)] 72) = wa at *
            generalize wr.heap.size = fb at *
            have e0 := cell_of_heap hfa 0
            have e1 := cell_of_heap hfa 1
            have e2 := cell_of_heap hfa 2
            simp only [List.getElem?_toArray, List.getElem?_cons_zero, List.getElem?_cons_succ] at e0 e1 e2
            have HFA := Lib.hid hfa
            clear hfa
            have HP1 : Hid (∀ w : World, Calls Tryz.prog 56 #[.string bs2, .int .u64 (fid : Nat)] w (PutPost bs2 (str (num fid)) w)) := fun w => put_number bs2 fid w (by omega) q2
            have HP2 : Hid (∀ w : World, Calls Tryz.prog 57 #[.string (bs2 ++ str (num fid)), .string flo] w (PutPost (bs2 ++ str (num fid)) (txt flo) w)) := fun w => put_text _ _ w (by omega) (by omega)
            have HP3 : Hid (∀ w : World, Calls Tryz.prog 57 #[.string (bs2 ++ str (num fid) ++ txt flo), .string fhi] w (PutPost (bs2 ++ str (num fid) ++ txt flo) (txt fhi) w)) := fun w => put_text _ _ w (by omega) (by omega)
            have HP4 : Hid (∀ w : World, Calls Tryz.prog 56 #[.string (bs2 ++ str (num fid) ++ txt flo ++ txt fhi), .int .u64 (c : Nat)] w (PutPost (bs2 ++ str (num fid) ++ txt flo ++ txt fhi) (str (num c)) w)) := fun w => put_number _ c w (by omega) (by omega)
            have HKP : Hid (∀ w5 : World, Upd (fun _ => False) wa.drew w5 → w5.cell? ⟨fb, 0, none⟩ = some (.int .u64 (fid : Nat)) ∧ w5.cell? ⟨fb, 1, none⟩ = some (.string flo) ∧ w5.cell? ⟨fb, 2, none⟩ = some (.string fhi)) := fun w5 h => ⟨cell_upd h e0 (fun f => f), cell_upd h e1 (fun f => f), cell_upd h e2 (fun f => f)⟩
            have HC0 : Hid (wa.drew.cell? ⟨fb, 0, none⟩ = some (.int .u64 (fid : Nat)) ∧ wa.drew.cell? ⟨fb, 1, none⟩ = some (.string flo) ∧ wa.drew.cell? ⟨fb, 2, none⟩ = some (.string fhi)) := ⟨e0, e1, e2⟩
            clear e0 e1 e2 hb1 hb2 hb3
            go_wp2_with fail
            go_region_held3 (fun w' => w'.cell? ⟨fb, 0, none⟩ = some (.int .u64 (fid : Nat)) ∧ w'.cell? ⟨fb, 1, none⟩ = some (.string flo) ∧ w'.cell? ⟨fb, 2, none⟩ = some (.string fhi)) (first | exact HC0.out | exact hcs5 | exact hcs6 | exact hcs7) (first | (go_at_call 56; refine (HP1.out _).mono ?_; clear HP1; rintro e w5 ⟨rfl, hu5⟩; have hcs5 := HKP.out w5 hu5) | (go_at_call 57; refine (HP2.out _).mono ?_; clear HP2; rintro e w6 ⟨rfl, hu6⟩; have hu6a := hu5.trans hu6 (fun _ _ f => f); have hcs6 := HKP.out w6 hu6a) | (go_at_call 57; refine (HP3.out _).mono ?_; clear HP3; rintro e w7' ⟨rfl, hu7⟩; have hu7a := hu6a.trans hu7 (fun _ _ f => f); have hcs7 := HKP.out w7' hu7a))
            have e3 := cell_of_heap (hu7a.keep (show wa.drew.heap[fb]? = _ from HFA.out) (fun f => f)) 3
            simp only [List.getElem?_toArray, List.getElem?_cons_zero, List.getElem?_cons_succ] at e3
            have HU9 := Lib.hid (HUA.out.trans hu7a (fun _ _ f => f))
            have hci : (c : Int) ≤ 1073741824 := by omega
            have hc18 : c < 18446744073709551616 := by omega
            clear hcs5 hcs6 hcs7 hu5 hu6 hu7 hu6a hu7a
            go_wp2_with fail
            refine (HP4.out _).mono ?_
            rintro e w9 ⟨rfl, hu9⟩
            go_wp2_with fail
            exact ⟨⟨m + 1, _, by go_num, by omega, rfl, HB2, HU9.out.trans hu9 (fun _ _ f => f)⟩, by simp [intOf]; omega⟩
          · have hge : ¬ (m : Int) < (l.length : Int) := by omega
            have HB3 : Hid (bs2 ++ levelsB (s.levels.drop (k + 1)) = stateB s) := by
              have h := HB.out
              rw [List.drop_eq_nil_of_le (by omega)] at h
              simp only [filesB, nil_app] at h
              exact h
            go_wp2_with fail
            exact ⟨⟨k + 1, bs2, by go_num, by omega, rfl, HB3, HU8.out.trans hu (fun _ _ f => f)⟩, by simp [intOf]; omega⟩
      · have hge : ¬ (k : Int) < (n : Int) := by omega
        have hfin : bs = stateB s := by
          have h := HA.out
          rw [List.drop_eq_nil_of_le (by have := HN.out; omega)] at h
          simp only [levelsB, app_nil] at h
          exact h
        have hs1 := HSZ.out
        rw [← hfin] at hs1
        have HFIN := Lib.hid hfin
        clear hfin hbs
        go_wp2_with fail
        refine (frame_any bs _ (by omega)).mono ?_
        rintro e w9 ⟨rfl, hu9⟩
        go_wp2_with fail
        go_ret2
        exact ⟨by rw [HE.out.1, HE.out.2, HFIN.out]; rfl, (HU7.out.trans hu (fun _ _ f => f)).trans hu9 (fun _ _ f => f)⟩
  · have HE := Lib.hid (enc_no hm)
    have HM := Lib.hid hm
    clear hn hu1 hx1 hL hid hm
    go_enter Tryz.func28, Tryz.ntmps28
    go_upto_region 1 with fail
    generalize w.alloc (.cells #[.int .u64 (s.next : Nat), .int .u64 (s.log : Nat), .slice a n ca] 28) = wb at *
    generalize w.heap.size = xb at *
    obtain ⟨p0, p1, p2⟩ := box_cells HX1.out
    go_wp2_with (go_at_call 53; refine (check_any HN.out HL.out HID.out).mono ?_; rintro e w1 ⟨rfl, hu⟩; rw [if_neg HM.out])
    go_ret2
    exact ⟨by rw [HE.out.1, HE.out.2]; rfl, HU.out.trans hu (fun _ _ f => f)⟩
end Go.Proofs.YtgkegfgdpekehaaGreat
/- The walks of Decode's two closures. -/
namespace Go.Proofs.YtgkegfgdpekehaaGreat
open Go.RowKit Go.Acre Go.Acre.Dk
def numC (B : Nat) (ok : Bool) (s : ByteArray) : Nat × Bool × ByteArray := (if (ok && (numS s).2.1 && decide ((numS s).1 ≤ B)) = true then (numS s).1 else 0, ok && (numS s).2.1 && decide ((numS s).1 ≤ B), (numS s).2.2)
def textC (ok : Bool) (s : ByteArray) : ByteArray × Bool × ByteArray := ((textS s).1, ok && (textS s).2.1, (textS s).2.2)
structure RD (w : World) (rb c7 c8 : Nat) (ok : Bool) (s : ByteArray) : Prop where
  rdr : Rdr 113 w rb s
  ptr : w.heap[c7]? = some (.cells #[.pointer (some ⟨rb, 0, none⟩)] 89 (0, 0))
  rgt : w.heap[c8]? = some (.cells #[.bool ok] 4 (0, 0))
  siz : s.size ≤ 9223372036854775807
  n78 : c7 ≠ c8
  nr7 : rb ≠ c7
  nr8 : rb ≠ c8
theorem RD.upd {w w' : World} {rb c7 c8 : Nat} {ok : Bool} {s : ByteArray} (h : RD w rb c7 c8 ok s) {S : Nat → Prop} (hu : Upd S w w') (h1 : ¬ S rb) (h2 : ¬ S c7) (h3 : ¬ S c8) : RD w' rb c7 c8 ok s :=
  ⟨h.rdr.upd hu h1, hu.keep h.ptr h2, hu.keep h.rgt h3, h.siz, h.n78, h.nr7, h.nr8⟩
theorem numS_size (s : ByteArray) : (numS s).2.2.size ≤ s.size := by
  unfold numS
  split
  · simp only [ByteArray.size_extract]; omega
  · exact Nat.le_refl _
theorem textS_size (s : ByteArray) : (textS s).2.2.size ≤ s.size := by
  unfold textS
  split
  · simp only [ByteArray.size_extract]; omega
  · exact Nat.le_refl _
def NumCPost (B rb c7 c8 : Nat) (ok : Bool) (s : ByteArray) (w : World) (e : Ending) (w' : World) : Prop := e = .returned (.int .u64 ((numC B ok s).1 : Nat)) ∧ RD w' rb c7 c8 (numC B ok s).2.1 (numC B ok s).2.2 ∧ Upd (fun i => i = rb ∨ i = c8) w w'
def TextCPost (rb c7 c8 : Nat) (ok : Bool) (s : ByteArray) (w : World) (e : Ending) (w' : World) : Prop := e = .returned (.string (textC ok s).1) ∧ RD w' rb c7 c8 (textC ok s).2.1 (textC ok s).2.2 ∧ Upd (fun i => i = rb ∨ i = c8) w w'
theorem numC_eq {B : Nat} {ok : Bool} {s : ByteArray} {v : Nat} {is : Bool} {r : ByteArray} (h : numS s = (v, is, r)) : numC B ok s = (if (ok && is && decide (v ≤ B)) = true then v else 0, ok && is && decide (v ≤ B), r) := by
  unfold numC
  rw [h]
theorem textC_eq {ok : Bool} {s : ByteArray} {t : ByteArray} {is : Bool} {r : ByteArray} (h : textS s = (t, is, r)) : textC ok s = (t, ok && is, r) := by
  unfold textC
  rw [h]
/-- the reader's rest and the flag are set -/
theorem RD.set {w w1 : World} {rb c7 c8 : Nat} {ok : Bool} {s r : ByteArray} (h : RD w rb c7 c8 ok s) (h1 : Rdr 113 w1 rb r) (hu : Upd (fun i => i = rb) w w1) (hr : r.size ≤ s.size) (ok' : Bool) : RD (w1.setCell ⟨c8, 0, none⟩ (.bool ok')) rb c7 c8 ok' r ∧ Upd (fun i => i = rb ∨ i = c8) w (w1.setCell ⟨c8, 0, none⟩ (.bool ok')) := by
  have hu2 : Upd (fun i => i = c8) w1 (w1.setCell ⟨c8, 0, none⟩ (.bool ok')) := upd1
  have a := h.n78
  have b := h.nr7
  have c := h.nr8
  refine ⟨⟨h1.upd hu2 c, hu2.keep (hu.keep h.ptr b.symm) a, cells1 (hu.keep h.rgt c.symm), Nat.le_trans hr h.siz, a, b, c⟩, (hu.mono (fun _ _ e => .inl e)).trans hu2 (fun _ _ e => .inr e)⟩
set_option maxHeartbeats 4000000 in
set_option maxRecDepth 100000 in
theorem num_clos {w : World} {rb c7 c8 B : Nat} {ok : Bool} {s : ByteArray} (h : RD w rb c7 c8 ok s) (hB : B < 18446744073709551616) :
    Calls Tryz.prog 48 #[.int .u64 (B : Nat), .pointer (some ⟨c7, 0, none⟩), .pointer (some ⟨c8, 0, none⟩)] w (NumCPost B rb c7 c8 ok s w) := by
  obtain ⟨v, is, r, hv⟩ : ∃ v is r, numS s = (v, is, r) := ⟨_, _, _, rfl⟩
  have hr : r.size ≤ s.size := by
    have := numS_size s
    rw [hv] at this
    exact this
  have hc := numC_eq (B := B) (ok := ok) hv
  have HV := Lib.hid hv
  have HC := Lib.hid hc
  have H := Lib.hid h
  have c0 := cell_of_heap h.ptr 0
  simp only [List.getElem?_toArray, List.getElem?_cons_zero] at c0
  have HN := Lib.hid (rd_number h.rdr h.siz)
  clear hv hc h
  go_enter Tryz.func48, Tryz.ntmps48
  go_wp2_with fail
  refine HN.out.mono ?_
  rintro e w1 ⟨rfl, h1, hu⟩
  rw [HV.out] at h1
  rw [HV.out]
  have k8 := hu.keep H.out.rgt (fun e => H.out.nr8 e.symm)
  have c8c := cell_of_heap k8 0
  have c8f := frozen_of_heap k8 0 none
  simp only [List.getElem?_toArray, List.getElem?_cons_zero] at c8c
  have HS := Lib.hid (fun ok' => H.out.set h1 hu hr ok')
  clear c0 k8 hu h1 HN
  cases ok with
  | false =>
    go_wp2_with fail
    go_ret
    obtain ⟨g1, g2⟩ := HS.out false
    exact ⟨by rw [HC.out]; rfl, by rw [HC.out]; exact g1, g2⟩
  | true =>
    cases is with
    | false =>
      go_wp2_with fail
      go_ret
      obtain ⟨g1, g2⟩ := HS.out false
      exact ⟨by rw [HC.out]; rfl, by rw [HC.out]; exact g1, g2⟩
    | true =>
      by_cases hvb : v ≤ B
      · have hd : decide ((v : Int) ≤ (B : Int)) = true := by simp; omega
        have hd2 : decide (v ≤ B) = true := by simp; omega
        have HVB := Lib.hid hvb
        go_wp2_with fail
        go_ret
        obtain ⟨g1, g2⟩ := HS.out true
        exact ⟨by rw [HC.out]; simp [HVB.out], by rw [HC.out]; simpa [HVB.out] using g1, g2⟩
      · have hd : decide ((v : Int) ≤ (B : Int)) = false := by simp; omega
        have hd2 : decide (v ≤ B) = false := by simp; omega
        have HVB := Lib.hid hvb
        go_wp2_with fail
        go_ret
        obtain ⟨g1, g2⟩ := HS.out false
        exact ⟨by rw [HC.out]; simp [HVB.out], by rw [HC.out]; simpa [HVB.out] using g1, g2⟩
set_option maxHeartbeats 4000000 in
set_option maxRecDepth 100000 in
theorem text_clos {w : World} {rb c7 c8 : Nat} {ok : Bool} {s : ByteArray} (h : RD w rb c7 c8 ok s) :
    Calls Tryz.prog 50 #[.pointer (some ⟨c7, 0, none⟩), .pointer (some ⟨c8, 0, none⟩)] w (TextCPost rb c7 c8 ok s w) := by
  obtain ⟨v, is, r, hv⟩ : ∃ v is r, textS s = (v, is, r) := ⟨_, _, _, rfl⟩
  have hr : r.size ≤ s.size := by
    have := textS_size s
    rw [hv] at this
    exact this
  have hc := textC_eq (ok := ok) hv
  have HV := Lib.hid hv
  have HC := Lib.hid hc
  have H := Lib.hid h
  have c0 := cell_of_heap h.ptr 0
  simp only [List.getElem?_toArray, List.getElem?_cons_zero] at c0
  have HN := Lib.hid (rd_text h.rdr h.siz)
  clear hv hc h
  go_enter Tryz.func50, Tryz.ntmps50
  go_wp2_with fail
  refine HN.out.mono ?_
  rintro e w1 ⟨rfl, h1, hu⟩
  rw [HV.out] at h1
  rw [HV.out]
  have k8 := hu.keep H.out.rgt (fun e => H.out.nr8 e.symm)
  have c8c := cell_of_heap k8 0
  have c8f := frozen_of_heap k8 0 none
  simp only [List.getElem?_toArray, List.getElem?_cons_zero] at c8c
  have HS := Lib.hid (fun ok' => H.out.set h1 hu hr ok')
  clear c0 k8 hu h1 HN
  cases ok with
  | false =>
    go_wp2_with fail
    go_ret
    obtain ⟨g1, g2⟩ := HS.out false
    exact ⟨by rw [HC.out]; rfl, by rw [HC.out]; exact g1, g2⟩
  | true =>
    go_wp2_with fail
    go_ret
    obtain ⟨g1, g2⟩ := HS.out is
    exact ⟨by rw [HC.out]; rfl, by rw [HC.out]; exact g1, g2⟩
end Go.Proofs.YtgkegfgdpekehaaGreat
/- The walk of Decode. -/
namespace Go.Proofs.YtgkegfgdpekehaaGreat
open Go.RowKit Go.Acre Go.Acre.Dk
theorem rdNum_numS (B : Nat) (s : ByteArray) : rdNum B s = if (numS s).2.1 = true ∧ (numS s).1 ≤ B then some ((numS s).1, (numS s).2.2) else none := by
  unfold rdNum numS
  cases numB s with
  | none => simp
  | some p => simp
theorem rdTxt_textS (s : ByteArray) : rdTxt s = if (textS s).2.1 = true then some ((textS s).1, (textS s).2.2) else none := by
  unfold rdTxt textS
  cases textB s 32 with
  | none => simp
  | some p => simp
theorem numC_yes {B : Nat} {ok : Bool} {s : ByteArray} (h : (numC B ok s).2.1 = true) : ok = true ∧ rdNum B s = some ((numC B ok s).1, (numC B ok s).2.2) := by
  unfold numC at h ⊢
  dsimp only at h ⊢
  rw [if_pos h, rdNum_numS]
  simp only [Bool.and_eq_true, decide_eq_true_eq] at h
  exact ⟨h.1.1, if_pos ⟨h.1.2, h.2⟩⟩
theorem numC_no {B : Nat} {ok : Bool} {s : ByteArray} (h : (numC B ok s).2.1 = false) : (numC B ok s).1 = 0 ∧ (ok = true → rdNum B s = none) := by
  unfold numC at h ⊢
  dsimp only at h ⊢
  refine ⟨by rw [h]; rfl, fun hk => ?_⟩
  subst hk
  rw [rdNum_numS, if_neg]
  simpa using h
theorem numC_le {B : Nat} {ok : Bool} {s : ByteArray} : (numC B ok s).1 ≤ B := by
  cases h : (numC B ok s).2.1 with
  | true => exact (rdNum_some (numC_yes h).2).2.1
  | false => rw [(numC_no h).1]; exact Nat.zero_le _
theorem textC_yes {ok : Bool} {s : ByteArray} (h : (textC ok s).2.1 = true) : ok = true ∧ rdTxt s = some ((textC ok s).1, (textC ok s).2.2) := by
  unfold textC at h ⊢
  dsimp only at h ⊢
  rw [rdTxt_textS]
  simp only [Bool.and_eq_true] at h
  exact ⟨h.1, if_pos h.2⟩
theorem textC_no {ok : Bool} {s : ByteArray} (h : (textC ok s).2.1 = false) : ok = true → rdTxt s = none := by
  unfold textC at h
  dsimp only at h
  intro hk
  subst hk
  rw [rdTxt_textS, if_neg]
  simpa using h
/-- a file is read by four reads -/
theorem rdFile_steps {B : Nat} {s : ByteArray} {a d : Nat × Bool × ByteArray} {t u : ByteArray × Bool × ByteArray} (h1 : numC B true s = a) (h2 : textC a.2.1 a.2.2 = t) (h3 : textC t.2.1 t.2.2 = u) (h4 : numC 1073741824 u.2.1 u.2.2 = d) :
    rdFile B s = if d.2.1 = true then some (⟨a.1, t.1, u.1, (d.1 : Int)⟩, d.2.2) else none := by
  subst h1 h2 h3 h4
  unfold rdFile
  cases k4 : (numC 1073741824 (textC (textC (numC B true s).2.1 (numC B true s).2.2).2.1 (textC (numC B true s).2.1 (numC B true s).2.2).2.2).2.1 (textC (textC (numC B true s).2.1 (numC B true s).2.2).2.1 (textC (numC B true s).2.1 (numC B true s).2.2).2.2).2.2).2.1 with
  | true =>
    obtain ⟨k3, r4⟩ := numC_yes k4
    obtain ⟨k2, r3⟩ := textC_yes k3
    obtain ⟨k1, r2⟩ := textC_yes k2
    obtain ⟨_, r1⟩ := numC_yes k1
    rw [r1]
    simp only
    rw [r2]
    simp only
    rw [r3]
    simp only
    rw [r4]
    simp
  | false =>
    have n4 := (numC_no k4).2
    cases k1 : (numC B true s).2.1 with
    | false => rw [(numC_no k1).2 rfl]; simp
    | true =>
      rw [(numC_yes k1).2]
      simp only
      cases k2 : (textC (numC B true s).2.1 (numC B true s).2.2).2.1 with
      | false => rw [textC_no k2 k1]; simp
      | true =>
        rw [(textC_yes k2).2]
        simp only
        cases k3 : (textC (textC (numC B true s).2.1 (numC B true s).2.2).2.1 (textC (numC B true s).2.1 (numC B true s).2.2).2.2).2.1 with
        | false => rw [textC_no k3 k2]; simp
        | true =>
          rw [(textC_yes k3).2]
          simp only
          rw [n4 k3]
          simp
def more {α : Type} (pre : List α) : Option (List α × ByteArray) → Option (List α × ByteArray)
  | some (l, r) => some (pre ++ l, r)
  | none => none
theorem rdN_more {α : Type} {f : ByteArray → Option (α × ByteArray)} {n : Nat} {pre : List α} {s : ByteArray} {x : α} {r : ByteArray} (h : f s = some (x, r)) : more pre (rdN f (n + 1) s) = more (pre ++ [x]) (rdN f n r) := by
  rw [rdN, h]
  simp only
  cases rdN f n r with
  | none => rfl
  | some p => obtain ⟨l, q⟩ := p; simp [more]
theorem rdN_stop {α : Type} {f : ByteArray → Option (α × ByteArray)} {n : Nat} {pre : List α} {s : ByteArray} (h : f s = none) : more pre (rdN f (n + 1) s) = none := by
  rw [rdN, h]
  rfl
theorem rdN_done {α : Type} {f : ByteArray → Option (α × ByteArray)} {pre : List α} {s : ByteArray} : more pre (rdN f 0 s) = some (pre, s) := by
  simp [rdN, more]
theorem more_nil {α : Type} (q : Option (List α × ByteArray)) : more [] q = q := by
  cases q with
  | none => rfl
  | some p => rfl
/-- what is made of a state and the bytes behind it -/
def decT : Option (MSt × ByteArray) → Option MSt
  | some (x, r) => if r.size = 0 ∧ mayS x = true then some x else none
  | none => none
theorem decodeS_open {b body : ByteArray} (h : openM b = some (body, b.size)) : decodeS b = decT (rdState M40 body) := by
  unfold decodeS
  generalize M40 = B at *
  rw [h]
  simp only [if_true]
  cases rdState B body with
  | none => rfl
  | some p => rfl
def asSt (nx lg : Nat) : Option (List (List PF) × ByteArray) → Option (MSt × ByteArray)
  | some (ls, r) => some (⟨nx, lg, ls⟩, r)
  | none => none
theorem rdState_yes {B : Nat} {s : ByteArray} {a b c : Nat × Bool × ByteArray} (h1 : numC B true s = a) (h2 : numC B a.2.1 a.2.2 = b) (h3 : numC 7 b.2.1 b.2.2 = c) :
    rdState B s = if c.2.1 = true then asSt a.1 b.1 (rdN (rdLevel B) c.1 c.2.2) else none := by
  subst h1 h2 h3
  unfold rdState
  cases k3 : (numC 7 (numC B (numC B true s).2.1 (numC B true s).2.2).2.1 (numC B (numC B true s).2.1 (numC B true s).2.2).2.2).2.1 with
  | true =>
    obtain ⟨k2, r3⟩ := numC_yes k3
    obtain ⟨k1, r2⟩ := numC_yes k2
    obtain ⟨_, r1⟩ := numC_yes k1
    rw [r1]
    simp only
    rw [r2]
    simp only
    rw [r3]
    simp only [if_true]
    cases rdN (rdLevel B) _ _ with
    | none => rfl
    | some p => rfl
  | false =>
    have n3 := (numC_no k3).2
    cases k1 : (numC B true s).2.1 with
    | false => rw [(numC_no k1).2 rfl]; simp
    | true =>
      rw [(numC_yes k1).2]
      simp only
      cases k2 : (numC B (numC B true s).2.1 (numC B true s).2.2).2.1 with
      | false => rw [(numC_no k2).2 k1]; simp
      | true =>
        rw [(numC_yes k2).2]
        simp only
        rw [n3 k2]
        simp
theorem rdLevel_yes {B : Nat} {s : ByteArray} {c : Nat × Bool × ByteArray} (h : numC 1024 true s = c) : rdLevel B s = if c.2.1 = true then rdN (rdFile B) c.1 c.2.2 else none := by
  subst h
  unfold rdLevel
  cases k : (numC 1024 true s).2.1 with
  | true => rw [(numC_yes k).2]; simp
  | false => rw [(numC_no k).2 rfl]; simp
end Go.Proofs.YtgkegfgdpekehaaGreat
