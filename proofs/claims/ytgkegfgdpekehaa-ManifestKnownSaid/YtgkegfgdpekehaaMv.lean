/- The walk of made. -/
import Derived.Test.YtgkegfgdpekehaaMu
namespace Go.Proofs.Ytgkegfgdpekehaa
open Go.RowKit Go.Acre Go.Acre.Dk
def MadePost (x : MSt) (w : World) (e : Ending) (w' : World) : Prop := ∃ a cap, e = .returned (.agg #[.int .u64 (x.next : Nat), .int .u64 (x.log : Nat), .slice a x.levels.length cap]) ∧ OutAt w' w.heap.size (.slice a x.levels.length cap) x.levels ∧ Upd (fun _ => False) w w'
theorem conv2 (w : World) (a b : Int) : (convert 34 9 (.slice (some ⟨w.heap.size, 0, none⟩) 2 2)).run Try.prog (w.alloc (.cells #[.int .u8 a, .int .u8 b] 5)) = .ok (.string (strOfNums [a, b])) (w.alloc (.cells #[.int .u8 a, .int .u8 b] 5)) :=
  convert_ints (ints_alloc [a, b] (by simp)) 34 9 5 Try.underlying34 Try.underlying5 Try.underlying9
theorem lo_str (m i : Nat) : strOfNums [2 * (m : Int), (i : Int)] = str [2 * m, i] := by
  unfold str
  simp
theorem hi_str (m : Nat) : strOfNums [2 * (m : Int) + 1] = str [2 * m + 1] := by
  unfold str
  simp
theorem cell_lt {w : World} {g o : Nat} {v : Value} (h : w.cell? ⟨g, o, none⟩ = some v) : g < w.heap.size := by
  by_cases hg : g < w.heap.size
  · exact hg
  · exfalso
    simp [World.cell?, Array.getElem?_eq_none (show w.heap.size ≤ g by omega)] at h
theorem flatF (f : PF) : flatP [f] = [.int .u64 (f.id : Nat), .string f.low, .string f.high, .int .i64 f.cells] := rfl
set_option maxHeartbeats 8000000 in
set_option maxRecDepth 100000 in
theorem made_any {w : World} {a : Option Addr} {n cap log : Nat} {L : List Nat} (hn : n = L.length) (hz : IntsAt .u8 w (.slice a n cap) (L.map Int.ofNat)) (hL : ∀ x ∈ L, x < 256) (hlog : log < 4294967296) (hnb : n ≤ 9223372036854775807) :
    Calls Try.prog 39 #[.slice a n cap, .int .u32 (log : Nat)] w (MadePost (madeS L log) w) := by
  have hc2 := conv2
  have hc1 := conv1
  have hu1 : Upd (fun _ => False) w ((w.alloc (.cells #[.int .u64 0, .int .u64 0, .slice none 0 0] 45)).alloc (.cells #[.int .u64 1, .int .u64 (1 + (log : Int)), .slice none 0 0] 45)) := ((Upd.refl _ w).alloc _).alloc _
  have hx1 : ((w.alloc (.cells #[.int .u64 0, .int .u64 0, .slice none 0 0] 45)).alloc (.cells #[.int .u64 1, .int .u64 (1 + (log : Int)), .slice none 0 0] 45)).heap[w.heap.size]? = some (.cells #[.int .u64 0, .int .u64 0, .slice none 0 0] 45 (0, 0)) := heap_alloc2_old _ _ _
  have hx2 : ((w.alloc (.cells #[.int .u64 0, .int .u64 0, .slice none 0 0] 45)).alloc (.cells #[.int .u64 1, .int .u64 (1 + (log : Int)), .slice none 0 0] 45)).heap[w.heap.size + 1]? = some (.cells #[.int .u64 1, .int .u64 (1 + (log : Int)), .slice none 0 0] 45 (0, 0)) := heap_alloc2_new _ _ _
  have HZ := Lib.hid hz
  have HN := Lib.hid hn
  have HL := Lib.hid hL
  have HU := Lib.hid hu1
  have HX1 := Lib.hid hx1
  have HX2 := Lib.hid hx2
  clear hz hn hL hu1 hx1 hx2
  go_enter Try.func39, Try.ntmps39
  go_upto_region 2 with fail
  generalize (w.alloc (.cells #[.int .u64 0, .int .u64 0, .slice none 0 0] 45)).alloc (.cells #[.int .u64 1, .int .u64 (1 + (log : Int)), .slice none 0 0] 45) = wb at *
  generalize hxb : w.heap.size = xb at *
  have HXB := Lib.hid hxb
  have hbl : xb + 1 < wb.heap.size := lt_of_heap HX2.out
  clear hxb
  go_wp2_with fail
  go_loopw [6] (fun i wr => ∃ (k : Nat) (v : Value), i = .int .i64 k ∧ k ≤ n ∧ k ≤ 7 ∧ wr.heap[xb]? = some (.cells #[.int .u64 0, .int .u64 0, .slice none 0 0] 45 (0, 0)) ∧ wr.heap[xb + 1]? = some (.cells #[.int .u64 (madeN 1 (L.take k) : Nat), .int .u64 (1 + (log : Int)), v] 45 (0, 0)) ∧ OutAt wr (xb + 2) v (madeLs 1 0 (L.take k)) ∧ Upd (fun _ => False) w wr ∧ xb + 2 ≤ wr.heap.size) (fun i _ => 7 - (intOf i).toNat)
  case atStart => exact ⟨0, _, rfl, by omega, by omega, HX1.out, HX2.out, OutAt.nil _ _, HU.out, by omega⟩
  case round =>
    obtain ⟨k, v, rfl, hk, hk7, hx1, hx2, hout, hu, hsz⟩ := hrel
    by_cases hlt : k < n
    · have hlt2 : (k : Int) < (n : Int) := by omega
      have hd1 : decide ((k : Int) < (n : Int)) = true := by simp; omega
      have hk0 : (0 : Int) ≤ (k : Int) := by omega
      by_cases h7 : k < 7
      · have h72 : (k : Int) < 7 := by omega
        have hd2 : decide ((k : Int) < 7) = true := by simp; omega
        have hkl : k < L.length := by rw [← HN.out]; exact hlt
        have hkl2 : k < (L.map Int.ofNat).length := by rw [List.length_map]; exact hkl
        obtain ⟨g, o, rfl, c0w⟩ := HZ.out.cell hkl2
        have hgx := cell_lt c0w
        rw [HXB.out] at hgx
        have c0 := cell_upd hu c0w (fun f => f)
        rw [List.getElem_map] at c0
        clear c0w
        have hx256 := HL.out L[k] (List.getElem_mem hkl)
        have HTK := Lib.hid (List.take_succ_eq_append_getElem hkl)
        generalize L[k] = x at *
        have hidb := (madeN_ge (L.take k) 1)
        have hidl : (L.take k).length ≤ 7 := by rw [List.length_take]; omega
        have hlsl : (madeLs 1 0 (L.take k)).length = k := by rw [madeLs_len, List.length_take]; omega
        have HLS := Lib.hid hlsl
        have hid0 : madeN 1 (L.take k) ≤ 204 := by omega
        generalize hid : madeN 1 (L.take k) = id at *
        have HID := Lib.hid hid
        have HX := Lib.hid hx1
        have HBX := Lib.hid hx2
        have HOUT := Lib.hid hout
        have HUO := Lib.hid hu
        obtain ⟨q, hq⟩ : ∃ q : Nat, x % 30 = q := ⟨_, rfl⟩
        have hq30 : q < 30 := by omega
        have HQ := Lib.hid hq
        have hH2 : xb + 2 ≤ wr.heap.size := hsz
        clear hid hx1 hx2 hout hu hidb hidl hlsl hq
        generalize hH : wr.heap.size = H at *
        have HH := Lib.hid hH
        clear hH
        go_wp2_with fail
        go_loopw [8, 7] (fun j lv ws => ∃ m : Nat, j = .int .i64 m ∧ m ≤ q ∧ ws.heap[xb + 1]? = some (.cells #[.int .u64 (id + m : Nat), .int .u64 (1 + (log : Int)), v] 45 (0, 0)) ∧ ws.ownsRow H 93 4 lv m (flatP (madeLev id k m)) ∧ Upd (fun i => i = xb + 1) wr ws) (fun j _ _ => q - (intOf j).toNat)
        case atStart => exact ⟨0, rfl, by omega, by rw [Nat.add_zero]; exact HBX.out, World.ownsRow_nil _ _ _ _, Upd.refl _ _⟩
        case round =>
          obtain ⟨m, rfl, hm, hbx, hown, hu2⟩ := hrel
          have c1 := cell_upd hu2 c0 (by omega)
          have HU2 := Lib.hid hu2
          have hsz2 := hu2.size
          rw [HH.out] at hsz2
          obtain ⟨p0, p1, p2⟩ := box_cells hbx
          have z0 := frozen_of_heap hbx 0 none
          have z2 := frozen_of_heap hbx 2 none
          by_cases hml : m < q
          · have hq2 := HQ.out
            have hml2 : (m : Int) < (x : Int) % 30 := by omega
            have hm256 : (2 * (m : Int)) % 256 = 2 * (m : Int) := by omega
            have hm257 : (2 * (m : Int) + 1) % 256 = 2 * (m : Int) + 1 := by omega
            have hk256 : (k : Int) % 256 = (k : Int) := by omega
            have hm30 : (m : Int) < 30 := by omega
            have hu3 : Upd (fun _ => False) wr (((wr.alloc (.cells #[.int .u8 (2 * (m : Int)), .int .u8 (k : Int)] 5)).alloc (.cells #[.int .u8 (2 * (m : Int) + 1)] 5)).alloc (.cells #[.int .u64 (id + m : Nat), .string (strOfNums [2 * (m : Int), (k : Int)]), .string (strOfNums [2 * (m : Int) + 1]), .int .i64 (1 + (m : Int))] 93)) := (((Upd.refl _ wr).alloc _).alloc _).alloc _
            have HO3 := Lib.hid (owns_upd hown hu3 (fun g hg s => s.elim))
            have HU3 := Lib.hid hu3
            have HBX3 := Lib.hid (hu3.keep hbx (fun f => f))
            have hsl := (slc4 (w := (wr.alloc (.cells #[.int .u8 (2 * (m : Int)), .int .u8 (k : Int)] 5)).alloc (.cells #[.int .u8 (2 * (m : Int) + 1)] 5)) (.int .u64 (id + m : Nat)) (.string (strOfNums [2 * (m : Int), (k : Int)])) (.string (strOfNums [2 * (m : Int) + 1])) (.int .i64 (1 + (m : Int))))
            rw [World.size_alloc, World.size_alloc] at hsl
            have HSL := Lib.hid hsl
            clear hsl
            have hcc := hc1 (wr.alloc (.cells #[.int .u8 (2 * (m : Int)), .int .u8 (k : Int)] 5)) (2 * (m : Int) + 1)
            rw [World.size_alloc] at hcc
            clear hu3 hu2 hown hbx hq2
            obtain ⟨i0, hi0, hz0, hz1, hz2⟩ := info_parts info93
            go_wp2_with (at_builtin; refine wpList_append_row rfl _ _ 94 rfl H 93 i0 (.agg #[.int .u64 0, .string ⟨#[]⟩, .string ⟨#[]⟩, .int .i64 0]) 4 48 Try.underlying94 hi0 hz0 hz1 hz2 rfl (by decide) _ _ _ rfl HO3.out _ 1 _ rfl HSL.out ?c2 ?c3 ?c4 ?c5 ?_)
            case c2 =>
              intro u hu
              simp only [List.mem_cons, List.not_mem_nil, or_false] at hu
              rcases hu with rfl | rfl | rfl | rfl <;> rfl
            case c3 => unfold maxLen; omega
            case c4 => omega
            case c5 => simp only [World.size_alloc]; omega
            intro v2 w9 hown9 hg9
            have huk : Upd (fun i => H ≤ i) _ w9 := (Upd.refl _ _).of_grown hg9 (fun j hj _ => (HO3.out.lt j hj).1)
            have hb9 := huk.keep HBX3.out (by omega)
            have hu9 := (HU2.out.trans HU3.out (fun _ _ f => f.elim)).trans huk (fun i hi e => by have := HH.out; omega)
            have HOWN9 : Hid (w9.ownsRow H 93 4 v2 (m + 1) (flatP (madeLev id k (m + 1)))) := by
              show World.ownsRow _ _ _ _ _ _ _
              rw [madeLev_snoc, flatP_append, flatF]
              unfold madeF
              rw [lo_str, hi_str] at hown9
              simpa using hown9
            obtain ⟨g0, g1, g2⟩ := box_cells hb9
            have y0 := frozen_of_heap hb9 0 none
            have hus : Upd (fun i => i = xb + 1) w9 (w9.setCell ⟨xb + 1, 0, none⟩ (.int .u64 ((id : Int) + ((m : Int) + 1)))) := upd1
            have hb5 : (w9.setCell ⟨xb + 1, 0, none⟩ (.int .u64 ((id : Int) + ((m : Int) + 1)))).heap[xb + 1]? = some (.cells #[.int .u64 (id + (m + 1) : Nat), .int .u64 (1 + (log : Int)), v] 45 (0, 0)) := by
              have := heap_setCell (o := 0) hb9 (.int .u64 ((id : Int) + ((m : Int) + 1)))
              simpa using this
            have HB5 := Lib.hid hb5
            have HU5 := Lib.hid (hu9.trans hus (fun i hi e => e))
            have HOWN5 := Lib.hid (owns_upd HOWN9.out hus (fun g hg e => by have := (HOWN9.out.lt g hg).1; omega))
            have hadd : ((id + m : Nat) : Int) + 1 = ((id + (m + 1) : Nat) : Int) := by omega
            have hadd2 : (id : Int) + (m : Int) + 1 = ((id + (m + 1) : Nat) : Int) := by omega
            clear hb9 hb5 hus hu9 huk hown9 hg9 c1 p0 p1 p2 z0 z2
            go_wp2_with fail
            exact ⟨⟨m + 1, by go_num, by omega, HB5.out, HOWN5.out, HU5.out⟩, by simp [intOf]; omega⟩
          · have hq2 := HQ.out
            have hge : ¬ (m : Int) < (x : Int) % 30 := by omega
            have hme : m = q := by omega
            subst hme
            clear hml hm
            have HI2 : Hid ((madeN 1 (L.take (k + 1)) : Nat) = id + m ∧ madeLs 1 0 (L.take (k + 1)) = madeLs 1 0 (L.take k) ++ [madeLev id k m]) := by
              have e0 : 0 + (L.take k).length = k := by rw [List.length_take]; omega
              rw [HTK.out]
              refine ⟨?_, ?_⟩
              · rw [madeN_snoc, HID.out, hq2]
              · rw [madeLs_snoc, HID.out, hq2, e0]
            have hoo := HOUT.out.upd hu2 (fun k e => by omega)
            obtain ⟨la, lc, rfl⟩ := (RowAt.of_own hown).slice
            obtain ⟨va, vc, rfl, hv1, hv2⟩ := hoo.levs.slice
            obtain ⟨q0, q1, q2⟩ := box_cells hbx
            have hxk := hu2.keep HX.out (by omega)
            have hua3 : Upd (fun _ => False) wr (wr.alloc (.cells #[.slice la m lc] 94)) := (Upd.refl _ wr).alloc _
            have hoo3 := hoo.upd hua3 (fun _ f => f.elim)
            have HBS3 := Lib.hid (hua3.keep hbx (fun f => f))
            have HX3 := Lib.hid (hua3.keep hxk (fun f => f))
            have HOU3 := Lib.hid (owns_upd (owns_base hown (show xb + 2 ≤ H by omega)) hua3 (fun g hg s => s.elim))
            have HU3 := Lib.hid ((HUO.out.trans hu2 (fun i hi e => by have := HXB.out; omega)).trans hua3 (fun _ _ f => f))
            obtain ⟨vs, ho1, ho2⟩ := hoo3
            have HV1 := Lib.hid ho1
            have HV2 := Lib.hid ho2
            have HOU4 : Hid (World.ownsRow (wr.alloc (.cells #[.slice la m lc] 94)) (xb + 2) 93 4 (.slice la m lc) (madeLev id k m).length (flatP (madeLev id k m))) := by
              show World.ownsRow _ _ _ _ _ _ _
              rw [madeLev_len]
              exact HOU3.out
            clear hoo ho1 ho2 hua3 hown hbx hxk hu2
            obtain ⟨j0, hj0, hy0, hy1, hy2⟩ := info_parts info94
            go_wp2_with (at_builtin; refine wpList_append_row rfl _ _ 43 rfl (xb + 2) 94 j0 (.slice none 0 0) 1 24 Try.underlying43 hj0 hy0 hy1 hy2 rfl (by decide) _ _ vs rfl HV1.out _ 1 [.slice la m lc] rfl (slc_alloc _) ?c2 ?c3 ?c4 ?c5 ?_)
            case c2 => first | rfl | (intro z hz; simp at hz; subst hz; rfl)
            case c3 => have hls7 := HLS.out; unfold maxLen; omega
            case c4 => have hls7 := HLS.out; omega
            case c5 => first | omega | (simp; omega)
            intro v3 w3 hown3 hg3
            have huk : Upd (fun i => xb + 2 ≤ i) (wr.alloc (.cells #[.slice la m lc] 94)) w3 := (Upd.refl _ _).of_grown hg3 (fun j hj _ => (HV1.out.lt j hj).1)
            obtain ⟨a2, c2, rfl⟩ := (RowAt.of_own hown3).slice
            have hout4 := OutAt.snoc HV1.out HV2.out HOU4.out hown3 hg3
            rw [← HI2.out.2] at hout4
            have hb4 := huk.keep HBS3.out (by omega)
            have hx4 := huk.keep HX3.out (by omega)
            have hu4 := HU3.out.trans huk (fun i hi e => by have := HXB.out; omega)
            have r2 := cell_of_heap hb4 2
            have y2 := frozen_of_heap hb4 2 none
            simp only [List.getElem?_toArray, List.getElem?_cons_zero, List.getElem?_cons_succ] at r2
            have hsz4 : xb + 2 ≤ w3.heap.size := by have := huk.size; simp only [World.size_alloc] at this; omega
            have hus : Upd (fun i => i = xb + 1) w3 (w3.setCell ⟨xb + 1, 2, none⟩ (.slice a2 ((madeLs 1 0 (L.take k)).length + 1) c2)) := upd1
            have hb5 : (w3.setCell ⟨xb + 1, 2, none⟩ (.slice a2 ((madeLs 1 0 (L.take k)).length + 1) c2)).heap[xb + 1]? = some (.cells #[.int .u64 (madeN 1 (L.take (k + 1)) : Nat), .int .u64 (1 + (log : Int)), .slice a2 ((madeLs 1 0 (L.take k)).length + 1) c2] 45 (0, 0)) := by
              have := heap_setCell (o := 2) hb4 (.slice a2 ((madeLs 1 0 (L.take k)).length + 1) c2)
              rw [HI2.out.1]
              simpa using this
            have HB5 := Lib.hid hb5
            have HX6 := Lib.hid (hus.keep hx4 (by omega))
            have HOUT6 := Lib.hid (hout4.upd hus (fun k e => by omega))
            have HU6 := Lib.hid (hu4.trans hus (fun i hi e => by have := HXB.out; omega))
            have hsz6 : xb + 2 ≤ (w3.setCell ⟨xb + 1, 2, none⟩ (.slice a2 ((madeLs 1 0 (L.take k)).length + 1) c2)).heap.size := by have := hus.size; omega
            have HSZ6 := Lib.hid hsz6
            clear hb4 hb5 hx4 hus hu4 hout4 hown3 hg3 q0 q1 q2 p0 p1 p2 z0 z2 huk hsz6
            go_wp2_with fail
            exact ⟨⟨k + 1, _, by go_num, by omega, by omega, HX6.out, HB5.out, HOUT6.out, HU6.out, HSZ6.out⟩, by simp [intOf]; omega⟩
      · have h72 : ¬ (k : Int) < 7 := by omega
        have hd2 : decide ((k : Int) < 7) = false := by simp; omega
        obtain ⟨va, vc, rfl, hv1, hv2⟩ := hout.levs.slice
        have HFIN : Hid (madeS L log = ⟨madeN 1 (L.take k), 1 + log, madeLs 1 0 (L.take k)⟩) := by
          show _ = _
          unfold madeS
          have e7 : k = 7 := by omega
          rw [e7]
        obtain ⟨p0, p1, p2⟩ := box_cells hx2
        have z0 := frozen_of_heap hx1 0 none
        have z1 := frozen_of_heap hx1 1 none
        have z2 := frozen_of_heap hx1 2 none
        obtain ⟨q0, q1, q2⟩ := box_cells hx1
        have HX9 := Lib.hid hx1
        have HO9 := Lib.hid hout
        have HU9 := Lib.hid hu
        generalize madeN 1 (L.take k) = id at *
        generalize madeLs 1 0 (L.take k) = ls at *
        clear hx1 hx2 hout hu
        go_wp2_with fail
        try simp only [Exit.inBlock, Exit.then]
        refine bodyPost_ret (results_cell_row rfl _ _ xb 45 _ (0, 0) _ rfl (cells3 HX9.out) Try.underlying45 rfl (by kernel_rfl)) rfl ?_
        rw [HFIN.out]
        exact ⟨va, vc, rfl, (HO9.out.upd (S := fun i => i = xb) upd3 (fun k e => by omega)).base (by have := HXB.out; omega), HU9.out.trans upd3 (fun i hi e => by have := HXB.out; omega)⟩
    · have hlt2 : ¬ (k : Int) < (n : Int) := by omega
      have hd1 : decide ((k : Int) < (n : Int)) = false := by simp; omega
      obtain ⟨va, vc, rfl, hv1, hv2⟩ := hout.levs.slice
      have HFIN : Hid (madeS L log = ⟨madeN 1 (L.take k), 1 + log, madeLs 1 0 (L.take k)⟩) := by
        show _ = _
        unfold madeS
        have e7 := HN.out
        rw [List.take_of_length_le (show L.length ≤ 7 by omega), List.take_of_length_le (show L.length ≤ k by omega)]
      obtain ⟨p0, p1, p2⟩ := box_cells hx2
      have z0 := frozen_of_heap hx1 0 none
      have z1 := frozen_of_heap hx1 1 none
      have z2 := frozen_of_heap hx1 2 none
      obtain ⟨q0, q1, q2⟩ := box_cells hx1
      have HX9 := Lib.hid hx1
      have HO9 := Lib.hid hout
      have HU9 := Lib.hid hu
      generalize madeN 1 (L.take k) = id at *
      generalize madeLs 1 0 (L.take k) = ls at *
      clear hx1 hx2 hout hu
      go_wp2_with fail
      try simp only [Exit.inBlock, Exit.then]
      refine bodyPost_ret (results_cell_row rfl _ _ xb 45 _ (0, 0) _ rfl (cells3 HX9.out) Try.underlying45 rfl (by kernel_rfl)) rfl ?_
      rw [HFIN.out]
      exact ⟨va, vc, rfl, (HO9.out.upd (S := fun i => i = xb) upd3 (fun k e => by omega)).base (by have := HXB.out; omega), HU9.out.trans upd3 (fun i hi e => by have := HXB.out; omega)⟩
end Go.Proofs.Ytgkegfgdpekehaa
/- The walk of works. -/
namespace Go.Proofs.Ytgkegfgdpekehaa
open Go.RowKit Go.Acre Go.Acre.Dk
def f0 : PF := ⟨1, ⟨#[97]⟩, ⟨#[98]⟩, 7⟩
def x0 : MSt := ⟨2, 5, [[f0]]⟩
def b0 : ByteArray := ⟨#[2, 5, 1, 1, 1, 1, 97, 1, 98, 7]⟩
theorem s97 : (⟨#[97]⟩ : ByteArray) = str [97] := rfl
theorem s98 : (⟨#[98]⟩ : ByteArray) = str [98] := rfl
theorem right_f0 : rightB f0 2 = true := by
  refine right_iff.2 ⟨by decide, by decide, by decide, by decide, ?_, by decide, by decide⟩
  show bf (⟨#[98]⟩ : ByteArray) ⟨#[97]⟩ = false
  rw [s97, s98]
  exact bf_asymm (bf_first (by omega) (by omega) (by omega))
theorem may_x0 : mayS x0 = true := by
  unfold mayS
  rw [Bool.and_eq_true]
  refine ⟨head_iff.2 ⟨by decide, by decide, by decide, by decide, by decide⟩, ?_⟩
  show allOk 2 [] [(0, f0)] = true
  have h : okAt 2 [] (0, f0) = true := by
    unfold okAt
    show (newB [] (0, f0) && decide (0 ≠ 1024) && rightB f0 2 && stepB [] (0, f0)) = true
    rw [right_f0]
    rfl
  rw [allOk, h]
  rfl
theorem state_x0 : stateB x0 = b0 := by
  apply nums_inj
  have e : nums b0 = [2, 5, 1, 1, 1, 1, 97, 1, 98, 7] := rfl
  rw [e]
  have e1 : ∀ v, v < 128 → nums (str (num v)) = [v] := fun v h => by rw [num_small h, nums_str]; intro b hb; simp at hb; omega
  have e2 : nums (⟨#[97]⟩ : ByteArray) = [97] := rfl
  have e3 : nums (⟨#[98]⟩ : ByteArray) = [98] := rfl
  have z1 : (⟨#[97]⟩ : ByteArray).size = 1 := rfl
  have z2 : (⟨#[98]⟩ : ByteArray).size = 1 := rfl
  have z3 : nums (⟨#[]⟩ : ByteArray) = [] := rfl
  simp only [stateB, x0, levelsB, levelB, filesB, fileB, f0, txt, nums_append, List.length_cons, List.length_nil, z1, z2, z3, e2, e3, Nat.zero_add, Nat.reduceAdd]
  rw [e1 2 (by omega), e1 5 (by omega), e1 1 (by omega), show (7 : Int).toNat = 7 from rfl, e1 7 (by omega)]
  rfl
theorem levs_x0 (w : World) : LevsAt (((w.alloc (.cells #[.int .u64 1, .string ⟨#[97]⟩, .string ⟨#[98]⟩, .int .i64 7] 93)).alloc (.cells #[.slice (some ⟨w.heap.size, 0, none⟩) 1 1] 94))) (.slice (some ⟨w.heap.size + 1, 0, none⟩) 1 1) x0.levels := by
  have h1 := slc4 (w := w) (.int .u64 1) (.string ⟨#[97]⟩) (.string ⟨#[98]⟩) (.int .i64 7)
  have hu : Upd (fun _ => False) (w.alloc (.cells #[.int .u64 1, .string ⟨#[97]⟩, .string ⟨#[98]⟩, .int .i64 7] 93)) ((w.alloc (.cells #[.int .u64 1, .string ⟨#[97]⟩, .string ⟨#[98]⟩, .int .i64 7] 93)).alloc (.cells #[.slice (some ⟨w.heap.size, 0, none⟩) 1 1] 94)) := (Upd.refl _ _).alloc _
  have h2 := slc_alloc (w := w.alloc (.cells #[.int .u64 1, .string ⟨#[97]⟩, .string ⟨#[98]⟩, .int .i64 7] 93)) (.slice (some ⟨w.heap.size, 0, none⟩) 1 1)
  rw [World.size_alloc] at h2
  refine ⟨_, h2, fun i hi => ?_⟩
  have hi0 : i = 0 := by
    have : i < 1 := hi
    omega
  subst hi0
  exact ⟨_, rfl, RowAt.upd0 h1 hu⟩
set_option maxHeartbeats 8000000 in
set_option maxRecDepth 100000 in
theorem mworks_any (w : World) : Calls Try.prog 38 #[] w (Fresh true w) := by
  have HL := Lib.hid (levs_x0 w)
  have hu0 : Upd (fun _ => False) w (((w.alloc (.cells #[.int .u64 1, .string ⟨#[97]⟩, .string ⟨#[98]⟩, .int .i64 7] 93)).alloc (.cells #[.slice (some ⟨w.heap.size, 0, none⟩) 1 1] 94))) := ((Upd.refl _ w).alloc _).alloc _
  have HU := Lib.hid hu0
  clear hu0
  obtain ⟨fb, hfb⟩ : ∃ fb, frameB b0 = fb := ⟨_, rfl⟩
  have hE := enc_yes may_x0
  rw [state_x0, hfb] at hE
  have hD := decodeS_back may_x0
  rw [state_x0, hfb] at hD
  have hfs : fb.size ≤ 9223372036854775807 := by
    rw [← hfb, frameB_size]
    show 10 + 8 ≤ _
    omega
  have HE : Hid (∀ {w' : World} {a : Option Addr} {ca : Nat}, LevsAt w' (.slice a 1 ca) x0.levels → Calls Try.prog 31 #[.agg #[.int .u64 2, .int .u64 5, .slice a 1 ca]] w' (fun e w2 => e = .returned (.tuple #[.string fb, .int .i64 0]) ∧ Upd (fun _ => False) w' w2)) := fun h => by
    have h2 := encode_any (s := x0) (n := 1) rfl h (flat_ids may_x0)
    unfold EncPost at h2
    rw [hE.1, hE.2] at h2
    exact h2
  have HF : Hid (∀ w' : World, Calls Try.prog 20 #[.string ⟨#[2, 5, 1, 1, 1, 1, 97, 1, 98, 7]⟩] w' (fun e w2 => e = .returned (.tuple #[.string fb, .int .i64 0]) ∧ Upd (fun _ => False) w' w2)) := fun w' => by
    have h2 := frame_any b0 w' (by decide)
    unfold FramePost at h2
    rw [hfb] at h2
    exact h2
  have HDD : Hid (∀ w' : World, Calls Try.prog 36 #[.string fb] w' (fun e w2 => ∃ a cap, e = .returned (.tuple #[.agg #[.int .u64 2, .int .u64 5, .slice a 1 cap], .int .i64 0]) ∧ LevsAt w2 (.slice a 1 cap) x0.levels ∧ Upd (fun _ => False) w' w2)) := fun w' => by
    have h2 := decode_any (w := w') fb hfs
    rw [hD] at h2
    exact h2
  clear hfb hE hD hfs
  go_enter Try.func38, Try.ntmps38
  go_upto_region 2 with fail
  have hsa : ((w.alloc (.cells #[.int .u64 1, .string ⟨#[97]⟩, .string ⟨#[98]⟩, .int .i64 7] 93)).alloc (.cells #[.slice (some ⟨w.heap.size, 0, none⟩) 1 1] 94)).heap.size = w.heap.size + 1 + 1 := by simp
  generalize (w.alloc (.cells #[.int .u64 1, .string ⟨#[97]⟩, .string ⟨#[98]⟩, .int .i64 7] 93)).alloc (.cells #[.slice (some ⟨w.heap.size, 0, none⟩) 1 1] 94) = wa at *
  generalize w.heap.size + 1 = ga at *
  have hu1 : Upd (fun _ => False) wa (wa.alloc (.cells #[.int .u64 2, .int .u64 5, .slice (some ⟨ga, 0, none⟩) 1 1] 45)) := (Upd.refl _ wa).alloc _
  have hx1 := heap_alloc (w := wa) (.cells #[.int .u64 2, .int .u64 5, .slice (some ⟨ga, 0, none⟩) 1 1] 45)
  rw [hsa] at hx1
  have hl1 := HL.out.upd0 hu1
  have HU1 := Lib.hid (HU.out.trans hu1 (fun _ _ f => f))
  clear hu1 HL HU
  generalize wa.alloc (.cells #[.int .u64 2, .int .u64 5, .slice (some ⟨ga, 0, none⟩) 1 1] 45) = wb at *
  clear hsa
  obtain ⟨p0, p1, p2⟩ := box_cells hx1
  go_wp2_with fail
  refine (HE.out hl1).mono ?_
  rintro e w1 ⟨rfl, hu⟩
  have hx2 := hu.keep hx1 (fun f => f)
  have hl2 := hl1.upd0 hu
  have HU2 := Lib.hid (HU1.out.trans hu (fun _ _ f => f))
  clear p0 p1 p2 hx1 hl1 hu
  go_wp2_with fail
  refine (HF.out _).mono ?_
  rintro e w2 ⟨rfl, hu⟩
  have hx3 := hu.keep hx2 (fun f => f)
  have hl3 := hl2.upd0 hu
  have HU3 := Lib.hid (HU2.out.trans hu (fun _ _ f => f))
  clear hx2 hl2 hu
  go_wp2_with fail
  refine (HDD.out _).mono ?_
  rintro e w3 ⟨da, dc, rfl, hl4, hu⟩
  have hx4 := hu.keep hx3 (fun f => f)
  have hl5 := hl3.upd0 hu
  have HU4 := Lib.hid (HU3.out.trans hu (fun _ _ f => f))
  clear hx3 hl3 hu
  go_upto_region 5 with fail
  have hua : Upd (fun _ => False) w3 (w3.alloc (.cells #[.int .u64 2, .int .u64 5, .slice da 1 dc] 45)) := (Upd.refl _ w3).alloc _
  have hya := heap_alloc (w := w3) (.cells #[.int .u64 2, .int .u64 5, .slice da 1 dc] 45)
  have hx5 := hua.keep hx4 (fun f => f)
  have hl6 := hl4.upd0 hua
  have hl7 := hl5.upd0 hua
  have HU5 := Lib.hid (HU4.out.trans hua (fun _ _ f => f))
  clear hua hx4 hl4 hl5
  generalize w3.alloc (.cells #[.int .u64 2, .int .u64 5, .slice da 1 dc] 45) = w4 at *
  generalize w3.heap.size = yb at *
  obtain ⟨p0, p1, p2⟩ := box_cells hx5
  obtain ⟨q0, q1, q2⟩ := box_cells hya
  obtain ⟨g, o, la, lc, rfl, c1, l1, m1, m2⟩ := hl6.cell (i := 0) (show 0 < x0.levels.length by decide)
  obtain ⟨g2, o2, la2, lc2, e2, c2, l2, _, _⟩ := hl7.cell (i := 0) (show 0 < x0.levels.length by decide)
  simp only [Option.some.injEq, Addr.mk.injEq, and_true] at e2
  obtain ⟨rfl, rfl⟩ := e2
  obtain ⟨g3, o3, rfl, d0, d1, d2, d3⟩ := l1.cell (i := 0) (show 0 < x0.levels[0].length by decide)
  obtain ⟨g4, o4, rfl, k0, k1, k2, k3⟩ := l2.cell (i := 0) (show 0 < x0.levels[0].length by decide)
  have D0 : w4.cell? ⟨g3, o3 + 0 * 4, none⟩ = some (.int .u64 1) := d0
  have D1 : w4.cell? ⟨g3, o3 + 0 * 4 + 1, none⟩ = some (.string ⟨#[97]⟩) := d1
  have D2 : w4.cell? ⟨g3, o3 + 0 * 4 + 2, none⟩ = some (.string ⟨#[98]⟩) := d2
  have D3 : w4.cell? ⟨g3, o3 + 0 * 4 + 3, none⟩ = some (.int .i64 7) := d3
  have K0 : w4.cell? ⟨g4, o4 + 0 * 4, none⟩ = some (.int .u64 1) := k0
  have K1 : w4.cell? ⟨g4, o4 + 0 * 4 + 1, none⟩ = some (.string ⟨#[97]⟩) := k1
  have K2 : w4.cell? ⟨g4, o4 + 0 * 4 + 2, none⟩ = some (.string ⟨#[98]⟩) := k2
  have K3 : w4.cell? ⟨g4, o4 + 0 * 4 + 3, none⟩ = some (.int .i64 7) := k3
  have C1 : w4.cell? ⟨g, o + 0, none⟩ = some (.slice (some ⟨g3, o3, none⟩) 1 lc) := c1
  have C2 : w4.cell? ⟨ga, 0 + 0, none⟩ = some (.slice (some ⟨g4, o4, none⟩) 1 lc2) := c2
  simp only [Nat.zero_mul, Nat.add_zero] at D0 D1 D2 D3 K0 K1 K2 K3 C1 C2
  clear d0 d1 d2 d3 k0 k1 k2 k3 c1 c2 l1 l2 hl6 hl7 hx5 hya HE HF HDD
  go_wp2_with fail
  go_quiet (fail)
  go_wp2_with fail
  go_ret
  exact ⟨rfl, HU5.out.drewN _⟩
end Go.Proofs.Ytgkegfgdpekehaa
