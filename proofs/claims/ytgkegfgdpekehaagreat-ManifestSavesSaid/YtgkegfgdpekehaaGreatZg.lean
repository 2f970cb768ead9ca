/- The walk of the reference's read. -/
import Derived.Test.YtgkegfgdpekehaaGreatZb
namespace Go.Proofs.YtgkegfgdpekehaaGreat
open Go.RowKit Go.Acre Go.Acre.Dk
theorem r2_facts (w : World) (s : ByteArray) : ∃ W0, (((w.alloc (.cells #[.int .u64 0, .int .u64 0, .slice none 0 0] 28)).alloc (.cells #[.int .u64 0, .int .u64 0, .slice none 0 0] 28)).alloc (.cells #[.string s] 136)) = W0 ∧ W0.heap.size = w.heap.size + 3 ∧ Upd (fun _ => False) w W0 ∧
    W0.heap[w.heap.size]? = some (.cells #[.int .u64 0, .int .u64 0, .slice none 0 0] 28 (0, 0)) ∧ W0.heap[w.heap.size + 1]? = some (.cells #[.int .u64 0, .int .u64 0, .slice none 0 0] 28 (0, 0)) ∧ Rdr 136 W0 (w.heap.size + 1 + 1) s := by
  refine ⟨_, rfl, by simp, (((Upd.refl _ w).alloc _).alloc _).alloc _, ?_, ?_, ?_⟩
  · simp only [get_alloc, World.size_alloc]
    rw [if_neg (by omega), if_neg (by omega)]
    simp
  · simp only [get_alloc, World.size_alloc]
    rw [if_neg (by omega)]
    simp
  · unfold Rdr
    simp only [get_alloc, World.size_alloc]
    simp
structure RS (w : World) (rb : Nat) (s : ByteArray) : Prop where
  rdr : Rdr 136 w rb s
  fits : s.size ≤ 9223372036854775807
theorem RS.upd {w w' : World} {rb : Nat} {s : ByteArray} (h : RS w rb s) {S : Nat → Prop} (hu : Upd S w w') (hS : ¬ S rb) : RS w' rb s := ⟨h.rdr.upd hu hS, h.fits⟩
theorem rnum' {w : World} {rb : Nat} {s r : ByteArray} {v : Nat} {is : Bool} (h : RS w rb s) (he : numS s = (v, is, r)) :
    Calls Tryz.prog 76 #[.pointer (some ⟨rb, 0, none⟩)] w fun e w' => e = .returned (.tuple #[.int .u64 (v : Nat), .bool is]) ∧ RS w' rb r ∧ Upd (fun i => i = rb) w w' := by
  have h2 := rrd_number h.rdr h.fits
  have h3 := numS_size s
  unfold NumPost at h2
  rw [he] at h2 h3
  refine h2.mono ?_
  rintro e w' ⟨h4, h5, h6⟩
  exact ⟨h4, ⟨h5, Nat.le_trans h3 h.fits⟩, h6⟩
theorem rtext' {w : World} {rb : Nat} {s r : ByteArray} {v : ByteArray} {is : Bool} (h : RS w rb s) (he : textS s = (v, is, r)) :
    Calls Tryz.prog 78 #[.pointer (some ⟨rb, 0, none⟩), .int .i64 32] w fun e w' => e = .returned (.tuple #[.string v, .bool is]) ∧ RS w' rb r ∧ Upd (fun i => i = rb) w w' := by
  have h2 := rrd_text h.rdr h.fits
  have h3 := textS_size s
  unfold TextPost at h2
  rw [he] at h2 h3
  refine h2.mono ?_
  rintro e w' ⟨h4, h5, h6⟩
  exact ⟨h4, ⟨h5, Nat.le_trans h3 h.fits⟩, h6⟩
theorem rfew' {w : World} {rb B : Nat} {s r : ByteArray} {v n : Nat} {k is : Bool} (h : RS w rb s) (hB : B ≤ 9223372036854775807) (he : numS s = (v, k, r)) (hf : fewS B s = (n, is)) :
    Calls Tryz.prog 77 #[.pointer (some ⟨rb, 0, none⟩), .int .u64 (B : Nat)] w fun e w' => e = .returned (.tuple #[.int .i64 (n : Nat), .bool is]) ∧ RS w' rb r ∧ Upd (fun i => i = rb) w w' := by
  have h2 := rfew_any h.rdr h.fits hB
  have h3 := numS_size s
  unfold FewPost at h2
  rw [he, hf] at h2
  rw [he] at h3
  refine h2.mono ?_
  rintro e w' ⟨h4, h5, h6⟩
  exact ⟨h4, ⟨h5, Nat.le_trans h3 h.fits⟩, h6⟩
theorem three_ways (a b c : Bool) : (a = true ∧ b = true ∧ c = true) ∨ ((a && b && c) = false ∧ (a = false ∨ (a = true ∧ b = false) ∨ (a = true ∧ b = true ∧ c = false))) := by
  cases a <;> cases b <;> cases c <;> simp
theorem four_ways (a b c d : Bool) : (a = true ∧ b = true ∧ c = true ∧ d = true) ∨ ((a && b && c && d) = false ∧ (a = false ∨ (a = true ∧ b = false) ∨ (a = true ∧ b = true ∧ c = false) ∨ (a = true ∧ b = true ∧ c = true ∧ d = false))) := by
  cases a <;> cases b <;> cases c <;> cases d <;> simp
set_option maxHeartbeats 8000000 in
set_option maxRecDepth 100000 in
theorem refread_any {w : World} (body : ByteArray) (hb : body.size ≤ 9223372036854775807) : Calls Tryz.prog 55 #[.string body] w (RdPost (whole (rdState MX body)) w) := by
  obtain ⟨nx, k1, s1, ha⟩ : ∃ nx k1 s1, numS body = (nx, k1, s1) := ⟨_, _, _, rfl⟩
  obtain ⟨lg, k2, s2, hbb⟩ : ∃ lg k2 s2, numS s1 = (lg, k2, s2) := ⟨_, _, _, rfl⟩
  obtain ⟨v3, kk3, s3, hcc⟩ : ∃ v kk s3, numS s2 = (v, kk, s3) := ⟨_, _, _, rfl⟩
  obtain ⟨n3, k3, hdd⟩ : ∃ n k3, fewS 7 s2 = (n, k3) := ⟨_, _, rfl⟩
  have HST := Lib.hid (rdState_ref ha hbb hcc hdd)
  have HA := Lib.hid ha
  have HB := Lib.hid hbb
  have HC := Lib.hid hcc
  have HD4 := Lib.hid hdd
  have hn7 : n3 ≤ 7 := by have := few_le (B := 7) (s := s2); rw [hdd] at this; exact this
  have HBODY := Lib.hid hb
  have HF1 : Hid (∀ (s : ByteArray) (w : World), Rdr 136 w 0 s → True) := fun _ _ _ => trivial
  clear ha hbb hcc hdd hb HF1
  go_enter Tryz.func55, Tryz.ntmps55
  go_upto_region 2 with fail
  go_upto_region 3 with (go_at_call 75; refine (rnew_reader body _).mono ?_; rintro e w1 ⟨rfl, rfl⟩)
  obtain ⟨w2, hw2, hs2, hu2, hx2, hsb2, hrd2⟩ := r2_facts w body
  rw [hw2]
  have hrd : RS w2 (w.heap.size + 1 + 1) body := ⟨hrd2, HBODY.out⟩
  have HX2 := Lib.hid hx2
  have HSB2 := Lib.hid hsb2
  have HU2 := Lib.hid hu2
  clear hw2 hu2 hx2 hsb2 hrd2
  generalize hxb : w.heap.size = xb at *
  go_wp2_with fail
  refine (rnum' hrd HA.out).mono ?_
  rintro e w3 ⟨rfl, hrd3, hu3⟩
  go_wp2_with fail
  refine (rnum' hrd3 HB.out).mono ?_
  rintro e w4 ⟨rfl, hrd4, hu4⟩
  go_wp2_with fail
  refine (rfew' (B := 7) hrd4 (by omega) HC.out HD4.out).mono ?_
  rintro e w5 ⟨rfl, hrd5, hu5⟩
  have hu345 := (hu3.trans hu4 (fun _ _ h => h)).trans hu5 (fun _ _ h => h)
  have hx5 := hu345.keep HX2.out (by omega)
  have hsb5 := hu345.keep HSB2.out (by omega)
  have HX5 := Lib.hid hx5
  have HSB5 := Lib.hid hsb5
  have HRD5 := Lib.hid hrd5
  have HU5 := Lib.hid (HU2.out.trans hu345 (fun i hi e => by omega))
  have hl5 := lt_of_heap hrd5.rdr
  clear hu3 hu4 hu5 hu345 hrd hrd3 hrd4 hrd5
  obtain ⟨q0, q1, q2⟩ := box_cells hsb5
  rcases three_ways k1 k2 k3 with ⟨rfl, rfl, rfl⟩ | ⟨hno, hways⟩
  · have HST2 : Hid (rdState MX body = asSt nx lg (rdN (rdLevel MX) n3 s3)) := HST.out
    generalize hQ : rdN (rdLevel MX) n3 s3 = Q at HST2
    have HQ := Lib.hid hQ
    have z0 := frozen_of_heap hsb5 0 none
    have z1 := frozen_of_heap hsb5 1 none
    clear hQ HST hx5 hsb5 HX2 HSB2
    go_upto_region 10 with fail
    have hus : Upd (fun i => i = xb + 1) w5 ((w5.setCell ⟨xb + 1, 0, none⟩ (.int .u64 (nx : Nat))).setCell ⟨xb + 1, 1, none⟩ (.int .u64 (lg : Nat))) := upd1.trans upd1 (fun _ _ h => h)
    have hsb6 : ((w5.setCell ⟨xb + 1, 0, none⟩ (.int .u64 (nx : Nat))).setCell ⟨xb + 1, 1, none⟩ (.int .u64 (lg : Nat))).heap[xb + 1]? = some (.cells #[.int .u64 (nx : Nat), .int .u64 (lg : Nat), .slice none 0 0] 28 (0, 0)) := by
      have h1 := heap_setCell (o := 0) HSB5.out (.int .u64 (nx : Nat))
      have h2 := heap_setCell (o := 1) h1 (.int .u64 (lg : Nat))
      simpa using h2
    have HX6 := Lib.hid (hus.keep HX5.out (by omega))
    have HSB6 := Lib.hid hsb6
    have HRD6 := Lib.hid (HRD5.out.upd hus (by omega))
    have HU6 := Lib.hid (HU5.out.trans hus (fun i hi e => by omega))
    have hl6 := hus.size
    clear hus hsb6 q0 q1 q2 z0 z1
    generalize (w5.setCell ⟨xb + 1, 0, none⟩ (.int .u64 (nx : Nat))).setCell ⟨xb + 1, 1, none⟩ (.int .u64 (lg : Nat)) = w6 at *
    go_wp2_with fail
    go_loopw [12] (fun i wr => ∃ (k : Nat) (s : ByteArray) (v : Value) (ls : List (List PF)), i = .int .i64 k ∧ k ≤ n3 ∧ RS wr (xb + 1 + 1) s ∧ wr.heap[xb]? = some (.cells #[.int .u64 0, .int .u64 0, .slice none 0 0] 28 (0, 0)) ∧ wr.heap[xb + 1]? = some (.cells #[.int .u64 (nx : Nat), .int .u64 (lg : Nat), v] 28 (0, 0)) ∧ ls.length = k ∧ OutAt wr (xb + 1 + 1 + 1) v ls ∧ Hid (more ls (rdN (rdLevel MX) (n3 - k) s) = Q) ∧ Upd (fun _ => False) w wr) (fun i _ => n3 - (intOf i).toNat)
    case atStart =>
      exact ⟨0, s3, _, [], rfl, by omega, HRD6.out, HX6.out, HSB6.out, rfl, OutAt.nil _ _, (by show _ = _; rw [more_nil]; exact HQ.out), HU6.out⟩
    case round =>
      obtain ⟨k, s, v, ls, rfl, hk, hrd, hx, hbx, hlk, hout, HI, hu⟩ := hrel
      by_cases hlt : k < n3
      · have hlt2 : (k : Int) < (n3 : Int) := by omega
        obtain ⟨v4, kk4, s4, hn1⟩ : ∃ v kk s4, numS s = (v, kk, s4) := ⟨_, _, _, rfl⟩
        obtain ⟨n2, ok2, hn2⟩ : ∃ n2 ok2, fewS 1024 s = (n2, ok2) := ⟨_, _, rfl⟩
        have hn2b : n2 ≤ 1024 := by have := few_le (B := 1024) (s := s); rw [hn2] at this; exact this
        have HLVL := Lib.hid (rdLevel_ref hn1 hn2)
        have HN1 := Lib.hid hn1
        have HN2 := Lib.hid hn2
        have HX := Lib.hid hx
        have HBX := Lib.hid hbx
        have HOUT := Lib.hid hout
        have HUO := Lib.hid hu
        have HLK := Lib.hid hlk
        clear hn1 hn2 hx hbx hout hu hlk
        go_wp2_with fail
        refine (rfew' (B := 1024) hrd (by omega) HN1.out HN2.out).mono ?_
        rintro e wa ⟨rfl, hrda, hua⟩
        have hHr : xb + 1 + 1 < wr.heap.size := lt_of_heap hrd.rdr
        have HRDA := Lib.hid hrda
        have HUA := Lib.hid hua
        clear hrd hrda hua
        cases ok2 with
        | false =>
          have HD : Hid (whole (rdState MX body) = none) := by
            show _ = _
            have e1 : rdLevel MX s = none := HLVL.out
            have e2 : Q = none := by
              rw [← HI.out, show n3 - k = (n3 - k - 1) + 1 from by omega]
              exact rdN_stop e1
            rw [HST2.out, e2]
            rfl
          obtain ⟨va, vc, rfl, hv1, hv2⟩ := HOUT.out.levs.slice
          have hx9 := HUA.out.keep HX.out (by omega)
          have hb9 := HUA.out.keep HBX.out (by omega)
          have HX9 := Lib.hid hx9
          obtain ⟨p0, p1, p2⟩ := box_cells hx9
          have z0 := frozen_of_heap hx9 0 none
          have z1 := frozen_of_heap hx9 1 none
          have z2 := frozen_of_heap hx9 2 none
          obtain ⟨q0, q1, q2⟩ := box_cells hb9
          have HU9 := Lib.hid (HUO.out.trans HUA.out (fun i hi e => by omega))
          clear hx9 hb9
          go_wp2_with fail
          try simp only [Exit.inBlock, Exit.then]
          refine bodyPost_ret (results_row2 rfl _ _ xb 28 _ (0, 0) _ rfl (cells3 HX9.out) Tryz.underlying28 rfl (by kernel_rfl)) rfl ?_
          exact read_no HD.out (HU9.out.trans upd3 (fun i hi e => by omega))
        | true =>
          have HLV2 : Hid (rdLevel MX s = rdN (rdFile MX) n2 s4) := HLVL.out
          generalize hH : wr.heap.size = H at *
          have HUS := Lib.hid hH
          go_wp2_with fail
          go_loopw [16, 13] (fun j lv ws => ∃ (m : Nat) (s5 : ByteArray) (fs : List PF), j = .int .i64 m ∧ m ≤ n2 ∧ RS ws (xb + 1 + 1) s5 ∧ fs.length = m ∧ ws.ownsRow H 72 4 lv m (flatP fs) ∧ Hid (more fs (rdN (rdFile MX) (n2 - m) s5) = rdLevel MX s) ∧ Upd (fun i => i = xb + 1 + 1) wr ws) (fun j _ _ => n2 - (intOf j).toNat)
          case atStart => exact ⟨0, s4, [], rfl, by omega, HRDA.out, rfl, World.ownsRow_nil _ _ _ _, (by show _ = _; rw [more_nil]; exact HLV2.out.symm), HUA.out⟩
          case round =>
            obtain ⟨m, s5, fs, rfl, hm, hrd2, hfl, hown, HJ, hu2⟩ := hrel
            have HU2' := Lib.hid hu2
            have hsz2 := hu2.size
            rw [hH] at hsz2
            by_cases hml : m < n2
            · have hml2 : (m : Int) < (n2 : Int) := by omega
              obtain ⟨id, a1, r1, h1⟩ : ∃ id a r1, numS s5 = (id, a, r1) := ⟨_, _, _, rfl⟩
              obtain ⟨lo, a2, r2, h2⟩ : ∃ lo o2 r2, textS r1 = (lo, o2, r2) := ⟨_, _, _, rfl⟩
              obtain ⟨hi, a3, r3, h3⟩ : ∃ hi o3 r3, textS r2 = (hi, o3, r3) := ⟨_, _, _, rfl⟩
              obtain ⟨v5, kk5, r4, h4⟩ : ∃ v kk r4, numS r3 = (v, kk, r4) := ⟨_, _, _, rfl⟩
              obtain ⟨ce, a4, h5⟩ : ∃ ce o4, fewS 1073741824 r3 = (ce, o4) := ⟨_, _, rfl⟩
              have HF := Lib.hid (rdFile_ref h1 h2 h3 h4 h5)
              have H1 := Lib.hid h1
              have H2 := Lib.hid h2
              have H3 := Lib.hid h3
              have H4 := Lib.hid h4
              have H5 := Lib.hid h5
              have HOWN := Lib.hid hown
              clear h1 h2 h3 h4 h5 hu2 hown
              go_wp2_with fail
              refine (rnum' hrd2 H1.out).mono ?_
              rintro e wb ⟨rfl, hrdb, hub⟩
              go_wp2_with fail
              refine (rtext' hrdb H2.out).mono ?_
              rintro e wc ⟨rfl, hrdc, huc⟩
              go_wp2_with fail
              refine (rtext' hrdc H3.out).mono ?_
              rintro e wd ⟨rfl, hrdd, hud⟩
              go_wp2_with fail
              refine (rfew' (B := 1073741824) hrdd (by omega) H4.out H5.out).mono ?_
              rintro e we ⟨rfl, hrde, hue⟩
              have hub4 := ((hub.trans huc (fun _ _ h => h)).trans hud (fun _ _ h => h)).trans hue (fun _ _ h => h)
              have HUE := Lib.hid (HU2'.out.trans hub4 (fun _ _ h => h))
              have HOWNE := Lib.hid (owns_upd HOWN.out hub4 (fun g hg s => by have := (HOWN.out.lt g hg).1; omega))
              have HRDE := Lib.hid hrde
              clear hub huc hud hue hub4 hrd2 hrdb hrdc hrdd hrde
              rcases four_ways a1 a2 a3 a4 with ⟨rfl, rfl, rfl, rfl⟩ | ⟨hno, hways⟩
              · have HFS : Hid (rdFile MX s5 = some (⟨id, lo, hi, (ce : Int)⟩, r4)) := HF.out
                have huj : Upd (fun _ => False) we (we.alloc (.cells #[.int .u64 (id : Nat), .string lo, .string hi, .int .i64 (ce : Nat)] 72)) := (Upd.refl _ we).alloc _
                have HOWNJ := Lib.hid (owns_upd HOWNE.out huj (fun g hg s => s.elim))
                have HUJ := Lib.hid (HUE.out.trans huj (fun _ _ f => f.elim))
                have HRDJ := Lib.hid (HRDE.out.upd huj (fun f => f))
                have hszj := HUJ.out.size
                rw [HUS.out] at hszj
                clear huj
                obtain ⟨i0, hi0, hz0, hz1, hz2⟩ := info_parts info93
                go_wp2_with (at_builtin; refine wpList_append_row rfl _ _ 70 rfl H 72 i0 (.agg #[.int .u64 0, .string ⟨#[]⟩, .string ⟨#[]⟩, .int .i64 0]) 4 48 Tryz.underlying70 hi0 hz0 hz1 hz2 rfl (by decide) _ _ _ rfl HOWNJ.out _ 1 [.int .u64 (id : Nat), .string lo, .string hi, .int .i64 (ce : Nat)] rfl (slc4 _ _ _ _) ?c2 ?c3 ?c4 ?c5 ?_)
                case c2 => first | exact ⟨rfl, rfl, rfl, rfl⟩ | (intro z hz; simp only [List.mem_cons, List.not_mem_nil, or_false] at hz; rcases hz with rfl | rfl | rfl | rfl <;> rfl)
                case c3 => unfold maxLen; omega
                case c4 => omega
                case c5 => omega
                intro v2 w9 hown9 hg9
                have huk : Upd (fun i => H ≤ i) (we.alloc (.cells #[.int .u64 (id : Nat), .string lo, .string hi, .int .i64 (ce : Nat)] 72)) w9 := (Upd.refl _ _).of_grown hg9 (fun j hj _ => (HOWNJ.out.lt j hj).1)
                have HRDK := Lib.hid (HRDJ.out.upd huk (by omega))
                have HUK := Lib.hid (HUJ.out.trans huk (fun i hi e => by have := HUS.out; omega))
                have HOWN9 : Hid (w9.ownsRow H 72 4 v2 (m + 1) (flatP (fs ++ [⟨id, lo, hi, (ce : Int)⟩]))) := by
                  show World.ownsRow _ _ _ _ _ _ _
                  rw [flatP_append]
                  exact hown9
                have HJ2 : Hid (more (fs ++ [⟨id, lo, hi, (ce : Int)⟩]) (rdN (rdFile MX) (n2 - (m + 1)) r4) = rdLevel MX s) := by
                  show _ = _
                  rw [← HJ.out, show n2 - m = n2 - (m + 1) + 1 from by omega, rdN_more HFS.out]
                clear hown9 hg9 huk
                go_wp2_with fail
                exact ⟨⟨m + 1, r4, fs ++ [⟨id, lo, hi, (ce : Int)⟩], by go_num, by omega, HRDK.out, by simp [hfl], HOWN9.out, HJ2, HUK.out⟩, by simp [intOf]; omega⟩
              · have HD : Hid (whole (rdState MX body) = none) := by
                  show _ = _
                  have e1 : rdFile MX s5 = none := by rw [HF.out, if_neg (by rw [hno]; exact Bool.false_ne_true)]
                  have e2 : rdLevel MX s = none := by
                    rw [← HJ.out, show n2 - m = (n2 - m - 1) + 1 from by omega]
                    exact rdN_stop e1
                  have e3 : Q = none := by
                    rw [← HI.out, show n3 - k = (n3 - k - 1) + 1 from by omega]
                    exact rdN_stop e2
                  rw [HST2.out, e3]
                  rfl
                obtain ⟨va, vc, rfl, hv1, hv2⟩ := HOUT.out.levs.slice
                have hx9 := HUE.out.keep HX.out (by omega)
                have hb9 := HUE.out.keep HBX.out (by omega)
                have HX9 := Lib.hid hx9
                obtain ⟨p0, p1, p2⟩ := box_cells hx9
                have z0 := frozen_of_heap hx9 0 none
                have z1 := frozen_of_heap hx9 1 none
                have z2 := frozen_of_heap hx9 2 none
                obtain ⟨q0, q1, q2⟩ := box_cells hb9
                have HU9 := Lib.hid (HUO.out.trans HUE.out (fun i hi e => by omega))
                clear hx9 hb9 hno HF
                rcases hways with rfl | ⟨rfl, rfl⟩ | ⟨rfl, rfl, rfl⟩ | ⟨rfl, rfl, rfl, rfl⟩ <;> (
                  go_wp2_with fail
                  try simp only [Exit.inBlock, Exit.then]
                  refine bodyPost_ret (results_row2 rfl _ _ xb 28 _ (0, 0) _ rfl (cells3 HX9.out) Tryz.underlying28 rfl (by kernel_rfl)) rfl ?_
                  exact read_no HD.out (HU9.out.trans upd3 (fun i hi e => by omega)))
            · have hge : ¬ (m : Int) < (n2 : Int) := by omega
              subst hfl
              have hm0 : n2 - fs.length = 0 := by omega
              rw [hm0] at HJ
              have HI2 : Hid (more (ls ++ [fs]) (rdN (rdLevel MX) (n3 - (k + 1)) s5) = Q) := by
                show _ = _
                have e1 := HJ.out
                rw [rdN_done] at e1
                rw [← HI.out, show n3 - k = n3 - (k + 1) + 1 from by omega, rdN_more e1.symm]
              have hbs := HU2'.out.keep HBX.out (by omega)
              have hoo := HOUT.out.upd HU2'.out (fun k e => by omega)
              obtain ⟨la, lc, rfl⟩ := (RowAt.of_own hown).slice
              obtain ⟨va, vc, rfl, hv1, hv2⟩ := hoo.levs.slice
              obtain ⟨q0, q1, q2⟩ := box_cells hbs
              have hua3 : Upd (fun _ => False) wr (wr.alloc (.cells #[.slice la fs.length lc] 70)) := (Upd.refl _ wr).alloc _
              have hoo3 := hoo.upd hua3 (fun _ f => f.elim)
              have HBS3 := Lib.hid (hua3.keep hbs (fun f => f))
              have HRD3 := Lib.hid (hrd2.upd hua3 (fun f => f))
              have HOU3 := Lib.hid (owns_upd (owns_base hown (show xb + 1 + 1 + 1 ≤ H by omega)) hua3 (fun g hg s => s.elim))
              have hu23 := HU2'.out.trans hua3 (fun _ _ f => f.elim)
              have HU3' := Lib.hid hu23
              have HUX := Lib.hid hu23
              obtain ⟨vs, ho1, ho2⟩ := hoo3
              have HV1 := Lib.hid ho1
              have HV2 := Lib.hid ho2
              have HLKK := HLK.out
              have hlsn : ls.length ≤ 7 := by omega
              have hws : H ≤ wr.heap.size := hsz2
              clear hbs hoo ho1 ho2 hua3 hu2 hown hu23 hrd2 HLKK
              obtain ⟨j0, hj0, hy0, hy1, hy2⟩ := info_parts info94
              go_wp2_with (at_builtin; refine wpList_append_row rfl _ _ 26 rfl (xb + 1 + 1 + 1) 70 j0 (.slice none 0 0) 1 24 Tryz.underlying26 hj0 hy0 hy1 hy2 rfl (by decide) _ _ vs rfl HV1.out _ 1 [.slice la fs.length lc] rfl (slc_alloc _) ?c2 ?c3 ?c4 ?c5 ?_)
              case c2 => first | rfl | (intro z hz; simp at hz; subst hz; rfl)
              case c3 => unfold maxLen; omega
              case c4 => omega
              case c5 => first | omega | (simp; omega)
              intro v3 w3 hown3 hg3
              have huk : Upd (fun i => xb + 1 + 1 + 1 ≤ i) (wr.alloc (.cells #[.slice la fs.length lc] 70)) w3 := (Upd.refl _ _).of_grown hg3 (fun j hj _ => (HV1.out.lt j hj).1)
              obtain ⟨a2, c2, rfl⟩ := (RowAt.of_own hown3).slice
              have hout := OutAt.snoc HV1.out HV2.out HOU3.out hown3 hg3
              have hb4 := huk.keep HBS3.out (by omega)
              have hrd4' := HRD3.out.upd huk (by omega)
              have hu3a := HUO.out.trans HU3'.out (fun i hi e => by omega)
              have hu4' := hu3a.trans huk (fun i hi e => by omega)
              have r2 := cell_of_heap hb4 2
              have z2 := frozen_of_heap hb4 2 none
              simp only [List.getElem?_toArray, List.getElem?_cons_zero, List.getElem?_cons_succ] at r2
              have hx4 := HUX.out.keep HX.out (by omega)
              have hx5 := huk.keep hx4 (by omega)
              have hus : Upd (fun i => i = xb + 1) w3 (w3.setCell ⟨xb + 1, 2, none⟩ (.slice a2 (ls.length + 1) c2)) := upd1
              have hb5 : (w3.setCell ⟨xb + 1, 2, none⟩ (.slice a2 (ls.length + 1) c2)).heap[xb + 1]? = some (.cells #[.int .u64 (nx : Nat), .int .u64 (lg : Nat), .slice a2 (ls.length + 1) c2] 28 (0, 0)) := by
                have := heap_setCell (o := 2) hb4 (.slice a2 (ls.length + 1) c2)
                simpa using this
              have HB5 := Lib.hid hb5
              have HX7 := Lib.hid (hus.keep hx5 (by omega))
              have HRD7 := Lib.hid (hrd4'.upd hus (by omega))
              have HOUT7 := Lib.hid (hout.upd hus (fun k e => by omega))
              have HU7 := Lib.hid (hu4'.trans hus (fun i hi e => by omega))
              clear hb4 hb5 hx4 hx5 hus hu4' hu3a huk hrd4' hout hown3 hg3 q0 q1 q2
              go_wp2_with fail
              exact ⟨⟨k + 1, s5, .slice a2 (ls.length + 1) c2, ls ++ [fs], by go_num, by omega, HRD7.out, HX7.out, HB5.out, by simp [HLK.out], HOUT7.out, HI2, HU7.out⟩, by simp [intOf]; omega⟩
      · have hge : ¬ (k : Int) < (n3 : Int) := by omega
        have hend : n3 - k = 0 := by omega
        rw [hend] at HI
        have HR : Hid (rdState MX body = some (⟨nx, lg, ls⟩, s)) := by
          have h1 := HI.out
          rw [rdN_done] at h1
          show _ = _
          rw [HST2.out, ← h1]
          rfl
        have HX9 := Lib.hid hx
        have HU9 := Lib.hid hu
        have HOUT := Lib.hid hout
        have HRD := Lib.hid hrd
        obtain ⟨va, vc, rfl, hv1, hv2⟩ := hout.levs.slice
        have HB9 := Lib.hid hbx
        obtain ⟨p0, p1, p2⟩ := box_cells hx
        have z0 := frozen_of_heap hx 0 none
        have z1 := frozen_of_heap hx 1 none
        have z2 := frozen_of_heap hx 2 none
        obtain ⟨q0, q1, q2⟩ := box_cells hbx
        have hlw : xb + 1 + 1 < wr.heap.size := lt_of_heap hrd.rdr
        clear hx hbx hu hout hend hlk
        by_cases hs0 : s.size = 0
        · have hsi : ((s.size : Int) == 0) = true := by simp [hs0]
          have HD : Hid (whole (rdState MX body) = some ⟨nx, lg, ls⟩) := by
            show _ = _
            rw [HR.out]
            exact if_pos hs0
          clear hs0
          go_upto_region 28 with fail
          go_region_held3 (fun w' => w'.cell? ⟨xb + 1, 0, none⟩ = some (.int .u64 (nx : Nat)) ∧ w'.cell? ⟨xb + 1, 1, none⟩ = some (.int .u64 (lg : Nat)) ∧ w'.cell? ⟨xb + 1, 2, none⟩ = some (.slice va ls.length vc)) (first | exact ⟨q0, q1, q2⟩ | exact ⟨cell_upd (w := wr) (upd3.drew) q0 (fun e => by omega), cell_upd (w := wr) (upd3.drew) q1 (fun e => by omega), cell_upd (w := wr) (upd3.drew) q2 (fun e => by omega)⟩ | exact ⟨cell_upd (w := wr) (upd3) q0 (fun e => by omega), cell_upd (w := wr) (upd3) q1 (fun e => by omega), cell_upd (w := wr) (upd3) q2 (fun e => by omega)⟩) (first | (go_at_call 79; refine (rleft_any (w := wr.drew) HRD.out.rdr).mono ?_; rintro e w5 ⟨rfl, rfl⟩))
          all_goals go_wp2_with fail
          all_goals try simp only [Exit.inBlock, Exit.then]
          all_goals refine bodyPost_ret (results_row2 rfl _ _ xb 28 _ (0, 0) _ rfl (cells3 HX9.out) Tryz.underlying28 rfl (by kernel_rfl)) rfl ?_
          all_goals exact read_yes HD.out ((HOUT.out.upd (S := fun i => i = xb) upd3.drew (fun k e => by omega)).base (by omega)) (HU9.out.trans upd3 (fun i hi e => by omega)).drew
        · have hsi : ((s.size : Int) == 0) = false := by rw [beq_eq_false_iff_ne]; omega
          have HD : Hid (whole (rdState MX body) = none) := by
            show _ = _
            rw [HR.out]
            exact if_neg hs0
          clear hs0
          go_upto_region 28 with fail
          go_region_held3 (fun w' => w'.cell? ⟨xb + 1, 0, none⟩ = some (.int .u64 (nx : Nat)) ∧ w'.cell? ⟨xb + 1, 1, none⟩ = some (.int .u64 (lg : Nat)) ∧ w'.cell? ⟨xb + 1, 2, none⟩ = some (.slice va ls.length vc)) (first | exact ⟨q0, q1, q2⟩ | exact ⟨cell_upd (w := wr) (upd3.drew) q0 (fun e => by omega), cell_upd (w := wr) (upd3.drew) q1 (fun e => by omega), cell_upd (w := wr) (upd3.drew) q2 (fun e => by omega)⟩ | exact ⟨cell_upd (w := wr) (upd3) q0 (fun e => by omega), cell_upd (w := wr) (upd3) q1 (fun e => by omega), cell_upd (w := wr) (upd3) q2 (fun e => by omega)⟩) (first | (go_at_call 79; refine (rleft_any (w := wr.drew) HRD.out.rdr).mono ?_; rintro e w5 ⟨rfl, rfl⟩))
          all_goals go_wp2_with fail
          all_goals try simp only [Exit.inBlock, Exit.then]
          all_goals refine bodyPost_ret (results_row2 rfl _ _ xb 28 _ (0, 0) _ rfl (cells3 HX9.out) Tryz.underlying28 rfl (by kernel_rfl)) rfl ?_
          all_goals exact read_no HD.out (HU9.out.trans upd3 (fun i hi e => by omega)).drew
  · have HD : Hid (whole (rdState MX body) = none) := by
      show _ = _
      rw [HST.out, if_neg (by rw [hno]; exact Bool.false_ne_true)]
      rfl
    have z0 := frozen_of_heap hx5 0 none
    have z1 := frozen_of_heap hx5 1 none
    have z2 := frozen_of_heap hx5 2 none
    obtain ⟨p0, p1, p2⟩ := box_cells hx5
    clear hno hx5 hsb5 HX2 HSB2 HST
    rcases hways with rfl | ⟨rfl, rfl⟩ | ⟨rfl, rfl, rfl⟩ <;> (
      go_wp2_with fail
      try simp only [Exit.inBlock, Exit.then]
      refine bodyPost_ret (results_row2 rfl _ _ xb 28 _ (0, 0) _ rfl (cells3 HX5.out) Tryz.underlying28 rfl (by kernel_rfl)) rfl ?_
      exact read_no (nx := 0) (lg := 0) HD.out (HU5.out.trans upd3 (fun i hi e => by omega)))
end Go.Proofs.YtgkegfgdpekehaaGreat
/- The walk of the reference's Decode. -/
namespace Go.Proofs.YtgkegfgdpekehaaGreat
open Go.RowKit Go.Acre Go.Acre.Dk
def pick2 (b : ByteArray) : Option MSt → Option MSt
  | some x => if mayS x = true ∧ frameB (stateB x) = b then some x else none
  | none => none
theorem decodeR_whole {b body : ByteArray} {n : Nat} (ho : openM b = some (body, n)) : decodeR b = pick2 b (whole (rdState MX body)) := by
  unfold decodeR
  generalize MX = B at *
  rw [ho]
  show pick b (rdState B body) = _
  cases rdState B body with
  | none => rfl
  | some p =>
    obtain ⟨x, r⟩ := p
    unfold pick whole
    by_cases h : r.size = 0
    · simp only [h, true_and, if_true]
      rfl
    · simp only [h, false_and, if_false]
      rfl
theorem whole_fits {body : ByteArray} {x : MSt} (h : whole (rdState MX body) = some x) : fitsS MX x := by
  generalize MX = B at *
  cases hr : rdState B body with
  | none => rw [hr] at h; cases h
  | some p =>
    obtain ⟨y, r⟩ := p
    rw [hr] at h
    unfold whole at h
    simp only at h
    split at h
    · simp only [Option.some.injEq] at h
      subst h
      exact (rdState_some hr).2
    · cases h
theorem decodeR_none {b : ByteArray} (h : openM b = none) : decodeR b = none := by
  unfold decodeR
  rw [h]
set_option maxHeartbeats 8000000 in
set_option maxRecDepth 100000 in
theorem rdecode_out {w : World} (b : ByteArray) (hb : b.size ≤ 9223372036854775807) : Calls Tryz.prog 27 #[.string b] w (DecOut (decodeR b) w) := by
  have hu1 : Upd (fun _ => False) w (w.alloc (.cells #[.int .u64 0, .int .u64 0, .slice none 0 0] 28)) := (Upd.refl _ w).alloc _
  have hx1 := heap_alloc (w := w) (.cells #[.int .u64 0, .int .u64 0, .slice none 0 0] 28)
  have HU := Lib.hid hu1
  have HX1 := Lib.hid hx1
  clear hu1 hx1
  cases ho : openM b with
  | none =>
    have HD := Lib.hid (decodeR_none ho)
    have HO : Hid (∀ w, Calls Tryz.prog 54 #[.string b] w (OpenPost none w)) := fun w => by rw [← ho]; exact ropen_any b w hb
    clear ho
    go_enter Tryz.func27, Tryz.ntmps27
    go_upto_region 1 with fail
    generalize w.alloc (.cells #[.int .u64 0, .int .u64 0, .slice none 0 0] 28) = wb at *
    generalize hxb : w.heap.size = xb at *
    go_upto_region 2 with (go_at_call 54; refine (HO.out _).mono ?_; rintro e w1 ⟨rfl, hu⟩)
    have hx2 := hu.keep HX1.out (fun f => f)
    have HX2 := Lib.hid hx2
    obtain ⟨p0, p1, p2⟩ := box_cells hx2
    have z0 := frozen_of_heap hx2 0 none
    have z1 := frozen_of_heap hx2 1 none
    have z2 := frozen_of_heap hx2 2 none
    have HU2 := Lib.hid (HU.out.trans hu (fun _ _ f => f))
    clear hx2 hu
    go_wp2_with fail
    try simp only [Exit.inBlock, Exit.then]
    refine bodyPost_ret (results_row2 rfl _ _ xb 28 _ (0, 0) _ rfl (cells3 HX2.out) Tryz.underlying28 rfl (by kernel_rfl)) rfl ?_
    exact dec_none HD.out (HU2.out.trans upd3 (fun i hi e => by omega))
  | some p =>
    obtain ⟨body, n⟩ := p
    have HO : Hid (∀ w, Calls Tryz.prog 54 #[.string b] w (OpenPost (some (body, n)) w)) := fun w => by rw [← ho]; exact ropen_any b w hb
    have hbd := openM_bound ho
    have hbody : body.size ≤ 9223372036854775807 := by omega
    have HD0 := Lib.hid (decodeR_whole ho)
    clear ho hbd
    cases hq : whole (rdState MX body) with
    | none =>
      have HD : Hid (decodeR b = none) := by show _ = _; rw [HD0.out, hq]; rfl
      have HR : Hid (∀ w, Calls Tryz.prog 55 #[.string body] w (RdPost none w)) := fun w => by rw [← hq]; exact refread_any body hbody
      clear hq HD0 hbody
      go_enter Tryz.func27, Tryz.ntmps27
      go_upto_region 1 with fail
      generalize w.alloc (.cells #[.int .u64 0, .int .u64 0, .slice none 0 0] 28) = wb at *
      generalize hxb : w.heap.size = xb at *
      go_upto_region 2 with (go_at_call 54; refine (HO.out _).mono ?_; rintro e w1 ⟨rfl, hu⟩)
      have HX2 := Lib.hid (hu.keep HX1.out (fun f => f))
      have HU2 := Lib.hid (HU.out.trans hu (fun _ _ f => f))
      clear hu
      go_upto_region 4 with fail
      go_upto_region 5 with (go_at_call 55; refine (HR.out _).mono ?_; rintro e w2 ⟨x1, y1, a1, n1, c1, rfl, hu⟩)
      have hua : Upd (fun _ => False) w2 (w2.alloc (.cells #[.int .u64 (x1 : Nat), .int .u64 (y1 : Nat), .slice a1 n1 c1] 28)) := (Upd.refl _ w2).alloc _
      have hx3 := hua.keep (hu.keep HX2.out (fun f => f)) (fun f => f)
      have HX3 := Lib.hid hx3
      have HU3 := Lib.hid ((HU2.out.trans hu (fun _ _ f => f)).trans hua (fun _ _ f => f))
      clear hu hua
      generalize w2.alloc (.cells #[.int .u64 (x1 : Nat), .int .u64 (y1 : Nat), .slice a1 n1 c1] 28) = w3 at *
      obtain ⟨p0, p1, p2⟩ := box_cells hx3
      have z0 := frozen_of_heap hx3 0 none
      have z1 := frozen_of_heap hx3 1 none
      have z2 := frozen_of_heap hx3 2 none
      clear hx3
      go_wp2_with fail
      try simp only [Exit.inBlock, Exit.then]
      refine bodyPost_ret (results_row2 rfl _ _ xb 28 _ (0, 0) _ rfl (cells3 HX3.out) Tryz.underlying28 rfl (by kernel_rfl)) rfl ?_
      exact dec_none HD.out (HU3.out.trans upd3 (fun i hi e => by omega))
    | some x =>
      have HR : Hid (∀ w, Calls Tryz.prog 55 #[.string body] w (RdPost (some x) w)) := fun w => by rw [← hq]; exact refread_any body hbody
      have HL : Hid (∀ l ∈ x.levels, l.length ≤ 1000000) := fun l hl => by have := ((whole_fits hq).2.2.2.2.2 l hl).1; omega
      have HD1 : Hid (decodeR b = pick2 b (some x)) := by show _ = _; rw [HD0.out, hq]
      clear hq HD0 hbody
      obtain ⟨nx, lg, ls⟩ := x
      go_enter Tryz.func27, Tryz.ntmps27
      go_upto_region 1 with fail
      generalize w.alloc (.cells #[.int .u64 0, .int .u64 0, .slice none 0 0] 28) = wb at *
      generalize hxb : w.heap.size = xb at *
      go_upto_region 2 with (go_at_call 54; refine (HO.out _).mono ?_; rintro e w1 ⟨rfl, hu⟩)
      have hx2 := hu.keep HX1.out (fun f => f)
      have HX2 := Lib.hid hx2
      have hl2 := lt_of_heap hx2
      have HU2 := Lib.hid (HU.out.trans hu (fun _ _ f => f))
      clear hu hx2
      go_upto_region 4 with fail
      go_upto_region 5 with (go_at_call 55; refine (HR.out _).mono ?_; rintro e w2 ⟨a1, c1, rfl, ho, hu⟩)
      have hua : Upd (fun _ => False) w2 (w2.alloc (.cells #[.int .u64 (nx : Nat), .int .u64 (lg : Nat), .slice a1 ls.length c1] 28)) := (Upd.refl _ w2).alloc _
      have hta := heap_alloc (w := w2) (.cells #[.int .u64 (nx : Nat), .int .u64 (lg : Nat), .slice a1 ls.length c1] 28)
      have HX3 := Lib.hid (hua.keep (hu.keep HX2.out (fun f => f)) (fun f => f))
      have HO3 := Lib.hid (ho.upd hua (fun _ f => f.elim))
      have HU3 := Lib.hid ((HU2.out.trans hu (fun _ _ f => f)).trans hua (fun _ _ f => f))
      have hl3 : w1.heap.size ≤ w2.heap.size := hu.size
      have HTA := Lib.hid hta
      clear hu hua hta ho
      generalize w2.alloc (.cells #[.int .u64 (nx : Nat), .int .u64 (lg : Nat), .slice a1 ls.length c1] 28) = w3 at *
      generalize w2.heap.size = tb at *
      obtain ⟨t0, t1, t2⟩ := box_cells HTA.out
      by_cases hm : mayS ⟨nx, lg, ls⟩ = true
      · have HE := Lib.hid (enc_yes hm)
        by_cases hf : frameB (stateB ⟨nx, lg, ls⟩) = b
        · have HD : Hid (decodeR b = some ⟨nx, lg, ls⟩) := by show _ = _; rw [HD1.out]; exact if_pos ⟨hm, hf⟩
          have HEN : Hid (Calls Tryz.prog 34 #[.agg #[.int .u64 (nx : Nat), .int .u64 (lg : Nat), .slice a1 ls.length c1]] w3 (fun e w' => e = .returned (.tuple #[.string b, .int .i64 0]) ∧ Upd (fun _ => False) w3 w')) := by
            have h2 := rencode_any (s := ⟨nx, lg, ls⟩) rfl HO3.out.levs HL.out
            unfold EncPost at h2
            rw [HE.out.1, HE.out.2, hf] at h2
            exact h2
          clear hm hf HE
          go_upto_region 8 with (go_at_call 34; refine HEN.out.mono ?_; rintro e w4 ⟨rfl, hu⟩)
          have hx4 := hu.keep HX3.out (fun f => f)
          have ht4 := hu.keep HTA.out (fun f => f)
          have HX4 := Lib.hid hx4
          have HO4 := Lib.hid (HO3.out.upd hu (fun _ f => f.elim))
          have HU4 := Lib.hid (HU3.out.trans hu (fun _ _ f => f))
          have hl4 := hu.size
          obtain ⟨p0, p1, p2⟩ := box_cells hx4
          have z0 := frozen_of_heap hx4 0 none
          have z1 := frozen_of_heap hx4 1 none
          have z2 := frozen_of_heap hx4 2 none
          clear t0 t1 t2
          obtain ⟨t0, t1, t2⟩ := box_cells ht4
          clear hu hx4 ht4
          go_wp2_with fail
          try simp only [Exit.inBlock, Exit.then]
          refine bodyPost_ret (results_row2 rfl _ _ xb 28 _ (0, 0) _ rfl (cells3 HX4.out) Tryz.underlying28 rfl (by kernel_rfl)) rfl ?_
          rw [HD.out]
          exact ⟨a1, c1, rfl, (HO4.out.upd (S := fun i => i = xb) upd3 (fun k e => by omega)).base (by omega), HU4.out.trans upd3 (fun i hi e => by omega)⟩
        · have HD : Hid (decodeR b = none) := by show _ = _; rw [HD1.out]; exact if_neg (fun h => hf h.2)
          have HEN : Hid (Calls Tryz.prog 34 #[.agg #[.int .u64 (nx : Nat), .int .u64 (lg : Nat), .slice a1 ls.length c1]] w3 (fun e w' => e = .returned (.tuple #[.string (frameB (stateB ⟨nx, lg, ls⟩)), .int .i64 0]) ∧ Upd (fun _ => False) w3 w')) := by
            have h2 := rencode_any (s := ⟨nx, lg, ls⟩) rfl HO3.out.levs HL.out
            unfold EncPost at h2
            rw [HE.out.1, HE.out.2] at h2
            exact h2
          generalize frameB (stateB ⟨nx, lg, ls⟩) = fb at *
          have hf2 : (fb.toList == b.toList) = false := by rw [str_eql]; simpa using hf
          clear hm HE
          go_upto_region 8 with (go_at_call 34; refine HEN.out.mono ?_; rintro e w4 ⟨rfl, hu⟩)
          have hx4 := hu.keep HX3.out (fun f => f)
          have ht4 := hu.keep HTA.out (fun f => f)
          have HX4 := Lib.hid hx4
          have HO4 := Lib.hid (HO3.out.upd hu (fun _ f => f.elim))
          have HU4 := Lib.hid (HU3.out.trans hu (fun _ _ f => f))
          have hl4 := hu.size
          obtain ⟨p0, p1, p2⟩ := box_cells hx4
          have z0 := frozen_of_heap hx4 0 none
          have z1 := frozen_of_heap hx4 1 none
          have z2 := frozen_of_heap hx4 2 none
          clear t0 t1 t2
          obtain ⟨t0, t1, t2⟩ := box_cells ht4
          clear hu hx4 ht4
          go_wp2_with fail
          try simp only [Exit.inBlock, Exit.then]
          refine bodyPost_ret (results_row2 rfl _ _ xb 28 _ (0, 0) _ rfl (cells3 HX4.out) Tryz.underlying28 rfl (by kernel_rfl)) rfl ?_
          exact dec_none HD.out (HU4.out.trans upd3 (fun i hi e => by omega))
      · have HD : Hid (decodeR b = none) := by show _ = _; rw [HD1.out]; exact if_neg (fun h => hm h.1)
        have HE := Lib.hid (enc_no hm)
        have HEN : Hid (Calls Tryz.prog 34 #[.agg #[.int .u64 (nx : Nat), .int .u64 (lg : Nat), .slice a1 ls.length c1]] w3 (fun e w' => e = .returned (.tuple #[.string ⟨#[]⟩, .int .i64 2]) ∧ Upd (fun _ => False) w3 w')) := by
          have h2 := rencode_any (s := ⟨nx, lg, ls⟩) rfl HO3.out.levs HL.out
          unfold EncPost at h2
          rw [HE.out.1, HE.out.2] at h2
          exact h2
        clear hm HE
        go_upto_region 8 with (go_at_call 34; refine HEN.out.mono ?_; rintro e w4 ⟨rfl, hu⟩)
        have hx4 := hu.keep HX3.out (fun f => f)
        have ht4 := hu.keep HTA.out (fun f => f)
        have HX4 := Lib.hid hx4
        have HO4 := Lib.hid (HO3.out.upd hu (fun _ f => f.elim))
        have HU4 := Lib.hid (HU3.out.trans hu (fun _ _ f => f))
        have hl4 := hu.size
        obtain ⟨p0, p1, p2⟩ := box_cells hx4
        have z0 := frozen_of_heap hx4 0 none
        have z1 := frozen_of_heap hx4 1 none
        have z2 := frozen_of_heap hx4 2 none
        clear t0 t1 t2
        obtain ⟨t0, t1, t2⟩ := box_cells ht4
        clear hu hx4 ht4
        go_wp2_with fail
        try simp only [Exit.inBlock, Exit.then]
        refine bodyPost_ret (results_row2 rfl _ _ xb 28 _ (0, 0) _ rfl (cells3 HX4.out) Tryz.underlying28 rfl (by kernel_rfl)) rfl ?_
        exact dec_none HD.out (HU4.out.trans upd3 (fun i hi e => by omega))
theorem rdecode_any {w : World} (b : ByteArray) (hb : b.size ≤ 9223372036854775807) : Calls Tryz.prog 27 #[.string b] w (DecOut (decodeS b) w) := by
  rw [← decode_eq]
  exact rdecode_out b hb
end Go.Proofs.YtgkegfgdpekehaaGreat
