/- The walk of Decode. -/
import Derived.Test.YtgkegfgdpekehaaGreatMr
namespace Go.Proofs.YtgkegfgdpekehaaGreat
open Go.RowKit Go.Acre Go.Acre.Dk
def Imp (b : Bool) (p : Prop) : Prop := b = true → p
def ImpF (b : Bool) (p : Prop) : Prop := b = false → p
def DecPost (r : Option MSt) (w : World) (e : Ending) (w' : World) : Prop :=
  match r with
  | some x => ∃ a cap, e = .returned (.tuple #[.agg #[.int .u64 (x.next : Nat), .int .u64 (x.log : Nat), .slice a x.levels.length cap], .int .i64 0]) ∧ LevsAt w' (.slice a x.levels.length cap) x.levels ∧ Upd (fun _ => False) w w'
  | none => e = .returned (.tuple #[.agg #[.int .u64 0, .int .u64 0, .slice none 0 0], .int .i64 4]) ∧ Upd (fun _ => False) w w'
def DecOut (r : Option MSt) (w : World) (e : Ending) (w' : World) : Prop :=
  match r with
  | some x => ∃ a cap, e = .returned (.tuple #[.agg #[.int .u64 (x.next : Nat), .int .u64 (x.log : Nat), .slice a x.levels.length cap], .int .i64 0]) ∧ OutAt w' w.heap.size (.slice a x.levels.length cap) x.levels ∧ Upd (fun _ => False) w w'
  | none => e = .returned (.tuple #[.agg #[.int .u64 0, .int .u64 0, .slice none 0 0], .int .i64 4]) ∧ Upd (fun _ => False) w w'
theorem dec_none {r : Option MSt} (h : r = none) {w w' : World} (hu : Upd (fun _ => False) w w') : DecOut r w (.returned (.tuple #[.agg #[.int .u64 0, .int .u64 0, .slice none 0 0], .int .i64 4])) w' := by
  subst h
  exact ⟨rfl, hu⟩
theorem num_clos' {w : World} {rb c7 c8 B : Nat} {ok ok' : Bool} {s r : ByteArray} {v : Nat} (h : RD w rb c7 c8 ok s) (hB : B < 18446744073709551616) (he : numC B ok s = (v, ok', r)) :
    Calls Tryz.prog 48 #[.int .u64 (B : Nat), .pointer (some ⟨c7, 0, none⟩), .pointer (some ⟨c8, 0, none⟩)] w fun e w' => e = .returned (.int .u64 (v : Nat)) ∧ RD w' rb c7 c8 ok' r ∧ Upd (fun i => i = rb ∨ i = c8) w w' := by
  have h2 := num_clos h hB
  unfold NumCPost at h2
  rw [he] at h2
  exact h2
theorem text_clos' {w : World} {rb c7 c8 : Nat} {ok ok' : Bool} {s r : ByteArray} {v : ByteArray} (h : RD w rb c7 c8 ok s) (he : textC ok s = (v, ok', r)) :
    Calls Tryz.prog 50 #[.pointer (some ⟨c7, 0, none⟩), .pointer (some ⟨c8, 0, none⟩)] w fun e w' => e = .returned (.string v) ∧ RD w' rb c7 c8 ok' r ∧ Upd (fun i => i = rb ∨ i = c8) w w' := by
  have h2 := text_clos h
  unfold TextCPost at h2
  rw [he] at h2
  exact h2
theorem w3_facts (w : World) (s : ByteArray) : ∃ W0, (((w.alloc (.cells #[.string s] 113)).alloc (.cells #[.pointer (some ⟨w.heap.size, 0, none⟩)] 89)).alloc (.cells #[.bool true] 4)) = W0 ∧ W0.heap.size = w.heap.size + 3 ∧ Upd (fun _ => False) w W0 ∧
    (s.size ≤ 9223372036854775807 → RD W0 w.heap.size (w.heap.size + 1) (w.heap.size + 1 + 1) true s) := by
  refine ⟨_, rfl, by simp, (((Upd.refl _ w).alloc _).alloc _).alloc _, fun hs => ⟨?_, ?_, ?_, hs, by omega, by omega, by omega⟩⟩
  · unfold Rdr
    simp only [get_alloc, World.size_alloc]
    rw [if_neg (by omega), if_neg (by omega)]
    simp
  · simp only [get_alloc, World.size_alloc]
    rw [if_neg (by omega)]
    simp
  · simp only [get_alloc, World.size_alloc]
    simp
theorem mem_flat_of {ls : List (List PF)} : ∀ {i : Nat} {y : Nat × PF}, y ∈ flatFrom i ls → ∃ l ∈ ls, y.2 ∈ l := by
  induction ls with
  | nil => intro i y h; simp [flatFrom] at h
  | cons a r ih =>
    intro i y h
    unfold flatFrom at h
    rcases List.mem_append.1 h with h | h
    · obtain ⟨f, hf, rfl⟩ := List.mem_map.1 h
      exact ⟨a, by simp, hf⟩
    · obtain ⟨l, hl, hy⟩ := ih h
      exact ⟨l, by simp [hl], hy⟩
theorem fits_ids {B : Nat} {s : MSt} (h : fitsS B s) : ∀ y ∈ flat s.levels, y.2.id < 18446744073709551616 := fun y hy => by
  obtain ⟨l, hl, hf⟩ := mem_flat_of hy
  exact ((h.2.2.2.2.2 l hl).2 _ hf).2.1
theorem slc4 {w : World} (a b c d : Value) : RowAt (w.alloc (.cells #[a, b, c, d] 72)) 4 (.slice (some ⟨w.heap.size, 0, none⟩) 1 1) 1 [a, b, c, d] := by
  refine ⟨rfl, some ⟨w.heap.size, 0, none⟩, 1, rfl, Nat.le_refl _, by unfold maxLen; omega, (fun e => by cases e), fun _ => ⟨w.heap.size, 0, rfl, fun i hi => ?_⟩⟩
  rw [cell_of_heap (heap_alloc (w := w) (.cells #[a, b, c, d] 72)) (0 + i), Nat.zero_add]
  simp
set_option maxHeartbeats 8000000 in
set_option maxRecDepth 100000 in
theorem decode_out {w : World} (b : ByteArray) (hb : b.size ≤ 9223372036854775807) : Calls Tryz.prog 25 #[.string b] w (DecOut (decodeS b) w) := by
  have hu1 : Upd (fun _ => False) w (w.alloc (.cells #[.int .u64 0, .int .u64 0, .slice none 0 0] 28)) := (Upd.refl _ w).alloc _
  have hx1 := heap_alloc (w := w) (.cells #[.int .u64 0, .int .u64 0, .slice none 0 0] 28)
  have HU := Lib.hid hu1
  have HX1 := Lib.hid hx1
  clear hu1 hx1
  cases ho : openM b with
  | none =>
    have HD := Lib.hid (decodeS_none ho)
    have HO : Hid (∀ w, Calls Tryz.prog 46 #[.string b] w (OpenPost none w)) := fun w => by rw [← ho]; exact open_any b w hb
    clear ho
    go_enter Tryz.func25, Tryz.ntmps25
    go_upto_region 1 with fail
    generalize w.alloc (.cells #[.int .u64 0, .int .u64 0, .slice none 0 0] 28) = wb at *
    generalize hxb : w.heap.size = xb at *
    go_upto_region 2 with (go_at_call 46; refine (HO.out _).mono ?_; rintro e w1 ⟨rfl, hu⟩)
    have hx2 := hu.keep HX1.out (fun f => f)
    have HX2 := Lib.hid hx2
    obtain ⟨p0, p1, p2⟩ := box_cells hx2
    have z0 := frozen_of_heap hx2 0 none
    have z1 := frozen_of_heap hx2 1 none
    have z2 := frozen_of_heap hx2 2 none
    have HU2 := Lib.hid (HU.out.trans hu (fun _ _ f => f))
    clear hx2 hu
    go_wp2_with fail
    try simp only [Exit.inBlock, Exit.then]
    refine bodyPost_ret (results_row2 rfl _ _ xb 28 _ (0, 0) _ rfl (cells3 HX2.out) Tryz.underlying28 rfl (by kernel_rfl)) rfl ?_
    exact dec_none HD.out (HU2.out.trans upd3 (fun i hi e => by omega))
  | some p =>
    obtain ⟨body, n⟩ := p
    have HO : Hid (∀ w, Calls Tryz.prog 46 #[.string b] w (OpenPost (some (body, n)) w)) := fun w => by rw [← ho]; exact open_any b w hb
    have hbd := openM_bound ho
    by_cases hn : n = b.size
    · have HD0 : Hid (decodeS b = decT (rdState M40 body)) := by
        subst hn
        exact decodeS_open ho
      clear ho
      have hbody : body.size ≤ 9223372036854775807 := by omega
      have hnb : ((n : Int) != (b.size : Int)) = false := by simp; omega
      have hnb2 : (n : Int) = (b.size : Int) := by omega
      have HNB := Lib.hid hn
      clear hn hbd
      go_enter Tryz.func25, Tryz.ntmps25
      go_upto_region 1 with fail
      generalize w.alloc (.cells #[.int .u64 0, .int .u64 0, .slice none 0 0] 28) = wb at *
      generalize hxb : w.heap.size = xb at *
      go_upto_region 2 with (go_at_call 46; refine (HO.out _).mono ?_; rintro e w1 ⟨rfl, hu⟩)
      have hx2 := hu.keep HX1.out (fun f => f)
      have HX2 := Lib.hid hx2
      have HU2 := Lib.hid (HU.out.trans hu (fun _ _ f => f))
      have hxl := lt_of_heap hx2
      clear hx2 hu
      go_upto_region 4 with fail
      go_upto_region 5 with (go_at_call 47; refine (wnew_any body _).mono ?_; rintro e w2 ⟨rfl, rfl⟩)
      go_upto_region 8 with fail
      obtain ⟨w2, hw2, hs2, hu2, hrd2⟩ := w3_facts w1 body
      rw [hw2]
      have hrd := hrd2 hbody
      have HX3 := Lib.hid (hu2.keep HX2.out (fun f => f))
      have HU3 := Lib.hid (HU2.out.trans hu2 (fun _ _ f => f))
      clear hw2 hrd2 hu2
      generalize hrb : w1.heap.size = rb at *
      have hxr : xb < rb := by omega
      have HNC : Hid (∀ {u : World} {ok ok' : Bool} {s r : ByteArray} {v : Nat}, RD u rb (rb + 1) (rb + 1 + 1) ok s → numC M40 ok s = (v, ok', r) → Calls Tryz.prog 48 #[.int .u64 1099511627776, .pointer (some ⟨rb + 1, 0, none⟩), .pointer (some ⟨rb + 1 + 1, 0, none⟩)] u fun e w' => e = .returned (.int .u64 (v : Nat)) ∧ RD w' rb (rb + 1) (rb + 1 + 1) ok' r ∧ Upd (fun i => i = rb ∨ i = rb + 1 + 1) u w') := fun h he => num_clos' (B := M40) h (by unfold M40; omega) he
      have HN7 : Hid (∀ {u : World} {ok ok' : Bool} {s r : ByteArray} {v : Nat}, RD u rb (rb + 1) (rb + 1 + 1) ok s → numC 7 ok s = (v, ok', r) → Calls Tryz.prog 48 #[.int .u64 7, .pointer (some ⟨rb + 1, 0, none⟩), .pointer (some ⟨rb + 1 + 1, 0, none⟩)] u fun e w' => e = .returned (.int .u64 (v : Nat)) ∧ RD w' rb (rb + 1) (rb + 1 + 1) ok' r ∧ Upd (fun i => i = rb ∨ i = rb + 1 + 1) u w') := fun h he => num_clos' (B := 7) h (by omega) he
      have HN1 : Hid (∀ {u : World} {ok ok' : Bool} {s r : ByteArray} {v : Nat}, RD u rb (rb + 1) (rb + 1 + 1) ok s → numC 1024 ok s = (v, ok', r) → Calls Tryz.prog 48 #[.int .u64 1024, .pointer (some ⟨rb + 1, 0, none⟩), .pointer (some ⟨rb + 1 + 1, 0, none⟩)] u fun e w' => e = .returned (.int .u64 (v : Nat)) ∧ RD w' rb (rb + 1) (rb + 1 + 1) ok' r ∧ Upd (fun i => i = rb ∨ i = rb + 1 + 1) u w') := fun h he => num_clos' (B := 1024) h (by omega) he
      have HNX : Hid (∀ {u : World} {ok ok' : Bool} {s r : ByteArray} {v : Nat}, RD u rb (rb + 1) (rb + 1 + 1) ok s → numC 1073741824 ok s = (v, ok', r) → Calls Tryz.prog 48 #[.int .u64 1073741824, .pointer (some ⟨rb + 1, 0, none⟩), .pointer (some ⟨rb + 1 + 1, 0, none⟩)] u fun e w' => e = .returned (.int .u64 (v : Nat)) ∧ RD w' rb (rb + 1) (rb + 1 + 1) ok' r ∧ Upd (fun i => i = rb ∨ i = rb + 1 + 1) u w') := fun h he => num_clos' (B := 1073741824) h (by omega) he
      have hM18 : M40 < 18446744073709551616 := by unfold M40; omega
      generalize M40 = B at *
      obtain ⟨nx, k1, s1, ha⟩ : ∃ nx k1 s1, numC B true body = (nx, k1, s1) := ⟨_, _, _, rfl⟩
      obtain ⟨lg, k2, s2, hbb⟩ : ∃ lg k2 s2, numC B k1 s1 = (lg, k2, s2) := ⟨_, _, _, rfl⟩
      obtain ⟨n3, k3, s3, hcc⟩ : ∃ n3 k3 s3, numC 7 k2 s2 = (n3, k3, s3) := ⟨_, _, _, rfl⟩
      have HST := Lib.hid (rdState_yes (B := B) ha hbb hcc)
      have HA := Lib.hid ha
      have HB := Lib.hid hbb
      have HC := Lib.hid hcc
      have hn7 : n3 ≤ 7 := by have := numC_le (B := 7) (ok := k2) (s := s2); rw [hcc] at this; exact this
      clear ha hbb hcc
      go_wp2_with fail
      refine (HNC.out hrd HA.out).mono ?_
      rintro e w3 ⟨rfl, hrd3, hu3⟩
      go_wp2_with fail
      refine (HNC.out hrd3 HB.out).mono ?_
      rintro e w4 ⟨rfl, hrd4, hu4⟩
      have hu34 := hu3.trans hu4 (fun _ _ h => h)
      have hx4 := hu34.keep HX3.out (by omega)
      have hl4 : rb + 1 + 1 < w4.heap.size := by have := hu34.size; omega
      go_upto_region 9 with fail
      have hua : Upd (fun _ => False) w4 (w4.alloc (.cells #[.int .u64 (nx : Nat), .int .u64 (lg : Nat), .slice none 0 0] 28)) := (Upd.refl _ w4).alloc _
      have HSB := Lib.hid (heap_alloc (w := w4) (.cells #[.int .u64 (nx : Nat), .int .u64 (lg : Nat), .slice none 0 0] 28))
      have hrd5 := hrd4.upd hua (fun f => f) (fun f => f) (fun f => f)
      have HX5 := Lib.hid (hua.keep hx4 (fun f => f))
      have HU5 := Lib.hid ((HU3.out.trans hu34 (fun i hi e => by omega)).trans hua (fun _ _ f => f))
      clear hua hx4 hu3 hu4 hu34 hrd hrd3 hrd4
      generalize w4.alloc (.cells #[.int .u64 (nx : Nat), .int .u64 (lg : Nat), .slice none 0 0] 28) = w5 at *
      generalize hsb : w4.heap.size = sb at *
      go_wp2_with fail
      refine (HN7.out hrd5 HC.out).mono ?_
      rintro e w6 ⟨rfl, hrd6, hu6⟩
      have HX6 := Lib.hid (hu6.keep HX5.out (by omega))
      have HSB6 := Lib.hid (hu6.keep HSB.out (by omega))
      have HRD6 := Lib.hid hrd6
      have HU6 := Lib.hid (HU5.out.trans hu6 (fun i hi e => by omega))
      clear hu6 hrd5 hrd6
      go_wp2_with fail
      have HQ0 : ∃ Q, Hid (rdState B body = asSt nx lg Q ∧ (k3 = true → Q = rdN (rdLevel B) n3 s3) ∧ (k3 = false → Q = none ∧ n3 = 0)) := by
        have h0 := numC_no (B := 7) (ok := k2) (s := s2)
        rw [HC.out] at h0
        have h1 := HST.out
        cases k3 with
        | true => exact ⟨_, h1, fun _ => rfl, fun h => by cases h⟩
        | false => exact ⟨none, h1, fun h => (by cases h), fun _ => ⟨rfl, (h0 rfl).1⟩⟩
      obtain ⟨Q, HQ⟩ := HQ0
      have hsl : sb < w6.heap.size := lt_of_heap HSB6.out
      go_loopw [40] (fun i wr => ∃ (k : Nat) (ok : Bool) (s : ByteArray) (v : Value) (ls : List (List PF)), i = .int .u64 k ∧ k ≤ n3 ∧ RD wr rb (rb + 1) (rb + 1 + 1) ok s ∧ wr.heap[xb]? = some (.cells #[.int .u64 0, .int .u64 0, .slice none 0 0] 28 (0, 0)) ∧ wr.heap[sb]? = some (.cells #[.int .u64 (nx : Nat), .int .u64 (lg : Nat), v] 28 (0, 0)) ∧ ls.length = k ∧ OutAt wr (sb + 1) v ls ∧ Hid (Imp ok (more ls (rdN (rdLevel B) (n3 - k) s) = Q) ∧ ImpF ok (Q = none)) ∧ Upd (fun _ => False) w wr) (fun i _ => n3 - (intOf i).toNat)
      case atStart =>
        refine ⟨0, k3, s3, _, [], rfl, by omega, HRD6.out, HX6.out, HSB6.out, rfl, OutAt.nil _ _, ⟨fun h => ?_, fun h => (HQ.out.2.2 h).1⟩, HU6.out⟩
        rw [HQ.out.2.1 h, more_nil]
        rfl
      case round =>
        obtain ⟨k, ok, s, v, ls, rfl, hk, hrd, hx, hbx, hlk, hout, HI, hu⟩ := hrel
        by_cases hlt : k < n3
        · have hlt2 : (k : Int) < (n3 : Int) := by omega
          obtain ⟨n2, ok2, s4, hn2⟩ : ∃ n2 ok2 s4, numC 1024 ok s = (n2, ok2, s4) := ⟨_, _, _, rfl⟩
          have hn2b : n2 ≤ 1024 := by have := numC_le (B := 1024) (ok := ok) (s := s); rw [hn2] at this; exact this
          have HLVL : Hid (Imp ok2 (ok = true ∧ rdLevel B s = rdN (rdFile B) n2 s4) ∧ ImpF ok2 (n2 = 0 ∧ Imp ok (rdLevel B s = none))) := by
            have h1 := numC_yes (B := 1024) (ok := ok) (s := s)
            have h2 := numC_no (B := 1024) (ok := ok) (s := s)
            rw [hn2] at h1 h2
            constructor
            · intro h
              obtain ⟨h3, h4⟩ := h1 h
              subst h3 h
              exact ⟨rfl, rdLevel_yes hn2⟩
            · intro h
              obtain ⟨h3, h4⟩ := h2 h
              refine ⟨h3, fun h5 => ?_⟩
              subst h5 h
              exact rdLevel_yes hn2
          have HN2 := Lib.hid hn2
          have HX := Lib.hid hx
          have HBX := Lib.hid hbx
          have HOUT := Lib.hid hout
          have HUO := Lib.hid hu
          have HLK := Lib.hid hlk
          clear hn2 hx hbx hout hu hlk
          go_wp2_with fail
          refine (HN1.out hrd HN2.out).mono ?_
          rintro e wa ⟨rfl, hrda, hua⟩
          have hHr : rb + 1 + 1 < wr.heap.size := lt_of_heap hrd.rgt
          have hHs : sb < wr.heap.size := lt_of_heap HBX.out
          have HRDA := Lib.hid hrda
          have HUA := Lib.hid hua
          clear hrd hrda hua
          generalize hH : wr.heap.size = H at *
          have HUS := Lib.hid hH
          go_wp2_with fail
          go_loopw [44, 12] (fun j lv ws => ∃ (m : Nat) (s5 : ByteArray) (fs : List PF), j = .int .u64 m ∧ m ≤ n2 ∧ RD ws rb (rb + 1) (rb + 1 + 1) ok2 s5 ∧ fs.length = m ∧ ws.ownsRow H 72 4 lv m (flatP fs) ∧ Hid (Imp ok2 (more fs (rdN (rdFile B) (n2 - m) s5) = rdLevel B s)) ∧ Upd (fun i => i = rb ∨ i = rb + 1 + 1) wr ws) (fun j _ _ => n2 - (intOf j).toNat)
          case atStart => exact ⟨0, s4, [], rfl, by omega, HRDA.out, rfl, World.ownsRow_nil _ _ _ _, fun h => by rw [more_nil, (HLVL.out.1 h).2]; rfl, HUA.out⟩
          case round =>
            obtain ⟨m, s5, fs, rfl, hm, hrd2, hfl, hown, HJ, hu2⟩ := hrel
            have HU2' := Lib.hid hu2
            have hsz2 := hu2.size
            rw [hH] at hsz2
            by_cases hml : m < n2
            · have hk2 : ok2 = true := by
                cases ok2 with
                | true => rfl
                | false => have := (HLVL.out.2 rfl).1; omega
              subst hk2
              have hml2 : (m : Int) < (n2 : Int) := by omega
              obtain ⟨id, o1, r1, h1⟩ : ∃ id o1 r1, numC B true s5 = (id, o1, r1) := ⟨_, _, _, rfl⟩
              obtain ⟨lo, o2, r2, h2⟩ : ∃ lo o2 r2, textC o1 r1 = (lo, o2, r2) := ⟨_, _, _, rfl⟩
              obtain ⟨hi, o3, r3, h3⟩ : ∃ hi o3 r3, textC o2 r2 = (hi, o3, r3) := ⟨_, _, _, rfl⟩
              obtain ⟨ce, o4, r4, h4⟩ : ∃ ce o4 r4, numC 1073741824 o3 r3 = (ce, o4, r4) := ⟨_, _, _, rfl⟩
              have HF := Lib.hid (rdFile_steps (B := B) h1 h2 h3 h4)
              have hce : ce ≤ 1073741824 := by have := numC_le (B := 1073741824) (ok := o3) (s := r3); rw [h4] at this; exact this
              have hcei : (ce : Int) ≤ 1073741824 := by omega
              have H1 := Lib.hid h1
              have H2 := Lib.hid h2
              have H3 := Lib.hid h3
              have H4 := Lib.hid h4
              have HOWN := Lib.hid hown
              clear h1 h2 h3 h4 hu2 hown
              go_wp2_with fail
              refine (HNC.out hrd2 H1.out).mono ?_
              rintro e wb1 ⟨rfl, hrdb, hub⟩
              have hszb := hub.size
              have HUB := Lib.hid (HU2'.out.trans hub (fun _ _ h => h))
              have HOWNB := Lib.hid (owns_upd HOWN.out hub (fun g hg s => by have := (HOWN.out.lt g hg).1; omega))
              go_upto_region 15 with fail
              have hfb := heap_alloc (w := wb1) (.cells #[.int .u64 (id : Nat), .string ⟨#[]⟩, .string ⟨#[]⟩, .int .i64 0] 72)
              have huc : Upd (fun _ => False) wb1 (wb1.alloc (.cells #[.int .u64 (id : Nat), .string ⟨#[]⟩, .string ⟨#[]⟩, .int .i64 0] 72)) := (Upd.refl _ wb1).alloc _
              have hrdc := hrdb.upd huc (fun f => f) (fun f => f) (fun f => f)
              have HUC := Lib.hid (HUB.out.trans huc (fun _ _ f => f.elim))
              have HOWNC := Lib.hid (owns_upd HOWNB.out huc (fun g hg s => s.elim))
              clear huc hub hrd2 hrdb
              generalize wb1.alloc (.cells #[.int .u64 (id : Nat), .string ⟨#[]⟩, .string ⟨#[]⟩, .int .i64 0] 72) = wc at *
              generalize hfbe : wb1.heap.size = fb at *
              have hfbH : H ≤ fb := by omega
              have HFBN : Hid (u12.ownBlock ≠ some fb) := fun h => by have := (HOWNB.out.lt fb h).2; omega
              clear hfbe
              go_wp2_with fail
              refine (text_clos' hrdc H2.out).mono ?_
              rintro e wd ⟨rfl, hrdd, hud⟩
              have hfd := hud.keep hfb (by omega)
              have HUD := Lib.hid (HUC.out.trans hud (fun _ _ h => h))
              have HOWND := Lib.hid (owns_upd HOWNC.out hud (fun g hg s => by have := (HOWNC.out.lt g hg).1; omega))
              clear hfb hrdc hud
              have cd := cell_of_heap hfd 1
              have fd := frozen_of_heap hfd 1 none
              simp only [List.getElem?_toArray, List.getElem?_cons_zero, List.getElem?_cons_succ] at cd
              go_upto_region 16 with fail
              have hue : Upd (fun i => i = fb) wd (wd.setCell ⟨fb, 1, none⟩ (.string lo)) := upd1
              have hfe : (wd.setCell ⟨fb, 1, none⟩ (.string lo)).heap[fb]? = some (.cells #[.int .u64 (id : Nat), .string lo, .string ⟨#[]⟩, .int .i64 0] 72 (0, 0)) := by
                have := heap_setCell (o := 1) hfd (.string lo)
                simpa using this
              have hrde := hrdd.upd hue (by omega) (by omega) (by omega)
              have HUE := Lib.hid (HUD.out.trans hue (fun i hi e => by omega))
              have HOWNE := Lib.hid (owns_upd HOWND.out hue (fun g hg s => by subst s; exact HFBN.out hg))
              clear hue hfd hrdd cd fd
              generalize wd.setCell ⟨fb, 1, none⟩ (.string lo) = we at *
              go_wp2_with fail
              refine (text_clos' hrde H3.out).mono ?_
              rintro e wf ⟨rfl, hrdf, huf⟩
              have hff := huf.keep hfe (by omega)
              have HUF := Lib.hid (HUE.out.trans huf (fun _ _ h => h))
              have HOWNF := Lib.hid (owns_upd HOWNE.out huf (fun g hg s => by have := (HOWNE.out.lt g hg).1; omega))
              clear hfe hrde huf
              have cf := cell_of_heap hff 2
              have ff := frozen_of_heap hff 2 none
              simp only [List.getElem?_toArray, List.getElem?_cons_zero, List.getElem?_cons_succ] at cf
              go_upto_region 17 with fail
              have hug : Upd (fun i => i = fb) wf (wf.setCell ⟨fb, 2, none⟩ (.string hi)) := upd1
              have hfg : (wf.setCell ⟨fb, 2, none⟩ (.string hi)).heap[fb]? = some (.cells #[.int .u64 (id : Nat), .string lo, .string hi, .int .i64 0] 72 (0, 0)) := by
                have := heap_setCell (o := 2) hff (.string hi)
                simpa using this
              have hrdg := hrdf.upd hug (by omega) (by omega) (by omega)
              have HUG := Lib.hid (HUF.out.trans hug (fun i hi e => by omega))
              have HOWNG := Lib.hid (owns_upd HOWNF.out hug (fun g hg s => by subst s; exact HFBN.out hg))
              clear hug hff hrdf cf ff
              generalize wf.setCell ⟨fb, 2, none⟩ (.string hi) = wg at *
              go_wp2_with fail
              refine (HNX.out hrdg H4.out).mono ?_
              rintro e wh ⟨rfl, hrdh, huh⟩
              have hfh := huh.keep hfg (by omega)
              have HUH := Lib.hid (HUG.out.trans huh (fun _ _ h => h))
              have HOWNH := Lib.hid (owns_upd HOWNG.out huh (fun g hg s => by have := (HOWNG.out.lt g hg).1; omega))
              clear hfg hrdg huh
              have ch := cell_of_heap hfh 3
              have fh := frozen_of_heap hfh 3 none
              simp only [List.getElem?_toArray, List.getElem?_cons_zero, List.getElem?_cons_succ] at ch
              go_upto_region 18 with fail
              have hui : Upd (fun i => i = fb) wh (wh.setCell ⟨fb, 3, none⟩ (.int .i64 (ce : Nat))) := upd1
              have hfi : (wh.setCell ⟨fb, 3, none⟩ (.int .i64 (ce : Nat))).heap[fb]? = some (.cells #[.int .u64 (id : Nat), .string lo, .string hi, .int .i64 (ce : Nat)] 72 (0, 0)) := by
                have := heap_setCell (o := 3) hfh (.int .i64 (ce : Nat))
                simpa using this
              have hrdi := hrdh.upd hui (by omega) (by omega) (by omega)
              have HUI := Lib.hid (HUH.out.trans hui (fun i hi e => by omega))
              have HOWNI := Lib.hid (owns_upd HOWNH.out hui (fun g hg s => by subst s; exact HFBN.out hg))
              clear hui hfh hrdh ch fh
              generalize wh.setCell ⟨fb, 3, none⟩ (.int .i64 (ce : Nat)) = wi at *
              have c8i := cell_of_heap hrdi.rgt 0
              simp only [List.getElem?_toArray, List.getElem?_cons_zero] at c8i
              have HRDI := Lib.hid hrdi
              have HFI := Lib.hid hfi
              cases o4 with
              | false =>
                have HD : Hid (decodeS b = none) := by
                  show _ = _
                  have e1 : rdFile B s5 = none := HF.out
                  have e2 : rdLevel B s = none := by
                    rw [← HJ.out rfl, show n2 - m = (n2 - m - 1) + 1 from by omega]
                    exact rdN_stop e1
                  have e3 : Q = none := by
                    rw [← HI.out.1 (HLVL.out.1 rfl).1, show n3 - k = (n3 - k - 1) + 1 from by omega]
                    exact rdN_stop e2
                  rw [HD0.out, HQ.out.1, e3]
                  rfl
                have hx9 := HUI.out.keep HX.out (by omega)
                have HX9 := Lib.hid hx9
                obtain ⟨p0, p1, p2⟩ := box_cells hx9
                have z0 := frozen_of_heap hx9 0 none
                have z1 := frozen_of_heap hx9 1 none
                have z2 := frozen_of_heap hx9 2 none
                have HU9 := Lib.hid (HUO.out.trans HUI.out (fun i hi e => by omega))
                clear hx9 hrdi hfi
                go_wp2_with fail
                try simp only [Exit.inBlock, Exit.then]
                refine bodyPost_ret (results_row2 rfl _ _ xb 28 _ (0, 0) _ rfl (cells3 HX9.out) Tryz.underlying28 rfl (by kernel_rfl)) rfl ?_
                exact dec_none HD.out (HU9.out.trans upd3 (fun i hi e => by omega))
              | true =>
                have HFS : Hid (rdFile B s5 = some (⟨id, lo, hi, (ce : Int)⟩, r4)) := HF.out
                have g0 := cell_of_heap hfi 0
                have g1 := cell_of_heap hfi 1
                have g2 := cell_of_heap hfi 2
                have g3 := cell_of_heap hfi 3
                simp only [List.getElem?_toArray, List.getElem?_cons_zero, List.getElem?_cons_succ] at g0 g1 g2 g3
                have huj : Upd (fun _ => False) wi (wi.alloc (.cells #[.int .u64 (id : Nat), .string lo, .string hi, .int .i64 (ce : Nat)] 72)) := (Upd.refl _ wi).alloc _
                have HOWNJ := Lib.hid (owns_upd HOWNI.out huj (fun g hg s => s.elim))
                have HUJ := Lib.hid (HUI.out.trans huj (fun _ _ f => f.elim))
                have HRDJ := Lib.hid (hrdi.upd huj (fun f => f) (fun f => f) (fun f => f))
                have hszj := HUI.out.size
                rw [HUS.out] at hszj
                clear huj hrdi hfi
                obtain ⟨i0, hi0, hz0, hz1, hz2⟩ := info_parts info93
                go_wp2_with (at_builtin; refine wpList_append_row rfl _ _ 70 rfl H 72 i0 (.agg #[.int .u64 0, .string ⟨#[]⟩, .string ⟨#[]⟩, .int .i64 0]) 4 48 Tryz.underlying70 hi0 hz0 hz1 hz2 rfl (by decide) _ _ _ rfl HOWNJ.out _ 1 [.int .u64 (id : Nat), .string lo, .string hi, .int .i64 (ce : Nat)] rfl (slc4 _ _ _ _) ?c2 ?c3 ?c4 ?c5 ?_)
                case c2 => exact ⟨rfl, rfl, rfl, rfl⟩
                case c3 => unfold maxLen; omega
                case c4 => omega
                case c5 => omega
                intro v2 w9 hown9 hg9
                have huk : Upd (fun i => H ≤ i) (wi.alloc (.cells #[.int .u64 (id : Nat), .string lo, .string hi, .int .i64 (ce : Nat)] 72)) w9 := (Upd.refl _ _).of_grown hg9 (fun j hj _ => (HOWNJ.out.lt j hj).1)
                have HRDK := Lib.hid (HRDJ.out.upd huk (by omega) (by omega) (by omega))
                have HUK := Lib.hid (HUJ.out.trans huk (fun i hi e => by have := HUS.out; omega))
                have HOWN9 : Hid (w9.ownsRow H 72 4 v2 (m + 1) (flatP (fs ++ [⟨id, lo, hi, (ce : Int)⟩]))) := by
                  show World.ownsRow _ _ _ _ _ _ _
                  rw [flatP_append]
                  exact hown9
                have HJ2 : Hid (Imp true (more (fs ++ [⟨id, lo, hi, (ce : Int)⟩]) (rdN (rdFile B) (n2 - (m + 1)) r4) = rdLevel B s)) := fun _ => by
                  rw [← HJ.out rfl, show n2 - m = n2 - (m + 1) + 1 from by omega, rdN_more HFS.out]
                clear hown9 hg9 huk g0 g1 g2 g3 c8i
                go_wp2_with fail
                exact ⟨⟨m + 1, r4, fs ++ [⟨id, lo, hi, (ce : Int)⟩], by go_num, by omega, HRDK.out, by simp [hfl], HOWN9.out, HJ2, HUK.out⟩, by simp [intOf]; omega⟩
            · have hge : ¬ (m : Int) < (n2 : Int) := by omega
              subst hfl
              have hm0 : n2 - fs.length = 0 := by omega
              rw [hm0] at HJ
              have HI2 : Hid (Imp ok2 (more (ls ++ [fs]) (rdN (rdLevel B) (n3 - (k + 1)) s5) = Q) ∧ ImpF ok2 (Q = none)) := by
                constructor
                · intro h
                  have e1 := HJ.out h
                  rw [rdN_done] at e1
                  have e2 := HI.out.1 (HLVL.out.1 h).1
                  rw [← e2, show n3 - k = n3 - (k + 1) + 1 from by omega, rdN_more e1.symm]
                · intro h
                  cases ok with
                  | false => exact HI.out.2 rfl
                  | true =>
                    rw [← HI.out.1 rfl, show n3 - k = n3 - (k + 1) + 1 from by omega]
                    exact rdN_stop ((HLVL.out.2 h).2 rfl)
              have hbs := HU2'.out.keep HBX.out (by omega)
              have hoo := HOUT.out.upd HU2'.out (fun k e => by omega)
              obtain ⟨la, lc, rfl⟩ := (RowAt.of_own hown).slice
              obtain ⟨va, vc, rfl, hv1, hv2⟩ := hoo.levs.slice
              obtain ⟨q0, q1, q2⟩ := box_cells hbs
              have hua3 : Upd (fun _ => False) wr (wr.alloc (.cells #[.slice la fs.length lc] 70)) := (Upd.refl _ wr).alloc _
              have hoo3 := hoo.upd hua3 (fun _ f => f.elim)
              have HBS3 := Lib.hid (hua3.keep hbs (fun f => f))
              have HRD3 := Lib.hid (hrd2.upd hua3 (fun f => f) (fun f => f) (fun f => f))
              have HOU3 := Lib.hid (owns_upd (owns_base hown (show sb + 1 ≤ H by omega)) hua3 (fun g hg s => s.elim))
              have hu23 := HU2'.out.trans hua3 (fun _ _ f => f.elim)
              have HU3' := Lib.hid hu23
              have HUX := Lib.hid hu23
              obtain ⟨vs, ho1, ho2⟩ := hoo3
              have HV1 := Lib.hid ho1
              have HV2 := Lib.hid ho2
              have HLKK := HLK.out
              have hlsn : ls.length ≤ 7 := by omega
              have hws : H ≤ wr.heap.size := hsz2
              clear hbs hoo ho1 ho2 hua3 hu2 hown hu23 hrd2 HLKK
              obtain ⟨j0, hj0, hy0, hy1, hy2⟩ := info_parts info94
              go_wp2_with (at_builtin; refine wpList_append_row rfl _ _ 26 rfl (sb + 1) 70 j0 (.slice none 0 0) 1 24 Tryz.underlying26 hj0 hy0 hy1 hy2 rfl (by decide) _ _ vs rfl HV1.out _ 1 [.slice la fs.length lc] rfl (slc_alloc _) ?c2 ?c3 ?c4 ?c5 ?_)
              case c2 => first | rfl | (intro z hz; simp at hz; subst hz; rfl)
              case c3 => unfold maxLen; omega
              case c4 => omega
              case c5 => first | omega | (simp; omega)
              intro v3 w3 hown3 hg3
              have huk : Upd (fun i => sb + 1 ≤ i) (wr.alloc (.cells #[.slice la fs.length lc] 70)) w3 := (Upd.refl _ _).of_grown hg3 (fun j hj _ => (HV1.out.lt j hj).1)
              obtain ⟨a2, c2, rfl⟩ := (RowAt.of_own hown3).slice
              have hout := OutAt.snoc HV1.out HV2.out HOU3.out hown3 hg3
              have hb4 := huk.keep HBS3.out (by omega)
              have hrd4' := HRD3.out.upd huk (by omega) (by omega) (by omega)
              have hu3a := HUO.out.trans HU3'.out (fun i hi e => by omega)
              have hu4' := hu3a.trans huk (fun i hi e => by omega)
              have r2 := cell_of_heap hb4 2
              have z2 := frozen_of_heap hb4 2 none
              simp only [List.getElem?_toArray, List.getElem?_cons_zero, List.getElem?_cons_succ] at r2
              have hx4 := HUX.out.keep HX.out (by omega)
              have hx5 := huk.keep hx4 (by omega)
              have hus : Upd (fun i => i = sb) w3 (w3.setCell ⟨sb, 2, none⟩ (.slice a2 (ls.length + 1) c2)) := upd1
              have hb5 : (w3.setCell ⟨sb, 2, none⟩ (.slice a2 (ls.length + 1) c2)).heap[sb]? = some (.cells #[.int .u64 (nx : Nat), .int .u64 (lg : Nat), .slice a2 (ls.length + 1) c2] 28 (0, 0)) := by
                have := heap_setCell (o := 2) hb4 (.slice a2 (ls.length + 1) c2)
                simpa using this
              have HB5 := Lib.hid hb5
              have HX6 := Lib.hid (hus.keep hx5 (by omega))
              have HRD6 := Lib.hid (hrd4'.upd hus (by omega) (by omega) (by omega))
              have HOUT6 := Lib.hid (hout.upd hus (fun k e => by omega))
              have HU6' := Lib.hid (hu4'.trans hus (fun i hi e => by omega))
              clear hb4 hb5 hx4 hx5 hus hu4' hu3a huk hrd4' hout hown3 hg3 q0 q1 q2
              go_wp2_with fail
              exact ⟨⟨k + 1, ok2, s5, .slice a2 (ls.length + 1) c2, ls ++ [fs], by go_num, by omega, HRD6.out, HX6.out, HB5.out, by simp [HLK.out], HOUT6.out, HI2, HU6'.out⟩, by simp [intOf]; omega⟩
        · have hge : ¬ (k : Int) < (n3 : Int) := by omega
          have hend : n3 - k = 0 := by omega
          rw [hend] at HI
          obtain ⟨p0, p1, p2⟩ := box_cells hx
          have z0 := frozen_of_heap hx 0 none
          have z1 := frozen_of_heap hx 1 none
          have z2 := frozen_of_heap hx 2 none
          obtain ⟨q0, q1, q2⟩ := box_cells hbx
          have c7 := cell_of_heap hrd.ptr 0
          have c8 := cell_of_heap hrd.rgt 0
          simp only [List.getElem?_toArray, List.getElem?_cons_zero] at c7 c8
          have HX9 := Lib.hid hx
          have HU9 := Lib.hid hu
          have HLV := Lib.hid hout.levs
          have HOUT := Lib.hid hout
          have HRD := Lib.hid hrd
          clear hlk
          obtain ⟨va, vc, rfl, hv1, hv2⟩ := hout.levs.slice
          clear hx hbx hu hout hend
          cases ok with
          | false =>
            have HD : Hid (decodeS b = none) := by
              show _ = _
              rw [HD0.out, HQ.out.1, HI.out.2 rfl]
              rfl
            clear hrd
            go_wp2_with fail
            try simp only [Exit.inBlock, Exit.then]
            refine bodyPost_ret (results_row2 rfl _ _ xb 28 _ (0, 0) _ rfl (cells3 HX9.out) Tryz.underlying28 rfl (by kernel_rfl)) rfl ?_
            exact dec_none HD.out (HU9.out.trans upd3 (fun i hi e => by omega))
          | true =>
            have HR : Hid (rdState B body = some (⟨nx, lg, ls⟩, s)) := by
              have h1 := HI.out.1 rfl
              rw [rdN_done] at h1
              show _ = _
              rw [HQ.out.1, ← h1]
              rfl
            have HDD : Hid (decodeS b = decT (some (⟨nx, lg, ls⟩, s))) := by
              show _ = _
              rw [HD0.out, HR.out]
            clear hrd
            by_cases hs0 : s.size = 0
            · have hsi : ((s.size : Int) != 0) = false := by simp [hs0]
              have hsj : (s.size : Int) = 0 := by omega
              have HS0 := Lib.hid hs0
              clear hs0
              have HIDS : Hid (∀ y ∈ flat (PS'.mk nx lg ls).levels, y.2.id < 18446744073709551616) := fits_ids (rdState_some HR.out).2
              have HCK : Hid (Calls Tryz.prog 53 #[.agg #[.int .u64 (nx : Nat), .int .u64 (lg : Nat), .slice va ls.length vc]] wr (CheckPost ⟨nx, lg, ls⟩ wr)) := check_any (s := ⟨nx, lg, ls⟩) rfl HLV.out HIDS.out
              by_cases hm : mayS ⟨nx, lg, ls⟩ = true
              · have HD : Hid (decodeS b = some ⟨nx, lg, ls⟩) := by
                  show _ = _
                  rw [HDD.out]
                  exact if_pos ⟨HS0.out, hm⟩
                have HM := Lib.hid hm
                clear hm
                go_wp2_with (go_at_call 52; refine (left_any HRD.out.rdr).mono ?_; rintro e w9 ⟨rfl, rfl⟩)
                refine HCK.out.mono ?_
                rintro e w9 ⟨rfl, hu9⟩
                rw [if_pos HM.out]
                have hx9 := hu9.keep HX9.out (fun f => f)
                have HX99 := Lib.hid hx9
                have HU99 := Lib.hid hu9
                have r0 := cell_upd hu9 q0 (fun f => f)
                have r1 := cell_upd hu9 q1 (fun f => f)
                have r2 := cell_upd hu9 q2 (fun f => f)
                clear p0 p1 p2 z0 z1 z2 q0 q1 q2 c7 c8 hu9
                obtain ⟨p0, p1, p2⟩ := box_cells hx9
                have z0 := frozen_of_heap hx9 0 none
                have z1 := frozen_of_heap hx9 1 none
                have z2 := frozen_of_heap hx9 2 none
                clear hx9
                go_wp2_with fail
                try simp only [Exit.inBlock, Exit.then]
                refine bodyPost_ret (results_row2 rfl _ _ xb 28 _ (0, 0) _ rfl (cells3 HX99.out) Tryz.underlying28 rfl (by kernel_rfl)) rfl ?_
                rw [HD.out]
                exact ⟨va, vc, rfl, ((HOUT.out.upd HU99.out (fun _ f => f.elim)).upd (S := fun i => i = xb) upd3 (fun k e => by omega)).base (by omega), (HU9.out.trans HU99.out (fun _ _ f => f)).trans upd3 (fun i hi e => by omega)⟩
              · have HD : Hid (decodeS b = none) := by
                  show _ = _
                  rw [HDD.out]
                  exact if_neg (fun h => hm h.2)
                have HM := Lib.hid hm
                clear hm
                go_wp2_with (go_at_call 52; refine (left_any HRD.out.rdr).mono ?_; rintro e w9 ⟨rfl, rfl⟩)
                refine HCK.out.mono ?_
                rintro e w9 ⟨rfl, hu9⟩
                rw [if_neg HM.out]
                have hx9 := hu9.keep HX9.out (fun f => f)
                have HX99 := Lib.hid hx9
                have HU99 := Lib.hid hu9
                have r0 := cell_upd hu9 q0 (fun f => f)
                have r1 := cell_upd hu9 q1 (fun f => f)
                have r2 := cell_upd hu9 q2 (fun f => f)
                clear p0 p1 p2 z0 z1 z2 q0 q1 q2 c7 c8 hu9
                obtain ⟨p0, p1, p2⟩ := box_cells hx9
                have z0 := frozen_of_heap hx9 0 none
                have z1 := frozen_of_heap hx9 1 none
                have z2 := frozen_of_heap hx9 2 none
                clear hx9
                go_wp2_with fail
                try simp only [Exit.inBlock, Exit.then]
                refine bodyPost_ret (results_row2 rfl _ _ xb 28 _ (0, 0) _ rfl (cells3 HX99.out) Tryz.underlying28 rfl (by kernel_rfl)) rfl ?_
                exact dec_none HD.out ((HU9.out.trans HU99.out (fun _ _ f => f)).trans upd3 (fun i hi e => by omega))
            · have hsi : ((s.size : Int) != 0) = true := by rw [bne_iff_ne]; omega
              have hsj : ¬ (s.size : Int) = 0 := by omega
              have HD : Hid (decodeS b = none) := by
                show _ = _
                rw [HDD.out]
                exact if_neg (fun h => hs0 h.1)
              clear hs0
              go_wp2_with (go_at_call 52; refine (left_any HRD.out.rdr).mono ?_; rintro e w9 ⟨rfl, rfl⟩)
              try simp only [Exit.inBlock, Exit.then]
              refine bodyPost_ret (results_row2 rfl _ _ xb 28 _ (0, 0) _ rfl (cells3 HX9.out) Tryz.underlying28 rfl (by kernel_rfl)) rfl ?_
              exact dec_none HD.out (HU9.out.trans upd3 (fun i hi e => by omega))
    · have HD := Lib.hid (decodeS_size ho hn)
      have hnb : ((n : Int) != (b.size : Int)) = true := by simp; omega
      have hnb2 : ¬ (n : Int) = (b.size : Int) := by omega
      clear ho hn hbd
      go_enter Tryz.func25, Tryz.ntmps25
      go_upto_region 1 with fail
      generalize w.alloc (.cells #[.int .u64 0, .int .u64 0, .slice none 0 0] 28) = wb at *
      generalize hxb : w.heap.size = xb at *
      go_upto_region 2 with (go_at_call 46; refine (HO.out _).mono ?_; rintro e w1 ⟨rfl, hu⟩)
      have hx2 := hu.keep HX1.out (fun f => f)
      have HX2 := Lib.hid hx2
      obtain ⟨p0, p1, p2⟩ := box_cells hx2
      have z0 := frozen_of_heap hx2 0 none
      have z1 := frozen_of_heap hx2 1 none
      have z2 := frozen_of_heap hx2 2 none
      have HU2 := Lib.hid (HU.out.trans hu (fun _ _ f => f))
      clear hx2 hu
      go_wp2_with fail
      try simp only [Exit.inBlock, Exit.then]
      refine bodyPost_ret (results_row2 rfl _ _ xb 28 _ (0, 0) _ rfl (cells3 HX2.out) Tryz.underlying28 rfl (by kernel_rfl)) rfl ?_
      exact dec_none HD.out (HU2.out.trans upd3 (fun i hi e => by omega))
theorem decode_any {w : World} (b : ByteArray) (hb : b.size ≤ 9223372036854775807) : Calls Tryz.prog 25 #[.string b] w (DecPost (decodeS b) w) := by
  refine (decode_out b hb).mono ?_
  intro e w' h
  cases hd : decodeS b with
  | none =>
    rw [hd] at h
    exact h
  | some x =>
    rw [hd] at h
    obtain ⟨a, cap, h1, h2, h3⟩ := h
    exact ⟨a, cap, h1, h2.levs, h3⟩
end Go.Proofs.YtgkegfgdpekehaaGreat
