/- The walk of the law SealRow. -/
import Derived.Test.YtgkegfgdpekehaaK
import Derived.Test.YtgkegfgdpekehaaO
import Derived.Test.YtgkegfgdpekehaaN
import Derived.Deep.CutBlock
namespace Go.Proofs.Ytgkegfgdpekehaa
open Go.RowKit Go.Acre

theorem info3 : (Try.prog.info? 3).map (fun i => (i.zero, i.size, i.bytes)) = some (some (.int .i64 0), 1, 8) := by kernel_rfl
theorem own_ne {w : World} {b b' n m : Nat} {v v' : Value} {xs ys : List Value} {e e' : TypeId} (h : w.ownsRow b e 1 v n xs) (h' : w.ownsRow b' e' 1 v' m ys) (he : e ≠ e') : v'.ownBlock = none ∨ v'.ownBlock ≠ v.ownBlock := by
  rcases h'.2 with ⟨rfl, _⟩ | ⟨g', cap', cur', rfl, _, hg', _⟩
  · exact .inl rfl
  · right
    rcases h.2 with ⟨rfl, _⟩ | ⟨g, cap, cur, rfl, _, hg, _⟩
    · simp [Value.ownBlock]
    · simp only [Value.ownBlock]
      intro e2
      simp only [Option.some.injEq] at e2
      subst e2
      rw [hg] at hg'
      simp only [Option.some.injEq, Obj.cells.injEq] at hg'
      exact he hg'.2.1
/-- where the frames of bodies end -/
def endsOf (bs : List ByteArray) : List Int := (List.range bs.length).map fun i => ((frames (bs.take (i + 1))).size : Int)
theorem endsOf_length (bs : List ByteArray) : (endsOf bs).length = bs.length := by simp [endsOf]
theorem endsOf_snoc (bs : List ByteArray) (b : ByteArray) : endsOf (bs ++ [b]) = endsOf bs ++ [((frames bs ++ frameB b).size : Int)] := by
  unfold endsOf
  rw [List.length_append, List.length_singleton, List.range_succ, List.map_append]
  congr 1
  · apply List.map_congr_left
    intro i hi
    rw [List.mem_range] at hi
    rw [List.take_append_of_le_length (by omega)]
  · simp only [List.map_cons, List.map_nil, List.take_of_length_le (show (bs ++ [b]).length ≤ bs.length + 1 by simp)]
    rw [frames_snoc]
theorem endsOf_get (bs : List ByteArray) (i : Nat) (h : i < (endsOf bs).length) : (endsOf bs)[i] = ((frames (bs.take (i + 1))).size : Int) := by
  simp [endsOf]
def OwnEnds (w : World) (base : Nat) (v : Value) (bs : List ByteArray) : Prop := w.ownsRow base 3 1 v bs.length ((endsOf bs).map (.int .i64))
theorem OwnEnds.ints {w : World} {base : Nat} {v : Value} {bs : List ByteArray} (h : OwnEnds w base v bs) : IntsAt .i64 w v (endsOf bs) := by
  unfold OwnEnds at h
  rw [← endsOf_length] at h
  exact IntsAt.of_own h
theorem made_u8 (n : Nat) (hn : n ≤ 100000000) (u : World) : (Instr.makeSlice 34 (.int .u8 (n : Int)) (.int .u8 (n : Int))).run Try.prog u = .ok (.slice (some ⟨u.heap.size, 0, none⟩) n n) (u.alloc (.cells (zcells n) 5)) := by
  obtain ⟨i0, hi, hz0, hz1, hz2⟩ := info_parts info5
  have h := run_make (P := Try.prog) u 34 5 i0 (.int .u8 0) Try.underlying34 hi hz0 .u8 .u8 (n : Int) (n : Int) (by omega) (Int.le_refl _) (by rw [hz2]; omega) (by omega)
  rw [Int.toNat_natCast, hz1, Nat.mul_one] at h
  exact h
/-- the bodies taken so far -/
structure Taken (w wr : World) (k : Nat) (bs : List ByteArray) (v8 v9 : Value) : Prop where
  len : bs.length ≤ k
  size : (frames bs).size ≤ k * 1048584
  small : ∀ b ∈ bs, b.size ≤ 1048576
  strs : OwnStrs wr w.heap.size v8 bs
  ends : OwnEnds wr w.heap.size v9 bs
theorem Taken.upd0 {w wr w' : World} {k : Nat} {bs : List ByteArray} {v8 v9 : Value} (h : Taken w wr k bs v8 v9) (hu : Upd (fun _ => False) wr w') : Taken w w' k bs v8 v9 :=
  ⟨h.len, h.size, h.small, OwnStrs.upd0 h.strs hu, owns_upd h.ends hu (fun _ _ f => f)⟩
theorem Taken.skip {w wr : World} {k : Nat} {bs : List ByteArray} {v8 v9 : Value} (h : Taken w wr k bs v8 v9) : Taken w wr (k + 1) bs v8 v9 :=
  ⟨Nat.le_trans h.len (Nat.le_succ k), Nat.le_trans h.size (Nat.mul_le_mul_right _ (Nat.le_succ k)), h.small, h.strs, h.ends⟩

theorem Taken.most {w wr : World} {k m : Nat} {bs : List ByteArray} {v8 v9 : Value} (h : Taken w wr k bs v8 v9) (hm : k ≤ m) : Taken w wr m bs v8 v9 :=
  ⟨Nat.le_trans h.len hm, Nat.le_trans h.size (Nat.mul_le_mul_right _ hm), h.small, h.strs, h.ends⟩
theorem ints_oneCell' (k : IntKind) (l : List Int) : ∀ u ∈ l.map (Value.int k), u.oneCell' = true := by
  intro u hu
  obtain ⟨s, _, rfl⟩ := List.mem_map.1 hu
  rfl
def RowPost (w : World) (e : Ending) (w' : World) : Prop := SamePost true w e w'
set_option maxHeartbeats 4000000 in
set_option maxRecDepth 100000 in
theorem row_walk (a : Option Addr) (cap : Nat) (ss : List ByteArray) (n : Nat) (cut : Int) (z : Nat) (w : World) (hl : StrsAt w (.slice a n cap) ss) (hn : n = ss.length) (hs : ∀ s ∈ ss, s.size ≤ 9223372036854775807)
    (hcut : -9223372036854775808 ≤ cut ∧ cut ≤ 9223372036854775807) (hz : z < 256) : Calls Try.prog 9 #[.slice a n cap, .int .i64 cut, .int .u8 z] w (SamePost true w) := by
  obtain ⟨i9, hi9, hz90, hz91, hz92⟩ := info_parts info9
  obtain ⟨i3, hi3, hz30, hz31, hz32⟩ := info_parts info3
  have hbound := hl.bound
  unfold maxLen at hbound
  rw [← hn] at hbound
  have HL := Lib.hid hl
  have HN := Lib.hid hn
  have HSS := Lib.hid hs
  clear hl hn hs
  go_enter Try.func9, Try.ntmps9
  go_wp2_with fail
  refine (works_any _).mono ?_
  rintro e w1 ⟨rfl, hu1⟩
  go_upto_block 0 with fail
  go_cut [7, 8, 9] (fun al v8 v9 wx => ∃ bs, al = .string (frames bs) ∧ Taken w wx 50 bs v8 v9 ∧ Upd (fun _ => False) w wx)
  case first =>
   go_wp2_with fail
   go_loopw [7, 8, 9, 10] (fun al v8 v9 i wr => ∃ (k : Nat) (bs : List ByteArray), i = .int .i64 k ∧ k ≤ n ∧ k ≤ 50 ∧ al = .string (frames bs) ∧ Taken w wr k bs v8 v9 ∧ Upd (fun _ => False) w wr) (fun _ _ _ i _ => n - (intOf i).toNat)
   case atStart => exact ⟨0, [], rfl, by omega, by omega, rfl, ⟨by simp, by simp [frames_nil_size], by simp, World.ownsRow_nil _ _ _ _, World.ownsRow_nil _ _ _ _⟩, hu1⟩
   case round =>
     obtain ⟨k, bs, rfl, hk, hk50, rfl, ht, hu⟩ := hrel
     by_cases hgo : k < n ∧ k < 50
     · obtain ⟨hg1, hg2⟩ := hgo
       have hks : k < ss.length := by rw [← HN.out]; exact hg1
       obtain ⟨g, o, rfl, hc⟩ := HL.out.cell hks
       have hcr := cell_upd hu hc (fun f => f)
       have hsz := HSS.out ss[k] (List.getElem_mem hks)
       have HC := Lib.hid hc
       clear hc
       generalize ss[k] = s at *
       by_cases hsm : s.size ≤ 1048576
       · go_wp2_with fail
         refine (frame_any s _ hsm).mono ?_
         rintro e w2 ⟨rfl, hu2⟩
         have hu3 := hu.trans hu2 (fun _ _ h => h)
         have hcr2 := cell_upd hu3 HC.out (fun f => f)
         have ht2 := ht.upd0 hu2
         have hfs := frameB_size s
         have hfb := ht2.size
         clear ht hu hu2 hcr
         go_wp2_with (at_builtin; refine wpList_append_row rfl _ _ 36 rfl w.heap.size 9 i9 (.string ⟨#[]⟩) 1 16 Try.underlying36 hi9 hz90 hz91 hz92 rfl (by decide) _ _ _ rfl (OwnStrs.upd0 ht2.strs ((Upd.refl _ w2).alloc _)) _ _ _ rfl (strs_alloc [s] (by simp)) ?c2 ?c3 ?c4 ?c5 ?_)
         case c2 => exact strs_oneCell [s]
         case c3 => have := ht2.len; unfold maxLen; simp only [List.length_singleton]; omega
         case c4 => have := ht2.len; simp only [List.length_singleton]; omega
         case c5 => have := hu3.size; simp; omega
         intro v8 w3 ho8 hg8
         have hup8 := ((Upd.refl (fun i => some i = Value.ownBlock _) w2).alloc (.cells #[.string s] 9)).of_grown hg8 (fun j hj _ => hj.symm)
         have hu4 := (hu3.alloc (.cells #[.string s] 9)).of_grown hg8 (by intro j hj hj2; have := (ht2.strs.lt j hj).1; omega)
         have hends : OwnEnds w3 w.heap.size _ bs := owns_upd ht2.ends hup8 (fun g hg e => by
           rcases own_ne ht2.strs ht2.ends (by decide) with h | h
           · rw [h] at hg; cases hg
           · exact h (hg.trans e))
         have ho8' : OwnStrs w3 w.heap.size v8 (bs ++ [s]) := by unfold OwnStrs; simpa using ho8
         have hlen8 := ht2.len
         have hsz8 := ht2.size
         have hsm8 := ht2.small
         clear ho8 hg8 hup8 ht2 hcr2 hu3
         have hal : (frames bs ++ frameB s).size ≤ (k + 1) * 1048584 := by rw [ByteArray.size_append, hfs]; omega
         have hsn : frames (bs ++ [s]) = frames bs ++ frameB s := frames_snoc bs s
         have hes : endsOf (bs ++ [s]) = endsOf bs ++ [((frames bs ++ frameB s).size : Int)] := endsOf_snoc bs s
         generalize frames bs ++ frameB s = A2 at *
         have HSN := Lib.hid hsn
         have HES := Lib.hid hes
         clear hsn hes hfs hsz8
         go_wp2_with (at_builtin; refine wpList_append_row rfl _ _ 40 rfl w.heap.size 3 i3 (.int .i64 0) 1 8 Try.underlying40 hi3 hz30 hz31 hz32 rfl (by decide) _ _ _ rfl (owns_upd hends ((Upd.refl _ w3).alloc _) (fun _ _ f => f)) _ _ _ rfl (ints_alloc [(A2.size : Int)] (by simp)) ?c2 ?c3 ?c4 ?c5 ?_)
         case c2 => exact ints_oneCell' _ _
         case c3 => unfold maxLen; simp only [List.length_singleton]; omega
         case c4 => simp only [List.length_singleton]; omega
         case c5 => have := hu4.size; simp; omega
         intro v9 w4 ho9 hg9
         have hup9 := ((Upd.refl (fun i => some i = Value.ownBlock _) w3).alloc (.cells #[.int .i64 (A2.size : Int)] 3)).of_grown hg9 (fun j hj _ => hj.symm)
         have hu5 := (hu4.alloc (.cells #[.int .i64 (A2.size : Int)] 3)).of_grown hg9 (by intro j hj hj2; have := (hends.lt j hj).1; omega)
         have ho8b : OwnStrs w4 w.heap.size v8 (bs ++ [s]) := owns_upd ho8' hup9 (fun g hg e => by
           rcases own_ne hends ho8' (by decide) with h | h
           · rw [h] at hg; cases hg
           · exact h (hg.trans e))
         have ho9' : OwnEnds w4 w.heap.size v9 (bs ++ [s]) := by
           unfold OwnEnds
           rw [HES.out]
           simpa using ho9
         clear ho9 hg9 hup9 hends ho8' hu4
         go_wp2_with fail
         go_roundw
         case rel =>
           refine ⟨k + 1, bs ++ [s], by go_num, by omega, by omega, by rw [HSN.out], ⟨by simp; omega, by rw [HSN.out]; exact hal, ?_, ho8b, ho9'⟩, hu5⟩
           · intro b hb
             rcases List.mem_append.1 hb with h | h
             · exact hsm8 b h
             · rw [List.mem_singleton.1 h]; exact hsm
         case measure => simp [intOf]; omega
       · go_wp2_with fail
         refine (frame_long s _ (by omega) hsz).mono ?_
         rintro e w2 ⟨rfl, rfl⟩
         go_wp2_with fail
         go_roundw
         case rel => exact ⟨k + 1, bs, by go_num, by omega, by omega, rfl, ht.skip, hu⟩
         case measure => simp [intOf]; omega
     · have hdd : k = n ∨ (decide ((k : Int) < (n : Int)) = true ∧ k = 50) := by
         by_cases h : k < n
         · right; exact ⟨by simp; omega, by omega⟩
         · left; omega
       clear hgo
       rcases hdd with rfl | ⟨d1, rfl⟩
       all_goals
         go_wp2_with fail
         all_goals
           go_meet
           case rel => exact ⟨bs, rfl, ht.most hk50, hu⟩
  case rest =>
   obtain ⟨bs, rfl, ht, hu⟩ := hcut
   have hfsz : (frames bs).size ≤ 52429200 := ht.size
   obtain ⟨A, hA⟩ : ∃ A, A = frames bs := ⟨_, rfl⟩
   have HA := Lib.hid hA
   rw [← hA] at hfsz ⊢
   clear hA
   have hpl := at_place cut ((A.size : Int) + 1) (by omega)
   go_upto_if 65 with fail
   go_cut [13] (fun s wx => ∃ P : Nat, s = .int .i64 P ∧ P ≤ A.size ∧ wc = wx)
   case first =>
     rcases hpl with hpl | hpl
     · obtain ⟨P, hP⟩ : ∃ P : Nat, cut.tmod ((A.size : Int) + 1) = (P : Int) := ⟨_, (Int.toNat_of_nonneg hpl.1).symm⟩
       have hP0 : decide ((P : Int) < 0) = false := by simp
       have hP1 : P ≤ A.size := by omega
       clear hpl
       go_wp2_with fail
       go_meet
       case rel => exact ⟨P, by simp [hP], hP1, rfl⟩
     · obtain ⟨q, hq⟩ : ∃ q, q = cut.tmod ((A.size : Int) + 1) := ⟨_, rfl⟩
       obtain ⟨P, hP⟩ : ∃ P : Nat, cut.tmod ((A.size : Int) + 1) + (A.size : Int) + 1 = (P : Int) := ⟨_, (Int.toNat_of_nonneg (by omega)).symm⟩
       have hP1 : P ≤ A.size := by omega
       rw [← hq] at hpl hP
       have hq0 : decide (q < 0) = true := by simp; omega
       have hq1 : q < 0 := hpl.1
       have hq2 : -(A.size : Int) - 1 ≤ q := by omega
       have hQ := hq.symm
       clear hpl hq
       go_wp2_with fail
       go_meet
       case rel => exact ⟨P, rfl, hP1, rfl⟩
   case rest =>
     obtain ⟨P, rfl, hP, rfl⟩ := hcut
     clear hpl
     have hei := ht.ends.ints
     obtain ⟨ea, ecap, rfl⟩ := hei.slice
     have hel := endsOf_length bs
     have HEI := Lib.hid hei
     obtain ⟨m, hm⟩ : ∃ m, m = bs.length := ⟨_, rfl⟩
     have hm50 : m ≤ 50 := by rw [hm]; exact ht.len
     have HM := Lib.hid hm
     rw [hel, ← hm]
     have HT := Lib.hid ht
     clear hei hel hm ht
     go_upto_block 2 with fail
     go_cut [14, 15] (fun x g wx => ∃ k : Nat, x = .int .i64 k ∧ g = .int .i64 ((frames (bs.take k)).size : Nat) ∧ k ≤ m ∧ (frames (bs.take k)).size ≤ P ∧ (k < m → P < (frames (bs.take (k + 1))).size) ∧ wc = wx)
     case first =>
       go_wp2_with fail
       go_loop [14, 15, 16] (fun x g i => ∃ k : Nat, x = .int .i64 k ∧ g = .int .i64 ((frames (bs.take k)).size : Nat) ∧ i = .int .i64 k ∧ k ≤ m ∧ (frames (bs.take k)).size ≤ P) (fun _ _ i => m - (intOf i).toNat)
       case atStart => exact ⟨0, rfl, rfl, rfl, by omega, by simp [frames_nil_size]⟩
       case round =>
         obtain ⟨k, rfl, rfl, rfl, hk, hkP⟩ := hrel
         by_cases hlt : k < m
         · have hke : k < (endsOf bs).length := by rw [endsOf_length, ← HM.out]; exact hlt
           obtain ⟨g, o, rfl, hc⟩ := HEI.out.cell hke
           rw [endsOf_get] at hc
           have hlt2 : (k : Int) < (m : Int) := by omega
           generalize hsz : (frames (bs.take k)).size = F0 at *
           generalize hsz1 : (frames (bs.take (k + 1))).size = F1 at *
           have HS1 := Lib.hid hsz1
           have HS0 := Lib.hid hsz
           clear hsz hsz1 hke
           by_cases hle : F1 ≤ P
           · have hd : decide ((F1 : Int) ≤ (P : Int)) = true := by simp; omega
             go_wp2_with fail
             exact ⟨⟨k + 1, by go_num, by rw [HS1.out], by go_num, by omega, by rw [HS1.out]; exact hle⟩, by simp [intOf]; omega⟩
           · have hd : decide ((F1 : Int) ≤ (P : Int)) = false := by simp; omega
             go_wp2_with fail
             go_meet
             case rel => exact ⟨k, rfl, by rw [HS0.out], hk, by rw [HS0.out]; exact hkP, fun _ => by rw [HS1.out]; omega, rfl⟩
         · have hge : decide ((k : Int) < (m : Int)) = false := by simp; omega
           go_wp2_with fail
           go_meet
           case rel => exact ⟨k, rfl, rfl, hk, hkP, fun h => absurd h hlt, rfl⟩
     case rest =>
       obtain ⟨k, rfl, rfl, hk, hkP, hkn, rfl⟩ := hcut
       have ht := HT.out
       have hcutA : Hid (scanR (A.extract 0 P) = (bs.take k, (frames (bs.take k)).size)) := by
         show _ = _
         rw [HA.out]
         exact row_cut bs ht.small P k (by rw [← HM.out]; exact hk) hkP (fun h => hkn (by rw [HM.out]; exact h))
       have hfull : Hid (scanR (A ++ zeros z) = (bs, A.size)) := by
         show _ = _
         rw [HA.out]
         exact row_full bs ht.small _ (openM_noughts (nums_zeros z))
       have hst := StrsAt.of_own ht.strs
       obtain ⟨ba, bcap, rfl⟩ := hst.slice
       have HST := Lib.hid hst
       have hms := HM.out.symm
       rw [hms]
       have hzs := zeros_size z
       have hmz := made_u8 z (by omega)
       have hcz := made_conv z (by omega)
       have hP1 : (P : Int) ≤ (A.size : Int) := by omega
       generalize hF : (frames (bs.take k)).size = F at *
       have hFl : F ≤ A.size := by omega
       clear hkn hkP hst ht hF hms
       go_wp2_with fail
       refine (scan_any _ _ (by rw [ByteArray.size_extract]; omega)).mono ?_
       rintro e w5 ⟨v5, rfl, ho5, hu5⟩
       rw [hcutA.out] at ho5
       rw [hcutA.out]
       have hu6 := hu.trans hu5 (fun _ _ h => h)
       generalize zeros z = Z at *
       generalize zcells z = C at *
       go_wp2_with fail
       refine (scan_any _ _ (by rw [ByteArray.size_append]; omega)).mono ?_
       rintro e w6 ⟨v6, rfl, ho6, hu7⟩
       rw [hfull.out] at ho6
       rw [hfull.out]
       have hg6 := StrsAt.of_own ho6
       have hg5 := (StrsAt.of_own ho5).upd0 (((Upd.refl _ w5).alloc (.cells C 5)).trans hu7 (fun _ _ h => h))
       have hg8 := HST.out.upd0 (hu5.trans (((Upd.refl _ w5).alloc (.cells C 5)).trans hu7 (fun _ _ h => h)) (fun _ _ h => h))
       have hu8 := hu6.trans (((Upd.refl _ w5).alloc (.cells C 5)).trans hu7 (fun _ _ h => h)) (fun _ _ h => h)
       obtain ⟨a5, c5, rfl⟩ := hg5.slice
       obtain ⟨a6, c6, rfl⟩ := hg6.slice
       have hl5 : (bs.take k).length = k := by rw [List.length_take, ← HM.out]; omega
       rw [hl5]
       rw [show bs.length = m from HM.out.symm]
       have G5 := Lib.hid hg5
       have G6 := Lib.hid hg6
       have G8 := Lib.hid hg8
       clear hg5 hg6 hg8 ho5 ho6 hu5 hu6 hu7 hmz hcz hl5 hcutA hfull
       go_wp2_with fail
       go_loopw [21] (fun i wr => ∃ j : Nat, i = .int .i64 j ∧ j ≤ m ∧ Upd (fun _ => False) w6 wr) (fun i _ => m - (intOf i).toNat)
       case atStart => exact ⟨0, rfl, by omega, Upd.refl _ _⟩
       case round =>
         obtain ⟨j, rfl, hj, hur⟩ := hrel
         by_cases hlt : j < m
         · have hjb : j < bs.length := by rw [← HM.out]; exact hlt
           obtain ⟨g8, o8, rfl, hc8⟩ := G8.out.cell hjb
           obtain ⟨g6, o6, rfl, hc6⟩ := G6.out.cell hjb
           have hc8r := cell_upd hur hc8 (fun f => f)
           have hc6r := cell_upd hur hc6 (fun f => f)
           clear hc8 hc6
           by_cases hjk : j < k
           · have hjt : j < (bs.take k).length := by rw [List.length_take]; omega
             obtain ⟨g5, o5, rfl, hc5⟩ := G5.out.cell hjt
             have hc5r := cell_upd hur hc5 (fun f => f)
             rw [List.getElem_take] at hc5r
             clear hc5
             generalize bs[j] = s at *
             have hd : (s.toList == s.toList) = true := by simp
             have hjk2 : decide ((j : Int) < (k : Int)) = true := by simp; omega
             go_wp2_with fail
             go_quiet (fail)
             go_wp2_with fail
             go_roundw
             case rel => exact ⟨j + 1, by go_num, by omega, hur.drewN _⟩
             case measure => simp [intOf]; omega
           · generalize bs[j] = s at *
             have hd : (s.toList == s.toList) = true := by simp
             have hjk2 : decide ((j : Int) < (k : Int)) = false := by simp; omega
             go_wp2_with fail
             go_quiet (fail)
             go_wp2_with fail
             go_roundw
             case rel => exact ⟨j + 1, by go_num, by omega, hur.drewN _⟩
             case measure => simp [intOf]; omega
         · go_wp2_with fail
           go_ret
           exact ⟨rfl, hu8.trans hur (fun _ _ h => h)⟩
theorem row_all (a : Option Addr) (len cap : Nat) (ss : List ByteArray) (a1 a2 : Int) (w : World) (w0 : StrsAt w (.slice a len cap) ss ∧ len = ss.length ∧ ∀ s ∈ ss, s.size ≤ maxLen) (w1 : (Lit.int .i64 a1).wf = true) (w2 : (Lit.int .u8 a2).wf = true) :
    Calls Try.prog 9 #[.slice a len cap, .int .i64 a1, .int .u8 a2] w (SamePost true w) := by
  obtain ⟨hb1, hb2⟩ := byte_of_wf w2
  obtain ⟨z, rfl⟩ : ∃ z : Nat, a2 = (z : Int) := ⟨a2.toNat, by omega⟩
  refine row_walk a cap ss len a1 z w w0.1 w0.2.1 (fun s hs => ?_) (int_of_wf w1) (by omega)
  have := w0.2.2 s hs
  unfold maxLen at this
  omega
end Go.Proofs.Ytgkegfgdpekehaa
