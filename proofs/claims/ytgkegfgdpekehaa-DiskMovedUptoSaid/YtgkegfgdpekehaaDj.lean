/- The walk of the law DiskMoved (strings of at most 2^20 bytes). -/
import Derived.Test.YtgkegfgdpekehaaDi
namespace Go.Proofs.Ytgkegfgdpekehaa
open Go.RowKit Go.Acre Go.Acre.Dk Go.Maps

theorem one_put (e : Ent) : put En e [] = [e] := rfl
theorem one_get (e : Ent) : get En [e] e.name = some e := by simp [Dk.get]
theorem one_drop (e : Ent) : drop En e.name [e] = [] := by simp [Dk.drop]
theorem one_put_same (e e' : Ent) (h : e'.name = e.name) : put En e' [e] = [e'] := by
  have := put_mid En (l1 := []) (l2 := []) (x := e') (y := e) (by simp [Srt]) h
  simpa using this
theorem one_get_other (e : Ent) {k : ByteArray} (h : e.name ≠ k) : get En [e] k = none := by simp [Dk.get, h]
/-- two boxed pairs of strings -/
def Boxes (x y s t : ByteArray) (B C : Nat) (w : World) : Prop :=
  w.cell? ⟨B, 0, none⟩ = some (.string x) ∧ w.cell? ⟨B, 1, none⟩ = some (.string y) ∧ w.cell? ⟨C, 0, none⟩ = some (.string s) ∧ w.cell? ⟨C, 1, none⟩ = some (.string t)
theorem Boxes.upd {x y s t : ByteArray} {B C : Nat} {w w' : World} (h : Boxes x y s t B C w) (hu : Upd (fun _ => False) w w') : Boxes x y s t B C w' :=
  ⟨cell_upd hu h.1 (fun f => f), cell_upd hu h.2.1 (fun f => f), cell_upd hu h.2.2.1 (fun f => f), cell_upd hu h.2.2.2 (fun f => f)⟩
theorem mv1 {x s : ByteArray} (hx : nameOk x = true) (hs : s.size ≤ 1048576) : appendD 1099511627776 [] x s = ([⟨x, s, 0⟩], 0) := by
  unfold appendD
  rw [if_pos hx, if_pos (by simp [total]; omega)]
  rfl
theorem mv1_bad {x s : ByteArray} (hx : nameOk x = false) : appendD 1099511627776 [] x s = ([], 2) := by
  unfold appendD
  rw [if_neg (by simp [hx])]
theorem mv2 (x s : ByteArray) : syncD [⟨x, s, 0⟩] x = ([⟨x, s, s.size⟩], 0) := by
  unfold syncD
  rw [one_get ⟨x, s, 0⟩]
  simp only
  rw [one_put_same ⟨x, s, 0⟩ ⟨x, s, s.size⟩ rfl]
theorem mv3 {x s t : ByteArray} (hx : nameOk x = true) (hs : s.size ≤ 1048576) (ht : t.size ≤ 1048576) : appendD 1099511627776 [⟨x, s, s.size⟩] x t = ([⟨x, s ++ t, s.size⟩], 0) := by
  unfold appendD
  rw [if_pos hx, if_pos (by simp [total]; omega), one_get ⟨x, s, s.size⟩]
  simp only
  rw [one_put_same ⟨x, s, s.size⟩ ⟨x, s ++ t, s.size⟩ rfl]
theorem mv4 {x y s : ByteArray} {n : Nat} (hy : nameOk y = true) : renameD [⟨x, s, n⟩] x y = ([⟨y, s, n⟩], 0) := by
  unfold renameD
  rw [one_get ⟨x, s, n⟩]
  simp only [hy, if_true]
  rw [one_drop ⟨x, s, n⟩]
  rfl
theorem mv4_bad {x y s : ByteArray} {n : Nat} (hy : nameOk y = false) : renameD [⟨x, s, n⟩] x y = ([⟨x, s, n⟩], 2) := by
  unfold renameD
  rw [one_get ⟨x, s, n⟩]
  simp [hy]
theorem mv5 (x s : ByteArray) (n : Nat) : readD [⟨x, s, n⟩] x = (s, 0) := by unfold readD; rw [one_get ⟨x, s, n⟩]
theorem mv5_other {x y s : ByteArray} {n : Nat} (h : y ≠ x) : readD [⟨y, s, n⟩] x = (⟨#[]⟩, 5) := by unfold readD; rw [one_get_other ⟨y, s, n⟩ h]
theorem mv6 (x s : ByteArray) (n : Nat) : syncedD [⟨x, s, n⟩] x = n := by unfold syncedD; rw [one_get ⟨x, s, n⟩]
theorem bad_name {x : ByteArray} (h : nameOk x = false) : x.size = 0 ∨ 64 < x.size := by
  unfold nameOk at h
  simp only [decide_eq_false_iff_not] at h
  omega

set_option maxHeartbeats 4000000 in
set_option maxRecDepth 100000 in
theorem moved_walk (x y s t : ByteArray) (w : World) (hx : x.size ≤ 1048576) (hy : y.size ≤ 1048576) (hs : s.size ≤ 1048576) (ht : t.size ≤ 1048576) : Calls Try.prog 14 #[.agg #[.string x, .string y], .agg #[.string s, .string t]] w (SamePost true w) := by
  have hxm : x.size ≤ maxLen := by unfold maxLen; omega
  have hym : y.size ≤ maxLen := by unfold maxLen; omega
  have hsm : s.size ≤ 9223372036854775807 := by omega
  have htm : t.size ≤ 9223372036854775807 := by omega
  have hb0 : Boxes x y s t w.heap.size (w.heap.size + 1) ((w.alloc (.cells #[.string x, .string y] 64)).alloc (.cells #[.string s, .string t] 64)) := by
    have h1 : (w.alloc (.cells #[.string x, .string y] 64)).heap.size = w.heap.size + 1 := by simp
    have h2 := heap_alloc (w := w.alloc (.cells #[.string x, .string y] 64)) (.cells #[.string s, .string t] 64)
    rw [h1] at h2
    have h3 := ((Upd.refl (fun _ => False) (w.alloc (.cells #[.string x, .string y] 64))).alloc (.cells #[.string s, .string t] 64)).keep (heap_alloc (w := w) (.cells #[.string x, .string y] 64)) (fun f => f)
    exact ⟨cell_of_heap h3 0, cell_of_heap h3 1, cell_of_heap h2 0, cell_of_heap h2 1⟩
  have HU0 : Hid (Upd (fun _ => False) w ((w.alloc (.cells #[.string x, .string y] 64)).alloc (.cells #[.string s, .string t] 64))) := ((Upd.refl _ w).alloc _).alloc _
  go_enter Try.func14, Try.ntmps14
  go_upto_region 1 with fail
  generalize hB : w.heap.size = B at *
  clear hB
  generalize (w.alloc (.cells #[.string x, .string y] 64)).alloc (.cells #[.string s, .string t] 64) = wb at *
  go_wp2_with fail
  refine (dworks_any _).mono ?_
  rintro e w1 ⟨rfl, hu1⟩
  go_wp2_with fail
  refine (d_new 1099511627776 wb _ hu1 (by decide)).mono ?_
  rintro e w2 ⟨db, rfl, h2⟩
  rw [show (1099511627776 : Int).toNat = 1099511627776 from rfl] at h2
  obtain ⟨c0, c1, c2, c3⟩ := hb0.upd h2.fresh
  have HB := Lib.hid hb0
  clear hb0 hu1
  go_wp2_with fail
  refine (d_append h2 x s hxm hsm (by decide)).mono ?_
  rintro e w3 ⟨rfl, h3⟩
  cases hnx : nameOk x with
  | false =>
    rw [mv1_bad hnx]
    obtain ⟨c0, c1, c2, c3⟩ := HB.out.upd h3.fresh
    rcases bad_name hnx with h0 | h0
    · have he := isEmpty_true h0
      go_wp2_with fail
      go_ret
      exact ⟨rfl, HU0.out.trans h3.fresh (fun _ _ h => h)⟩
    · have he := isEmpty_of_pos (b := x) (by omega)
      have hd : decide ((64 : Int) < (x.size : Int)) = true := by simp; omega
      go_wp2_with fail
      go_ret
      exact ⟨by first | rfl | (show Ending.returned (Value.bool (decide _)) = _; rw [decide_eq_true (p := (64 : Int) < (x.size : Int)) (by omega)]), HU0.out.trans h3.fresh (fun _ _ h => h)⟩
  | true =>
    rw [mv1 hnx hs] at h3 ⊢
    obtain ⟨c0, c1, c2, c3⟩ := HB.out.upd h3.fresh
    clear h2
    go_wp2_with fail
    refine (d_sync h3 x hxm).mono ?_
    rintro e w4 ⟨rfl, h4⟩
    rw [mv2] at h4 ⊢
    obtain ⟨c0, c1, c2, c3⟩ := HB.out.upd h4.fresh
    clear h3
    go_wp2_with fail
    refine (d_append h4 x t hxm htm (by decide)).mono ?_
    rintro e w5 ⟨rfl, h5⟩
    rw [mv3 hnx hs ht] at h5 ⊢
    obtain ⟨c0, c1, c2, c3⟩ := HB.out.upd h5.fresh
    clear h4
    go_wp2_with fail
    refine (d_rename h5 x y hxm hym (by decide)).mono ?_
    rintro e w6 ⟨rfl, h6⟩
    have hst : (s ++ t).size ≤ 2097152 := by rw [ByteArray.size_append]; omega
    have hsl : ((s ++ t).toList == (s ++ t).toList) = true := by simp
    cases hny : nameOk y with
    | false =>
      rw [mv4_bad hny] at h6 ⊢
      obtain ⟨c0, c1, c2, c3⟩ := HB.out.upd h6.fresh
      clear h5
      rcases bad_name hny with h0 | h0
      · have he := isEmpty_true h0
        go_wp2_with fail
        refine (d_read h6 x hxm).mono ?_
        rintro e w7 ⟨rfl, rfl⟩
        rw [mv5]
        go_wp2_with fail
        go_ret
        exact ⟨rfl, HU0.out.trans h6.fresh (fun _ _ h => h)⟩
      · have he := isEmpty_of_pos (b := y) (by omega)
        have hd : decide ((64 : Int) < (y.size : Int)) = true := by simp; omega
        go_wp2_with fail
        refine (d_read h6 x hxm).mono ?_
        rintro e w7 ⟨rfl, rfl⟩
        rw [mv5]
        go_wp2_with fail
        go_ret
        exact ⟨rfl, HU0.out.trans h6.fresh (fun _ _ h => h)⟩
    | true =>
      rw [mv4 hny] at h6 ⊢
      obtain ⟨c0, c1, c2, c3⟩ := HB.out.upd h6.fresh
      clear h5
      go_wp2_with fail
      refine (d_read h6 y hym).mono ?_
      rintro e w7 ⟨rfl, rfl⟩
      rw [mv5]
      go_wp2_with fail
      refine (d_read h6 x hxm).mono ?_
      rintro e w7 ⟨rfl, rfl⟩
      have hsy : ∀ m, Calls Try.prog 48 #[.pointer (some ⟨db, 0, none⟩), .string y] (w6.drewN m) fun e w' => e = .returned (.int .i64 (s.size : Nat)) ∧ w' = w6.drewN m := fun m => (d_synced (h6.upd ((Upd.refl _ _).drewN m)) y hym).mono (by
        rintro e w' ⟨rfl, rfl⟩
        rw [mv6]
        exact ⟨rfl, rfl⟩)
      by_cases hxy : y = x
      · subst hxy
        rw [mv5]
        have hyl : (y.toList == y.toList) = true := by simp
        go_wp2_with fail
        go_quiet (refine Calls.quiet_of_same (hsy _))
        go_wp2_with fail
        go_ret
        exact ⟨rfl, (HU0.out.trans h6.fresh (fun _ _ h => h)).drewN _⟩
      · rw [mv5_other hxy]
        have hyl : (x.toList == y.toList) = false := by rw [str_eql]; simp [Ne.symm hxy]
        go_wp2_with fail
        go_quiet (refine Calls.quiet_of_same (hsy _))
        go_wp2_with fail
        go_ret
        exact ⟨rfl, (HU0.out.trans h6.fresh (fun _ _ h => h)).drewN _⟩
theorem moved_all (x y s t : ByteArray) (w : World) (h0 : x.size ≤ 1048576 ∧ y.size ≤ 1048576) (h1 : s.size ≤ 1048576 ∧ t.size ≤ 1048576) : Calls Try.prog 14 #[.agg #[.string x, .string y], .agg #[.string s, .string t]] w (SamePost true w) :=
  moved_walk x y s t w h0.1 h0.2 h1.1 h1.2
end Go.Proofs.Ytgkegfgdpekehaa
