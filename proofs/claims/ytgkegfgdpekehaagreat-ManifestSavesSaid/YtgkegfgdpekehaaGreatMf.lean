/- The walks of the program's reader. -/
import Derived.Test.YtgkegfgdpekehaaGreatMc
namespace Go.Proofs.YtgkegfgdpekehaaGreat
open Go.RowKit Go.Acre
/-- a reader whose rest is s -/
def Rdr (T : TypeId) (w : World) (rb : Nat) (s : ByteArray) : Prop := w.heap[rb]? = some (.cells #[.string s] T (0, 0))
theorem Rdr.cell {T : TypeId} {w : World} {rb : Nat} {s : ByteArray} (h : Rdr T w rb s) : w.cell? ⟨rb, 0, none⟩ = some (.string s) ∧ w.frozen? ⟨rb, 0, none⟩ = false := ⟨cell_of_heap h 0, frozen_of_heap h 0 none⟩
theorem Rdr.set {T : TypeId} {w : World} {rb : Nat} {s : ByteArray} (h : Rdr T w rb s) (t : ByteArray) : Rdr T (w.setCell ⟨rb, 0, none⟩ (.string t)) rb t := by
  unfold Rdr at h ⊢
  have := heap_setCell (o := 0) h (.string t)
  simpa using this
theorem upd1 {w : World} {b o : Nat} {v : Value} : Upd (fun i => i = b) w (w.setCell ⟨b, o, none⟩ v) := Upd.setCell (Upd.refl (fun i => i = b) w) (p := ⟨b, o, none⟩) (fun _ => rfl) _
theorem Rdr.upd {T : TypeId} {w w' : World} {rb : Nat} {s : ByteArray} (h : Rdr T w rb s) {S : Nat → Prop} (hu : Upd S w w') (hS : ¬ S rb) : Rdr T w' rb s := hu.keep h hS
theorem wnew_any (s : ByteArray) (w : World) : Calls Tryz.prog 47 #[.string s] w fun e w' => e = .returned (.pointer (some ⟨w.heap.size, 0, none⟩)) ∧ w' = w.alloc (.cells #[.string s] 113) := by
  go_enter Tryz.func47, Tryz.ntmps47
  go_wp2_with fail
  go_ret
  exact ⟨rfl, rfl⟩
theorem rest_any {w : World} {rb : Nat} {s : ByteArray} (h : Rdr 113 w rb s) : Calls Tryz.prog 71 #[.pointer (some ⟨rb, 0, none⟩)] w fun e w' => e = .returned (.string s) ∧ w = w' := by
  obtain ⟨h0, _⟩ := h.cell
  clear h
  go_enter Tryz.func71, Tryz.ntmps71
  go_wp2_with fail
  go_ret
  exact ⟨rfl, rfl⟩
theorem left_any {w : World} {rb : Nat} {s : ByteArray} (h : Rdr 113 w rb s) : Calls Tryz.prog 52 #[.pointer (some ⟨rb, 0, none⟩)] w fun e w' => e = .returned (.int .i64 (s.size : Nat)) ∧ w = w' := by
  have H := Lib.hid h
  clear h
  go_enter Tryz.func52, Tryz.ntmps52
  go_wp2_with fail
  refine (rest_any H.out).mono ?_
  rintro e w' ⟨rfl, rfl⟩
  go_wp2_with fail
  go_ret
  exact ⟨rfl, rfl⟩
def TakePost (T : TypeId) (rb : Nat) (s : ByteArray) (n : Nat) (w : World) (e : Ending) (w' : World) : Prop := e = .returned (.tuple #[.string (s.extract 0 n), .bool true]) ∧ Rdr T w' rb (s.extract n s.size) ∧ Upd (fun i => i = rb) w w'
theorem take_any {w : World} {rb : Nat} {s : ByteArray} (h : Rdr 113 w rb s) (n : Nat) (hn : n ≤ s.size) (hs : s.size ≤ 9223372036854775807) : Calls Tryz.prog 72 #[.pointer (some ⟨rb, 0, none⟩), .int .i64 (n : Nat)] w (TakePost 113 rb s n w) := by
  obtain ⟨h0, h1⟩ := h.cell
  have H := Lib.hid (h.set (s.extract n s.size))
  have hni : (n : Int) ≤ (s.size : Int) := by omega
  have hn0 : (0 : Int) ≤ (n : Int) := by omega
  have hng : ¬ (n : Int) > (s.size : Int) := by omega
  clear h
  go_enter Tryz.func72, Tryz.ntmps72
  go_wp2_with fail
  go_ret2
  exact ⟨rfl, H.out, upd1⟩
def numS (s : ByteArray) : Nat × Bool × ByteArray := match numB s with | some (v, n) => (v, true, s.extract n s.size) | none => (0, false, s)
def textS (s : ByteArray) : ByteArray × Bool × ByteArray := match textB s 32 with | some (t, n) => (t, true, s.extract n s.size) | none => (⟨#[]⟩, false, s)
def NumPost (T : TypeId) (rb : Nat) (s : ByteArray) (w : World) (e : Ending) (w' : World) : Prop := e = .returned (.tuple #[.int .u64 ((numS s).1 : Nat), .bool (numS s).2.1]) ∧ Rdr T w' rb (numS s).2.2 ∧ Upd (fun i => i = rb) w w'
def TextPost (T : TypeId) (rb : Nat) (s : ByteArray) (w : World) (e : Ending) (w' : World) : Prop := e = .returned (.tuple #[.string (textS s).1, .bool (textS s).2.1]) ∧ Rdr T w' rb (textS s).2.2 ∧ Upd (fun i => i = rb) w w'
theorem extract_all (s : ByteArray) : s.extract 0 s.size = s := by
  apply nums_inj
  rw [nums_extract, ← nums_length, List.take_length]
  rfl
set_option maxRecDepth 100000 in
theorem rd_number {w : World} {rb : Nat} {s : ByteArray} (h : Rdr 113 w rb s) (hs : s.size ≤ 9223372036854775807) : Calls Tryz.prog 49 #[.pointer (some ⟨rb, 0, none⟩)] w (NumPost 113 rb s w) := by
  have H := Lib.hid h
  clear h
  cases hn : numB s with
  | none =>
    have HN : Hid (numS s = (0, false, s)) := by show _ = _; unfold numS; rw [hn]
    have HR : Hid (numB s = none) := hn
    clear hn
    go_enter Tryz.func49, Tryz.ntmps49
    go_wp2_with fail
    refine (rest_any H.out).mono ?_
    rintro e w' ⟨rfl, rfl⟩
    go_wp2_with fail
    refine (number_any s _ hs).mono ?_
    rintro e w' ⟨rfl, rfl⟩
    rw [HR.out]
    unfold fN sN
    go_wp2_with fail
    refine (take_any H.out 0 (by omega) hs).mono ?_
    rintro e w' ⟨rfl, h2, hu⟩
    rw [extract_all] at h2
    go_wp2_with fail
    go_ret2
    exact ⟨by rw [HN.out]; rfl, by rw [HN.out]; exact h2, hu⟩
  | some p =>
    obtain ⟨v, n⟩ := p
    have HN : Hid (numS s = (v, true, s.extract n s.size)) := by show _ = _; unfold numS; rw [hn]
    have HR : Hid (numB s = some (v, n)) := hn
    have hle := (numB_some hn).2.2.2.1
    have hpos := (numB_some hn).2.2.2.2
    have hn0 : ((n : Int) == 0) = false := by simp; omega
    clear hn
    go_enter Tryz.func49, Tryz.ntmps49
    go_wp2_with fail
    refine (rest_any H.out).mono ?_
    rintro e w' ⟨rfl, rfl⟩
    go_wp2_with fail
    refine (number_any s _ hs).mono ?_
    rintro e w' ⟨rfl, rfl⟩
    rw [HR.out]
    rw [show fN (some (v, n)) = v from rfl, show sN (some (v, n)) = n from rfl]
    have HLE := Lib.hid hle
    have hn1 : ¬ n = 0 := by omega
    clear hle hpos
    go_wp2_with fail
    refine (take_any H.out n HLE.out hs).mono ?_
    rintro e w' ⟨rfl, h2, hu⟩
    have H2 := Lib.hid h2
    clear h2
    go_wp2_with fail
    go_ret2
    exact ⟨by rw [HN.out]; rfl, by rw [HN.out]; exact H2.out, hu⟩
theorem extract_two (s : ByteArray) (n m : Nat) : (s.extract 0 m).extract n m = s.extract n m := by
  apply nums_inj
  rw [nums_extract, nums_extract, nums_extract, List.drop_zero, List.take_take, Nat.min_self]
set_option maxRecDepth 100000 in
set_option maxHeartbeats 2000000 in
theorem rd_text {w : World} {rb : Nat} {s : ByteArray} (h : Rdr 113 w rb s) (hs : s.size ≤ 9223372036854775807) : Calls Tryz.prog 51 #[.pointer (some ⟨rb, 0, none⟩), .int .i64 32] w (TextPost 113 rb s w) := by
  have H := Lib.hid h
  clear h
  cases hn : numB s with
  | none =>
    have HN : Hid (textS s = (⟨#[]⟩, false, s)) := by show _ = _; unfold textS textB; rw [hn]
    have HR : Hid (numB s = none) := hn
    clear hn
    go_enter Tryz.func51, Tryz.ntmps51
    go_wp2_with fail
    refine (rest_any H.out).mono ?_
    rintro e w' ⟨rfl, rfl⟩
    go_wp2_with fail
    refine (number_any s _ hs).mono ?_
    rintro e w' ⟨rfl, rfl⟩
    rw [HR.out, show fN none = 0 from rfl, show sN none = 0 from rfl]
    go_wp2_with fail
    go_ret2
    exact ⟨by rw [HN.out]; rfl, by rw [HN.out]; exact H.out, Upd.refl _ _⟩
  | some p =>
    obtain ⟨v, n⟩ := p
    have HR : Hid (numB s = some (v, n)) := hn
    have hle := (numB_some hn).2.2.2.1
    have hpos := (numB_some hn).2.2.2.2
    have hv18 := (numB_some hn).2.2.1
    have hn0 : ((n : Int) == 0) = false := by simp; omega
    have hn1 : ¬ n = 0 := by omega
    have hni : (n : Int) ≤ (s.size : Int) := by omega
    by_cases hv : v ≤ 32
    · have hvi : ¬ (v : Int) > 32 := by omega
      have hvj : (v : Int) ≤ 32 := by omega
      by_cases hf : v ≤ s.size - n
      · have HN : Hid (textS s = (s.extract n (n + v), true, s.extract (n + v) s.size)) := by show _ = _; unfold textS textB; rw [hn]; simp only; rw [if_pos ⟨hv, hf⟩]
        have HX := Lib.hid (extract_two s n (n + v))
        have hfi : ¬ (v : Int) > (s.size : Int) - (n : Int) := by omega
        have hfj : (v : Int) ≤ (s.size : Int) - (n : Int) := by omega
        have hsum : n + v ≤ s.size := by omega
        have hsz : (s.extract 0 (n + v)).size = n + v := by rw [ByteArray.size_extract]; omega
        have hnv : (n : Int) ≤ ((s.extract 0 (n + v)).size : Int) := by omega
        have HSZ := Lib.hid hsz
        clear hn hle hf hsz
        go_enter Tryz.func51, Tryz.ntmps51
        go_wp2_with fail
        refine (rest_any H.out).mono ?_
        rintro e w' ⟨rfl, rfl⟩
        go_wp2_with fail
        refine (number_any s _ hs).mono ?_
        rintro e w' ⟨rfl, rfl⟩
        rw [HR.out, show fN (some (v, n)) = v from rfl, show sN (some (v, n)) = n from rfl]
        go_wp2_with fail
        rw [show (n : Int) + (v : Int) = ((n + v : Nat) : Int) from rfl]
        refine (take_any H.out (n + v) hsum hs).mono ?_
        rintro e w' ⟨rfl, h2, hu⟩
        have H2 := Lib.hid h2
        clear h2
        go_wp2_with fail
        go_ret2
        exact ⟨by rw [HN.out, ← HX.out]; rfl, by rw [HN.out]; exact H2.out, hu⟩
      · have HN : Hid (textS s = (⟨#[]⟩, false, s)) := by show _ = _; unfold textS textB; rw [hn]; simp only; rw [if_neg (fun h => hf h.2)]
        have hfi : (v : Int) > (s.size : Int) - (n : Int) := by omega
        clear hn hle hf
        go_enter Tryz.func51, Tryz.ntmps51
        go_wp2_with fail
        refine (rest_any H.out).mono ?_
        rintro e w' ⟨rfl, rfl⟩
        go_wp2_with fail
        refine (number_any s _ hs).mono ?_
        rintro e w' ⟨rfl, rfl⟩
        rw [HR.out, show fN (some (v, n)) = v from rfl, show sN (some (v, n)) = n from rfl]
        go_wp2_with fail
        go_ret2
        exact ⟨by rw [HN.out]; rfl, by rw [HN.out]; exact H.out, Upd.refl _ _⟩
    · have HN : Hid (textS s = (⟨#[]⟩, false, s)) := by show _ = _; unfold textS textB; rw [hn]; simp only; rw [if_neg (fun h => hv h.1)]
      have hvi : (v : Int) > 32 := by omega
      clear hn hle hv
      go_enter Tryz.func51, Tryz.ntmps51
      go_wp2_with fail
      refine (rest_any H.out).mono ?_
      rintro e w' ⟨rfl, rfl⟩
      go_wp2_with fail
      refine (number_any s _ hs).mono ?_
      rintro e w' ⟨rfl, rfl⟩
      rw [HR.out, show fN (some (v, n)) = v from rfl, show sN (some (v, n)) = n from rfl]
      go_wp2_with fail
      go_ret2
      exact ⟨by rw [HN.out]; rfl, by rw [HN.out]; exact H.out, Upd.refl _ _⟩
end Go.Proofs.YtgkegfgdpekehaaGreat
/- The walks of the reference's reader. -/
namespace Go.Proofs.YtgkegfgdpekehaaGreat
open Go.RowKit Go.Acre
theorem num_shape (v : Nat) : ∃ (hi : List Nat) (last : Nat), num v = hi ++ [last] ∧ last < 128 ∧ ∀ b ∈ hi, 128 ≤ b := by
  induction v using Nat.strongRecOn with
  | _ v ih =>
    by_cases h : v < 128
    · exact ⟨[], v, num_small h, h, by simp⟩
    · obtain ⟨hi, last, h1, h2, h3⟩ := ih (v / 128) (by omega)
      refine ⟨(v % 128 + 128) :: hi, last, by rw [num_big (by omega), h1]; rfl, h2, fun b hb => ?_⟩
      rcases List.mem_cons.1 hb with rfl | hb
      · omega
      · exact h3 b hb
def val : List Nat → Nat
  | [] => 0
  | c :: r => c % 128 + 128 * val r
theorem val_num (v : Nat) : val (num v) = v := by
  induction v using Nat.strongRecOn with
  | _ v ih =>
    by_cases h : v < 128
    · rw [num_small h]; simp [val]; omega
    · rw [num_big (by omega)]
      simp only [val]
      rw [ih (v / 128) (by omega)]
      omega
/-- the first byte that is small ends the number -/
theorem numB_first {s : ByteArray} {v n : Nat} (h : numB s = some (v, n)) : ∃ hn : n - 1 < s.size, s[n - 1].toNat < 128 ∧ ∀ j, (hj : j < n - 1) → 128 ≤ (s[j]'(by omega)).toNat := by
  obtain ⟨h1, h2, h3, h4, h5⟩ := numB_some h
  obtain ⟨hi, last, e, hl, hh⟩ := num_shape v
  have hlen : hi.length = n - 1 := by
    have := congrArg List.length e
    simp at this
    omega
  have hs : nums s = hi ++ last :: nums (s.extract n s.size) := by
    have := congrArg nums h1
    rw [nums_append, nums_str (num_byte v), e] at this
    simpa using this
  have hg : ∀ j, (hj : j < s.size) → (nums s)[j]? = some s[j].toNat := fun j hj => by
    rw [List.getElem?_eq_getElem (by rw [nums_length]; exact hj), nums_get s j hj]
  refine ⟨by omega, ?_, fun j hj => ?_⟩
  · have a := hg (n - 1) (by omega)
    rw [hs, List.getElem?_append_right (by omega), hlen] at a
    simp at a
    omega
  · have a := hg j (by omega)
    rw [hs, List.getElem?_append_left (by omega), List.getElem?_eq_getElem (by omega)] at a
    simp only [Option.some.injEq] at a
    rw [← a]
    exact hh _ (List.getElem_mem _)
theorem numB_val {s : ByteArray} {v n : Nat} (h : numB s = some (v, n)) : val ((nums s).take n) = v ∧ s.extract 0 n = str (num v) := by
  obtain ⟨h1, h2, h3, h4, h5⟩ := numB_some h
  have e : (nums s).take n = num v := by
    have := congrArg nums h1
    rw [nums_append, nums_str (num_byte v)] at this
    rw [this, h2, List.take_left]
  refine ⟨by rw [e, val_num], ?_⟩
  apply nums_inj
  rw [nums_extract, List.drop_zero, e, nums_str (num_byte v)]
theorem numB_of {s : ByteArray} {v n : Nat} (hv : v < 18446744073709551616) (hn : n ≤ s.size) (h : str (num v) = s.extract 0 n) : numB s = some (v, n) := by
  have e : s = str (num v) ++ s.extract n s.size := by
    apply nums_inj
    rw [nums_append, h, nums_extract, nums_extract, List.drop_zero, ← nums_length, List.take_length, List.take_append_drop]
  have hl : (num v).length = n := by
    have := congrArg ByteArray.size h
    rw [str_size, ByteArray.size_extract] at this
    omega
  have := numB_num (s.extract n s.size) hv
  rw [← e, hl] at this
  exact this
/-- no byte so far is small -/
def Big (s : ByteArray) (k : Nat) : Prop := ∀ j, (hj : j < s.size) → j < k → 128 ≤ s[j].toNat
theorem big_none {s : ByteArray} {k : Nat} (h : Big s k) (hk : k = s.size ∨ 10 ≤ k) : numB s = none := by
  cases hn : numB s with
  | none => rfl
  | some p =>
    obtain ⟨v, n⟩ := p
    obtain ⟨h1, h2, _⟩ := numB_first hn
    obtain ⟨_, h4, h5, h6, h7⟩ := numB_some hn
    have := num_ten h5
    have := h (n - 1) h1 (by omega)
    omega
theorem big_end {s : ByteArray} {k v n : Nat} (h : Big s k) (hk : k < s.size) (hc : s[k].toNat < 128) (hn : numB s = some (v, n)) : n = k + 1 := by
  obtain ⟨h1, h2, h3⟩ := numB_first hn
  obtain ⟨_, h4, h5, h6, h7⟩ := numB_some hn
  rcases Nat.lt_trichotomy (n - 1) k with hlt | heq | hgt
  · have := h (n - 1) h1 hlt; omega
  · omega
  · have := h3 k hgt; omega
/-- .. so that the bytes are a number just if they are the number's that was reckoned -/
theorem big_test {s : ByteArray} {k v : Nat} (h : Big s k) (hk : k < s.size) (hc : s[k].toNat < 128) (hv : v = val ((nums s).take (k + 1)) % 18446744073709551616) :
    numB s = if str (num v) = s.extract 0 (k + 1) then some (v, k + 1) else none := by
  split
  · rename_i e
    exact numB_of (by omega) (by omega) e
  · rename_i e
    cases hn : numB s with
    | none => rfl
    | some p =>
      obtain ⟨v', n⟩ := p
      have e1 := big_end h hk hc hn
      subst e1
      obtain ⟨h2, h3⟩ := numB_val hn
      have h4 := (numB_some hn).2.2.1
      exfalso
      apply e
      rw [hv, h2, Nat.mod_eq_of_lt h4, h3]
theorem or_low (x c : Nat) (hx : x < 18446744073709551616) (hc : c < 128) : bits .or .u64 ((x : Int) * 128 % 18446744073709551616) (c : Int) = (((128 * x + c) % 18446744073709551616 : Nat) : Int) := by
  have e1 : (x : Int) * 128 % 18446744073709551616 = ((2 ^ 7 * (x % 144115188075855872) : Nat) : Int) := by omega
  rw [e1, u64_or_nat _ _ (by omega) (by omega), or_add 7 _ c (by omega)]
  omega
end Go.Proofs.YtgkegfgdpekehaaGreat
/- The walks of the reference's TakeNumber, TakeText and reader. -/
namespace Go.Proofs.YtgkegfgdpekehaaGreat
open Go.RowKit Go.Acre
def TakeRet (r : Option (Nat × Nat)) (w : World) (e : Ending) (w' : World) : Prop := e = .returned (.tuple #[.int .u64 (fN r : Nat), .int .i64 (sN r : Nat)]) ∧ Upd (fun _ => False) w w'
theorem or_low2 (x c : Nat) (hx : x < 18446744073709551616) : bits .or .u64 (IntKind.u64.wrap ((x : Int) * 128)) ((c : Int) % 128) = (((128 * x + c % 128) % 18446744073709551616 : Nat) : Int) := by
  have h := or_low x (c % 128) hx (by omega)
  rw [IntKind.wrap_u64]
  exact h
set_option maxHeartbeats 4000000 in
set_option maxRecDepth 100000 in
theorem rtake_number (s : ByteArray) (w : World) (hs : s.size ≤ 9223372036854775807) : Calls Tryz.prog 88 #[.string s] w (TakeRet (numB s) w) := by
  go_enter Tryz.func88, Tryz.ntmps88
  go_wp2_with fail
  go_loopw [4] (fun n wr => ∃ k : Nat, n = .int .i64 ((k : Int) + 1) ∧ k ≤ s.size ∧ k ≤ 10 ∧ Hid (Big s k) ∧ w = wr) (fun n _ => s.size + 1 - (intOf n).toNat)
  case atStart => exact ⟨0, rfl, by omega, by omega, fun j _ h => absurd h (Nat.not_lt_zero _), rfl⟩
  case round =>
    obtain ⟨k, rfl, hk, hk10, HB, rfl⟩ := hrel
    by_cases hgo : k < 10 ∧ k < s.size
    · obtain ⟨hg1, hg2⟩ := hgo
      have hi1 : (k : Int) + 1 ≤ 10 := by omega
      have hi2 : (k : Int) + 1 ≤ (s.size : Int) := by omega
      have hsub : IntKind.i64.wrap ((k : Int) + 1 - 1) = (k : Int) := by rw [IntKind.wrap_i64]; omega
      have hc256 : s[k].toNat < 256 := s[k].toNat_lt
      by_cases hc : 128 ≤ s[k].toNat
      · have hd : decide ((128 : Int) ≤ (s[k].toNat : Int)) = true := by simp; omega
        have HB2 : Hid (Big s (k + 1)) := fun j hj hjk => by
          by_cases e : j = k
          · subst e; exact hc
          · exact HB.out j hj (by omega)
        clear hc
        go_wp2_with fail
        exact ⟨⟨k + 1, by go_num, by omega, by omega, HB2, trivial⟩, by simp [intOf]; omega⟩
      · have hd : decide ((128 : Int) ≤ (s[k].toNat : Int)) = false := by simp; omega
        have HC : Hid (s[k].toNat < 128) := by show _ < _; omega
        clear hc hc256
        go_wp2_with fail
        clear hd
        go_loop [5, 6] (fun v i => ∃ (m x : Nat) (z : Int), v = .int .u64 (x : Nat) ∧ i = .int .i64 z ∧ z = (m : Int) - 1 ∧ m ≤ k + 1 ∧ x < 18446744073709551616 ∧ Hid (x = val (((nums s).take (k + 1)).drop m) % 18446744073709551616)) (fun _ i => (intOf i + 1).toNat)
        case atStart => exact ⟨k + 1, 0, (k : Int), rfl, rfl, by omega, by omega, by omega, by show _ = _; rw [List.drop_eq_nil_of_le (by simp; omega)]; rfl⟩
        case round =>
          obtain ⟨m, x, z, rfl, rfl, hz, hmk, hx, HX⟩ := hrel
          rcases m with _ | m
          · have hzn : z < 0 := by omega
            have HX0 : Hid (x = val ((nums s).take (k + 1)) % 18446744073709551616) := HX.out
            clear HX
            have HT := Lib.hid (big_test HB.out hg2 HC.out HX0.out)
            have hse0 : ((str (num x)).toList == (s.extract 0 (k + 1)).toList) = decide (str (num x) = s.extract 0 (k + 1)) := str_eql _ _
            clear hz HX0
            by_cases he : str (num x) = s.extract 0 (k + 1)
            · have HN : Hid (numB s = some (x, k + 1)) := by show _ = _; rw [HT.out, if_pos he]
              have hse : ((str (num x)).toList == (s.extract 0 (k + 1)).toList) = true := by rw [hse0]; simpa using he
              clear he hse0 HT
              go_wp2_with fail
              have h0k : (0 : Int) ≤ (k : Int) + 1 := by omega
              have htn : ((k : Int) + 1).toNat = k + 1 := by omega
              go_region_held3 (fun _ => True) (exact trivial) (first | (go_at_call 80; refine (rnumber_any x _ hx).mono ?_; rintro e w5 ⟨rfl, hu5⟩))
              go_wp2_with fail
              go_ret2
              exact ⟨by rw [HN.out]; rfl, (Upd.refl _ _).drew.trans hu5 (fun _ _ f => f)⟩
            · have HN : Hid (numB s = none) := by show _ = _; rw [HT.out, if_neg he]
              have hse : ((str (num x)).toList == (s.extract 0 (k + 1)).toList) = false := by rw [hse0]; simpa using he
              clear he hse0 HT
              go_wp2_with fail
              have h0k : (0 : Int) ≤ (k : Int) + 1 := by omega
              have htn : ((k : Int) + 1).toNat = k + 1 := by omega
              go_region_held3 (fun _ => True) (exact trivial) (first | (go_at_call 80; refine (rnumber_any x _ hx).mono ?_; rintro e w5 ⟨rfl, hu5⟩))
              go_wp2_with fail
              go_ret2
              exact ⟨by rw [HN.out]; rfl, (Upd.refl _ _).drew.trans hu5 (fun _ _ f => f)⟩
          · obtain rfl : z = (m : Int) := by omega
            clear hz
            have hms : m < s.size := by omega
            have hmi : (m : Int) < (s.size : Int) := by omega
            have HX2 : Hid ((128 * x + s[m].toNat % 128) % 18446744073709551616 = val (((nums s).take (k + 1)).drop m) % 18446744073709551616) := by
              show _ = _
              have e : ((nums s).take (k + 1)).drop m = s[m].toNat :: ((nums s).take (k + 1)).drop (m + 1) := by
                rw [List.drop_eq_getElem_cons (by simp [nums_length]; omega), List.getElem_take, nums_get s m hms]
              rw [e]
              have := HX.out
              simp only [val]
              omega
            go_wp2_with fail
            exact ⟨⟨m, (128 * x + s[m].toNat % 128) % 18446744073709551616, (m : Int) - 1, by rw [or_low2 x s[m].toNat hx], rfl, rfl, by omega, by omega, HX2⟩, by simp [intOf] <;> omega⟩
    · have HN := Lib.hid (big_none HB.out (by omega))
      by_cases h10 : k < 10
      · have hi1 : (k : Int) + 1 ≤ 10 := by omega
        have hi2 : ¬ (k : Int) + 1 ≤ (s.size : Int) := by omega
        clear hgo
        go_wp2_with fail
        go_ret2
        exact ⟨by rw [HN.out]; rfl, Upd.refl _ _⟩
      · have hi1 : ¬ (k : Int) + 1 ≤ 10 := by omega
        clear hgo
        go_wp2_with fail
        go_ret2
        exact ⟨by rw [HN.out]; rfl, Upd.refl _ _⟩
def TextRet (r : Option (ByteArray × Nat)) (w : World) (e : Ending) (w' : World) : Prop :=
  e = .returned (.tuple #[.string (match r with | some p => p.1 | none => ⟨#[]⟩), .int .i64 ((match r with | some p => p.2 | none => 0 : Nat) : Nat)]) ∧ Upd (fun _ => False) w w'
set_option maxHeartbeats 4000000 in
set_option maxRecDepth 100000 in
theorem rtake_text (s : ByteArray) (w : World) (hs : s.size ≤ 9223372036854775807) : Calls Tryz.prog 89 #[.string s, .int .i64 32] w (TextRet (textB s 32) w) := by
  cases hn : numB s with
  | none =>
    have HN : Hid (textB s 32 = none) := by show _ = _; unfold textB; rw [hn]
    have HR : Hid (numB s = none) := hn
    clear hn
    go_enter Tryz.func89, Tryz.ntmps89
    go_wp2_with fail
    refine (rtake_number s _ hs).mono ?_
    rintro e w' ⟨rfl, hu⟩
    rw [HR.out, show fN none = 0 from rfl, show sN none = 0 from rfl]
    go_wp2_with fail
    go_ret2
    exact ⟨by rw [HN.out]; rfl, hu⟩
  | some p =>
    obtain ⟨v, n⟩ := p
    have HR : Hid (numB s = some (v, n)) := hn
    have hle := (numB_some hn).2.2.2.1
    have hpos := (numB_some hn).2.2.2.2
    have hv18 := (numB_some hn).2.2.1
    have hn0 : ((n : Int) == 0) = false := by simp; omega
    have hn1 : ¬ n = 0 := by omega
    have hni : (n : Int) ≤ (s.size : Int) := by omega
    by_cases hf : v ≤ s.size - n
    · have hfi : ¬ (v : Int) > (s.size : Int) - (n : Int) := by omega
      have hfj : (v : Int) ≤ (s.size : Int) - (n : Int) := by omega
      by_cases hv : v ≤ 32
      · have hvi : ¬ (v : Int) > 32 := by omega
        have hvj : (v : Int) ≤ 32 := by omega
        have HN : Hid (textB s 32 = some (s.extract n (n + v), n + v)) := by show _ = _; unfold textB; rw [hn]; simp only; rw [if_pos ⟨hv, hf⟩]
        have hsum : (n : Int) + (v : Int) ≤ (s.size : Int) := by omega
        have hsum2 : (n : Int) ≤ (n : Int) + (v : Int) := by omega
        have htn : ((n : Int) + (v : Int)).toNat = n + v := by omega
        clear hn hle hf hv
        go_enter Tryz.func89, Tryz.ntmps89
        go_wp2_with fail
        refine (rtake_number s _ hs).mono ?_
        rintro e w' ⟨rfl, hu⟩
        rw [HR.out, show fN (some (v, n)) = v from rfl, show sN (some (v, n)) = n from rfl]
        go_wp2_with fail
        go_ret2
        exact ⟨by rw [HN.out]; rfl, hu⟩
      · have hvi : (v : Int) > 32 := by omega
        have HN : Hid (textB s 32 = none) := by show _ = _; unfold textB; rw [hn]; simp only; rw [if_neg (fun h => hv h.1)]
        clear hn hle hf hv
        go_enter Tryz.func89, Tryz.ntmps89
        go_wp2_with fail
        refine (rtake_number s _ hs).mono ?_
        rintro e w' ⟨rfl, hu⟩
        rw [HR.out, show fN (some (v, n)) = v from rfl, show sN (some (v, n)) = n from rfl]
        go_wp2_with fail
        go_ret2
        exact ⟨by rw [HN.out]; rfl, hu⟩
    · have HN : Hid (textB s 32 = none) := by show _ = _; unfold textB; rw [hn]; simp only; rw [if_neg (fun h => hf h.2)]
      have hfi : (v : Int) > (s.size : Int) - (n : Int) := by omega
      clear hn hle hf
      go_enter Tryz.func89, Tryz.ntmps89
      go_wp2_with fail
      refine (rtake_number s _ hs).mono ?_
      rintro e w' ⟨rfl, hu⟩
      rw [HR.out, show fN (some (v, n)) = v from rfl, show sN (some (v, n)) = n from rfl]
      go_wp2_with fail
      go_ret2
      exact ⟨by rw [HN.out]; rfl, hu⟩
theorem rnew_reader (s : ByteArray) (w : World) : Calls Tryz.prog 75 #[.string s] w fun e w' => e = .returned (.pointer (some ⟨w.heap.size, 0, none⟩)) ∧ w' = w.alloc (.cells #[.string s] 136) := by
  go_enter Tryz.func75, Tryz.ntmps75
  go_wp2_with fail
  go_ret
  exact ⟨rfl, rfl⟩
theorem rleft_any {w : World} {rb : Nat} {s : ByteArray} (h : Rdr 136 w rb s) : Calls Tryz.prog 79 #[.pointer (some ⟨rb, 0, none⟩)] w fun e w' => e = .returned (.int .i64 (s.size : Nat)) ∧ w = w' := by
  obtain ⟨h0, _⟩ := h.cell
  clear h
  go_enter Tryz.func79, Tryz.ntmps79
  go_wp2_with fail
  go_ret
  exact ⟨rfl, rfl⟩
set_option maxRecDepth 100000 in
theorem rrd_number {w : World} {rb : Nat} {s : ByteArray} (h : Rdr 136 w rb s) (hs : s.size ≤ 9223372036854775807) : Calls Tryz.prog 76 #[.pointer (some ⟨rb, 0, none⟩)] w (NumPost 136 rb s w) := by
  have H := Lib.hid h
  obtain ⟨h0, h1⟩ := h.cell
  clear h
  cases hn : numB s with
  | none =>
    have HN : Hid (numS s = (0, false, s)) := by show _ = _; unfold numS; rw [hn]
    have HR : Hid (numB s = none) := hn
    clear hn
    go_enter Tryz.func76, Tryz.ntmps76
    go_wp2_with fail
    refine (rtake_number s _ hs).mono ?_
    rintro e w' ⟨rfl, hu⟩
    rw [HR.out, show fN none = 0 from rfl, show sN none = 0 from rfl]
    go_wp2_with fail
    go_ret2
    exact ⟨by rw [HN.out]; rfl, by rw [HN.out]; exact H.out.upd hu (fun f => f), hu.mono (fun _ _ f => f.elim)⟩
  | some p =>
    obtain ⟨v, n⟩ := p
    have HN : Hid (numS s = (v, true, s.extract n s.size)) := by show _ = _; unfold numS; rw [hn]
    have HR : Hid (numB s = some (v, n)) := hn
    have hle := (numB_some hn).2.2.2.1
    have hpos := (numB_some hn).2.2.2.2
    have hn0 : ((n : Int) == 0) = false := by simp; omega
    have hn1 : ¬ n = 0 := by omega
    have hni : (n : Int) ≤ (s.size : Int) := by omega
    clear hn hpos
    go_enter Tryz.func76, Tryz.ntmps76
    go_wp2_with fail
    refine (rtake_number s _ hs).mono ?_
    rintro e w' ⟨rfl, hu⟩
    rw [HR.out, show fN (some (v, n)) = v from rfl, show sN (some (v, n)) = n from rfl]
    have H2 := Lib.hid (H.out.upd hu (fun f => f))
    obtain ⟨g0, g1⟩ := H2.out.cell
    clear h0 h1
    go_wp2_with fail
    go_ret2
    exact ⟨by rw [HN.out]; rfl, by rw [HN.out]; exact H2.out.set _, (hu.mono (fun _ _ f => f.elim)).trans upd1 (fun _ _ h => h)⟩
set_option maxRecDepth 100000 in
theorem rrd_text {w : World} {rb : Nat} {s : ByteArray} (h : Rdr 136 w rb s) (hs : s.size ≤ 9223372036854775807) : Calls Tryz.prog 78 #[.pointer (some ⟨rb, 0, none⟩), .int .i64 32] w (TextPost 136 rb s w) := by
  have H := Lib.hid h
  obtain ⟨h0, h1⟩ := h.cell
  clear h
  cases hn : textB s 32 with
  | none =>
    have HN : Hid (textS s = (⟨#[]⟩, false, s)) := by show _ = _; unfold textS; rw [hn]
    have HR : Hid (textB s 32 = none) := hn
    clear hn
    go_enter Tryz.func78, Tryz.ntmps78
    go_wp2_with fail
    refine (rtake_text s _ hs).mono ?_
    rintro e w' ⟨rfl, hu⟩
    rw [HR.out]
    go_wp2_with fail
    go_ret2
    exact ⟨by rw [HN.out]; rfl, by rw [HN.out]; exact H.out.upd hu (fun f => f), hu.mono (fun _ _ f => f.elim)⟩
  | some p =>
    obtain ⟨t, n⟩ := p
    have HN : Hid (textS s = (t, true, s.extract n s.size)) := by show _ = _; unfold textS; rw [hn]
    have HR : Hid (textB s 32 = some (t, n)) := hn
    have hle := (textB_some hn).2.2.2
    have hpos : n ≠ 0 := by
      have h5 := (textB_some hn).2.1
      have h6 : (txt t).size = (num t.size).length + t.size := by unfold txt; rw [ByteArray.size_append, str_size]
      have h7 := List.length_pos_iff.2 (num_ne t.size)
      omega
    have hn0 : ((n : Int) == 0) = false := by simp; omega
    have hni : (n : Int) ≤ (s.size : Int) := by omega
    clear hn
    go_enter Tryz.func78, Tryz.ntmps78
    go_wp2_with fail
    refine (rtake_text s _ hs).mono ?_
    rintro e w' ⟨rfl, hu⟩
    rw [HR.out]
    simp only
    have H2 := Lib.hid (H.out.upd hu (fun f => f))
    obtain ⟨g0, g1⟩ := H2.out.cell
    clear h0 h1
    go_wp2_with fail
    go_ret2
    exact ⟨by rw [HN.out]; rfl, by rw [HN.out]; exact H2.out.set _, (hu.mono (fun _ _ f => f.elim)).trans upd1 (fun _ _ h => h)⟩
/-- a number, if it is at most so much -/
def fewS (B : Nat) (s : ByteArray) : Nat × Bool := if (numS s).2.1 = true ∧ (numS s).1 ≤ B then ((numS s).1, true) else (0, false)
def FewPost (B rb : Nat) (s : ByteArray) (w : World) (e : Ending) (w' : World) : Prop := e = .returned (.tuple #[.int .i64 ((fewS B s).1 : Nat), .bool (fewS B s).2]) ∧ Rdr 136 w' rb (numS s).2.2 ∧ Upd (fun i => i = rb) w w'
set_option maxRecDepth 100000 in
theorem rfew_any {w : World} {rb B : Nat} {s : ByteArray} (h : Rdr 136 w rb s) (hs : s.size ≤ 9223372036854775807) (hB : B ≤ 9223372036854775807) : Calls Tryz.prog 77 #[.pointer (some ⟨rb, 0, none⟩), .int .u64 (B : Nat)] w (FewPost B rb s w) := by
  have H := Lib.hid h
  clear h
  cases hb : (numS s).2.1 with
  | false =>
    have HF : Hid (fewS B s = (0, false)) := by show _ = _; unfold fewS; rw [if_neg (by rw [hb]; simp)]
    have HBB := Lib.hid hb
    clear hb
    go_enter Tryz.func77, Tryz.ntmps77
    go_wp2_with fail
    refine (rrd_number H.out hs).mono ?_
    rintro e w' ⟨rfl, h2, hu⟩
    rw [HBB.out]
    go_wp2_with fail
    go_ret2
    exact ⟨by rw [HF.out]; rfl, h2, hu⟩
  | true =>
    by_cases hv : (numS s).1 ≤ B
    · have HF : Hid (fewS B s = ((numS s).1, true)) := by show _ = _; unfold fewS; rw [if_pos ⟨hb, hv⟩]
      have HBB := Lib.hid hb
      have hvi : ¬ ((numS s).1 : Int) > (B : Int) := by omega
      have hvj : ((numS s).1 : Int) ≤ 9223372036854775807 := by omega
      clear hb hv
      go_enter Tryz.func77, Tryz.ntmps77
      go_wp2_with fail
      refine (rrd_number H.out hs).mono ?_
      rintro e w' ⟨rfl, h2, hu⟩
      rw [HBB.out]
      have H2 := Lib.hid h2
      clear h2
      generalize (numS s).1 = v at *
      go_wp2_with fail
      go_ret2
      exact ⟨by rw [HF.out]; rfl, H2.out, hu⟩
    · have HF : Hid (fewS B s = (0, false)) := by show _ = _; unfold fewS; rw [if_neg (fun h => hv h.2)]
      have HBB := Lib.hid hb
      have hvi : ((numS s).1 : Int) > (B : Int) := by omega
      clear hb hv
      go_enter Tryz.func77, Tryz.ntmps77
      go_wp2_with fail
      refine (rrd_number H.out hs).mono ?_
      rintro e w' ⟨rfl, h2, hu⟩
      rw [HBB.out]
      have H2 := Lib.hid h2
      clear h2
      generalize (numS s).1 = v at *
      go_wp2_with fail
      go_ret2
      exact ⟨by rw [HF.out]; rfl, H2.out, hu⟩
end Go.Proofs.YtgkegfgdpekehaaGreat
