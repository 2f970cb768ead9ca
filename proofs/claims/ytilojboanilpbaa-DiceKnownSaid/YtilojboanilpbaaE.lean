/- Next of dice and of the reference as nextM, for bytes of at most 100000. -/
import Derived.Test.YtilojboanilpbaaD
namespace Go.Proofs.Ytilojboanilpbaa
open Go.RowKit Go.Acre

theorem next_any (n : Int) (w : World) (B : Nat) (bs : List Int) (h : BoxAt 37 B w bs) (hb : ∀ x ∈ bs, 0 ≤ x ∧ x < 256) (hlen : bs.length ≤ 100000) :
    Calls Try.prog 10 #[.pointer (some ⟨B, 0, none⟩), .int .i64 n] w (NextPost 37 B (nextM bs n) w) := by
  obtain ⟨v, hv, hi⟩ := h
  by_cases h1 : n ≤ 1
  · refine (next_zero n w B (by omega)).mono ?_
    rintro e w' ⟨rfl, rfl⟩
    have : nextM bs n = (0, bs) := by unfold nextM; rw [if_pos h1]
    rw [this]
    exact ⟨rfl, ⟨v, hv, hi⟩, Upd.refl _ _⟩
  · have hi2 := hi
    rcases hi with hi
    rcases IntsAt.open hi with ⟨rfl, a, cap, rfl, hc, hnone⟩ | ⟨hne, g, o, cap, rfl, hl, hcap, hcells⟩
    · by_cases h2 : n ≤ 256
      · have e0 : szOf n = 1 := by unfold szOf; rw [if_neg (by omega), if_pos (by omega)]
        have : nextM [] n = (0, []) := by unfold nextM; rw [if_neg h1, if_pos h2]
        rw [this]
        exact next_short n w B 1 (by intro w; rw [← show szOf n = ((1 : Nat) : Int) from e0]; exact size_any n w) a 0 cap (by omega) (by omega) hv
      · have e0 : szOf n = 2 := by unfold szOf; rw [if_pos (by omega)]
        have : nextM [] n = (0, []) := by unfold nextM; rw [if_neg h1, if_neg h2]
        rw [this]
        exact next_short n w B 2 (by intro w; rw [← show szOf n = ((2 : Nat) : Int) from e0]; exact size_any n w) a 0 cap (by omega) (by omega) hv
    · cases bs with
      | nil => exact (hne rfl).elim
      | cons b0 r =>
        have hb0 := hb b0 (by simp)
        simp only [List.length_cons] at hlen
        by_cases h2 : n ≤ 256
        · exact next_one n w B (by omega) h2 g o _ cap b0 r hb0.1 hb0.2 rfl hl hcap (by simp; omega) hv hcells
        · cases r with
          | nil =>
            have e0 : szOf n = 2 := by unfold szOf; rw [if_pos (by omega)]
            have : nextM [b0] n = (0, []) := by unfold nextM; rw [if_neg h1, if_neg h2]
            rw [this]
            exact next_short n w B 2 (by intro w; rw [← show szOf n = ((2 : Nat) : Int) from e0]; exact size_any n w) _ 1 cap (by omega) (by omega) hv
          | cons b1 r =>
            have hb1 := hb b1 (by simp)
            simp only [List.length_cons] at hlen
            exact next_two n w B (by omega) g o _ cap b0 b1 r hb0.1 hb0.2 hb1.1 hb1.2 rfl hl hcap (by simp; omega) hv hcells

/-! ### the reference's Next -/
theorem rnext_zero (n : Int) (w : World) (B : Nat) (hn : n < 2) :
    Calls Try.prog 14 #[.pointer (some ⟨B, 0, none⟩), .int .i64 n] w fun e w' => e = .returned (.int .i64 0) ∧ w = w' := by
  go_enter Try.func14, Try.ntmps14
  go_wp2
  go_ret
  exact ⟨rfl, rfl⟩
theorem rnext_none (n : Int) (w : World) (B : Nat) (hn : ¬ n < 2) (hn2 : n ≤ 256) (a : Option Addr) (cap : Nat)
    (hb : w.heap[B]? = some (.cells #[.slice a 0 cap] 39 (0, 0))) :
    Calls Try.prog 14 #[.pointer (some ⟨B, 0, none⟩), .int .i64 n] w fun e w' => e = .returned (.int .i64 0) ∧ w = w' := by
  have hc := cell_of_heap hb 0
  simp only [List.getElem?_toArray, List.getElem?_cons_zero] at hc
  clear hb
  go_enter Try.func14, Try.ntmps14
  go_wp2
  go_ret
  exact ⟨rfl, rfl⟩
theorem rnext_short (n : Int) (w : World) (B : Nat) (hn : 256 < n) (a : Option Addr) (len cap : Nat) (hk : len < 2)
    (hb : w.heap[B]? = some (.cells #[.slice a len cap] 39 (0, 0))) :
    Calls Try.prog 14 #[.pointer (some ⟨B, 0, none⟩), .int .i64 n] w (NextPost 39 B (0, []) w) := by
  have hc := cell_of_heap hb 0
  have hf := frozen_of_heap hb 0 none
  simp only [List.getElem?_toArray, List.getElem?_cons_zero] at hc
  have HB := Lib.hid hb
  have hlt : (len : Int) < 2 := by omega
  have h1 : ¬ n < 2 := by omega
  clear hb
  go_enter Try.func14, Try.ntmps14
  go_wp2
  go_ret
  exact ⟨rfl, box_set HB.out (IntsAt.nil _ _)⟩
theorem box_set_dN {T B : Nat} {w : World} {a : Option Addr} {n c : Nat} {v' : Value} {bs' : List Int} (hb : w.heap[B]? = some (.cells #[.slice a n c] T (0, 0))) (hv' : IntsAt .u8 w v' bs') (k : Nat) :
    BoxAt T B ((w.setCell ⟨B, 0, none⟩ v').drewN k) bs' ∧ Upd (fun i => i = B) w ((w.setCell ⟨B, 0, none⟩ v').drewN k) :=
  ⟨(box_set hb hv').1, (box_set hb hv').2.drewN k⟩
theorem ints_drop (k : Nat) {w : World} {g o len cap : Nat} {bs : List Int} (h : IntsAt .u8 w (.slice (some ⟨g, o, none⟩) len cap) bs) (a : Option Addr) (c : Nat) (ha : a ≠ none)
    (ha2 : k < len → a = some ⟨g, o + k, none⟩) (hk : k ≤ len) (hc : len - k ≤ c) (hc2 : c ≤ cap) : IntsAt .u8 w (.slice a (len - k) c) (bs.drop k) := by
  have hcap : cap ≤ maxLen := by
    obtain ⟨_, a', c', hv, _, h2, _⟩ := h
    simp only [Value.slice.injEq] at hv
    rw [hv.2.2]; exact h2
  obtain ⟨h1, h2, h3⟩ := RowAt.cells h
  have hl : len = bs.length := h1
  rw [← hl] at h2
  refine left_ints (k := k) (bs := bs) hl h2 hcap hk ?_ c hc hc2 ha ha2
  intro i hi
  rw [h3 i (by simpa using hi)]
  simp only [List.getElem?_map, List.getD]
  rw [List.getElem?_eq_getElem hi]
  rfl
theorem rnext_one (n : Int) (w : World) (B : Nat) (hn : ¬ n < 2) (hn2 : n ≤ 256) (g o len cap : Nat) (b0 : Int) (r : List Int) (hb0 : 0 ≤ b0) (hb2 : b0 < 256)
    (hlen : len = (b0 :: r).length) (hl2 : len ≤ cap) (hcap : cap ≤ maxLen) (hl3 : len ≤ 1000000)
    (hb : w.heap[B]? = some (.cells #[.slice (some ⟨g, o, none⟩) len cap] 39 (0, 0)))
    (hi : IntsAt .u8 w (.slice (some ⟨g, o, none⟩) len cap) (b0 :: r)) :
    Calls Try.prog 14 #[.pointer (some ⟨B, 0, none⟩), .int .i64 n] w (NextPost 39 B (nextM (b0 :: r) n) w) := by
  have HN := Lib.hid (show nextM (b0 :: r) n = (b0 % n, r) by unfold nextM; rw [if_neg (by omega), if_pos hn2])
  have hc := cell_of_heap hb 0
  have hf := frozen_of_heap hb 0 none
  have h0 : w.cell? ⟨g, o, none⟩ = some (.int .u8 b0) := by have := (RowAt.cells hi).2.2 0 (by simp); simpa using this
  have h1 : 1 ≤ len := by rw [hlen]; simp
  have h5 : (1 : Int) ≤ (len : Int) := by omega
  have h6 : ((len : Int) == 0) = false := by simp; omega
  simp only [List.getElem?_toArray, List.getElem?_cons_zero] at hc
  have HB := Lib.hid hb
  have HI := Lib.hid hi
  have HL := Lib.hid hlen
  have HM := Lib.hid hcap
  clear hb hi hlen hcap
  go_enter Try.func14, Try.ntmps14
  go_wp2
  · have h' : cap = 1 := by assumption
    subst h'
    go_ret
    rw [HN.out]
    exact ⟨rfl, box_set HB.out (ints_drop 1 HI.out (some ⟨g, o, none⟩) 0 (by simp) (by omega) (by omega) (by omega) (by omega))⟩
  · go_ret
    rw [HN.out]
    exact ⟨rfl, box_set HB.out (ints_drop 1 HI.out (some ⟨g, o + 1, none⟩) (cap - 1) (by simp) (fun _ => rfl) (by omega) (by omega) (by omega))⟩

theorem rnext_two (n : Int) (w : World) (B : Nat) (hn : 256 < n) (hn3 : n ≤ 9223372036854775807) (g o len cap : Nat) (b0 b1 : Int) (r : List Int) (hb0 : 0 ≤ b0) (hb2 : b0 < 256) (hb3 : 0 ≤ b1) (hb4 : b1 < 256)
    (hlen : len = (b0 :: b1 :: r).length) (hl2 : len ≤ cap) (hcap : cap ≤ maxLen) (hl3 : len ≤ 1000000)
    (hb : w.heap[B]? = some (.cells #[.slice (some ⟨g, o, none⟩) len cap] 39 (0, 0)))
    (hi : IntsAt .u8 w (.slice (some ⟨g, o, none⟩) len cap) (b0 :: b1 :: r)) :
    Calls Try.prog 14 #[.pointer (some ⟨B, 0, none⟩), .int .i64 n] w (NextPost 39 B (nextM (b0 :: b1 :: r) n) w) := by
  have HN := Lib.hid (show nextM (b0 :: b1 :: r) n = ((b0 * 256 + b1) % (if n ≤ 65536 then n else 65536), r) by unfold nextM; rw [if_neg (by omega), if_neg (by omega)])
  have hc := cell_of_heap hb 0
  have hf := frozen_of_heap hb 0 none
  have h0 : w.cell? ⟨g, o, none⟩ = some (.int .u8 b0) := by have := (RowAt.cells hi).2.2 0 (by simp); simpa using this
  have h01 : w.cell? ⟨g, o + 1, none⟩ = some (.int .u8 b1) := by have := (RowAt.cells hi).2.2 1 (by simp); simpa using this
  have h1 : 2 ≤ len := by rw [hlen]; simp
  have h5 : (2 : Int) ≤ (len : Int) := by omega
  have h7 : ¬ n < 2 := by omega
  simp only [List.getElem?_toArray, List.getElem?_cons_zero] at hc
  have HB := Lib.hid hb
  have HI := Lib.hid hi
  have HL := Lib.hid hlen
  have HM := Lib.hid hcap
  clear hb hi hlen hcap
  by_cases h8 : 65536 < n
  · go_enter Try.func14, Try.ntmps14
    go_wp2
    go_quiet (fail)
    go_wp2
    · have h' : cap = 2 := by assumption
      subst h'
      go_ret
      rw [HN.out, if_neg (by omega), Int.mul_comm b0 256]
      exact ⟨rfl, box_set_dN HB.out (ints_drop 2 HI.out (some ⟨g, o, none⟩) 0 (by simp) (by omega) (by omega) (by omega) (by omega)) nq⟩
    · go_ret
      rw [HN.out, if_neg (by omega), Int.mul_comm b0 256]
      exact ⟨rfl, box_set_dN HB.out (ints_drop 2 HI.out (some ⟨g, o + 2, none⟩) (cap - 2) (by simp) (fun _ => rfl) (by omega) (by omega) (by omega)) nq⟩
  · go_enter Try.func14, Try.ntmps14
    go_wp2
    go_quiet (fail)
    go_wp2
    · have h' : cap = 2 := by assumption
      subst h'
      go_ret
      rw [HN.out, if_pos (by omega), Int.mul_comm b0 256]
      exact ⟨rfl, box_set_dN HB.out (ints_drop 2 HI.out (some ⟨g, o, none⟩) 0 (by simp) (by omega) (by omega) (by omega) (by omega)) nq⟩
    · go_ret
      rw [HN.out, if_pos (by omega), Int.mul_comm b0 256]
      exact ⟨rfl, box_set_dN HB.out (ints_drop 2 HI.out (some ⟨g, o + 2, none⟩) (cap - 2) (by simp) (fun _ => rfl) (by omega) (by omega) (by omega)) nq⟩

theorem rnext_any (n : Int) (hn : n ≤ 9223372036854775807) (w : World) (B : Nat) (bs : List Int) (h : BoxAt 39 B w bs) (hb : ∀ x ∈ bs, 0 ≤ x ∧ x < 256) (hlen : bs.length ≤ 100000) :
    Calls Try.prog 14 #[.pointer (some ⟨B, 0, none⟩), .int .i64 n] w (NextPost 39 B (nextM bs n) w) := by
  obtain ⟨v, hv, hi⟩ := h
  by_cases h1 : n < 2
  · refine (rnext_zero n w B (by omega)).mono ?_
    rintro e w' ⟨rfl, rfl⟩
    have : nextM bs n = (0, bs) := by unfold nextM; rw [if_pos (by omega)]
    rw [this]
    exact ⟨rfl, ⟨v, hv, hi⟩, Upd.refl _ _⟩
  · have hi2 := hi
    rcases IntsAt.open hi with ⟨rfl, a, cap, rfl, hc, hnone⟩ | ⟨hne, g, o, cap, rfl, hl, hcap, hcells⟩
    · by_cases h2 : n ≤ 256
      · have : nextM [] n = (0, []) := by unfold nextM; rw [if_neg (by omega), if_pos h2]
        rw [this]
        refine (rnext_none n w B h1 h2 a cap hv).mono ?_
        rintro e w' ⟨rfl, rfl⟩
        exact ⟨rfl, ⟨_, hv, hi2⟩, Upd.refl _ _⟩
      · have : nextM [] n = (0, []) := by unfold nextM; rw [if_neg (by omega), if_neg h2]
        rw [this]
        exact rnext_short n w B (by omega) a 0 cap (by omega) hv
    · cases bs with
      | nil => exact (hne rfl).elim
      | cons b0 r =>
        have hb0 := hb b0 (by simp)
        simp only [List.length_cons] at hlen
        by_cases h2 : n ≤ 256
        · exact rnext_one n w B h1 h2 g o _ cap b0 r hb0.1 hb0.2 rfl hl hcap (by simp; omega) hv hi2
        · cases r with
          | nil =>
            have : nextM [b0] n = (0, []) := by unfold nextM; rw [if_neg (by omega), if_neg h2]
            rw [this]
            exact rnext_short n w B (by omega) _ 1 cap (by omega) hv
          | cons b1 r =>
            have hb1 := hb b1 (by simp)
            simp only [List.length_cons] at hlen
            exact rnext_two n w B (by omega) hn g o _ cap b0 b1 r hb0.1 hb0.2 hb1.1 hb1.2 rfl hl hcap (by simp; omega) hv hi2
end Go.Proofs.Ytilojboanilpbaa
