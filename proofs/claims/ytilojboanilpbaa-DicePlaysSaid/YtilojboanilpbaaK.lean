/- The walk of DicePlays: dice answer as the reference does, and what they were made of may be written over. -/
import Derived.Test.YtilojboanilpbaaJ
import Derived.Deep.RegionHeld3
namespace Go.Proofs.Ytilojboanilpbaa
open Go.RowKit Go.Acre

theorem rnext_of (n : Int) (hn : n ≤ 9223372036854775807) (w : World) (B : Nat) (bs : List Int) (v : Int) (r : List Int) (h : BoxAt 39 B w bs) (hr : nextM bs n = (v, r)) (hb : ∀ x ∈ bs, 0 ≤ x ∧ x < 256) (hlen : bs.length ≤ 100000) :
    Calls Try.prog 14 #[.pointer (some ⟨B, 0, none⟩), .int .i64 n] w (fun e w' => e = .returned (.int .i64 v) ∧ BoxAt 39 B w' r ∧ Upd (fun i => i = B) w w') := by
  have := rnext_any n hn w B bs h hb hlen
  rw [hr] at this
  exact this

/-- New, and where the bytes lie: in a new block. -/
theorem new_own (v : Value) (bs : List Int) (w : World) (hv : IntsAt .u8 w v bs) (hlen : bs.length ≤ 100000) :
    Calls Try.prog 8 #[v] w fun e w' => ∃ B v', e = .returned (.pointer (some ⟨B, 0, none⟩)) ∧ w.heap.size ≤ B ∧ w'.heap[B]? = some (.cells #[v'] 37 (0, 0)) ∧ IntsAt .u8 w' v' bs ∧
      (∀ g, v'.ownBlock = some g → w.heap.size ≤ g) ∧ Upd (fun _ => False) w w' := by
  obtain ⟨i0, hi, hz0, hz1, hz2⟩ := info_parts Try.info5
  go_enter Try.func8, Try.ntmps8
  go_wp2_with (at_builtin; refine wpList_append_row rfl _ _ 22 rfl w.heap.size 5 i0 (.int .u8 0) 1 1 Try.underlying22 hi hz0 hz1 hz2 rfl (by decide) _ _ _ rfl (World.ownsRow_nil _ _ _ _) v _ _ rfl hv ?c3 ?c4 ?c5 ?c6 ?_)
  case c3 => exact ints_oneCell _ _
  case c4 => unfold maxLen; omega
  case c5 => omega
  case c6 => exact Nat.le_refl _
  intro v' w1 hown hg
  try simp only [Nat.zero_add, List.nil_append] at hown
  have hi1 := IntsAt.of_own hown
  have hlt := hown.lt
  have hu := (Upd.refl (fun _ => False) w).of_grown hg (by intro k hk; cases hk)
  clear hown hg hv
  obtain ⟨a', c', rfl⟩ := hi1.slice
  have HLT := Lib.hid hlt
  clear hlt
  go_wp2
  go_ret
  exact ⟨_, _, rfl, hu.size, heap_alloc _, hi1.upd0 ((Upd.refl _ w1).alloc _), fun g hg => (HLT.out g hg).1, hu.alloc _⟩

theorem rowAt_upd_own {w w' : World} {size n : Nat} {v : Value} {xs : List Value} (h : RowAt w size v n xs) {S : Nat → Prop} (hu : Upd S w w')
    (hS : ∀ g, v.ownBlock = some g → ¬ S g) : RowAt w' size v n xs := by
  obtain ⟨hl, a, c, rfl, h1, h2, h3, hc⟩ := h
  refine ⟨hl, a, c, rfl, h1, h2, h3, fun hne => ?_⟩
  obtain ⟨g, o, rfl, hcell⟩ := hc hne
  refine ⟨g, o, rfl, fun i hi => ?_⟩
  have h5 := hcell i hi
  have h6 : xs[i]? = some xs[i] := List.getElem?_eq_getElem hi
  rw [h6] at h5 ⊢
  exact cell_upd hu h5 (hS g rfl)

/-- Block G is a row of bytes, so many of which are known. -/
def RowOf (G n : Nat) (w : World) : Prop := ∃ cur, w.heap[G]? = some (.cells cur 5 (0, 0)) ∧ ∀ j, j < n → ∃ x : Int, cur[j]? = some (.int .u8 x) ∧ 0 ≤ x ∧ x < 256
theorem RowOf.cell {G n : Nat} {w : World} (h : RowOf G n w) {j : Nat} (hj : j < n) : ∃ x : Int, w.cell? ⟨G, j, none⟩ = some (.int .u8 x) ∧ 0 ≤ x ∧ x < 256 := by
  obtain ⟨cur, hc, hx⟩ := h
  obtain ⟨x, h1, h2⟩ := hx j hj
  exact ⟨x, by rw [cell_of_heap hc, h1], h2⟩
theorem RowOf.frozen {G n : Nat} {w : World} (h : RowOf G n w) (j : Nat) : w.frozen? ⟨G, j, none⟩ = false := by
  obtain ⟨cur, hc, hx⟩ := h
  exact frozen_of_heap hc j none
theorem RowOf.set {G n j : Nat} {w : World} (h : RowOf G n w) {x : Int} (h0 : 0 ≤ x) (h1 : x < 256) : RowOf G n (w.setCell ⟨G, j, none⟩ (.int .u8 x)) := by
  obtain ⟨cur, hc, hx⟩ := h
  refine ⟨_, heap_setCell hc _, fun i hi => ?_⟩
  obtain ⟨y, h2, h3⟩ := hx i hi
  by_cases hij : j = i
  · subst hij
    have hsz : j < cur.size := (Array.getElem?_eq_some_iff.1 h2).1
    exact ⟨x, by simp [hsz], h0, h1⟩
  · exact ⟨y, by simp [Array.getElem?_setIfInBounds, hij, h2], h3⟩

set_option maxHeartbeats 4000000 in
set_option maxRecDepth 100000 in
theorem plays_walk (a0 : Option Addr) (len0 cap0 : Nat) (z0 : List Int) (a1 : Option Addr) (len1 cap1 : Nat) (z1 : List Int) (w : World)
    (w0 : IntsAt .u8 w (.slice a0 len0 cap0) z0) (hb0 : ∀ x ∈ z0, 0 ≤ x ∧ x < 256) (w1 : IntsAt .i64 w (.slice a1 len1 cap1) z1) (hz1 : ∀ x ∈ z1, -9223372036854775808 ≤ x ∧ x ≤ 9223372036854775807) :
    Calls Try.prog 4 #[.slice a0 len0 cap0, .slice a1 len1 cap1] w (Fresh true w) := by
  have hl0 : len0 ≤ cap0 ∧ cap0 ≤ maxLen := by obtain ⟨_, a', c', hv, h1, h2, _⟩ := w0; simp only [Value.slice.injEq] at hv; obtain ⟨rfl, rfl, rfl⟩ := hv; exact ⟨h1, h2⟩
  have hl1 : len1 ≤ cap1 ∧ cap1 ≤ maxLen := by obtain ⟨_, a', c', hv, h1, h2, _⟩ := w1; simp only [Value.slice.injEq] at hv; obtain ⟨rfl, rfl, rfl⟩ := hv; exact ⟨h1, h2⟩
  obtain ⟨i0, hi, hzz0, hzz1, hzz2⟩ := info_parts Try.info5
  obtain ⟨h1, h2⟩ := hl0
  obtain ⟨h3, h4⟩ := hl1
  unfold maxLen at h2 h4
  obtain ⟨m, hm, hmv⟩ : ∃ m, m ≤ len0 ∧ ((len0 ≤ 1000 → m = len0) ∧ (¬ len0 ≤ 1000 → m = 1000)) := ⟨min len0 1000, Nat.min_le_left _ _, fun h => Nat.min_eq_left h, fun h => Nat.min_eq_right (by omega)⟩
  have hm4 : m ≤ 1000 := by by_cases h : len0 ≤ 1000; have := hmv.1 h; omega; have := hmv.2 h; omega
  have hi0 := IntsAt_take w0 _ hm
  have HMV := Lib.hid hmv
  have hlz : z0.length = len0 := by obtain ⟨_, a', c', hv, _⟩ := w0; simp only [Value.slice.injEq] at hv; exact hv.2.1.symm
  have hlen : (z0.take m).length = m := by simp; omega
  have hbt : ∀ x ∈ z0.take m, 0 ≤ x ∧ x < 256 := fun x hx => hb0 x (List.mem_of_mem_take hx)
  clear hmv w0 hlz hb0
  generalize z0.take m = bs at *
  have HL := Lib.hid hlen
  have HI := Lib.hid hi0
  have HBT := Lib.hid hbt
  have W1 := Lib.hid w1
  have HZ1 := Lib.hid hz1
  clear hlen hi0 hbt w1 hz1
  go_enter Try.func4, Try.ntmps4
  go_upto_region 1 with fail
  go_cut [0] (fun s wx => s = .slice a0 m cap0 ∧ w = wx)
  case first =>
    by_cases hc : len0 ≤ 1000
    · go_wp2_with fail
      rw [← HMV.out.1 hc]
      go_meet
      case rel => exact ⟨by rw [HMV.out.1 hc], rfl⟩
    · go_wp2_with fail
      go_meet
      case rel => exact ⟨by rw [HMV.out.2 hc], rfl⟩
  case rest =>
    obtain ⟨rfl, rfl⟩ := hcut
    have hlt1 : len1 ≤ 9223372036854775807 := by omega
    clear h1 h2 hm HMV h3 h4
    go_wp2_with (at_builtin; refine wpList_append_row rfl _ _ 22 rfl w.heap.size 5 i0 (.int .u8 0) 1 1 Try.underlying22 hi hzz0 hzz1 hzz2 rfl (by decide) _ _ _ rfl (World.ownsRow_nil _ _ _ _) _ _ _ rfl HI.out ?c3 ?c4 ?c5 ?c6 ?_)
    case c3 => exact ints_oneCell _ _
    case c4 => unfold maxLen; rw [HL.out]; omega
    case c5 => rw [HL.out]; omega
    case c6 => exact Nat.le_refl _
    intro vo wa hown hg
    try simp only [Nat.zero_add, List.nil_append] at hown
    have hio := IntsAt.of_own hown
    have hlt := hown.lt
    have hua := (Upd.refl (fun _ => False) w).of_grown hg (by intro k hk; cases hk)
    have hrow : bs ≠ [] → ∃ G cap, vo = .slice (some ⟨G, 0, none⟩) m cap ∧ m ≤ cap ∧ w.heap.size ≤ G ∧ RowOf G m wa := by
      intro hne
      have hm0 : 0 < bs.length := List.length_pos_iff.2 hne
      rcases hown.2 with ⟨_, h0⟩ | ⟨G, cap, cur, rfl, hG, hh, hn, _, _, ht⟩
      · omega
      · refine ⟨G, cap, by rw [HL.out], by rw [← HL.out]; exact hn, hG, cur, hh, fun j hj => ?_⟩
        have hj2 : j < bs.length := by rw [HL.out]; exact hj
        have e : (cur.toList.take (bs.length * 1))[j]? = (bs.map (Value.int .u8))[j]? := by rw [ht]
        rw [List.getElem?_take, if_pos (by omega)] at e
        refine ⟨bs[j], by simpa [List.getElem?_eq_getElem hj2] using e, HBT.out _ (List.getElem_mem hj2)⟩
    obtain ⟨ao, co, rfl⟩ := hio.slice
    obtain ⟨G, hG⟩ : ∃ G, bs ≠ [] → ao = some ⟨G, 0, none⟩ ∧ m ≤ co ∧ w.heap.size ≤ G ∧ RowOf G m wa := by
      by_cases hne : bs = []
      · exact ⟨0, fun h => (h hne).elim⟩
      · obtain ⟨G, cap, hv, h5, h6, h7⟩ := hrow hne
        simp only [Value.slice.injEq] at hv
        obtain ⟨rfl, _, rfl⟩ := hv
        exact ⟨G, fun _ => ⟨rfl, h5, h6, h7⟩⟩
    have HG := Lib.hid hG
    have HIO : Hid (IntsAt .u8 wa (.slice ao m co) bs) := by have := hio; rw [HL.out] at this; exact this
    clear hown hg hrow hlt hio hG
    rw [HL.out]
    go_wp2_with fail
    refine (new_own _ bs _ (by have := HIO.out; exact this) (by rw [HL.out]; omega)).mono ?_
    rintro e wb ⟨D, vD, rfl, hD, hvD, hiD, hoD, hub⟩
    have hu0 := hua.trans hub (fun _ _ h => h)
    have hD2 : w.heap.size ≤ D := by have := hua.size; omega
    have hGa : bs ≠ [] → G < wa.heap.size := fun h => by obtain ⟨_, _, _, cur, hc, _⟩ := HG.out h; exact lt_of_heap hc
    have hGb : bs ≠ [] → RowOf G m wb := fun h => by
      obtain ⟨_, _, _, cur, hc, hx⟩ := HG.out h
      exact ⟨cur, hub.keep hc (fun f => f), hx⟩
    have hend : ∀ wr, Upd (fun i => bs ≠ [] ∧ i = G) wb wr → BoxAt 37 D wr bs ∧ Upd (fun _ => False) w wr := by
      intro wr hu
      refine ⟨⟨vD, hu.keep hvD ?_, rowAt_upd_own hiD hu ?_⟩, hu0.trans hu ?_⟩
      · rintro ⟨hne, rfl⟩
        have := hGa hne
        omega
      · rintro g hg ⟨hne, rfl⟩
        have h5 := hoD g hg
        have := hGa hne
        omega
      · rintro i hi ⟨hne, rfl⟩
        have := (HG.out hne).2.2.1
        omega
    have HE := Lib.hid hend
    have HGB := Lib.hid hGb
    clear hend hGb hGa hvD hiD hoD hua hub hu0
    go_wp2_with fail
    go_loopw [7] (fun i wr => ∃ (k : Nat), i = .int .i64 k ∧ k ≤ m ∧ Hid (bs ≠ [] → RowOf G m wr) ∧ Upd (fun i => bs ≠ [] ∧ i = G) wb wr) (fun i _ => m - (intOf i).toNat)
    case atStart => exact ⟨0, rfl, by omega, HGB, Upd.refl _ _⟩
    case round =>
      obtain ⟨k, rfl, hk, hr, hu⟩ := hrel
      by_cases hlt : k < m
      · have hne : bs ≠ [] := by intro h; have := HL.out; rw [h] at this; simp at this; omega
        obtain ⟨hao, hmc, hwG, _⟩ := HG.out hne
        subst hao
        have hrow := hr.out hne
        obtain ⟨x, hx, hx0, hx1⟩ := hrow.cell hlt
        have hfz := hrow.frozen k
        have HROW := Lib.hid hrow
        have HNE := Lib.hid hne
        clear hr hrow hne
        go_wp2_with fail
        go_roundw
        case rel =>
          refine ⟨k + 1, by go_num, by omega, fun _ => HROW.out.set (by omega) (by omega), ?_⟩
          exact hu.setCell (p := ⟨G, k, none⟩) (fun _ => ⟨HNE.out, rfl⟩) _
        case measure => simp [intOf]; omega
      · obtain ⟨hbD, hu1⟩ := HE.out wr hu
        clear hr hu
        go_wp2_with fail
        refine (rnew_any _ bs _ (HI.out.upd0 hu1) (by rw [HL.out]; omega)).mono ?_
        rintro e wq ⟨Q, rfl, hQ, hbQ, huq⟩
        have hbD2 : BoxAt 37 D wq bs := by obtain ⟨v, hv, hi⟩ := hbD; exact ⟨v, huq.keep hv (fun f => f), hi.upd0 huq⟩
        have hDlt : D < wr.heap.size := by obtain ⟨v, hv, hi⟩ := hbD; exact lt_of_heap hv
        have hne : ¬ D = Q := by omega
        have hne2 : ¬ Q = D := by omega
        have hQ2 : w.heap.size ≤ Q := by have := hu1.size; omega
        have hu2 := hu1.trans huq (fun _ _ h => h)
        have hbl : bs.length ≤ 1000 := by rw [HL.out]; omega
        clear hbD hu1 huq hQ hDlt HE HGB HG HIO
        go_wp2_with fail
        go_loopw [9] (fun i wr => ∃ (k : Nat) (r : List Int), i = .int .i64 k ∧ k ≤ len1 ∧ k ≤ 200 ∧ BoxAt 37 D wr r ∧ BoxAt 39 Q wr r ∧ (∀ x ∈ r, 0 ≤ x ∧ x < 256) ∧ r.length ≤ 1000 ∧ Upd (fun _ => False) w wr) (fun i _ => len1 - (intOf i).toNat)
        case atStart => exact ⟨0, bs, rfl, by omega, by omega, hbD2, hbQ, HBT.out, hbl, hu2⟩
        case round =>
          obtain ⟨k2, r, rfl, hk1, hk2, hd, he, hb, hl, hu⟩ := hrel
          clear hbD2 hbQ hbl hu2
          by_cases hlt : k2 < len1 ∧ k2 < 200
          · obtain ⟨hlt, hlt2⟩ := hlt
            obtain ⟨g, o, rfl, hcell⟩ : ∃ g o, a1 = some ⟨g, o, none⟩ ∧ w.cell? ⟨g, o + k2, none⟩ = some (.int .i64 (z1.getD k2 0)) := by
              rcases IntsAt.open W1.out with ⟨_, a, cap, hv, _⟩ | ⟨_, g, o, cap, hv, _, _, hcell⟩
              · simp only [Value.slice.injEq] at hv; omega
              · simp only [Value.slice.injEq] at hv
                exact ⟨g, o, hv.1, hcell k2 (by omega)⟩
            have hcr := cell_upd hu hcell (fun f => f)
            have hg := World.block_lt_of_cell? w _ hcell
            simp only at hg
            have hq2 : z1.getD k2 0 ≤ 9223372036854775807 := by
              by_cases h : k2 < z1.length
              · exact (HZ1.out _ (by simp [List.getD, h])).2
              · simp [List.getD, h]
            clear hcell
            generalize z1.getD k2 0 = q at *
            obtain ⟨v, r', hvr⟩ : ∃ v r', nextM r q = (v, r') := ⟨_, _, rfl⟩
            have hb' : ∀ x ∈ r', 0 ≤ x ∧ x < 256 := by have := nextM_bytes (n := q) hb; rw [hvr] at this; exact this
            have hl' : r'.length ≤ 1000 := by
              by_cases hq : q < 2
              · rw [nextM_low hq] at hvr; simp only [Prod.mk.injEq] at hvr; rw [← hvr.2]; exact hl
              · have := (nextM_within hb hq).2.2.1; rw [hvr] at this; simp only at this; omega
            have HVR := Lib.hid hvr
            have HB := Lib.hid hb
            have HB' := Lib.hid hb'
            clear hvr hb hb'
            go_wp2_with fail
            refine (copy_any D r _ hd (by omega)).mono ?_
            rintro e wc ⟨C, rfl, hC, hbC, huc⟩
            have hdc : BoxAt 37 D wc r := by obtain ⟨v, hv, hi⟩ := hd; exact ⟨v, huc.keep hv (fun f => f), hi.upd0 huc⟩
            have hec : BoxAt 39 Q wc r := by obtain ⟨v, hv, hi⟩ := he; exact ⟨v, huc.keep hv (fun f => f), hi.upd0 huc⟩
            have hcD : ¬ C = D := by obtain ⟨v, hv, hi⟩ := hd; have := lt_of_heap hv; omega
            have hcQ : ¬ C = Q := by obtain ⟨v, hv, hi⟩ := he; have := lt_of_heap hv; omega
            have hC2 : w.heap.size ≤ C := by have := hu.size; omega
            have hu2 := hu.trans huc (fun _ _ h => h)
            have hcr2 := cell_upd huc hcr (fun f => f)
            clear hd he hu huc hcr hC
            have HD : Hid (BoxAt 37 D wc.drew r) := hdc
            have HQ : Hid (BoxAt 39 Q wc.drew r) := hec
            have HC : Hid (BoxAt 37 C wc.drew r) := hbC
            have HU : Hid (Upd (fun _ => False) w wc.drew) := hu2.drew
            clear hdc hec hbC hu2
            go_wp2_with fail
            have hcr2' : wc.drew.cell? ⟨g, o + k2, none⟩ = some (.int .i64 q) := hcr2
            go_region_held3 (fun w' => w'.cell? ⟨g, o + k2, none⟩ = some (.int .i64 q)) (first | exact hcr2' | exact hcr3 | exact hcr4) (first
              | (go_at_call 10; refine (next_of q wc.drew D r v r' HD.out HVR.out HB.out (by omega)).mono ?_; rintro e w2 ⟨rfl, hd2, hu2⟩; have hcr3 : w2.cell? ⟨g, o + k2, none⟩ = some (.int .i64 q) := cell_upd hu2 hcr2' (by omega); have HQ2 := Lib.hid (box_other HQ.out HD.out hu2 hne2); have HC2 := Lib.hid (box_other HC.out HD.out hu2 hcD); have HD2 := Lib.hid hd2; have HU2 := Lib.hid (HU.out.trans hu2 (fun i hi e => by omega)); clear hd2 hu2)
              | (go_at_call 14; refine (rnext_of q hq2 w2 Q r v r' HQ2.out HVR.out HB.out (by omega)).mono ?_; rintro e w3 ⟨rfl, hq3, hu3⟩; have hcr4 : w3.cell? ⟨g, o + k2, none⟩ = some (.int .i64 q) := cell_upd hu3 hcr3 (by omega); have HD3 := Lib.hid (box_other HD2.out HQ2.out hu3 hne); have HC3 := Lib.hid (box_other HC2.out HQ2.out hu3 hcQ); have HQ3 := Lib.hid hq3; have HU3 := Lib.hid (HU2.out.trans hu3 (fun i hi e => by omega)); clear hq3 hu3)
              | (go_at_call 9; refine (left_any D r' w3 HD3.out).mono ?_; rintro e w4 ⟨rfl, rfl⟩)
              | (go_at_call 15; refine (rleft_any Q r' w3 HQ3.out).mono ?_; rintro e w4 ⟨rfl, rfl⟩))
            clear hcr2 hcr2' hcr3 HD HQ HC HU HD2 HQ2 HC2 HU2
            go_wp2_with fail
            obtain ⟨v2, r2, hvr2⟩ : ∃ v2 r2, nextM r 256 = (v2, r2) := ⟨_, _, rfl⟩
            refine (next_of 256 _ C r v2 r2 HC3.out hvr2 HB.out (by omega)).mono ?_
            rintro e w4 ⟨rfl, hC4, hu4⟩
            have hd4 := box_other HD3.out HC3.out hu4 (fun h => hcD h.symm)
            have hq4 := box_other HQ3.out HC3.out hu4 (fun h => hcQ h.symm)
            have hu5 := HU3.out.trans hu4 (fun i hi e => by omega)
            clear HD3 HQ3 HC3 HU3 hC4 hu4 hvr2 hcr4
            go_wp2_with fail
            refine (left_any D r' _ hd4).mono ?_
            rintro e w5 ⟨rfl, rfl⟩
            go_wp2_with fail
            refine (rleft_any Q r' _ hq4).mono ?_
            rintro e w5 ⟨rfl, rfl⟩
            go_wp2_with fail
            go_roundw
            case rel => exact ⟨k2 + 1, r', by go_num, by omega, by omega, hd4, hq4, HB'.out, hl', hu5⟩
            case measure => simp [intOf]; omega
          · clear W1
            by_cases hk : k2 < len1
            · have hk3 : ¬ k2 < 200 := by omega
              go_wp2_with fail
              refine (works_any _).mono ?_
              rintro e w3 ⟨rfl, hu4⟩
              have huf := hu.trans hu4 (fun _ _ h => h)
              clear hu hu4
              go_wp2_with fail
              go_ret
              exact ⟨rfl, huf⟩
            · go_wp2_with fail
              refine (works_any _).mono ?_
              rintro e w3 ⟨rfl, hu4⟩
              have huf := hu.trans hu4 (fun _ _ h => h)
              clear hu hu4
              go_wp2_with fail
              go_ret
              exact ⟨rfl, huf⟩
end Go.Proofs.Ytilojboanilpbaa
