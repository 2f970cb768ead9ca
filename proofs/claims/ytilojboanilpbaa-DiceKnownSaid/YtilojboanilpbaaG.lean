/- The walk of DiceWithin and the plain law beneath it: what nextM chooses is within what was asked. -/
import Derived.Test.YtilojboanilpbaaF
import Derived.Deep.DeepCutAuto
namespace Go.Proofs.Ytilojboanilpbaa
open Go.RowKit Go.Acre

/-! ### the plain law -/
theorem nextM_bytes {bs : List Int} {n : Int} (hb : ∀ x ∈ bs, 0 ≤ x ∧ x < 256) : ∀ x ∈ (nextM bs n).2, 0 ≤ x ∧ x < 256 := by
  unfold nextM
  split
  · exact hb
  · split
    · cases bs with
      | nil => simp
      | cons b r => exact fun x hx => hb x (List.mem_cons_of_mem _ hx)
    · cases bs with
      | nil => simp
      | cons b r => cases r with
        | nil => simp
        | cons c r => exact fun x hx => hb x (List.mem_cons_of_mem _ (List.mem_cons_of_mem _ hx))
theorem nextM_low {bs : List Int} {n : Int} (h : n < 2) : nextM bs n = (0, bs) := by unfold nextM; rw [if_pos (by omega)]
theorem nextM_within {bs : List Int} {n : Int} (hb : ∀ x ∈ bs, 0 ≤ x ∧ x < 256) (h : ¬ n < 2) :
    0 ≤ (nextM bs n).1 ∧ (nextM bs n).1 < n ∧ (nextM bs n).2.length ≤ bs.length ∧ bs.length ≤ (nextM bs n).2.length + 2 := by
  unfold nextM
  rw [if_neg (by omega)]
  split
  · cases bs with
    | nil => simp; omega
    | cons b r =>
      refine ⟨Int.emod_nonneg _ (by omega), Int.emod_lt_of_pos _ (by omega), by simp, by simp⟩
  · cases bs with
    | nil => simp; omega
    | cons b r => cases r with
      | nil => simp; omega
      | cons c r =>
        simp only [List.length_cons]
        split
        · refine ⟨Int.emod_nonneg _ (by omega), Int.emod_lt_of_pos _ (by omega), by omega, by omega⟩
        · refine ⟨Int.emod_nonneg _ (by omega), ?_, by omega, by omega⟩
          have := Int.emod_lt_of_pos (b * 256 + c) (show (0 : Int) < 65536 by omega)
          omega

theorem IntsAt_take {k : IntKind} {w : World} {a : Option Addr} {len cap : Nat} {zs : List Int} (h : IntsAt k w (.slice a len cap) zs) (m : Nat) (hm : m ≤ len) :
    IntsAt k w (.slice a m cap) (zs.take m) := by
  obtain ⟨_, a', c', hv, h1, h2, h3, h4⟩ := h
  simp only [Value.slice.injEq] at hv
  obtain ⟨rfl, rfl, rfl⟩ := hv
  refine ⟨by simp, a, cap, ?_, ?_, h2, h3, ?_⟩
  · rw [List.length_take, Nat.min_eq_left hm]
  · rw [List.length_take, Nat.min_eq_left hm]; omega
  · intro hne
    obtain ⟨g, o, hg, hc⟩ := h4 (by intro e; apply hne; simpa using .inr (by simpa using e))
    refine ⟨g, o, hg, fun i hi => ?_⟩
    simp only [List.length_map, List.length_take] at hi
    rw [hc i (by simp; omega)]
    simp only [List.getElem?_map, List.getElem?_take]
    rw [if_pos (by omega)]

/-- another box is left alone -/
theorem box_other {T T' B D : Nat} {w w' : World} {bs r : List Int} (h : BoxAt T B w bs) (hd : BoxAt T' D w r) (hu : Upd (fun i => i = D) w w') (hne : ¬ B = D) : BoxAt T B w' bs := by
  obtain ⟨v, hv, hi⟩ := h
  obtain ⟨v', hv', _, a, c, rfl, _⟩ := hd
  refine ⟨v, hu.keep hv hne, hi.upd hu ?_⟩
  rintro g o n hc rfl
  rw [cell_of_heap hv'] at hc
  cases o <;> simp at hc

set_option maxHeartbeats 4000000 in
set_option maxRecDepth 100000 in
theorem within_walk (a0 : Option Addr) (len0 cap0 : Nat) (z0 : List Int) (a1 : Option Addr) (len1 cap1 : Nat) (z1 : List Int) (w : World)
    (w0 : IntsAt .u8 w (.slice a0 len0 cap0) z0) (hb0 : ∀ x ∈ z0, 0 ≤ x ∧ x < 256) (w1 : IntsAt .i64 w (.slice a1 len1 cap1) z1) :
    Calls Try.prog 3 #[.slice a0 len0 cap0, .slice a1 len1 cap1] w (Fresh true w) := by
  have hl0 : len0 ≤ cap0 ∧ cap0 ≤ maxLen := by obtain ⟨_, a', c', hv, h1, h2, _⟩ := w0; simp only [Value.slice.injEq] at hv; obtain ⟨rfl, rfl, rfl⟩ := hv; exact ⟨h1, h2⟩
  have hl1 : len1 ≤ cap1 ∧ cap1 ≤ maxLen := by obtain ⟨_, a', c', hv, h1, h2, _⟩ := w1; simp only [Value.slice.injEq] at hv; obtain ⟨rfl, rfl, rfl⟩ := hv; exact ⟨h1, h2⟩
  obtain ⟨h1, h2⟩ := hl0
  obtain ⟨h3, h4⟩ := hl1
  unfold maxLen at h2 h4
  obtain ⟨m, hm, hmv⟩ : ∃ m, m ≤ len0 ∧ ((len0 ≤ 400 → m = len0) ∧ (¬ len0 ≤ 400 → m = 400)) := ⟨min len0 400, Nat.min_le_left _ _, fun h => Nat.min_eq_left h, fun h => Nat.min_eq_right (by omega)⟩
  have hm4 : m ≤ 400 := by by_cases h : len0 ≤ 400; have := hmv.1 h; omega; have := hmv.2 h; omega
  have hi0 := IntsAt_take w0 _ hm
  have HMV := Lib.hid hmv
  clear hmv
  go_enter Try.func3, Try.ntmps3
  go_upto_region 1 with fail
  go_cut [0] (fun s wx => s = .slice a0 m cap0 ∧ w = wx)
  case first =>
    by_cases hc : len0 ≤ 400
    · go_wp2_with fail
      rw [← HMV.out.1 hc]
      go_meet
      case rel => exact ⟨by rw [HMV.out.1 hc], rfl⟩
    · go_wp2_with fail
      go_meet
      case rel => exact ⟨by rw [HMV.out.2 hc], rfl⟩
  case rest =>
    obtain ⟨rfl, rfl⟩ := hcut
    have hlen : (z0.take m).length ≤ 1000 := by simp; omega
    have hbt : ∀ x ∈ z0.take m, 0 ≤ x ∧ x < 256 := fun x hx => hb0 x (List.mem_of_mem_take hx)
    generalize z0.take m = bs at *
    go_wp2_with fail
    refine (new_any _ bs _ hi0 (by omega)).mono ?_
    rintro e wa ⟨D, rfl, hD, hbD, hua⟩
    have hi1 := hi0.upd0 hua
    go_wp2_with fail
    refine (new_any _ bs _ hi1 (by omega)).mono ?_
    rintro e wb ⟨E, rfl, hE, hbE, hub⟩
    have hDE : D < wa.heap.size := by obtain ⟨v, hv, _⟩ := hbD; exact lt_of_heap hv
    have hbD2 : BoxAt 37 D wb bs := by obtain ⟨v, hv, hi⟩ := hbD; exact ⟨v, hub.keep hv (fun f => f), hi.upd0 hub⟩
    have hne : ¬ D = E := by omega
    have hu0 := hua.trans hub (fun _ _ h => h)
    have hsz := hua.size
    have hE2 : w.heap.size ≤ E := by omega
    have hD2 : w.heap.size ≤ D := hD
    have hlt1 : len1 ≤ 9223372036854775807 := by omega
    have W1 := Lib.hid w1
    clear hi0 hi1 hbD hua hub hsz hDE hE w0 w1
    go_wp2_with fail
    go_loopw [7] (fun i wr => ∃ (k : Nat) (r : List Int), i = .int .i64 k ∧ k ≤ len1 ∧ k ≤ 100 ∧ BoxAt 37 D wr r ∧ BoxAt 37 E wr r ∧ (∀ x ∈ r, 0 ≤ x ∧ x < 256) ∧ r.length ≤ 1000 ∧ Upd (fun _ => False) w wr) (fun i _ => len1 - (intOf i).toNat)
    case atStart => exact ⟨0, bs, rfl, by omega, by omega, hbD2, hbE, hbt, hlen, hu0⟩
    case round =>
      obtain ⟨k, r, rfl, hk1, hk2, hd, he, hb, hl, hu⟩ := hrel
      clear hbD2 hbE hbt hlen hu0
      by_cases hlt : k < len1 ∧ k < 100
      · obtain ⟨hlt, hlt2⟩ := hlt
        obtain ⟨g, o, rfl, hcell⟩ : ∃ g o, a1 = some ⟨g, o, none⟩ ∧ w.cell? ⟨g, o + k, none⟩ = some (.int .i64 (z1.getD k 0)) := by
          rcases IntsAt.open W1.out with ⟨_, a, cap, hv, _⟩ | ⟨_, g, o, cap, hv, _, _, hcell⟩
          · simp only [Value.slice.injEq] at hv; omega
          · simp only [Value.slice.injEq] at hv
            exact ⟨g, o, hv.1, hcell k (by omega)⟩
        have hcr := cell_upd hu hcell (fun f => f)
        have hg := World.block_lt_of_cell? w _ hcell
        simp only at hg
        clear hcell
        generalize z1.getD k 0 = q at *
        obtain ⟨v, r', hvr⟩ : ∃ v r', nextM r q = (v, r') := ⟨_, _, rfl⟩
        have hb' : ∀ x ∈ r', 0 ≤ x ∧ x < 256 := by have := nextM_bytes (n := q) hb; rw [hvr] at this; exact this
        have HVR := Lib.hid hvr
        have HB := Lib.hid hb
        by_cases hq : q < 2
        · rw [nextM_low hq] at hvr
          simp only [Prod.mk.injEq] at hvr
          obtain ⟨rfl, rfl⟩ := hvr
          clear hb
          go_wp2_with fail
          refine (left_any D r _ hd).mono ?_
          rintro e w2 ⟨rfl, rfl⟩
          go_wp2_with fail
          refine (next_of q _ D r 0 r hd HVR.out HB.out (by omega)).mono ?_
          rintro e w2 ⟨rfl, hd2, hu2⟩
          have he2 := box_other he hd hu2 (fun h => hne h.symm)
          have hu02 := hu.trans hu2 (fun i hi e => by omega)
          have hcr2 := cell_upd hu2 hcr (by omega)
          clear hd he hu hu2 hcr
          go_wp2_with fail
          refine (left_any D r _ hd2).mono ?_
          rintro e w3 ⟨rfl, rfl⟩
          go_wp2_with fail
          all_goals
            refine (next_of q _ E r 0 r he2 HVR.out HB.out (by omega)).mono ?_
            rintro e w3 ⟨rfl, he3, hu3⟩
            have hd3 := box_other hd2 he2 hu3 hne
            have hu03 := hu02.trans hu3 (fun i hi e => by omega)
            have hcr3 := cell_upd hu3 hcr2 (by omega)
            clear hd2 he2 hu02 hu3 hcr2
            go_wp2_with fail
            go_roundw
            case rel => exact ⟨k + 1, r, by go_num, by omega, by omega, hd3, he3, hb', by omega, hu03⟩
            case measure => simp [intOf]; omega
        · have hw := nextM_within hb hq
          rw [hvr] at hw
          clear hvr hb
          obtain ⟨hv0, hv1, hr1, hr2⟩ := hw
          simp only at hv0 hv1 hr1 hr2
          go_wp2_with fail
          refine (left_any D r _ hd).mono ?_
          rintro e w2 ⟨rfl, rfl⟩
          go_wp2_with fail
          refine (next_of q _ D r v r' hd HVR.out HB.out (by omega)).mono ?_
          rintro e w2 ⟨rfl, hd2, hu2⟩
          have he2 := box_other he hd hu2 (fun h => hne h.symm)
          have hu02 := hu.trans hu2 (fun i hi e => by omega)
          have hcr2 := cell_upd hu2 hcr (by omega)
          clear hd he hu hu2 hcr
          go_wp2_with fail
          refine (left_any D r' _ hd2).mono ?_
          rintro e w3 ⟨rfl, rfl⟩
          go_wp2_with fail
          refine (next_of q _ E r v r' he2 HVR.out HB.out (by omega)).mono ?_
          rintro e w3 ⟨rfl, he3, hu3⟩
          have hd3 := box_other hd2 he2 hu3 hne
          have hu03 := hu02.trans hu3 (fun i hi e => by omega)
          have hcr3 := cell_upd hu3 hcr2 (by omega)
          clear hd2 he2 hu02 hu3 hcr2
          go_wp2_with fail
          go_roundw
          case rel => exact ⟨k + 1, r', by go_num, by omega, by omega, hd3, he3, hb', by omega, hu03⟩
          case measure => simp [intOf]; omega
      · clear W1
        by_cases hk : k < len1
        · have hk3 : ¬ k < 100 := by omega
          go_wp2_with fail
          refine (left_any D r _ hd).mono ?_
          rintro e w2 ⟨rfl, rfl⟩
          go_wp2_with fail
          refine (left_any E r _ he).mono ?_
          rintro e w2 ⟨rfl, rfl⟩
          go_wp2_with fail
          refine (works_any _).mono ?_
          rintro e w2 ⟨rfl, hu2⟩
          have huf := hu.trans hu2 (fun _ _ h => h)
          clear hu hu2
          go_wp2_with fail
          go_ret
          exact ⟨rfl, huf⟩
        · go_wp2_with fail
          refine (left_any D r _ hd).mono ?_
          rintro e w2 ⟨rfl, rfl⟩
          go_wp2_with fail
          refine (left_any E r _ he).mono ?_
          rintro e w2 ⟨rfl, rfl⟩
          go_wp2_with fail
          refine (works_any _).mono ?_
          rintro e w2 ⟨rfl, hu2⟩
          have huf := hu.trans hu2 (fun _ _ h => h)
          clear hu hu2
          go_wp2_with fail
          go_ret
          exact ⟨rfl, huf⟩
end Go.Proofs.Ytilojboanilpbaa
