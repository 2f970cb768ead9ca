/- The walk of DiceBack: what Lay laid is what Next chooses. -/
import Derived.Test.YtilojboanilpbaaG
import Derived.Test.YtilojboanilpbaaH
import Derived.Deep.RegionWith
namespace Go.Proofs.Ytilojboanilpbaa
open Go.RowKit Go.Acre

theorem layM_bytes (zs : List Int) : ∀ x ∈ layM zs, 0 ≤ x ∧ x < 256 := by
  intro x hx
  obtain ⟨y, _, rfl⟩ := List.mem_map.1 hx
  omega
theorem layM_next {zs : List Int} {k : Nat} {q : Int} (hk : k < zs.length) (hq : zs.getD k 0 = q) :
    nextM ((layM zs).drop k) 256 = (q % 256, (layM zs).drop (k + 1)) := by
  have hk2 : k < (layM zs).length := by simpa [layM] using hk
  have e : (layM zs)[k] = q % 256 := by rw [← hq]; simp [layM, List.getD, hk]
  rw [List.drop_eq_getElem_cons hk2, e]
  unfold nextM
  rw [if_neg (by omega), if_pos (by omega)]
  simp

theorem nextM_none (n : Int) : nextM [] n = (0, []) := by
  unfold nextM
  split
  · rfl
  · split <;> rfl
theorem back_byte (q : Int) (h : -9223372036854775808 ≤ q ∧ q ≤ 9223372036854775807) : (q % 256 != (IntKind.i64.wrap (q.tmod 256 + 256)).tmod 256) = false := by
  have h1 := Int.tmod_add_mul_tdiv q 256
  have h2 := Int.tmod_lt_of_pos q (show (0 : Int) < 256 by omega)
  have h3 := Int.lt_tmod_of_pos q (show (0 : Int) < 256 by omega)
  have e : IntKind.i64.wrap (q.tmod 256 + 256) = q.tmod 256 + 256 := by rw [IntKind.wrap_i64]; omega
  rw [e, Int.tmod_eq_emod_of_nonneg (by omega)]
  simp
  omega

set_option maxHeartbeats 4000000 in
set_option maxRecDepth 100000 in
theorem back_walk (a0 : Option Addr) (len0 cap0 : Nat) (z0 : List Int) (nn : Int) (w : World)
    (w0 : IntsAt .i64 w (.slice a0 len0 cap0) z0) (hb0 : ∀ x ∈ z0, -9223372036854775808 ≤ x ∧ x ≤ 9223372036854775807) :
    Calls Try.prog 6 #[.slice a0 len0 cap0, .int .i64 nn] w (Fresh true w) := by
  have hl0 : len0 ≤ cap0 ∧ cap0 ≤ maxLen := by obtain ⟨_, a', c', hv, h1, h2, _⟩ := w0; simp only [Value.slice.injEq] at hv; obtain ⟨rfl, rfl, rfl⟩ := hv; exact ⟨h1, h2⟩
  obtain ⟨h1, h2⟩ := hl0
  unfold maxLen at h2
  obtain ⟨m, hm, hmv⟩ : ∃ m, m ≤ len0 ∧ ((len0 ≤ 300 → m = len0) ∧ (¬ len0 ≤ 300 → m = 300)) := ⟨min len0 300, Nat.min_le_left _ _, fun h => Nat.min_eq_left h, fun h => Nat.min_eq_right (by omega)⟩
  have hm4 : m ≤ 300 := by by_cases h : len0 ≤ 300; have := hmv.1 h; omega; have := hmv.2 h; omega
  have hi0 := IntsAt_take w0 _ hm
  have HMV := Lib.hid hmv
  have hlz : z0.length = len0 := by obtain ⟨_, a', c', hv, _⟩ := w0; simp only [Value.slice.injEq] at hv; exact hv.2.1.symm
  have hlen : (z0.take m).length = m := by simp; omega
  have hbt : ∀ x ∈ z0.take m, -9223372036854775808 ≤ x ∧ x ≤ 9223372036854775807 := fun x hx => hb0 x (List.mem_of_mem_take hx)
  clear hmv w0 hlz hb0
  generalize z0.take m = zs at *
  have HL := Lib.hid hlen
  have HI := Lib.hid hi0
  have HBT := Lib.hid hbt
  clear hlen hi0 hbt
  go_enter Try.func6, Try.ntmps6
  go_upto_region 1 with fail
  go_cut [0] (fun s wx => s = .slice a0 m cap0 ∧ w = wx)
  case first =>
    by_cases hc : len0 ≤ 300
    · go_wp2_with fail
      rw [← HMV.out.1 hc]
      go_meet
      case rel => exact ⟨by rw [HMV.out.1 hc], rfl⟩
    · go_wp2_with fail
      go_meet
      case rel => exact ⟨by rw [HMV.out.2 hc], rfl⟩
  case rest =>
    obtain ⟨rfl, rfl⟩ := hcut
    clear h1 h2 hm HMV
    go_wp2_with fail
    refine (lay_any _ zs _ HI.out HBT.out (by rw [HL.out]; omega)).mono ?_
    rintro e wa ⟨va, rfl, hva, hua⟩
    go_wp2_with fail
    refine (new_any _ (layM zs) _ hva (by simp [layM]; rw [HL.out]; omega)).mono ?_
    rintro e wb ⟨D, rfl, hD, hbD, hub⟩
    have hu0 := hua.trans hub (fun _ _ h => h)
    have hD2 : w.heap.size ≤ D := by have := hua.size; omega
    clear hva hua hub hD
    go_wp2_with fail
    refine (left_any D _ _ hbD).mono ?_
    rintro e w2 ⟨rfl, rfl⟩
    have hll : (layM zs).length = m := by simp [layM]; exact HL.out
    rw [hll]
    clear hll
    go_wp2_with fail
    go_loopw [6] (fun i wr => ∃ (k : Nat), i = .int .i64 k ∧ k ≤ m ∧ BoxAt 37 D wr ((layM zs).drop k) ∧ Upd (fun _ => False) w wr) (fun i _ => m - (intOf i).toNat)
    case atStart => exact ⟨0, rfl, by omega, by simpa using hbD, hu0⟩
    case round =>
      obtain ⟨k, rfl, hk, hd, hu⟩ := hrel
      clear hbD hu0
      by_cases hlt : k < m
      · obtain ⟨g, o, rfl, hcell⟩ : ∃ g o, a0 = some ⟨g, o, none⟩ ∧ w.cell? ⟨g, o + k, none⟩ = some (.int .i64 (zs.getD k 0)) := by
          rcases IntsAt.open HI.out with ⟨hz, _⟩ | ⟨_, g, o, cap, hv, _, _, hcell⟩
          · have := HL.out; rw [hz] at this; simp at this; omega
          · simp only [Value.slice.injEq] at hv
            exact ⟨g, o, hv.1, hcell k (by rw [HL.out]; exact hlt)⟩
        have hcr := cell_upd hu hcell (fun f => f)
        have hg := World.block_lt_of_cell? w _ hcell
        simp only at hg
        have hn := layM_next (k := k) (by rw [HL.out]; exact hlt) rfl
        have hq := HBT.out (zs.getD k 0) (by have := HL.out; simp [List.getD, show k < zs.length by omega])
        clear hcell
        generalize zs.getD k 0 = q at *
        have HN := Lib.hid hn
        clear hn
        have HD := Lib.hid hd
        clear hd
        have hlenD : ((layM zs).drop k).length ≤ 100000 := by simp [layM]; rw [HL.out]; omega
        have hbD : ∀ x ∈ (layM zs).drop k, 0 ≤ x ∧ x < 256 := fun x hx => layM_bytes zs x (List.mem_of_mem_drop hx)
        have HBD := Lib.hid hbD
        have HLD := Lib.hid hlenD
        clear hbD hlenD
        have HD' : Hid (BoxAt 37 D wr.drew ((layM zs).drop k)) := HD.out
        have hud : Upd (fun _ => False) w wr.drew := hu.drew
        go_wp2_with fail
        go_region_with (go_at_call 10; refine (next_of 256 wr.drew D _ _ _ HD'.out HN.out HBD.out HLD.out).mono ?_; rintro e w2 ⟨rfl, hd2, hu2⟩; have hcr2 : w2.cell? ⟨g, o + k, none⟩ = some (.int .i64 q) := cell_upd hu2 (show wr.drew.cell? ⟨g, o + k, none⟩ = some (.int .i64 q) from hcr) (by omega))
        all_goals
          have hbb := back_byte q hq
          have huf := hud.trans hu2 (fun i hi e => by omega)
          go_wp2_with fail
          go_roundw
          case rel => exact ⟨k + 1, by go_num, by omega, hd2, huf⟩
          case measure => simp [intOf]; omega
      · have e : k = m := by omega
        have hz : (layM zs).drop k = [] := List.drop_eq_nil_of_le (by simp [layM]; rw [HL.out]; omega)
        rw [hz] at hd
        clear hz e
        go_wp2_with fail
        refine (left_any D _ _ hd).mono ?_
        rintro e w2 ⟨rfl, rfl⟩
        go_wp2_with fail
        refine (next_of nn _ D [] 0 [] hd (nextM_none nn) (by simp) (by simp)).mono ?_
        rintro e w2 ⟨rfl, hd2, hu2⟩
        have hu3 := hu.trans hu2 (fun i hi e => by omega)
        clear hd hu hu2
        go_wp2_with fail
        refine (left_any D _ _ hd2).mono ?_
        rintro e w3 ⟨rfl, rfl⟩
        go_wp2_with fail
        refine (works_any _).mono ?_
        rintro e w3 ⟨rfl, hu4⟩
        have huf := hu3.trans hu4 (fun _ _ h => h)
        clear hu3 hu4
        go_wp2_with fail
        go_ret
        exact ⟨rfl, huf⟩
end Go.Proofs.Ytilojboanilpbaa
