/- The walks of Same and of the law's works. -/
import Derived.Test.YtgkegfgdpekehaaH
namespace Go.Proofs.Ytgkegfgdpekehaa
open Go.RowKit Go.Acre

def SamePost (b : Bool) (w : World) (e : Ending) (w' : World) : Prop := e = .returned (.bool b) ∧ Upd (fun _ => False) w w'
theorem take_next {α : Type} {a b : List α} {k : Nat} (ha : k < a.length) (hb : k < b.length) (h : a.take k = b.take k) (e : a[k] = b[k]) : a.take (k + 1) = b.take (k + 1) := by
  rw [List.take_succ_eq_append_getElem ha, List.take_succ_eq_append_getElem hb, h, e]

set_option maxHeartbeats 1000000 in
theorem same_any (v v' : Value) (a b : List ByteArray) (w : World) (ha : StrsAt w v a) (hb : StrsAt w v' b) : Calls Try.prog 29 #[v, v'] w (SamePost (decide (a = b)) w) := by
  obtain ⟨p, c, rfl⟩ := ha.slice
  obtain ⟨q, d, rfl⟩ := hb.slice
  have h1 := ha.bound
  have h2 := hb.bound
  unfold maxLen at h1 h2
  have HA := Lib.hid ha
  have HB := Lib.hid hb
  clear ha hb
  obtain ⟨n, hn⟩ : ∃ n, n = a.length := ⟨_, rfl⟩
  obtain ⟨m, hm⟩ : ∃ m, m = b.length := ⟨_, rfl⟩
  have HN := Lib.hid hn
  have HM := Lib.hid hm
  rw [← hn] at h1 ⊢
  rw [← hm] at h2 ⊢
  by_cases hl : n = m
  · subst hl
    clear hn hm h2
    go_enter Try.func29, Try.ntmps29
    go_wp2_with fail
    go_loopw [5] (fun i wr => ∃ k : Nat, i = .int .i64 k ∧ k ≤ n ∧ Hid (a.take k = b.take k) ∧ Upd (fun _ => False) w wr) (fun i _ => n - (intOf i).toNat)
    case atStart => exact ⟨0, rfl, by omega, rfl, Upd.refl _ _⟩
    case round =>
      obtain ⟨k, rfl, hk, HE, hu⟩ := hrel
      by_cases hlt : k < n
      · have ka : k < a.length := by rw [← HN.out]; exact hlt
        have kb : k < b.length := by rw [← HM.out]; exact hlt
        obtain ⟨g, o, rfl, hc1⟩ := HA.out.cell ka
        obtain ⟨g', o', rfl, hc2⟩ := HB.out.cell kb
        have c1 := cell_upd hu hc1 (fun f => f)
        have c2 := cell_upd hu hc2 (fun f => f)
        clear hc1 hc2
        have HX : Hid (a[k] = b[k] → a.take (k + 1) = b.take (k + 1)) := take_next ka kb HE.out
        have HY : Hid (a = b → a[k] = b[k]) := fun e => by subst e; rfl
        generalize a[k] = s at *
        generalize b[k] = t at *
        by_cases hst : s = t
        · subst hst
          have HZ := Lib.hid (HX.out rfl)
          have hd : (s.toList == s.toList) = true := by simp
          clear HX HY
          go_wp2_with fail
          go_quiet (fail)
          go_wp2_with fail
          go_roundw
          case rel => exact ⟨k + 1, by go_num, by omega, HZ, hu.drewN _⟩
          case measure => simp [intOf]; omega
        · have hd : (s.toList == t.toList) = false := by rw [str_eql]; simp [hst]
          have hne : Hid (decide (a = b) = false) := decide_eq_false (fun e => hst (HY.out e))
          clear HX HY hst
          go_wp2_with fail
          go_quiet (fail)
          go_wp2_with fail
          go_ret
          exact ⟨by rw [hne.out]; rfl, hu.drewN _⟩
      · have e : k = n := by omega
        have hne : Hid (decide (a = b) = true) := decide_eq_true (by
          have := HE.out
          rwa [List.take_of_length_le (by rw [← HN.out]; omega), List.take_of_length_le (by rw [← HM.out]; omega)] at this)
        clear e
        go_wp2_with fail
        go_ret
        exact ⟨by rw [hne.out]; rfl, hu⟩
  · have hne : Hid (decide (a = b) = false) := decide_eq_false (fun e => hl (by rw [hn, hm, e]))
    clear hn hm
    go_enter Try.func29, Try.ntmps29
    go_wp2_with fail
    go_ret
    exact ⟨by rw [hne.out]; rfl, Upd.refl _ _⟩

theorem works_sum : Crc.sum (cat [⟨#[49, 50, 51, 52, 53, 54, 55, 56, 57]⟩]) = 3421780262 := by kernel_rfl
theorem works_frame : frameB ⟨#[]⟩ = ⟨#[0, 0, 0, 0, 28, 223, 68, 33]⟩ := by kernel_rfl
theorem works_open : openM (frameB ⟨#[]⟩ ++ ⟨#[120]⟩) = some (⟨#[]⟩, 8) := openM_frame (body := ⟨#[]⟩) (by decide)

set_option maxHeartbeats 2000000 in
set_option maxRecDepth 100000 in
theorem works_any (w : World) : Calls Try.prog 24 #[] w (SamePost true w) := by
  go_enter Try.func24, Try.ntmps24
  go_wp2_with fail
  refine (frame_any ⟨#[]⟩ _ (by decide)).mono ?_
  rintro e w1 ⟨rfl, hu1⟩
  go_wp2_with fail
  refine (open_some _ ?_ works_open).mono ?_
  · rw [ByteArray.size_append, frameB_size]; decide
  rintro e w2 ⟨rfl, hu2⟩
  have hu3 := hu1.trans hu2 (fun _ _ h => h)
  clear hu1 hu2
  rw [works_frame]
  go_wp2_with fail
  refine (sum_any _ [⟨#[49, 50, 51, 52, 53, 54, 55, 56, 57]⟩] _ (strs_alloc _ (by simp)) (by simp; decide)).mono ?_
  rintro e w4 ⟨rfl, hu4⟩
  rw [works_sum]
  have hu5 := (hu3.alloc (.cells #[.string ⟨#[49, 50, 51, 52, 53, 54, 55, 56, 57]⟩] 9)).trans hu4 (fun _ _ h => h)
  clear hu3 hu4
  go_wp2_with fail
  go_ret
  exact ⟨rfl, hu5⟩
end Go.Proofs.Ytgkegfgdpekehaa
