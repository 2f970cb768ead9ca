/- The walks of DiceLays, DicePlays and DiceKnown. -/
import Derived.Test.YtilojboanilpbaaI
import Derived.Laws.BytesArg
namespace Go.Proofs.Ytilojboanilpbaa
open Go.RowKit Go.Acre

theorem convert_ints {P : Program} {w : World} {v : Value} {zs : List Int} (h : IntsAt .u8 w v zs) (src dst e : TypeId) (hs : P.underlying src = some (.slice e)) (he : P.underlying e = some (.int .u8)) (hd : P.underlying dst = some .string) :
    (convert src dst v).run P w = .ok (.string (strOfNums zs)) w := by
  rcases IntsAt.open h with ⟨rfl, a, cap, rfl, _, _⟩ | ⟨_, g, o, cap, rfl, _, _, hc⟩
  · cases a with
    | none => rw [run_convert_bytes_nil w src e hs he 0 cap dst hd]; rfl
    | some a =>
      rw [run_convert_bytes_string w src dst e _ 0 cap hs he hd, run_bytesToString w a 0 cap [] (by simp [loadCells, loadCellsFrom])]
      rfl
  · exact run_convert_bytes_arg w src e hs he g o zs.length cap zs rfl hc dst hd

set_option maxHeartbeats 2000000 in
set_option maxRecDepth 100000 in
theorem lays_walk (a0 : Option Addr) (len0 cap0 : Nat) (z0 : List Int) (w : World)
    (w0 : IntsAt .i64 w (.slice a0 len0 cap0) z0) (hb0 : ∀ x ∈ z0, -9223372036854775808 ≤ x ∧ x ≤ 9223372036854775807) :
    Calls Try.prog 5 #[.slice a0 len0 cap0] w (Fresh true w) := by
  have hl0 : len0 ≤ cap0 ∧ cap0 ≤ maxLen := by obtain ⟨_, a', c', hv, h1, h2, _⟩ := w0; simp only [Value.slice.injEq] at hv; obtain ⟨rfl, rfl, rfl⟩ := hv; exact ⟨h1, h2⟩
  obtain ⟨h1, h2⟩ := hl0
  unfold maxLen at h2
  obtain ⟨m, hm, hmv⟩ : ∃ m, m ≤ len0 ∧ ((len0 ≤ 1000 → m = len0) ∧ (¬ len0 ≤ 1000 → m = 1000)) := ⟨min len0 1000, Nat.min_le_left _ _, fun h => Nat.min_eq_left h, fun h => Nat.min_eq_right (by omega)⟩
  have hm4 : m ≤ 1000 := by by_cases h : len0 ≤ 1000; have := hmv.1 h; omega; have := hmv.2 h; omega
  have hi0 := IntsAt_take w0 _ hm
  have HMV := Lib.hid hmv
  have hlz : z0.length = len0 := by obtain ⟨_, a', c', hv, _⟩ := w0; simp only [Value.slice.injEq] at hv; exact hv.2.1.symm
  have hlen : (z0.take m).length = m := by simp; omega
  have hbt : ∀ x ∈ z0.take m, -9223372036854775808 ≤ x ∧ x ≤ 9223372036854775807 := fun x hx => hb0 x (List.mem_of_mem_take hx)
  clear hmv w0 hlz hb0
  generalize z0.take m = zs at *
  have HL := Lib.hid hlen
  have HI := Lib.hid hi0
  have HBT := Lib.hid hbt
  clear hlen hi0 hbt
  go_enter Try.func5, Try.ntmps5
  go_upto_region 1 with fail
  go_cut [0] (fun s wx => s = .slice a0 m cap0 ∧ w = wx)
  case first =>
    by_cases hc : len0 ≤ 1000
    · go_wp2_with fail
      rw [← HMV.out.1 hc]
      go_meet
      case rel => exact ⟨by rw [HMV.out.1 hc], rfl⟩
    · go_wp2_with fail
      go_meet
      case rel => exact ⟨by rw [HMV.out.2 hc], rfl⟩
  case rest =>
    obtain ⟨rfl, rfl⟩ := hcut
    clear h1 h2 hm HMV
    go_wp2_with fail
    refine (lay_any _ zs _ HI.out HBT.out (by rw [HL.out]; omega)).mono ?_
    rintro e wa ⟨va, rfl, hva, hua⟩
    go_wp2_with fail
    refine (rlay_any _ zs _ (HI.out.upd0 hua) HBT.out (by rw [HL.out]; omega)).mono ?_
    rintro e wb ⟨vb, rfl, hvb, hub⟩
    have c1 := convert_ints (P := Try.prog) (hva.upd0 hub) 22 9 5 Try.underlying22 Try.underlying5 Try.underlying9
    have c2 := convert_ints (P := Try.prog) hvb 22 9 5 Try.underlying22 Try.underlying5 Try.underlying9
    have hu := hua.trans hub (fun _ _ h => h)
    generalize strOfNums (layM zs) = t at *
    clear hva hvb hua hub
    go_wp2_with fail
    refine (works_any _).mono ?_
    rintro e w3 ⟨rfl, hu4⟩
    have huf := hu.trans hu4 (fun _ _ h => h)
    clear hu hu4 c1 c2
    go_wp2_with fail
    go_ret
    exact ⟨rfl, huf⟩
end Go.Proofs.Ytilojboanilpbaa
