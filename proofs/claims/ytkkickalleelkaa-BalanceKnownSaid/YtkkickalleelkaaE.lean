/- The walks of Own and Same. -/
import Derived.Test.YtkkickalleelkaaD
namespace Go.Proofs.Ytkkickalleelkaa
open Go.RowKit Go.Acre
theorem info_parts {P : Program} {e : TypeId} {z : Value} {s b : Nat} (h : (P.info? e).map (fun i => (i.zero, i.size, i.bytes)) = some (some z, s, b)) :
    ∃ i, P.info? e = some i ∧ i.zero = some z ∧ i.size = s ∧ i.bytes = b := by
  cases hi : P.info? e with
  | none => rw [hi] at h; cases h
  | some i =>
    rw [hi] at h
    simp only [Option.map_some, Option.some.injEq, Prod.mk.injEq] at h
    exact ⟨i, rfl, h.1, h.2.1, h.2.2⟩
theorem info48 : (Try.prog.info? 48).map (fun i => (i.zero, i.size, i.bytes)) = some (some (.agg #[.string ⟨#[]⟩, .string ⟨#[]⟩, .int .u64 0, .bool false, .string ⟨#[]⟩]), 5, 64) := by kernel_rfl
theorem info9 : (Try.prog.info? 9).map (fun i => (i.zero, i.size, i.bytes)) = some (some (.string ⟨#[]⟩), 1, 16) := by kernel_rfl
def OwnPost (l : List Ce) (w : World) (e : Ending) (w' : World) : Prop := ∃ a cap, e = .returned (.slice a l.length cap) ∧ w'.ownsRow w.heap.size 48 5 (.slice a l.length cap) l.length (flatC l) ∧ Upd (fun _ => False) w w'
set_option maxHeartbeats 1000000 in
theorem own_any {w : World} {a : Option Addr} {n cap : Nat} {l : List Ce} (h : CellsAt w (.slice a n cap) l) (hlen : n ≤ 300) :
    Calls Try.prog 6 #[.slice a n cap] w (OwnPost l w) := by
  obtain ⟨hn, h1, h2⟩ := h.fits
  obtain ⟨i0, hi, hz0, hz1, hz2⟩ := info_parts info48
  subst hn
  have H := Lib.hid h
  clear h
  go_enter Try.func6, Try.ntmps6
  go_wp2_with (at_builtin; refine wpList_append_row rfl _ _ 22 rfl w.heap.size 48 i0 (.agg #[.string ⟨#[]⟩, .string ⟨#[]⟩, .int .u64 0, .bool false, .string ⟨#[]⟩]) 5 64 Try.underlying22 hi hz0 hz1 hz2 rfl (by decide) _ _ _ rfl (World.ownsRow_nil _ _ _ _) _ _ _ rfl H.out ?c2 ?c3 ?c4 ?c5 ?_)
  case c2 => exact flatC_cell _
  case c3 => unfold maxLen; omega
  case c4 => omega
  case c5 => exact Nat.le_refl _
  intro v w2 hown hg
  obtain ⟨va, vc, rfl⟩ := (RowAt.of_own hown).slice
  have hu : Upd (fun _ => False) w w2 := (Upd.refl _ w).of_grown hg (fun j hj _ => by cases hj)
  have HO := Lib.hid hown
  clear hown hg
  go_wp2_with fail
  go_ret
  exact ⟨va, vc, rfl, HO.out, hu⟩
set_option maxHeartbeats 1000000 in
set_option maxRecDepth 100000 in
theorem same_any {w : World} {a b : Option Addr} {n cap cap2 : Nat} {l : List Ce} (h : CellsAt w (.slice a n cap) l) (h2 : CellsAt w (.slice b n cap2) l) :
    Calls Try.prog 12 #[.slice a n cap, .slice b n cap2] w (PureUpd (.bool true) w) := by
  obtain ⟨hn, h3, h4⟩ := h.fits
  unfold maxLen at h4
  have H := Lib.hid h
  have H2 := Lib.hid h2
  have HN := Lib.hid hn
  clear h h2 hn
  go_enter Try.func12, Try.ntmps12
  go_upto_region 4 with fail
  go_loopw [5] (fun i wr => ∃ k : Nat, i = .int .i64 k ∧ k ≤ n ∧ Upd (fun _ => False) w wr) (fun i _ => n - (intOf i).toNat)
  case atStart => exact ⟨0, rfl, by omega, Upd.refl _ _⟩
  case round =>
    obtain ⟨k, rfl, hk, hu⟩ := hrel
    by_cases hlt : k < n
    · have hlti : (k : Int) < (n : Int) := by omega
      have hk0 : (0 : Int) ≤ (k : Int) := by omega
      have hkl : k < l.length := by rw [← HN.out]; exact hlt
      obtain ⟨g, o, rfl, c0, c1, c2, c3, c4⟩ := (H.out.upd0 hu).cell hkl
      obtain ⟨g2, o2, rfl, d0, d1, d2, d3, d4⟩ := (H2.out.upd0 hu).cell hkl
      generalize l[k] = f at *
      go_upto_region 6 with fail
      go_quiet (fail)
      go_wp2_with fail
      exact ⟨⟨k + 1, by go_num, by omega, hu.drewN _⟩, by simp [intOf]; omega⟩
    · have hlti : ¬ (k : Int) < (n : Int) := by omega
      go_wp2_with fail
      go_ret
      exact ⟨rfl, hu⟩
end Go.Proofs.Ytkkickalleelkaa
