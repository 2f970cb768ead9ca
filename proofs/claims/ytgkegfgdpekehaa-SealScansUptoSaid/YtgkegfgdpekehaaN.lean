/- The walk of the law SealScans (for texts of at most 2^40 bytes). -/
import Derived.Test.YtgkegfgdpekehaaJ
namespace Go.Proofs.Ytgkegfgdpekehaa
open Go.RowKit Go.Acre

/-- block g holds n strings that may be written -/
def Roomy (g n : Nat) (w : World) : Prop := ∃ cur : Array Value, w.heap[g]? = some (.cells cur 9 (0, 0)) ∧ ∀ i, i < n → ∃ s, cur[i]? = some (.string s)
theorem Roomy.upd {g n : Nat} {w w' : World} {S : Nat → Prop} (h : Roomy g n w) (hu : Upd S w w') (hS : ¬ S g) : Roomy g n w' := by
  obtain ⟨cur, h1, h2⟩ := h
  exact ⟨cur, hu.keep h1 hS, h2⟩
theorem Roomy.cell {g n : Nat} {w : World} (h : Roomy g n w) {i : Nat} (hi : i < n) : (∃ s, w.cell? ⟨g, i, none⟩ = some (.string s)) ∧ w.frozen? ⟨g, i, none⟩ = false := by
  obtain ⟨cur, h1, h2⟩ := h
  obtain ⟨s, hs⟩ := h2 i hi
  exact ⟨⟨s, by rw [cell_of_heap h1, hs]⟩, frozen_of_heap h1 i none⟩
theorem Roomy.set {g n : Nat} {w : World} (h : Roomy g n w) {j : Nat} {s : ByteArray} (hj : j < n) : Roomy g n (w.setCell ⟨g, j, none⟩ (.string s)) := by
  obtain ⟨cur, h1, h2⟩ := h
  refine ⟨_, heap_setCell h1 _, fun i hi => ?_⟩
  obtain ⟨x, hx⟩ := h2 i hi
  by_cases e : j = i
  · subst e
    refine ⟨s, ?_⟩
    have : j < cur.size := (Array.getElem?_eq_some_iff.1 hx).1
    simp [this]
  · exact ⟨x, by simp [Array.getElem?_setIfInBounds, e, hx]⟩
theorem Roomy.of_own {w : World} {base : Nat} {v : Value} {ss : List ByteArray} (h : OwnStrs w base v ss) (hne : 0 < ss.length) : ∃ g cap, v = .slice (some ⟨g, 0, none⟩) ss.length cap ∧ base ≤ g ∧ g < w.heap.size ∧ Roomy g ss.length w := by
  rcases h.2 with ⟨_, hn⟩ | ⟨g, cap, cur, rfl, hb, hg, h1, h2, h3, h4⟩
  · omega
  · refine ⟨g, cap, rfl, hb, lt_of_heap hg, cur, hg, fun i hi => ⟨ss[i], ?_⟩⟩
    have e := congrArg (fun l => l[i]?) h4
    simp only [Nat.mul_one, List.getElem?_take, hi, if_true, Array.getElem?_toList, List.getElem?_map, List.getElem?_eq_getElem hi, Option.map_some] at e
    exact e

theorem same_self (v v' : Value) (a : List ByteArray) (w : World) (ha : StrsAt w v a) (hb : StrsAt w v' a) : Calls Try.prog 29 #[v, v'] w (SamePost true w) := by
  have := same_any v v' a a w ha hb
  rwa [decide_eq_true rfl] at this

set_option maxHeartbeats 2000000 in
set_option maxRecDepth 100000 in
theorem scans_walk (s : ByteArray) (w : World) (hs0 : s.size ≤ 1048576) : Calls Try.prog 8 #[.string s] w (SamePost true w) := by
  have hs : s.size ≤ 1099511627776 := by omega
  obtain ⟨ss, hss⟩ : ∃ ss, ss = (scanR s).1 := ⟨_, rfl⟩
  obtain ⟨n, hn⟩ : ∃ n, n = (scanR s).2 := ⟨_, rfl⟩
  have HS := Lib.hid hss
  have HN := Lib.hid hn
  clear hss hn
  go_enter Try.func8, Try.ntmps8
  go_wp2_with fail
  refine (scan_any s _ hs).mono ?_
  rintro e w1 ⟨v, rfl, ho, hu1⟩
  rw [← HS.out] at ho
  rw [← HN.out]
  go_wp2_with fail
  refine (rscan_any s _ hs).mono ?_
  rintro e w2 ⟨v2, rfl, ho2, hu2⟩
  rw [← HS.out] at ho2
  rw [← HN.out]
  have hwant := StrsAt.of_own ho2
  have ho1 := OwnStrs.upd0 ho hu2
  have hl1 := StrsAt.of_own ho1
  have hu3 := hu1.trans hu2 (fun _ _ h => h)
  have hblk : Hid (∀ g, v2.ownBlock = some g → w1.heap.size ≤ g) := fun g hg => (ho2.lt g hg).1
  have hblk1 : Hid (∀ g, v.ownBlock = some g → w.heap.size ≤ g ∧ g < w1.heap.size) := fun g hg => ho.lt g hg
  clear hu1 hu2 ho ho2
  go_wp2_with fail
  refine (same_self v v2 ss _ hl1 hwant).mono ?_
  rintro e w3 ⟨rfl, hu4⟩
  have hu5 := hu3.trans hu4 (fun _ _ h => h)
  have ho3 := OwnStrs.upd0 ho1 hu4
  have hw3 := hwant.upd0 hu4
  obtain ⟨a, cap, rfl⟩ := hl1.slice
  clear ho1 hl1 hwant hu3 hu4
  go_wp2_with fail
  obtain ⟨len, hlen⟩ : ∃ len, len = ss.length := ⟨_, rfl⟩
  have HL := Lib.hid hlen
  have hb := hw3.bound
  unfold maxLen at hb
  rw [← hlen] at hb ⊢
  clear hlen
  go_loopw [7] (fun i wr => ∃ k : Nat, i = .int .i64 k ∧ k ≤ len ∧ Hid (StrsAt wr v2 ss) ∧ Hid (0 < len → ∃ g, a = some ⟨g, 0, none⟩ ∧ w.heap.size ≤ g ∧ (∀ b, v2.ownBlock = some b → b ≠ g) ∧ Roomy g len wr) ∧ Upd (fun _ => False) w wr) (fun i _ => len - (intOf i).toNat)
  case atStart =>
    refine ⟨0, rfl, by omega, hw3, ?_, hu5⟩
    intro hpos
    obtain ⟨g, cap', e, h1, h2, h3⟩ := Roomy.of_own ho3 (by rw [← HL.out]; exact hpos)
    simp only [Value.slice.injEq] at e
    obtain ⟨rfl, _, _⟩ := e
    have h4 := hblk1.out g rfl
    exact ⟨g, rfl, h1, fun b hb' => by have := hblk.out b hb'; omega, by rw [HL.out]; exact h3⟩
  case round =>
    obtain ⟨k, rfl, hk, HW, HR, hu⟩ := hrel
    by_cases hlt : k < len
    · obtain ⟨g, rfl, hg1, hg2, hr⟩ := HR.out (by omega)
      obtain ⟨⟨x, hx⟩, hfz⟩ := hr.cell hlt
      have HR2 : Hid (Roomy g len (wr.setCell ⟨g, k, none⟩ (.string ⟨#[120]⟩))) := hr.set hlt
      have HW2 : Hid (StrsAt (wr.setCell ⟨g, k, none⟩ (.string ⟨#[120]⟩)) v2 ss) :=
        RowAt.upd_own HW.out ((Upd.refl (fun i => i = g) wr).setCell (p := ⟨g, k, none⟩) (fun _ => rfl) _) (fun b hb' => hg2 b hb')
      have HG2 := Lib.hid hg2
      clear hr HR HW hg2
      go_wp2_with fail
      go_roundw
      case rel => exact ⟨k + 1, by go_num, by omega, HW2, fun _ => ⟨g, rfl, hg1, HG2.out, HR2.out⟩, hu.setCell (p := ⟨g, k, none⟩) (fun h => by simp at h; omega) _⟩
      case measure => simp [intOf]; omega
    · go_wp2_with fail
      refine (scan_any s _ hs).mono ?_
      rintro e w5 ⟨v5, rfl, ho5, hu6⟩
      rw [← HS.out] at ho5
      rw [← HN.out]
      have hl5 := StrsAt.of_own ho5
      have hu7 := hu.trans hu6 (fun _ _ h => h)
      have hw5 := HW.out.upd0 hu6
      clear ho5 hu6 HW HR
      go_wp2_with fail
      refine (same_self v5 v2 ss _ hl5 hw5).mono ?_
      rintro e w6 ⟨rfl, hu8⟩
      have hu9 := hu7.trans hu8 (fun _ _ h => h)
      go_wp2_with fail
      refine (works_any _).mono ?_
      rintro e w7 ⟨rfl, hu10⟩
      go_wp2_with fail
      go_ret
      exact ⟨rfl, hu9.trans hu10 (fun _ _ h => h)⟩
end Go.Proofs.Ytgkegfgdpekehaa
