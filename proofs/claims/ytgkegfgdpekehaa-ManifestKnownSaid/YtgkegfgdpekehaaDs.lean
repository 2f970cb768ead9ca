/- The reference's Same, List, Of. -/
import Derived.Test.YtgkegfgdpekehaaDg
import Derived.Test.YtgkegfgdpekehaaDr
namespace Go.Proofs.Ytgkegfgdpekehaa
open Go.RowKit Go.Acre Go.Acre.Dk Go.Maps

set_option maxHeartbeats 2000000 in
set_option maxRecDepth 100000 in
theorem rsame_any {w : World} {a b : Option Addr} {n cap cap2 : Nat} {ss : List ByteArray} (hn : n = ss.length) (h1 : StrsAt w (.slice a n cap) ss) (h2 : StrsAt w (.slice b n cap2) ss) : Calls Try.prog 56 #[.slice a n cap, .slice b n cap2] w (Fresh true w) := by
  have hb := h1.bound
  have HN := Lib.hid hn
  have hnb : n ≤ 9223372036854775807 := by unfold maxLen at hb; omega
  have H1 := Lib.hid h1
  have H2 := Lib.hid h2
  clear h1 h2 hn hb
  go_enter Try.func56, Try.ntmps56
  go_wp2_with fail
  go_loopw [5] (fun i wr => ∃ (k : Nat), i = .int .i64 k ∧ k ≤ n ∧ Upd (fun _ => False) w wr) (fun i _ => n - (intOf i).toNat)
  case atStart => exact ⟨0, rfl, by omega, Upd.refl _ _⟩
  case round =>
    obtain ⟨k, rfl, hk, hu⟩ := hrel
    by_cases hlt : k < n
    · have hlt2 : (k : Int) < (n : Int) := by omega
      have hks : k < ss.length := by rw [← HN.out]; exact hlt
      obtain ⟨g, o, rfl, c1⟩ := H1.out.cell hks
      obtain ⟨g2, o2, rfl, c2⟩ := H2.out.cell hks
      have d1 := cell_upd hu c1 (fun f => f)
      have d2 := cell_upd hu c2 (fun f => f)
      clear c1 c2
      generalize ss[k] = s at *
      have hl : (s.toList == s.toList) = true := by simp
      go_wp2_with fail
      go_quiet (fail)
      go_wp2_with fail
      exact ⟨⟨k + 1, by go_num, by omega, hu.drewN _⟩, by simp [intOf]; omega⟩
    · have hge : ¬ (k : Int) < (n : Int) := by omega
      go_wp2_with fail
      go_ret
      exact ⟨rfl, hu⟩

theorem OwnStrs.base {w : World} {b c : Nat} {v : Value} {ss : List ByteArray} (h : OwnStrs w c v ss) (hb : b ≤ c) : OwnStrs w b v ss := by
  obtain ⟨h1, h2⟩ := h
  exact ⟨h1, h2.imp id (fun ⟨x, cap, cur, e, hx, r⟩ => ⟨x, cap, cur, e, Nat.le_trans hb hx, r⟩)⟩
theorem list_take (D : Files) (p : ByteArray) {k : Nat} (h : k < D.length) : listD (D.take (k + 1)) p = listD (D.take k) p ++ (if hasPre D[k].name p = true then [D[k].name] else []) := by
  unfold listD
  rw [List.take_succ_eq_append_getElem h, List.map_append, List.filter_append]
  congr 1
  simp only [List.map_cons, List.map_nil, List.filter_cons, List.filter_nil]
  rfl
set_option maxHeartbeats 2000000 in
set_option maxRecDepth 100000 in
theorem rlist_any {w : World} {R : Int} {a : Option Addr} {n cap : Nat} {D : Files} (hn : n = D.length) (h : FilesAt w (.slice a n cap) D) (p : ByteArray) (hnm : n ≤ 1000000) : Calls Try.prog 57 #[.agg #[.int .i64 R, .slice a n cap], .string p] w (ListPost (listD D p) w) := by
  obtain ⟨i0, hi, hz0, hz1, hz2⟩ := info_parts info9
  have HN := Lib.hid hn
  have hx := heap_alloc (w := w) (.cells #[.int .i64 R, .slice a n cap] 69)
  have hu : Upd (fun _ => False) w (w.alloc (.cells #[.int .i64 R, .slice a n cap] 69)) := (Upd.refl _ w).alloc _
  have hs : w.heap.size ≤ (w.alloc (.cells #[.int .i64 R, .slice a n cap] 69)).heap.size := by simp
  have H1 := Lib.hid (h.upd0 hu)
  clear h hn
  go_enter Try.func57, Try.ntmps57
  go_upto_region 1 with fail
  have x1 := cell_of_heap hx 1
  simp only [List.getElem?_toArray, List.getElem?_cons_zero, List.getElem?_cons_succ] at x1
  have HX := Lib.hid x1
  have HU := Lib.hid hu
  have HSZ := Lib.hid hs
  generalize w.alloc (.cells #[.int .i64 R, .slice a n cap] 69) = wa at *
  clear hx hu hs x1
  obtain ⟨xb, hxb⟩ : ∃ xb, xb = w.heap.size := ⟨_, rfl⟩
  rw [← hxb] at HX HSZ ⊢
  have HXB := Lib.hid hxb
  clear hxb
  go_wp2_with fail
  go_loopw [5, 6] (fun v i wr => ∃ (k : Nat) (acc : List ByteArray), i = .int .i64 k ∧ k ≤ n ∧ OwnStrs wr wa.heap.size v acc ∧ Hid (acc = listD (D.take k) p) ∧ acc.length ≤ k ∧ Upd (fun _ => False) wa wr) (fun _ i _ => n - (intOf i).toNat)
  case atStart => exact ⟨0, [], rfl, by omega, World.ownsRow_nil _ _ _ _, rfl, by simp, Upd.refl _ _⟩
  case round =>
    obtain ⟨k, acc, rfl, hk, ho, HACC, hal, hu⟩ := hrel
    have y1 := cell_upd hu HX.out (fun f => f)
    by_cases hlt : k < n
    · have hlt2 : (k : Int) < (n : Int) := by omega
      have hks : k < D.length := by rw [← HN.out]; exact hlt
      obtain ⟨g, o, rfl, c0, c1, c2⟩ := H1.out.cell hks
      have d0 := cell_upd hu c0 (fun f => f)
      have HT := Lib.hid (list_take D p hks)
      rw [← HACC.out] at HT
      clear c0 c1 c2
      generalize D[k].name = nm at *
      by_cases hsz : p.size ≤ nm.size
      · have hsz2 : (p.size : Int) ≤ (nm.size : Int) := by omega
        have hpre := pre_long hsz
        cases hp : hasPre nm p with
        | true =>
          rw [hp] at hpre HT
          simp only [if_true] at HT
          clear hp
          go_wp2_with (at_builtin; refine wpList_append_row rfl _ _ 36 rfl wa.heap.size 9 i0 (.string ⟨#[]⟩) 1 16 Try.underlying36 hi hz0 hz1 hz2 rfl (by decide) _ _ _ rfl (ho.alloc _) _ _ _ rfl (strs_alloc [nm] (by simp)) ?c2 ?c3 ?c4 ?c5 ?_)
          case c2 => exact strs_oneCell [nm]
          case c3 => unfold maxLen; simp; omega
          case c4 => simp; omega
          case c5 => have := hu.size; simp; omega
          intro v' w2 hown2 hg2
          have hu3 := (hu.alloc (.cells #[.string nm] 9)).of_grown hg2 (by intro j hj hj2; have := (ho.lt j hj).1; omega)
          go_wp2_with fail
          exact ⟨⟨k + 1, acc ++ [nm], by go_num, by omega, by unfold OwnStrs; simpa using hown2, HT.out.symm, by simp; omega, hu3⟩, by simp [intOf]; omega⟩
        | false =>
          rw [hp] at hpre HT
          have HT2 : Hid (acc = listD (D.take (k + 1)) p) := by
            have := HT.out
            simp at this
            exact this.symm
          clear hp HT
          go_wp2_with fail
          exact ⟨⟨k + 1, acc, by go_num, by omega, ho, HT2, by omega, hu⟩, by simp [intOf]; omega⟩
      · have hsz2 : ¬ (p.size : Int) ≤ (nm.size : Int) := by omega
        have HT2 : Hid (acc = listD (D.take (k + 1)) p) := by
          have := HT.out
          rw [pre_short hsz] at this
          simp at this
          exact this.symm
        clear HT
        go_wp2_with fail
        exact ⟨⟨k + 1, acc, by go_num, by omega, ho, HT2, by omega, hu⟩, by simp [intOf]; omega⟩
    · have hge : ¬ (k : Int) < (n : Int) := by omega
      have he : acc = listD D p := by
        have := HACC.out
        rw [List.take_of_length_le (by have := HN.out; omega)] at this
        exact this
      go_wp2_with fail
      go_ret
      exact ⟨_, rfl, by rw [← he]; exact OwnStrs.base ho (by have := HSZ.out; have := HXB.out; omega), HU.out.trans hu (fun _ _ h => h)⟩
/-- a name's file -/
def ofD (D : Files) (s : ByteArray) : Ent × Bool := match get En D s with | some f => (f, true) | none => (⟨⟨#[]⟩, ⟨#[]⟩, 0⟩, false)
def agE (f : Ent) : Value := .agg #[.string f.name, .string f.bytes, .int .i64 (f.synced : Nat)]
theorem srt_pos {D : Files} (h : Srt En D) {j k : Nat} (hj : j < D.length) (hk : k < D.length) (hjk : j < k) : bf D[j].name D[k].name = true := List.pairwise_iff_getElem.1 h j k hj hk hjk
/-- in a sorted row the place that is found is the file's, if there is one -/
theorem find_get {D : Files} (h : Srt En D) (s : ByteArray) : (findB D s = true → ∃ hk : findI D s < D.length, get En D s = some D[findI D s]) ∧ (findB D s = false → get En D s = none) := by
  constructor
  · intro hb
    unfold findB at hb
    split at hb
    · rename_i f hf
      obtain ⟨hk, e⟩ := List.getElem?_eq_some_iff.1 hf
      have hn : f.name = s := by simpa using hb
      refine ⟨hk, ?_⟩
      have hm : D[findI D s] ∈ D := List.getElem_mem hk
      have := get_of En h hm
      rw [e] at this ⊢
      rw [← hn]
      exact this
    · cases hb
  · intro hb
    refine get_of_none En fun f hf e => ?_
    have e : f.name = s := e
    obtain ⟨j, hj, rfl⟩ := List.getElem_of_mem hf
    have hf1 : findI D s = j := by
      unfold findI
      rw [List.findIdx_eq hj]
      refine ⟨by simp [e, bf_irrefl], fun i hi => ?_⟩
      have := srt_pos h (by omega) hj hi
      rw [e] at this
      simp [this]
    unfold findB at hb
    rw [hf1, List.getElem?_eq_getElem hj] at hb
    simp [e] at hb
def OfPost (D : Files) (s : ByteArray) (w : World) (e : Ending) (w' : World) : Prop := e = .returned (.tuple #[agE (ofD D s).1, .bool (ofD D s).2]) ∧ Upd (fun _ => False) w w'
end Go.Proofs.Ytgkegfgdpekehaa
