/- The reference's without, with. -/
import Derived.Test.YtgkegfgdpekehaaGreatDt
namespace Go.Proofs.YtgkegfgdpekehaaGreat
open Go.RowKit Go.Acre Go.Acre.Dk Go.Maps
theorem info76 : (Tryz.prog.info? 54).map (fun i => (i.zero, i.size, i.bytes)) = some (some (.agg #[.string ⟨#[]⟩, .string ⟨#[]⟩, .int .i64 0]), 3, 40) := by kernel_rfl
theorem flatE_append (A B : Files) : flatE (A ++ B) = flatE A ++ flatE B := List.flatMap_append
theorem flatE_one (f : Ent) : flatE [f] = [.string f.name, .string f.bytes, .int .i64 (f.synced : Nat)] := rfl
theorem flatE_cell (D : Files) : ∀ u ∈ flatE D, u.oneCell' = true := by
  intro u hu
  obtain ⟨f, _, hf⟩ := List.mem_flatMap.1 hu
  simp only [List.mem_cons, List.not_mem_nil, or_false] at hf
  rcases hf with rfl | rfl | rfl <;> rfl
/-- files in a row of the call's own -/
def OwnF (w : World) (base : Nat) (v : Value) (D : Files) : Prop := w.ownsRow base 54 3 v D.length (flatE D)
theorem OwnF.files {w : World} {base : Nat} {v : Value} {D : Files} (h : OwnF w base v D) : FilesAt w v D := RowAt.of_own h
theorem OwnF.upd0 {w w' : World} {base : Nat} {v : Value} {D : Files} (h : OwnF w base v D) (hu : Upd (fun _ => False) w w') : OwnF w' base v D := owns_upd h hu (fun _ _ f => f)
theorem OwnF.base {w : World} {b c : Nat} {v : Value} {D : Files} (h : OwnF w c v D) (hb : b ≤ c) : OwnF w b v D := by
  obtain ⟨h1, h2⟩ := h
  exact ⟨h1, h2.imp id (fun ⟨x, cap, cur, e, hx, r⟩ => ⟨x, cap, cur, e, Nat.le_trans hb hx, r⟩)⟩
theorem OwnF.slice {w : World} {b : Nat} {v : Value} {D : Files} (h : OwnF w b v D) : ∃ a cap, v = .slice a D.length cap := RowAt.slice h.files
theorem files_alloc {w : World} (f : Ent) : FilesAt (w.alloc (.cells #[.string f.name, .string f.bytes, .int .i64 (f.synced : Nat)] 54)) (.slice (some ⟨w.heap.size, 0, none⟩) 1 1) [f] := by
  refine ⟨rfl, some ⟨w.heap.size, 0, none⟩, 1, rfl, Nat.le_refl _, by unfold maxLen; omega, (fun e => by cases e), fun _ => ⟨w.heap.size, 0, rfl, fun i hi => ?_⟩⟩
  rw [flatE_one] at hi ⊢
  have := cell_of_heap (heap_alloc (w := w) (.cells #[.string f.name, .string f.bytes, .int .i64 (f.synced : Nat)] 54)) (0 + i)
  rw [this, Nat.zero_add]
  simp
/-- a disk of the reference's, whose files lie in new memory -/
def RefPost (R : Int) (D : Files) (w : World) (e : Ending) (w' : World) : Prop := ∃ a cap, e = .returned (.agg #[.int .i64 R, .slice a D.length cap]) ∧ FilesAt w' (.slice a D.length cap) D ∧ Upd (fun _ => False) w w' ∧ ∀ g, (Value.slice a D.length cap).ownBlock = some g → w.heap.size ≤ g
theorem drop_take (D : Files) (s : ByteArray) {k : Nat} (h : k < D.length) : drop En s (D.take (k + 1)) = drop En s (D.take k) ++ (if D[k].name = s then [] else [D[k]]) := by
  unfold drop
  rw [List.take_succ_eq_append_getElem h, List.filter_append]
  congr 1
  simp only [List.filter_cons, List.filter_nil, En]
  by_cases e : D[k].name = s <;> simp [e]
set_option maxHeartbeats 2000000 in
set_option maxRecDepth 100000 in
theorem without_any {w : World} {R : Int} {a : Option Addr} {n cap : Nat} {D : Files} (hn : n = D.length) (h : FilesAt w (.slice a n cap) D) (s : ByteArray) (hnm : n ≤ 1000000) : Calls Tryz.prog 62 #[.agg #[.int .i64 R, .slice a n cap], .string s] w (RefPost R (drop En s D) w) := by
  obtain ⟨i0, hi, hz0, hz1, hz2⟩ := info_parts info76
  have HN := Lib.hid hn
  have hu1 : Upd (fun _ => False) w (w.alloc (.cells #[.int .i64 R, .slice a n cap] 33)) := (Upd.refl _ w).alloc _
  have hx1 := heap_alloc (w := w) (.cells #[.int .i64 R, .slice a n cap] 33)
  have hs1 : (w.alloc (.cells #[.int .i64 R, .slice a n cap] 33)).heap.size = w.heap.size + 1 := by simp
  have hx2 := heap_alloc (w := w.alloc (.cells #[.int .i64 R, .slice a n cap] 33)) (.cells #[.int .i64 0, .slice none 0 0] 33)
  rw [hs1] at hx2
  have hu2 : Upd (fun _ => False) (w.alloc (.cells #[.int .i64 R, .slice a n cap] 33)) ((w.alloc (.cells #[.int .i64 R, .slice a n cap] 33)).alloc (.cells #[.int .i64 0, .slice none 0 0] 33)) := (Upd.refl _ _).alloc _
  have hs2 : ((w.alloc (.cells #[.int .i64 R, .slice a n cap] 33)).alloc (.cells #[.int .i64 0, .slice none 0 0] 33)).heap.size = w.heap.size + 2 := by simp
  have hx1' := hu2.keep hx1 (fun f => f)
  have HU := Lib.hid (hu1.trans hu2 (fun _ _ h => h))
  have H1 := Lib.hid (h.upd0 HU.out)
  clear h hn hu1 hu2 hx1
  go_enter Tryz.func62, Tryz.ntmps62
  go_upto_region 1 with fail
  have x0 := cell_of_heap hx1' 0
  have x1 := cell_of_heap hx1' 1
  simp only [List.getElem?_toArray, List.getElem?_cons_zero, List.getElem?_cons_succ] at x0 x1
  have HX0 := Lib.hid x0
  have HX1 := Lib.hid x1
  have HX2 := Lib.hid hx2
  have HS2 := Lib.hid hs2
  clear x0 x1 hx2 hx1' hs1 hs2
  generalize (w.alloc (.cells #[.int .i64 R, .slice a n cap] 33)).alloc (.cells #[.int .i64 0, .slice none 0 0] 33) = wb at *
  generalize hxb : w.heap.size = xb at *
  have HXB := Lib.hid hxb
  clear hxb
  go_wp2_with fail
  go_loopw [5, 6] (fun v i wr => ∃ (k : Nat) (acc : Files), i = .int .i64 k ∧ k ≤ n ∧ OwnF wr wb.heap.size v acc ∧ Hid (acc = drop En s (D.take k)) ∧ acc.length ≤ k ∧ Upd (fun _ => False) wb wr) (fun _ i _ => n - (intOf i).toNat)
  case atStart => exact ⟨0, [], rfl, by omega, World.ownsRow_nil _ _ _ _, rfl, by simp, Upd.refl _ _⟩
  case round =>
    obtain ⟨k, acc, rfl, hk, ho, HACC, hal, hu⟩ := hrel
    have y0 := cell_upd hu HX0.out (fun f => f)
    have y1 := cell_upd hu HX1.out (fun f => f)
    by_cases hlt : k < n
    · have hlt2 : (k : Int) < (n : Int) := by omega
      have hks : k < D.length := by rw [← HN.out]; exact hlt
      obtain ⟨g, o, rfl, c0, c1, c2⟩ := H1.out.cell hks
      have d0 := cell_upd hu c0 (fun f => f)
      have d1 := cell_upd hu c1 (fun f => f)
      have d2 := cell_upd hu c2 (fun f => f)
      have HT := Lib.hid (drop_take D s hks)
      rw [← HACC.out] at HT
      clear c0 c1 c2
      generalize D[k] = f at *
      by_cases he : f.name = s
      · have hl : (f.name.toList == s.toList) = true := by rw [str_eql]; simp [he]
        have HT2 : Hid (acc = drop En s (D.take (k + 1))) := by
          have := HT.out
          rw [if_pos he, List.append_nil] at this
          exact this.symm
        clear HT he
        go_wp2_with fail
        exact ⟨⟨k + 1, acc, by go_num, by omega, ho, HT2, by omega, hu⟩, by simp [intOf]; omega⟩
      · have hl : (f.name.toList == s.toList) = false := by rw [str_eql]; simp [he]
        have HT2 : Hid (acc ++ [f] = drop En s (D.take (k + 1))) := by
          have := HT.out
          rw [if_neg he] at this
          exact this.symm
        clear HT he
        go_wp2_with (at_builtin; refine wpList_append_row rfl _ _ 31 rfl wb.heap.size 54 i0 (.agg #[.string ⟨#[]⟩, .string ⟨#[]⟩, .int .i64 0]) 3 40 Tryz.underlying31 hi hz0 hz1 hz2 rfl (by decide) _ _ _ rfl (OwnF.upd0 ho ((Upd.refl (fun _ => False) _).alloc _)) _ _ _ rfl (files_alloc f) ?c2 ?c3 ?c4 ?c5 ?_)
        case c2 => exact flatE_cell [f]
        case c3 => unfold maxLen; simp; omega
        case c4 => simp; omega
        case c5 => have := hu.size; simp; omega
        intro v' w2 hown2 hg2
        have hu3 := (hu.alloc (.cells #[.string f.name, .string f.bytes, .int .i64 (f.synced : Nat)] 54)).of_grown hg2 (by intro j hj hj2; have := (ho.lt j hj).1; omega)
        go_wp2_with fail
        exact ⟨⟨k + 1, acc ++ [f], by go_num, by omega, by unfold OwnF; rw [flatE_append]; simpa using hown2, HT2, by simp; omega, hu3⟩, by simp [intOf]; omega⟩
    · have hge : ¬ (k : Int) < (n : Int) := by omega
      have he : acc = drop En s D := by
        have := HACC.out
        rw [List.take_of_length_le (by have := HN.out; omega)] at this
        exact this
      subst he
      obtain ⟨va, vc, rfl⟩ := ho.slice
      have hx3 := hu.keep HX2.out (fun f => f)
      have t0 := cell_of_heap hx3 0
      have t1 := cell_of_heap hx3 1
      simp only [List.getElem?_toArray, List.getElem?_cons_zero, List.getElem?_cons_succ] at t0 t1
      have z0 := frozen_of_heap hx3 0 none
      have z1 := frozen_of_heap hx3 1 none
      have HX3 := Lib.hid hx3
      clear hx3
      go_wp2_with fail
      try simp only [Exit.inBlock, Exit.then]
      refine bodyPost_ret (results_cell_row rfl _ _ (xb + 1) 33 _ (0, 0) _ rfl (cells2 HX3.out) Tryz.underlying33 rfl (by kernel_rfl)) rfl ?_
      exact ⟨va, vc, rfl, RowAt.upd_own (S := fun i => i = xb + 1) (ho.files) upd2 (fun g hg e => by have := (ho.lt g hg).1; have := HS2.out; omega), (HU.out.trans hu (fun _ _ h => h)).trans (upd2 (b := xb + 1)) (fun i hi e => by have := HXB.out; omega), fun g hg => by have := (ho.lt g hg).1; have := HS2.out; have := HXB.out; omega⟩
/-- a file put at its place -/
theorem put_at {D : Files} (h : Srt En D) (f : Ent) : put En f D = D.take (findI D f.name) ++ ([f] ++ D.drop (findI D f.name + if findB D f.name = true then 1 else 0)) := by
  obtain ⟨g1, g2⟩ := find_get h f.name
  have hlow : ∀ z ∈ D.take (findI D f.name), bf z.name f.name = true := by
    intro z hz
    obtain ⟨j, hj, rfl⟩ := List.getElem_of_mem hz
    simp only [List.length_take] at hj
    have hj1 : j < findI D f.name := by omega
    have hj2 : j < D.length := by omega
    rw [List.getElem_take]
    have := List.not_of_lt_findIdx (p := fun y : Ent => !bf y.name f.name) hj1
    simpa using this
  cases hb : findB D f.name with
  | true =>
    obtain ⟨hk, hg⟩ := g1 hb
    have hn : D[findI D f.name].name = f.name := (get_some En hg).2
    have hsp : D = D.take (findI D f.name) ++ D[findI D f.name] :: D.drop (findI D f.name + 1) := by
      rw [List.getElem_cons_drop, List.take_append_drop]
    have := put_mid En (l1 := D.take (findI D f.name)) (l2 := D.drop (findI D f.name + 1)) (x := f) (y := D[findI D f.name]) (by rw [← hsp]; exact h) hn.symm
    rw [← hsp] at this
    rw [this]
    rfl
  | false =>
    have hg := g2 hb
    have hhigh : ∀ z ∈ D.drop (findI D f.name), bf f.name z.name = true := by
      intro z hz
      obtain ⟨j, hj, rfl⟩ := List.getElem_of_mem hz
      simp only [List.length_drop] at hj
      rw [List.getElem_drop]
      have hne : D[findI D f.name + j].name ≠ f.name := get_none En hg _ (List.getElem_mem _)
      have hk : findI D f.name < D.length := by omega
      have h0 : bf D[findI D f.name].name f.name = false := by
        have := List.findIdx_getElem (p := fun y : Ent => !bf y.name f.name) (w := hk)
        simp only [Bool.not_eq_true'] at this
        exact this
      rcases bf_total hne with hlt | hgt
      · exfalso
        cases j with
        | zero => simp only [Nat.add_zero] at hlt; rw [h0] at hlt; cases hlt
        | succ j =>
          have := bf_trans (srt_pos h hk (by omega) (by omega : findI D f.name < findI D f.name + (j + 1))) hlt
          rw [h0] at this
          cases this
      · exact hgt
    have := ins_mid En (l1 := D.take (findI D f.name)) (l2 := D.drop (findI D f.name)) (x := f) hlow hhigh
    rw [List.take_append_drop] at this
    unfold put
    rw [drop_none En hg, this]
    rfl
end Go.Proofs.YtgkegfgdpekehaaGreat
