/- The reference's disk: files in a row; the walks of find, Free, Same, name. -/
import Derived.Test.YtgkegfgdpekehaaGreatDc
namespace Go.Proofs.YtgkegfgdpekehaaGreat
open Go.RowKit Go.Acre Go.Acre.Dk Go.Maps

def flatE (D : Files) : List Value := D.flatMap fun f => [.string f.name, .string f.bytes, .int .i64 (f.synced : Nat)]
theorem flatE_len (D : Files) : (flatE D).length = D.length * 3 := by
  induction D with
  | nil => rfl
  | cons f r ih =>
    have : flatE (f :: r) = [.string f.name, .string f.bytes, .int .i64 (f.synced : Nat)] ++ flatE r := rfl
    rw [this, List.length_append, ih, List.length_cons]
    simp
    omega
theorem flatE_at (D : Files) (i : Nat) (h : i < D.length) : (flatE D)[i * 3]? = some (.string D[i].name) ∧ (flatE D)[i * 3 + 1]? = some (.string D[i].bytes) ∧ (flatE D)[i * 3 + 2]? = some (.int .i64 (D[i].synced : Nat)) := by
  induction D generalizing i with
  | nil => cases h
  | cons f r ih =>
    have e : flatE (f :: r) = [.string f.name, .string f.bytes, .int .i64 (f.synced : Nat)] ++ flatE r := rfl
    rw [e]
    cases i with
    | zero => exact ⟨rfl, rfl, rfl⟩
    | succ i =>
      have h' : i < r.length := by simpa using h
      obtain ⟨a, b, c⟩ := ih i h'
      have e1 : (i + 1) * 3 = i * 3 + 3 := by omega
      rw [e1]
      refine ⟨?_, ?_, ?_⟩
      · rw [List.getElem?_append_right (by simp)]; simpa using a
      · rw [List.getElem?_append_right (by simp)]; simpa using b
      · rw [List.getElem?_append_right (by simp)]; simpa using c
/-- a slice that holds these files -/
def FilesAt (w : World) (v : Value) (D : Files) : Prop := RowAt w 3 v D.length (flatE D)
theorem FilesAt.upd0 {w w' : World} {v : Value} {D : Files} (h : FilesAt w v D) (hu : Upd (fun _ => False) w w') : FilesAt w' v D := RowAt.upd0 h hu
theorem FilesAt.cell {w : World} {a : Option Addr} {n cap : Nat} {D : Files} (h : FilesAt w (.slice a n cap) D) {i : Nat} (hi : i < D.length) :
    ∃ g o, a = some ⟨g, o, none⟩ ∧ w.cell? ⟨g, o + i * 3, none⟩ = some (.string D[i].name) ∧ w.cell? ⟨g, o + i * 3 + 1, none⟩ = some (.string D[i].bytes) ∧ w.cell? ⟨g, o + i * 3 + 2, none⟩ = some (.int .i64 (D[i].synced : Nat)) := by
  obtain ⟨hl, a', c', hv, _, _, _, hc⟩ := h
  simp only [Value.slice.injEq] at hv
  obtain ⟨rfl, rfl, rfl⟩ := hv
  have hlen := flatE_len D
  obtain ⟨g, o, hg, hcell⟩ := hc (by intro e; rw [e] at hlen; simp at hlen; omega)
  obtain ⟨x, y, z⟩ := flatE_at D i hi
  exact ⟨g, o, hg, by rw [hcell _ (by omega)]; exact x, by rw [Nat.add_assoc, hcell _ (by omega)]; exact y, by rw [Nat.add_assoc, hcell _ (by omega)]; exact z⟩
theorem FilesAt.bound {w : World} {v : Value} {D : Files} (h : FilesAt w v D) : D.length ≤ maxLen := by
  obtain ⟨_, a, c, _, h1, h2, _⟩ := h
  omega
/-- where a file stands, or would -/
def findI (D : Files) (s : ByteArray) : Nat := D.findIdx fun f => !bf f.name s
def findB (D : Files) (s : ByteArray) : Bool := match D[findI D s]? with | some f => decide (f.name = s) | none => false
theorem rname_any (s : ByteArray) (w : World) : Calls Tryz.prog 22 #[.string s] w (BoolPost (nameOk s) w) := by
  by_cases h0 : 1 ≤ s.size
  · by_cases h1 : s.size ≤ 64
    · have hk : nameOk s = true := by unfold nameOk; simp; omega
      have a1 : (1 : Int) ≤ (s.size : Int) := by omega
      have a2 : (s.size : Int) ≤ 64 := by omega
      rw [hk]
      go_enter Tryz.func22, Tryz.ntmps22
      go_wp2_with fail
      go_ret
      exact ⟨rfl, rfl⟩
    · have hk : nameOk s = false := by unfold nameOk; simp; omega
      have a1 : (1 : Int) ≤ (s.size : Int) := by omega
      have a2 : ¬ (s.size : Int) ≤ 64 := by omega
      rw [hk]
      go_enter Tryz.func22, Tryz.ntmps22
      go_wp2_with fail
      go_ret
      exact ⟨rfl, rfl⟩
  · have hk : nameOk s = false := by unfold nameOk; simp; omega
    have a1 : ¬ (1 : Int) ≤ (s.size : Int) := by omega
    rw [hk]
    go_enter Tryz.func22, Tryz.ntmps22
    go_wp2_with fail
    go_ret
    exact ⟨rfl, rfl⟩
theorem less_before : ∀ (a b : List UInt8), Op.bytesLess a b = bytesBefore a b
  | [], [] => rfl
  | [], _ :: _ => rfl
  | _ :: _, [] => rfl
  | x :: r, y :: s => by
    unfold Op.bytesLess bytesBefore
    rw [less_before r s]
theorem bf_less (a b : ByteArray) : Op.bytesLess a.toList b.toList = bf a b := by
  rw [ByteArray.toList_eq, ByteArray.toList_eq]
  exact less_before _ _
theorem find_here {D : Files} {s : ByteArray} {k : Nat} (hk : k < D.length) (h1 : ∀ j, (hj : j < D.length) → j < k → bf D[j].name s = true) (h2 : bf D[k].name s = false) : findI D s = k ∧ findB D s = decide (D[k].name = s) := by
  have e : findI D s = k := by
    unfold findI
    rw [List.findIdx_eq hk]
    exact ⟨by simp [h2], fun j hj => by simp [h1 j (by omega) hj]⟩
  refine ⟨e, ?_⟩
  unfold findB
  rw [e, List.getElem?_eq_getElem hk]
theorem find_out {D : Files} {s : ByteArray} (h1 : ∀ j, (hj : j < D.length) → bf D[j].name s = true) : findI D s = D.length ∧ findB D s = false := by
  have e : findI D s = D.length := by
    unfold findI
    rw [List.findIdx_eq_length]
    intro f hf
    obtain ⟨j, hj, rfl⟩ := List.getElem_of_mem hf
    simp [h1 j hj]
  refine ⟨e, ?_⟩
  unfold findB
  rw [e, List.getElem?_eq_none (Nat.le_refl _)]
def FindPost (D : Files) (s : ByteArray) (w : World) (e : Ending) (w' : World) : Prop := e = .returned (.tuple #[.int .i64 (findI D s : Nat), .bool (findB D s)]) ∧ Upd (fun _ => False) w w'
set_option maxHeartbeats 2000000 in
set_option maxRecDepth 100000 in
theorem find_any {w : World} {R : Int} {a : Option Addr} {n cap : Nat} {D : Files} (hn : n = D.length) (h : FilesAt w (.slice a n cap) D) (s : ByteArray) : Calls Tryz.prog 45 #[.agg #[.int .i64 R, .slice a n cap], .string s] w (FindPost D s w) := by
  have hb := h.bound
  have HN := Lib.hid hn
  have hnb : n ≤ 9223372036854775807 := by unfold maxLen at hb; omega
  have hx := heap_alloc (w := w) (.cells #[.int .i64 R, .slice a n cap] 33)
  have hu : Upd (fun _ => False) w (w.alloc (.cells #[.int .i64 R, .slice a n cap] 33)) := (Upd.refl _ w).alloc _
  have H1 := Lib.hid (h.upd0 hu)
  clear h hn hb
  go_enter Tryz.func45, Tryz.ntmps45
  go_upto_region 1 with fail
  have x1 := cell_of_heap hx 1
  simp only [List.getElem?_toArray, List.getElem?_cons_zero, List.getElem?_cons_succ] at x1
  generalize w.alloc (.cells #[.int .i64 R, .slice a n cap] 33) = wa at *
  generalize w.heap.size = xb at *
  clear hx
  go_wp2_with fail
  go_loop [6] (fun i => ∃ (k : Nat), i = .int .i64 k ∧ k ≤ n ∧ ∀ j, (hj : j < D.length) → j < k → bf D[j].name s = true) (fun i => n - (intOf i).toNat)
  case atStart => exact ⟨0, rfl, by omega, fun j _ h => absurd h (Nat.not_lt_zero _)⟩
  case round =>
    obtain ⟨k, rfl, hk, hall⟩ := hrel
    by_cases hlt : k < n
    · have hlt2 : (k : Int) < (n : Int) := by omega
      have hks : k < D.length := by rw [← HN.out]; exact hlt
      obtain ⟨g, o, rfl, c0, c1, c2⟩ := H1.out.cell hks
      have HALL := Lib.hid hall
      clear hall
      have HNM : Hid (∃ nm, nm = D[k].name ∧ True) := ⟨_, rfl, trivial⟩
      obtain ⟨nm, hnm⟩ : ∃ nm, nm = D[k].name := ⟨_, rfl⟩
      rw [← hnm] at c0
      have HE := Lib.hid hnm
      clear hnm HNM
      cases hbf : bf nm s with
      | true =>
        have hless : Op.bytesLess nm.toList s.toList = true := by rw [bf_less]; exact hbf
        clear hbf
        go_wp2_with fail
        exact ⟨⟨k + 1, by go_num, by omega, fun j hj hjk => by
          by_cases e : j = k
          · subst e
            rw [← HE.out, ← bf_less]
            exact hless
          · exact HALL.out j hj (by omega)⟩, by simp [intOf]; omega⟩
      | false =>
        have hless : Op.bytesLess nm.toList s.toList = false := by rw [bf_less]; exact hbf
        have HF := Lib.hid (find_here hks HALL.out (by rw [← HE.out]; exact hbf))
        clear hbf
        go_wp2_with fail
        go_quiet (fail)
        go_wp2_with fail
        go_ret2
        exact ⟨by rw [HF.out.1, HF.out.2, ← HE.out, str_eql]; rfl, hu.drewN _⟩
    · have hge : ¬ (k : Int) < (n : Int) := by omega
      have HF := Lib.hid (find_out (s := s) fun j hj => hall j hj (by have := HN.out; omega))
      clear hall
      go_wp2_with fail
      go_ret2
      exact ⟨by rw [HF.out.1, HF.out.2, HN.out]; rfl, hu⟩
/-- what is left: the sums of bytes are of the files that have been passed -/
def RFreePost (R : Nat) (D : Files) (w : World) (e : Ending) (w' : World) : Prop := e = .returned (.int .i64 ((R : Int) - (total D : Nat))) ∧ Upd (fun _ => False) w w'
theorem total_take (D : Files) {k : Nat} (h : k < D.length) : total (D.take (k + 1)) = total (D.take k) + D[k].bytes.size := by
  rw [List.take_succ_eq_append_getElem h, total_append, total_cons]
  simp [total]
theorem total_take_le (D : Files) (k : Nat) : total (D.take k) ≤ total D := by
  have := total_append (D.take k) (D.drop k)
  rw [List.take_append_drop] at this
  omega
set_option maxHeartbeats 2000000 in
set_option maxRecDepth 100000 in
theorem rfree_any {w : World} {R : Nat} {a : Option Addr} {n cap : Nat} {D : Files} (hn : n = D.length) (h : FilesAt w (.slice a n cap) D) (hR : R ≤ 9223372036854775807) (hfit : total D ≤ R) : Calls Tryz.prog 16 #[.agg #[.int .i64 (R : Nat), .slice a n cap]] w (RFreePost R D w) := by
  have hb := h.bound
  have HN := Lib.hid hn
  have hnb : n ≤ 9223372036854775807 := by unfold maxLen at hb; omega
  have hx := heap_alloc (w := w) (.cells #[.int .i64 (R : Nat), .slice a n cap] 33)
  have hu : Upd (fun _ => False) w (w.alloc (.cells #[.int .i64 (R : Nat), .slice a n cap] 33)) := (Upd.refl _ w).alloc _
  have H1 := Lib.hid (h.upd0 hu)
  have HT := Lib.hid hfit
  clear h hn hb hfit
  go_enter Tryz.func16, Tryz.ntmps16
  go_upto_region 1 with fail
  have x0 := cell_of_heap hx 0
  have x1 := cell_of_heap hx 1
  simp only [List.getElem?_toArray, List.getElem?_cons_zero, List.getElem?_cons_succ] at x0 x1
  generalize w.alloc (.cells #[.int .i64 (R : Nat), .slice a n cap] 33) = wa at *
  generalize w.heap.size = xb at *
  clear hx
  go_wp2_with fail
  go_loop [3, 4] (fun m i => ∃ (k t : Nat), m = .int .i64 ((R : Int) - (t : Nat)) ∧ i = .int .i64 k ∧ k ≤ n ∧ t ≤ R ∧ Hid (t = total (D.take k))) (fun _ i => n - (intOf i).toNat)
  case atStart => exact ⟨0, 0, by simp, rfl, by omega, by omega, rfl⟩
  case round =>
    obtain ⟨k, t, rfl, rfl, hk, ht, HTK⟩ := hrel
    by_cases hlt : k < n
    · have hlt2 : (k : Int) < (n : Int) := by omega
      have hks : k < D.length := by rw [← HN.out]; exact hlt
      obtain ⟨g, o, rfl, c0, c1, c2⟩ := H1.out.cell hks
      have hle : t + D[k].bytes.size ≤ R := by
        have h1 := total_take D hks
        have h2 := total_take_le D (k + 1)
        have h3 := HT.out
        have h4 := HTK.out
        omega
      have HS : Hid (t + D[k].bytes.size = total (D.take (k + 1))) := by
        show _ = _
        rw [total_take D hks, HTK.out]
      generalize D[k].bytes = by0 at *
      clear c0 c2
      go_wp2_with fail
      exact ⟨⟨k + 1, t + by0.size, by go_num, by go_num, by omega, hle, HS⟩, by simp [intOf]; omega⟩
    · have hge : ¬ (k : Int) < (n : Int) := by omega
      have htt : t = total D := by
        have h1 := HTK.out
        rw [List.take_of_length_le (by have := HN.out; omega)] at h1
        exact h1
      go_wp2_with fail
      go_ret
      exact ⟨rfl, hu⟩
end Go.Proofs.YtgkegfgdpekehaaGreat
