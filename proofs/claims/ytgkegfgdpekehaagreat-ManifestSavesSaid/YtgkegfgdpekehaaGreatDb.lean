/- A disk in memory, and what it reads as; the walks of none, name, of, New, Read, Synced, Free. -/
import Derived.Test.YtgkegfgdpekehaaGreatI
import Derived.Test.YtgkegfgdpekehaaGreatDa
import Derived.Deep.CutBlock
namespace Go.Proofs.YtgkegfgdpekehaaGreat
open Go.RowKit Go.Acre Go.Acre.Dk Go.Maps

/-- how a map's element reads: the block it points to -/
def RB : Value → Option (DataW Nat × List MemPlace)
  | .pointer (some ⟨b, 0, none⟩) => some (.held b, [])
  | .pointer none => some (.nil, [])
  | _ => none
theorem RB_held {v : Value} {b : Nat} {ps : List MemPlace} (h : RB v = some (.held b, ps)) : v = .pointer (some ⟨b, 0, none⟩) := by
  unfold RB at h
  split at h
  · simp only [Option.some.injEq, Prod.mk.injEq, DataW.held.injEq] at h
    rw [h.1]
  · simp at h
  · cases h
theorem RB_nil {v : Value} {ps : List MemPlace} (h : RB v = some (.nil, ps)) : v = .pointer none := by
  unfold RB at h
  split at h
  · simp at h
  · rfl
  · cases h
def fileAt (w : World) (x : EB) : Prop := w.heap[x.2]? = some (.cells #[.string x.1.bytes, .int .i64 (x.1.synced : Nat)] 64 (0, 0))
def rootAt (w : World) (db room used mb : Nat) : Prop := w.heap[db]? = some (.cells #[.int .i64 (room : Nat), .int .i64 (used : Nat), .map (some mb)] 60 (0, 0))
abbrev plain (E : List EB) : Files := E.map fun x => x.1

/-- Block db is a disk with so much room, whose files are E (each with its block); all its blocks are of S. -/
structure DiskAt (w : World) (S : Nat → Prop) (db room n : Nat) (E : List EB) : Prop where
  may : May room (plain E)
  big : room ≤ 9223372036854775807
  nodup : (E.map fun x => x.2).Nodup
  file : ∀ x ∈ E, S x.2 ∧ fileAt w x
  sdb : S db
  below : ∀ k, S k → k < w.heap.size
  root : ∃ mb, S mb ∧ rootAt w db room (total (plain E)) mb ∧ w.ownsMap Tryz.prog 9 RB mb n (.map (ents E))
def Has (w : World) (S : Nat → Prop) (db room n : Nat) (D : Files) : Prop := ∃ E, DiskAt w S db room n E ∧ plain E = D
/-- what a step of a disk hands back, and what is behind it -/
def Op (S : Nat → Prop) (w : World) (db room n : Nat) (D' : Files) (code : Nat) (e : Ending) (w' : World) : Prop :=
  e = .returned (.int .i64 (code : Nat)) ∧ ∃ S', Has w' S' db room n D' ∧ (∀ k, S' k → S k ∨ w.heap.size ≤ k) ∧ Upd S w w'

theorem map_upd {w w' : World} {T : Nat → Prop} {mb n : Nat} {D : DataW Nat} (h : w.ownsMap Tryz.prog 9 RB mb n D) (hu : Upd T w w') (hT : ¬ T mb) : w'.ownsMap Tryz.prog 9 RB mb n D := by
  obtain ⟨es, clock, hb, F, hs, hD⟩ := h
  exact ⟨es, clock, hu.keep hb hT, F, hs, hD⟩
theorem DiskAt.upd {w w' : World} {S T : Nat → Prop} {db room n : Nat} {E : List EB} (h : DiskAt w S db room n E) (hu : Upd T w w') (hT : ∀ k, S k → ¬ T k) : DiskAt w' S db room n E := by
  obtain ⟨mb, h1, h2, h3⟩ := h.root
  exact ⟨h.may, h.big, h.nodup, fun x hx => ⟨(h.file x hx).1, hu.keep (h.file x hx).2 (hT _ (h.file x hx).1)⟩, h.sdb, fun k hk => Nat.lt_of_lt_of_le (h.below k hk) hu.size,
    mb, h1, hu.keep h2 (hT _ h.sdb), map_upd h3 hu (hT _ h1)⟩
theorem DiskAt.mono {w : World} {S : Nat → Prop} {db room n m : Nat} {E : List EB} (h : DiskAt w S db room n E) (hm : n ≤ m) : DiskAt w S db room m E := by
  obtain ⟨mb, h1, h2, h3⟩ := h.root
  exact ⟨h.may, h.big, h.nodup, h.file, h.sdb, h.below, mb, h1, h2, h3.mono hm⟩
theorem Has.upd {w w' : World} {S T : Nat → Prop} {db room n : Nat} {D : Files} (h : Has w S db room n D) (hu : Upd T w w') (hT : ∀ k, S k → ¬ T k) : Has w' S db room n D := by
  obtain ⟨E, h1, h2⟩ := h
  exact ⟨E, h1.upd hu hT, h2⟩
theorem Has.mono {w : World} {S : Nat → Prop} {db room n m : Nat} {D : Files} (h : Has w S db room n D) (hm : n ≤ m) : Has w S db room m D := by
  obtain ⟨E, h1, h2⟩ := h
  exact ⟨E, h1.mono hm, h2⟩
theorem Has.may {w : World} {S : Nat → Prop} {db room n : Nat} {D : Files} (h : Has w S db room n D) : May room D := by
  obtain ⟨E, h1, rfl⟩ := h
  exact h1.may
/-- the root's cells -/
theorem root_cells {w : World} {db room used mb : Nat} (h : rootAt w db room used mb) :
    w.cell? ⟨db, 0, none⟩ = some (.int .i64 (room : Nat)) ∧ w.cell? ⟨db, 1, none⟩ = some (.int .i64 (used : Nat)) ∧ w.cell? ⟨db, 2, none⟩ = some (.map (some mb)) ∧ w.frozen? ⟨db, 1, none⟩ = false :=
  ⟨cell_of_heap h 0, cell_of_heap h 1, cell_of_heap h 2, frozen_of_heap h 1 none⟩
theorem file_cells {w : World} {x : EB} (h : fileAt w x) :
    w.cell? ⟨x.2, 0, none⟩ = some (.string x.1.bytes) ∧ w.cell? ⟨x.2, 1, none⟩ = some (.int .i64 (x.1.synced : Nat)) ∧ w.frozen? ⟨x.2, 0, none⟩ = false ∧ w.frozen? ⟨x.2, 1, none⟩ = false :=
  ⟨cell_of_heap h 0, cell_of_heap h 1, frozen_of_heap h 0 none, frozen_of_heap h 1 none⟩
theorem plain_get (E : List EB) (k : ByteArray) : get En (plain E) k = (get Bn E k).map fun x => x.1 := map_get Bn En (fun x => x.1) (fun _ => rfl) k E

theorem zero122 (w : World) : (zeroValue 62).run Tryz.prog w = .ok (.pointer none) w := by kernel_rfl
theorem keyed9 : Keyed Tryz.prog 9 := string_keyed Tryz.underlying9
theorem key9 {s : ByteArray} (h : s.size ≤ maxLen) : keyOf Tryz.prog 9 (.string s) = some (key s) := WideMaps.keyOf_string_mk Tryz.underlying9 h
/-- a name is looked up -/
theorem look_some {w : World} {mb n : Nat} {E : List EB} {k : ByteArray} {f : Ent} {b : Nat} (h : w.ownsMap Tryz.prog 9 RB mb n (.map (ents E))) (hk : k.size ≤ maxLen) (hg : get Bn E k = some (f, b)) :
    (Instr.lookup 58 (.map (some mb)) (.string k) false).run Tryz.prog w = .ok (.pointer (some ⟨b, 0, none⟩)) w := by
  obtain ⟨v, ps, hr, hv⟩ := h.lookup keyed9 Tryz.underlying58 (zero122 w) (zd := .nil) (zp := []) rfl (key9 hk)
  rw [ents_at, hg] at hv
  rw [hr, RB_held hv]
theorem look_none {w : World} {mb n : Nat} {E : List EB} {k : ByteArray} (h : w.ownsMap Tryz.prog 9 RB mb n (.map (ents E))) (hk : k.size ≤ maxLen) (hg : get Bn E k = none) :
    (Instr.lookup 58 (.map (some mb)) (.string k) false).run Tryz.prog w = .ok (.pointer none) w := by
  obtain ⟨v, ps, hr, hv⟩ := h.lookup keyed9 Tryz.underlying58 (zero122 w) (zd := .nil) (zp := []) rfl (key9 hk)
  rw [ents_at, hg] at hv
  rw [hr, RB_nil hv]

theorem map_some_none (mb : Nat) (w : World) : (binOp .eql 58 (.map (some mb)) (.map none)).run Tryz.prog w = .ok (.bool false) w := by kernel_rfl
theorem map_none_none (w : World) : (binOp .eql 58 (.map none) (.map none)).run Tryz.prog w = .ok (.bool true) w := by kernel_rfl
set_option maxRecDepth 100000 in
theorem none_some (db mb : Nat) (w : World) (h : w.cell? ⟨db, 2, none⟩ = some (.map (some mb))) : Calls Tryz.prog 20 #[.pointer (some ⟨db, 0, none⟩)] w fun e w' => e = .returned (.bool false) ∧ w = w' := by
  have hq := map_some_none mb w
  go_enter Tryz.func20, Tryz.ntmps20
  go_wp2_with fail
  go_ret
  exact ⟨rfl, rfl⟩
set_option maxRecDepth 100000 in
theorem none_empty (db : Nat) (w : World) (h : w.cell? ⟨db, 2, none⟩ = some (.map none)) : Calls Tryz.prog 20 #[.pointer (some ⟨db, 0, none⟩)] w fun e w' => e = .returned (.bool true) ∧ w = w' := by
  have hq := map_none_none w
  go_enter Tryz.func20, Tryz.ntmps20
  go_wp2_with fail
  go_ret
  exact ⟨rfl, rfl⟩
theorem none_nil (w : World) : Calls Tryz.prog 20 #[.pointer none] w fun e w' => e = .returned (.bool true) ∧ w = w' := by
  go_enter Tryz.func20, Tryz.ntmps20
  go_wp2_with fail
  go_ret
  exact ⟨rfl, rfl⟩
def BoolPost (b : Bool) (w : World) (e : Ending) (w' : World) : Prop := e = .returned (.bool b) ∧ w = w'
theorem isEmpty_true {b : ByteArray} (h : b.size = 0) : b.toList.isEmpty = true := by
  obtain rfl : b = ⟨#[]⟩ := ByteArray.ext (Array.eq_empty_of_size_eq_zero h)
  rw [ByteArray.toList_eq]
  rfl
theorem isEmpty_of_pos {b : ByteArray} (h : 0 < b.size) : b.toList.isEmpty = false := by
  rw [ByteArray.toList_eq]
  cases hb : b.data.toList with
  | nil => have : b.size = 0 := by show b.data.size = 0; rw [← Array.length_toList, hb]; rfl
           omega
  | cons x l => rfl
theorem name_any (s : ByteArray) (w : World) : Calls Tryz.prog 21 #[.string s] w (BoolPost (nameOk s) w) := by
  by_cases h0 : s.size = 0
  · have he := isEmpty_true h0
    have hb : Hid (nameOk s = false) := by show _ = _; unfold nameOk; simp; omega
    go_enter Tryz.func21, Tryz.ntmps21
    go_wp2_with fail
    go_ret
    exact ⟨by rw [hb.out]; rfl, rfl⟩
  · have he := isEmpty_of_pos (b := s) (by omega)
    by_cases h1 : s.size ≤ 64
    · have hb : Hid (nameOk s = true) := by show _ = _; unfold nameOk; simp; omega
      have hd : decide ((s.size : Int) ≤ 64) = true := by simp; omega
      go_enter Tryz.func21, Tryz.ntmps21
      go_wp2_with fail
      go_ret
      exact ⟨by rw [hb.out]; simp, rfl⟩
    · have hb : Hid (nameOk s = false) := by show _ = _; unfold nameOk; simp; omega
      have hd : decide ((s.size : Int) ≤ 64) = false := by simp; omega
      go_enter Tryz.func21, Tryz.ntmps21
      go_wp2_with fail
      go_ret
      exact ⟨by rw [hb.out]; simp, rfl⟩

theorem of_some {w : World} {S : Nat → Prop} {db room n : Nat} {E : List EB} (h : DiskAt w S db room n E) {k : ByteArray} (hk : k.size ≤ maxLen) {f : Ent} {b : Nat} (hg : get Bn E k = some (f, b)) :
    Calls Tryz.prog 43 #[.pointer (some ⟨db, 0, none⟩), .string k] w fun e w' => e = .returned (.tuple #[.pointer (some ⟨b, 0, none⟩), .int .i64 0]) ∧ w = w' := by
  obtain ⟨mb, _, hr, hm⟩ := h.root
  obtain ⟨_, _, hc2, _⟩ := root_cells hr
  have hl := look_some hm hk hg
  clear h hr hm
  go_enter Tryz.func43, Tryz.ntmps43
  go_wp2_with fail
  refine (none_some db mb _ hc2).mono ?_
  rintro e w' ⟨rfl, rfl⟩
  go_wp2_with fail
  go_ret2
  exact ⟨rfl, rfl⟩
theorem of_none {w : World} {S : Nat → Prop} {db room n : Nat} {E : List EB} (h : DiskAt w S db room n E) {k : ByteArray} (hk : k.size ≤ maxLen) (hg : get Bn E k = none) :
    Calls Tryz.prog 43 #[.pointer (some ⟨db, 0, none⟩), .string k] w fun e w' => e = .returned (.tuple #[.pointer none, .int .i64 5]) ∧ w = w' := by
  obtain ⟨mb, _, hr, hm⟩ := h.root
  obtain ⟨_, _, hc2, _⟩ := root_cells hr
  have hl := look_none hm hk hg
  clear h hr hm
  go_enter Tryz.func43, Tryz.ntmps43
  go_wp2_with fail
  refine (none_some db mb _ hc2).mono ?_
  rintro e w' ⟨rfl, rfl⟩
  go_wp2_with fail
  go_ret2
  exact ⟨rfl, rfl⟩
end Go.Proofs.YtgkegfgdpekehaaGreat
