/- The walks of New, Read, Synced, Free, Sync, Remove. -/
import Derived.Test.YtgkegfgdpekehaaGreatDb
namespace Go.Proofs.YtgkegfgdpekehaaGreat
open Go.RowKit Go.Acre Go.Acre.Dk Go.Maps

def NewPost (room : Nat) (w : World) (e : Ending) (w' : World) : Prop :=
  ∃ db S, e = .returned (.pointer (some ⟨db, 0, none⟩)) ∧ Has w' S db room 0 [] ∧ (∀ k, S k → w.heap.size ≤ k) ∧ Upd (fun _ => False) w w'
theorem new_has (w : World) (room : Nat) (hr : room ≤ 9223372036854775807) :
    Has ((w.alloc (.map #[] 0)).alloc (.cells #[.int .i64 (room : Nat), .int .i64 0, .map (some w.heap.size)] 60)) (fun k => k = w.heap.size ∨ k = w.heap.size + 1) (w.heap.size + 1) room 0 [] := by
  have hs : (w.alloc (.map #[] 0)).heap.size = w.heap.size + 1 := by simp
  refine ⟨[], ⟨may_nil room, hr, by simp, by simp, .inr rfl, ?_, w.heap.size, .inl rfl, ?_, ?_⟩, rfl⟩
  · rintro k (rfl | rfl)
    · simp; omega
    · simp
  · have := heap_alloc (w := w.alloc (.map #[] 0)) (.cells #[.int .i64 (room : Nat), .int .i64 0, .map (some w.heap.size)] 60)
    rw [hs] at this
    exact this
  · exact (World.ownsMap_made w Tryz.prog 9 RB).alloc _
set_option maxHeartbeats 1000000 in
theorem new_any (r : Int) (w : World) (h : -9223372036854775808 ≤ r ∧ r ≤ 9223372036854775807) : Calls Tryz.prog 4 #[.int .i64 r] w (NewPost r.toNat w) := by
  have hmm := @run_makeMap Tryz.prog
  have hh := new_has w r.toNat (by omega)
  have hu : Upd (fun _ => False) w ((w.alloc (.map #[] 0)).alloc (.cells #[.int .i64 (r.toNat : Nat), .int .i64 0, .map (some w.heap.size)] 60)) := ((Upd.refl _ w).alloc _).alloc _
  have HH := Lib.hid hh
  have HU := Lib.hid hu
  clear hh hu
  by_cases hr : r < 0
  · have hm : r.toNat = 0 := by omega
    rw [hm] at HH HU ⊢
    go_enter Tryz.func4, Tryz.ntmps4
    go_wp2_with fail
    go_ret
    exact ⟨_, _, rfl, HH.out, by rintro k (rfl | rfl) <;> omega, HU.out⟩
  · obtain ⟨m, rfl⟩ : ∃ m : Nat, r = (m : Int) := ⟨r.toNat, by omega⟩
    rw [Int.toNat_natCast] at HH HU ⊢
    go_enter Tryz.func4, Tryz.ntmps4
    go_wp2_with fail
    go_ret
    exact ⟨_, _, rfl, HH.out, by rintro k (rfl | rfl) <;> omega, HU.out⟩

def readD (D : Files) (k : ByteArray) : ByteArray × Nat := match get En D k with | some f => (f.bytes, 0) | none => (⟨#[]⟩, 5)
def syncedD (D : Files) (k : ByteArray) : Nat := match get En D k with | some f => f.synced | none => 0
def ReadPost (r : ByteArray × Nat) (w : World) (e : Ending) (w' : World) : Prop := e = .returned (.tuple #[.string r.1, .int .i64 (r.2 : Nat)]) ∧ w = w'
def IntPost (n : Nat) (w : World) (e : Ending) (w' : World) : Prop := e = .returned (.int .i64 (n : Nat)) ∧ Upd (fun _ => False) w w'
theorem read_any {w : World} {S : Nat → Prop} {db room n : Nat} {D : Files} (h : Has w S db room n D) (k : ByteArray) (hk : k.size ≤ maxLen) :
    Calls Tryz.prog 17 #[.pointer (some ⟨db, 0, none⟩), .string k] w (ReadPost (readD D k) w) := by
  obtain ⟨E, hE, rfl⟩ := h
  have hpg := plain_get E k
  cases hg : get Bn E k with
  | none =>
    rw [hg] at hpg
    have hr : Hid (readD (plain E) k = (⟨#[]⟩, 5)) := by show _ = _; unfold readD; rw [hpg]; rfl
    clear hpg
    have HE := Lib.hid hE
    have HG := Lib.hid hg
    clear hE hg
    go_enter Tryz.func17, Tryz.ntmps17
    go_wp2_with fail
    refine (of_none HE.out hk HG.out).mono ?_
    rintro e w' ⟨rfl, rfl⟩
    go_wp2_with fail
    go_ret2
    exact ⟨by rw [hr.out]; rfl, rfl⟩
  | some x =>
    obtain ⟨f, b⟩ := x
    rw [hg] at hpg
    have hr : Hid (readD (plain E) k = (f.bytes, 0)) := by show _ = _; unfold readD; rw [hpg]; rfl
    obtain ⟨c0, _⟩ := file_cells (hE.file _ (get_some Bn hg).1).2
    clear hpg
    have HE := Lib.hid hE
    have HG := Lib.hid hg
    clear hE hg
    simp only at c0
    go_enter Tryz.func17, Tryz.ntmps17
    go_wp2_with fail
    refine (of_some HE.out hk HG.out).mono ?_
    rintro e w' ⟨rfl, rfl⟩
    go_wp2_with fail
    go_ret2
    exact ⟨by rw [hr.out]; rfl, rfl⟩
def SyncedPost (n : Nat) (w : World) (e : Ending) (w' : World) : Prop := e = .returned (.int .i64 (n : Nat)) ∧ w = w'
theorem synced_any {w : World} {S : Nat → Prop} {db room n : Nat} {D : Files} (h : Has w S db room n D) (k : ByteArray) (hk : k.size ≤ maxLen) :
    Calls Tryz.prog 18 #[.pointer (some ⟨db, 0, none⟩), .string k] w (SyncedPost (syncedD D k) w) := by
  obtain ⟨E, hE, rfl⟩ := h
  have hpg := plain_get E k
  cases hg : get Bn E k with
  | none =>
    rw [hg] at hpg
    have hr : Hid (syncedD (plain E) k = 0) := by show _ = _; unfold syncedD; rw [hpg]; rfl
    clear hpg
    have HE := Lib.hid hE
    have HG := Lib.hid hg
    clear hE hg
    go_enter Tryz.func18, Tryz.ntmps18
    go_wp2_with fail
    refine (of_none HE.out hk HG.out).mono ?_
    rintro e w' ⟨rfl, rfl⟩
    go_wp2_with fail
    go_ret
    exact ⟨by rw [hr.out]; rfl, rfl⟩
  | some x =>
    obtain ⟨f, b⟩ := x
    rw [hg] at hpg
    have hr : Hid (syncedD (plain E) k = f.synced) := by show _ = _; unfold syncedD; rw [hpg]; rfl
    obtain ⟨_, c1, _⟩ := file_cells (hE.file _ (get_some Bn hg).1).2
    clear hpg
    have HE := Lib.hid hE
    have HG := Lib.hid hg
    clear hE hg
    simp only at c1
    go_enter Tryz.func18, Tryz.ntmps18
    go_wp2_with fail
    refine (of_some HE.out hk HG.out).mono ?_
    rintro e w' ⟨rfl, rfl⟩
    go_wp2_with fail
    go_ret
    exact ⟨by rw [hr.out]; rfl, rfl⟩
theorem free_any {w : World} {S : Nat → Prop} {db room n : Nat} {D : Files} (h : Has w S db room n D) :
    Calls Tryz.prog 15 #[.pointer (some ⟨db, 0, none⟩)] w (IntPost (room - total D) w) := by
  obtain ⟨E, hE, rfl⟩ := h
  obtain ⟨mb, _, hr, _⟩ := hE.root
  obtain ⟨c0, c1, c2, _⟩ := root_cells hr
  have hfit := hE.may.fits
  have hbig := hE.big
  clear hE hr
  generalize total (plain E) = t at *
  have hsub : Hid (((room - t : Nat) : Int) = (room : Int) - (t : Int)) := by show _ = _; omega
  go_enter Tryz.func15, Tryz.ntmps15
  go_wp2_with fail
  refine (none_some db mb _ c2).mono ?_
  rintro e w' ⟨rfl, rfl⟩
  go_wp2_with fail
  have hwr : IntKind.i64.wrap ((room : Int) - (t : Int)) = (room : Int) - (t : Int) := by rw [IntKind.wrap_i64]; omega
  go_quiet (fail)
  go_wp2_with fail
  go_ret
  exact ⟨by rw [hsub.out]; rfl, (Upd.refl _ w).drewN _⟩

/-- a file's block and the root are written anew -/
theorem DiskAt.set {w w' : World} {S : Nat → Prop} {db room n : Nat} {E : List EB} (h : DiskAt w S db room n E) {f f' : Ent} {b : Nat} (hg : get Bn E f.name = some (f, b)) (hn : f'.name = f.name)
    (hmay : May room (put En f' (plain E))) (hu : Upd (fun i => i = b ∨ i = db) w w') (hfile : fileAt w' (f', b)) (hroot : ∀ mb, rootAt w db room (total (plain E)) mb → rootAt w' db room (total (put En f' (plain E))) mb) :
    DiskAt w' S db room n (put Bn (f', b) E) ∧ plain (put Bn (f', b) E) = put En f' (plain E) := by
  have hpl : plain (put Bn (f', b) E) = put En f' (plain E) := map_put Bn En (fun x => x.1) (fun _ => rfl) (f', b) E
  refine ⟨?_, hpl⟩
  obtain ⟨hm, _⟩ := get_some Bn hg
  have hsrt : Srt Bn E := (map_srt Bn En (fun x : EB => x.1) (fun _ => rfl)).1 h.may.srt
  obtain ⟨l1, l2, rfl⟩ := List.append_of_mem hm
  have hpm : put Bn (f', b) (l1 ++ (f, b) :: l2) = l1 ++ (f', b) :: l2 := put_mid Bn hsrt hn
  obtain ⟨mb, h1, h2, h3⟩ := h.root
  have hmb : mb ≠ b := by
    rintro rfl
    obtain ⟨es, clock, hb, _⟩ := h3
    have := (h.file _ hm).2
    unfold fileAt at this
    rw [hb] at this
    cases this
  have hmd : mb ≠ db := by
    rintro rfl
    obtain ⟨es, clock, hb, _⟩ := h3
    unfold rootAt at h2
    rw [hb] at h2
    cases h2
  have hents : ents (put Bn (f', b) (l1 ++ (f, b) :: l2)) = ents (l1 ++ (f, b) :: l2) := by
    rw [hpm]
    simp [ents, hn]
  refine ⟨by rw [hpl]; exact hmay, h.big, ?_, fun x hx => ?_, h.sdb, fun k hk => Nat.lt_of_lt_of_le (h.below k hk) hu.size, mb, h1, ?_, ?_⟩
  · rw [hpm]
    have := h.nodup
    simpa using this
  · rw [hpm] at hx
    have hx2 : x = (f', b) ∨ (x ∈ l1 ++ (f, b) :: l2 ∧ x.2 ≠ b) := by
      have hnd := h.nodup
      simp only [List.map_append, List.map_cons] at hnd
      rw [List.nodup_append] at hnd
      obtain ⟨_, hnd2, hnd3⟩ := hnd
      rw [List.nodup_cons] at hnd2
      rcases List.mem_append.1 hx with hx | hx
      · exact .inr ⟨by simp [hx], fun e => hnd3 x.2 (List.mem_map.2 ⟨x, hx, rfl⟩) b (by simp) e⟩
      · rcases List.mem_cons.1 hx with rfl | hx
        · exact .inl rfl
        · exact .inr ⟨by simp [hx], fun e => hnd2.1 (by rw [← e]; exact List.mem_map.2 ⟨x, hx, rfl⟩)⟩
    rcases hx2 with rfl | ⟨hx, hne⟩
    · exact ⟨(h.file _ hm).1, hfile⟩
    · refine ⟨(h.file x hx).1, hu.keep (h.file x hx).2 ?_⟩
      rintro (e | e)
      · exact hne e
      · have := (h.file x hx).2
        unfold fileAt at this
        unfold rootAt at h2
        rw [e, h2] at this
        simp at this
  · rw [hpl]; exact hroot mb h2
  · rw [hents]
    exact map_upd h3 hu (fun e => e.elim hmb hmd)
end Go.Proofs.YtgkegfgdpekehaaGreat
