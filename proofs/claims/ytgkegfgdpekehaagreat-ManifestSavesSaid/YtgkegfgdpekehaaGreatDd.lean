/- The walks of Sync, Remove. -/
import Derived.Test.YtgkegfgdpekehaaGreatDc
namespace Go.Proofs.YtgkegfgdpekehaaGreat
open Go.RowKit Go.Acre Go.Acre.Dk Go.Maps

theorem file_set1 {w : World} {f : Ent} {b m : Nat} (h : fileAt w (f, b)) : fileAt (w.setCell ⟨b, 1, none⟩ (.int .i64 (m : Nat))) (⟨f.name, f.bytes, m⟩, b) := by
  unfold fileAt at h ⊢
  rw [heap_setCell h]
  rfl
theorem file_set0 {w : World} {f : Ent} {b : Nat} {s : ByteArray} (h : fileAt w (f, b)) : fileAt (w.setCell ⟨b, 0, none⟩ (.string s)) (⟨f.name, s, f.synced⟩, b) := by
  unfold fileAt at h ⊢
  rw [heap_setCell h]
  rfl
theorem root_set {w : World} {db room used mb m : Nat} (h : rootAt w db room used mb) : rootAt (w.setCell ⟨db, 1, none⟩ (.int .i64 (m : Nat))) db room m mb := by
  unfold rootAt at h ⊢
  rw [heap_setCell h]
  rfl
theorem rootAt.upd {w w' : World} {T : Nat → Prop} {db room used mb : Nat} (h : rootAt w db room used mb) (hu : Upd T w w') (hT : ¬ T db) : rootAt w' db room used mb := hu.keep h hT
theorem fileAt.upd {w w' : World} {T : Nat → Prop} {x : EB} (h : fileAt w x) (hu : Upd T w w') (hT : ¬ T x.2) : fileAt w' x := hu.keep h hT
theorem file_ne_root {w : World} {x : EB} {db room used mb : Nat} (h : fileAt w x) (h2 : rootAt w db room used mb) : x.2 ≠ db := by
  intro e
  unfold fileAt at h
  unfold rootAt at h2
  rw [e, h2] at h
  simp at h

set_option maxHeartbeats 1000000 in
theorem sync_any {w : World} {S : Nat → Prop} {db room n : Nat} {D : Files} (h : Has w S db room n D) (k : ByteArray) (hk : k.size ≤ maxLen) :
    Calls Tryz.prog 30 #[.pointer (some ⟨db, 0, none⟩), .string k] w (Op S w db room n (syncD D k).1 (syncD D k).2) := by
  obtain ⟨E, hE, rfl⟩ := h
  have hpg := plain_get E k
  cases hg : get Bn E k with
  | none =>
    rw [hg] at hpg
    have hr : Hid (syncD (plain E) k = (plain E, 5)) := by show _ = _; unfold syncD; rw [hpg]; rfl
    clear hpg
    have HE := Lib.hid hE
    have HG := Lib.hid hg
    clear hE hg
    go_enter Tryz.func30, Tryz.ntmps30
    go_wp2_with fail
    refine (of_none HE.out hk HG.out).mono ?_
    rintro e w' ⟨rfl, rfl⟩
    go_wp2_with fail
    go_ret
    exact ⟨by rw [hr.out]; rfl, S, ⟨E, HE.out, by rw [hr.out]⟩, fun _ h => .inl h, Upd.refl _ _⟩
  | some x =>
    obtain ⟨f, b⟩ := x
    rw [hg] at hpg
    obtain ⟨hm, hfk⟩ := get_some Bn hg
    have hfk : f.name = k := hfk
    subst hfk
    have hr : Hid (syncD (plain E) f.name = (put En ⟨f.name, f.bytes, f.bytes.size⟩ (plain E), 0)) := by show _ = _; unfold syncD; rw [hpg]; rfl
    have hfl := (hE.file _ hm).2
    obtain ⟨c0, c1, _, z1⟩ := file_cells hfl
    have hmay := may_sync hE.may f.name
    rw [hr.out] at hmay
    have hsz : f.bytes.size ≤ total (plain E) := size_le_total (List.mem_map.2 ⟨_, hm, rfl⟩)
    have hfit := hE.may.fits
    have hbig := hE.big
    have ht := total_put_some hE.may.srt (x := ⟨f.name, f.bytes, f.bytes.size⟩) (f := f) (by rw [hpg]; rfl)
    obtain ⟨mb, _, hro, _⟩ := hE.root
    have hne := file_ne_root hfl hro
    have hset := hE.set hg (f' := ⟨f.name, f.bytes, f.bytes.size⟩) rfl hmay ((Upd.refl (fun i => i = b ∨ i = db) w).setCell (p := ⟨b, 1, none⟩) (fun _ => .inl rfl) (.int .i64 (f.bytes.size : Nat))) (file_set1 hfl)
      (fun mb h => by
        have : total (put En ⟨f.name, f.bytes, f.bytes.size⟩ (plain E)) = total (plain E) := by simp only at ht; omega
        rw [this]
        exact h.upd ((Upd.refl (fun i => i = b) w).setCell (p := ⟨b, 1, none⟩) (fun _ => rfl) _) (fun e => hne e.symm))
    have HS := Lib.hid hset
    have HB := Lib.hid (hE.file _ hm).1
    have HE := Lib.hid hE
    have HG := Lib.hid hg
    clear hE hg hfl hm hmay ht hro hne hset hpg
    simp only at c0 c1 z1
    go_enter Tryz.func30, Tryz.ntmps30
    go_wp2_with fail
    refine (of_some HE.out hk HG.out).mono ?_
    rintro e w' ⟨rfl, rfl⟩
    go_wp2_with fail
    go_ret
    exact ⟨by rw [hr.out]; rfl, S, ⟨_, HS.out.1, by rw [hr.out]; exact HS.out.2⟩, fun _ h => .inl h, (Upd.refl S w).setCell (p := ⟨b, 1, none⟩) (fun _ => HB.out) _⟩

/-- a name is taken out of the map, and the root's sum is written anew -/
theorem DiskAt.cut {w w' : World} {S : Nat → Prop} {db room n : Nat} {E : List EB} (h : DiskAt w S db room n E) {k : ByteArray} {mb : Nat} (hro : rootAt w db room (total (plain E)) mb) (hmb : S mb)
    (hu : Upd (fun i => i = mb ∨ i = db) w w') (hroot : rootAt w' db room (total (drop En k (plain E))) mb) (hm : w.ownsMap Tryz.prog 9 RB mb n (.map (ents E))) (hmap : w'.ownsMap Tryz.prog 9 RB mb n ((DataW.map (ents E)).del (key k))) :
    DiskAt w' S db room n (drop Bn k E) ∧ plain (drop Bn k E) = drop En k (plain E) := by
  have hpl : plain (drop Bn k E) = drop En k (plain E) := map_drop Bn En (fun x => x.1) (fun _ => rfl) k E
  refine ⟨⟨by rw [hpl]; exact h.may.drop k, h.big, ?_, fun x hx => ?_, h.sdb, fun j hj => Nat.lt_of_lt_of_le (h.below j hj) hu.size, mb, hmb, by rw [hpl]; exact hroot, by rw [ents_del]; exact hmap⟩, hpl⟩
  · exact List.Nodup.sublist (List.Sublist.map _ List.filter_sublist) h.nodup
  · have hx' := ((mem_drop Bn).1 hx).1
    refine ⟨(h.file x hx').1, hu.keep (h.file x hx').2 ?_⟩
    rintro (e | e)
    · obtain ⟨es, clock, hb, _⟩ := hm
      have := (h.file x hx').2
      unfold fileAt at this
      rw [e, hb] at this
      cases this
    · exact file_ne_root (h.file x hx').2 hro e

set_option maxHeartbeats 1000000 in
set_option maxRecDepth 100000 in
theorem remove_any {w : World} {S : Nat → Prop} {db room n : Nat} {D : Files} (h : Has w S db room n D) (k : ByteArray) (hk : k.size ≤ maxLen) :
    Calls Tryz.prog 29 #[.pointer (some ⟨db, 0, none⟩), .string k] w (Op S w db room n (removeD D k).1 (removeD D k).2) := by
  obtain ⟨E, hE, rfl⟩ := h
  have hpg := plain_get E k
  cases hg : get Bn E k with
  | none =>
    rw [hg] at hpg
    have hr : Hid (removeD (plain E) k = (plain E, 5)) := by show _ = _; unfold removeD; rw [hpg]; rfl
    clear hpg
    have HE := Lib.hid hE
    have HG := Lib.hid hg
    clear hE hg
    go_enter Tryz.func29, Tryz.ntmps29
    go_wp2_with fail
    refine (of_none HE.out hk HG.out).mono ?_
    rintro e w' ⟨rfl, rfl⟩
    go_wp2_with fail
    go_ret
    exact ⟨by rw [hr.out]; rfl, S, ⟨E, HE.out, by rw [hr.out]⟩, fun _ h => .inl h, Upd.refl _ _⟩
  | some x =>
    obtain ⟨f, b⟩ := x
    rw [hg] at hpg
    obtain ⟨hm, hfk⟩ := get_some Bn hg
    have hfk : f.name = k := hfk
    subst hfk
    have hr : Hid (removeD (plain E) f.name = (drop En f.name (plain E), 0)) := by show _ = _; unfold removeD; rw [hpg]; rfl
    have hfl := (hE.file _ hm).2
    obtain ⟨c0, _⟩ := file_cells hfl
    have hsz : f.bytes.size ≤ total (plain E) := size_le_total (List.mem_map.2 ⟨_, hm, rfl⟩)
    have hfit := hE.may.fits
    have hbig := hE.big
    have ht := total_drop hE.may.srt (f := f) (by rw [hpg]; rfl)
    obtain ⟨mb, hmb, hro, hmap⟩ := hE.root
    obtain ⟨_, r1, r2, z1⟩ := root_cells hro
    have hne := file_ne_root hfl hro
    have hmd : mb ≠ db := by
      rintro rfl
      obtain ⟨es, clock, hb, _⟩ := hmap
      unfold rootAt at hro
      rw [hb] at hro
      cases hro
    have HT : Hid (total (drop En f.name (plain E)) = total (plain E) - f.bytes.size) := by show _ = _; omega
    have HRO' := Lib.hid hro
    have HRO := Lib.hid hro
    have HM := Lib.hid hmap
    have HE := Lib.hid hE
    have HG := Lib.hid hg
    have hkey := key9 hk
    have HKEY := Lib.hid hkey
    clear hE hg hfl hm ht hro hne hmap hpg hkey
    simp only at c0
    obtain ⟨t, htt⟩ : ∃ t, t = total (plain E) := ⟨_, rfl⟩
    rw [← htt] at hsz hfit r1 HT HRO
    clear htt
    have hsub : Hid ((t : Int) - (f.bytes.size : Int) = ((t - f.bytes.size : Nat) : Int)) := by show _ = _; omega
    have hwr : IntKind.i64.wrap ((t : Int) - (f.bytes.size : Int)) = (t : Int) - (f.bytes.size : Int) := by rw [IntKind.wrap_i64]; omega
    go_enter Tryz.func29, Tryz.ntmps29
    go_wp2_with fail
    refine (of_some HE.out hk HG.out).mono ?_
    rintro e w' ⟨rfl, rfl⟩
    go_wp2_with fail
    have HU1 : Hid (Upd (fun i => i = db) w (w.setCell ⟨db, 1, none⟩ (.int .i64 ((t : Int) - (f.bytes.size : Int)))).drew) := ((Upd.refl (fun i => i = db) w).setCell (p := ⟨db, 1, none⟩) (fun _ => rfl) _).drew
    have HR1 : Hid (rootAt (w.setCell ⟨db, 1, none⟩ (.int .i64 ((t : Int) - (f.bytes.size : Int)))).drew db room (total (drop En f.name (plain E))) mb) := by
      show rootAt _ _ _ _ _
      rw [HT.out, hsub.out]
      exact root_set HRO.out
    go_still_tail 12, (by kernel_rfl)
    go_wp2_with (at_delete; refine wpList_delete_own _ rfl _ _ 58 9 rfl 62 keyed9 Tryz.underlying58 RB mb n (.map (ents E)) rfl ?hown _ _ rfl HKEY.out ?_)
    case hown => exact map_upd HM.out HU1.out hmd
    intro w1 hown1 hturn1
    have hu1 : Upd (fun i => i = mb ∨ i = db) w w1 := (HU1.out.mono (fun _ _ h => Or.inr h)).of_grown hturn1.grown (fun k hk _ => by simp at hk; exact .inl hk.symm)
    have hr1 : rootAt w1 db room (total (drop En f.name (plain E))) mb := HR1.out.upd ((Upd.refl (fun i => i = mb) _).of_grown hturn1.grown (fun k hk _ => by simp at hk; exact hk.symm)) (fun e => hmd e.symm)
    have hcut := HE.out.cut HRO'.out hmb hu1 hr1 HM.out hown1
    have hu2 : Upd S w w1 := hu1.mono (fun i _ h => by rcases h with rfl | rfl; exact hmb; exact HE.out.sdb)
    go_wp2_with fail
    go_ret
    exact ⟨by rw [hr.out]; rfl, S, ⟨_, hcut.1, by rw [hr.out]; exact hcut.2⟩, fun _ h => .inl h, hu2⟩
end Go.Proofs.YtgkegfgdpekehaaGreat
