/- The walk of Rename. -/
import Derived.Test.YtgkegfgdpekehaaGreatDe
namespace Go.Proofs.YtgkegfgdpekehaaGreat
open Go.RowKit Go.Acre Go.Acre.Dk Go.Maps

theorem nodup_snd {E : List EB} (h : (E.map fun x => x.2).Nodup) {x y : EB} (hx : x ∈ E) (hy : y ∈ E) (e : x.2 = y.2) : x = y := by
  induction E with
  | nil => cases hx
  | cons z r ih =>
    rw [List.map_cons, List.nodup_cons] at h
    rcases List.mem_cons.1 hx with rfl | hx' <;> rcases List.mem_cons.1 hy with rfl | hy'
    · rfl
    · exact absurd (List.mem_map.2 ⟨y, hy', e.symm⟩) h.1
    · exact absurd (List.mem_map.2 ⟨x, hx', e⟩) h.1
    · exact ih h.2 hx' hy'
/-- a file has another name -/
theorem DiskAt.moved {w w' : World} {S : Nat → Prop} {db room n : Nat} {E : List EB} (h : DiskAt w S db room n E) {a c : ByteArray} {f : Ent} {b : Nat} (hg : get Bn E a = some (f, b)) (hok : nameOk c = true) {mb : Nat}
    (hro : rootAt w db room (total (plain E)) mb) (hmb : S mb) (hm : w.ownsMap Tryz.prog 9 RB mb n (.map (ents E))) (hu : Upd (fun i => i = mb ∨ i = db) w w')
    (hroot : rootAt w' db room (total (put En ⟨c, f.bytes, f.synced⟩ (drop En a (plain E)))) mb) (hmap : w'.ownsMap Tryz.prog 9 RB mb (n + 1) (((DataW.map (ents E)).del (key a)).put (key c) (.held b))) :
    DiskAt w' S db room (n + 1) (put Bn (⟨c, f.bytes, f.synced⟩, b) (drop Bn a E)) ∧ plain (put Bn (⟨c, f.bytes, f.synced⟩, b) (drop Bn a E)) = put En ⟨c, f.bytes, f.synced⟩ (drop En a (plain E)) := by
  have hpd : plain (drop Bn a E) = drop En a (plain E) := map_drop Bn En (fun x => x.1) (fun _ => rfl) a E
  have hpl : plain (put Bn (⟨c, f.bytes, f.synced⟩, b) (drop Bn a E)) = put En ⟨c, f.bytes, f.synced⟩ (drop En a (plain E)) := by
    rw [← hpd]; exact map_put Bn En (fun x => x.1) (fun _ => rfl) (⟨c, f.bytes, f.synced⟩, b) (drop Bn a E)
  obtain ⟨hmem, hfk⟩ := get_some Bn hg
  have hfk : f.name = a := hfk
  have hpg : get En (plain E) a = some f := by rw [plain_get, hg]; rfl
  have hmay := may_rename h.may a c
  unfold renameD at hmay
  rw [hpg] at hmay
  simp only [hok, if_true] at hmay
  have hkeepf : ∀ x ∈ E, S x.2 ∧ fileAt w' x := fun x hx => by
    refine ⟨(h.file x hx).1, (h.file x hx).2.upd hu ?_⟩
    rintro (e | e)
    · obtain ⟨es, clock, hb', _⟩ := hm
      have := (h.file x hx).2
      unfold fileAt at this
      rw [e, hb'] at this
      cases this
    · exact file_ne_root (h.file x hx).2 hro e
  refine ⟨⟨by rw [hpl]; exact hmay, h.big, ?_, fun x hx => ?_, h.sdb, fun k hk => Nat.lt_of_lt_of_le (h.below k hk) hu.size, mb, hmb, by rw [hpl]; exact hroot, by rw [ents_put, ents_del]; exact hmap⟩, hpl⟩
  · unfold put
    rw [((ins_perm Bn _ _).map _).nodup_iff, List.map_cons, List.nodup_cons]
    refine ⟨fun hmem2 => ?_, List.Nodup.sublist (List.Sublist.map _ (List.Sublist.trans List.filter_sublist List.filter_sublist)) h.nodup⟩
    obtain ⟨x, hx, e⟩ := List.mem_map.1 hmem2
    have hx1 := ((mem_drop Bn).1 hx).1
    obtain ⟨hx2, hx3⟩ := (mem_drop Bn).1 hx1
    have := nodup_snd h.nodup hx2 hmem e
    subst this
    exact hx3 hfk
  · rcases (mem_put Bn).1 hx with rfl | ⟨hx, _⟩
    · exact hkeepf (f, b) hmem
    · exact hkeepf x ((mem_drop Bn).1 hx).1

theorem get_drop_other {D : Files} {a c : ByteArray} (h : c ≠ a) : get En (drop En a D) c = get En D c := by
  unfold Dk.get Dk.drop
  rw [List.find?_filter]
  congr 1
  funext x
  by_cases e : En x = c
  · rw [e]; simp [h]
  · simp [e]
theorem total_renamed {D : Files} (h : Srt En D) {a c : ByteArray} (hne : c ≠ a) {f : Ent} (hg : get En D a = some f) :
    total (put En ⟨c, f.bytes, f.synced⟩ (drop En a D)) + (match get En D c with | some g => g.bytes.size | none => 0) = total D := by
  have h1 := total_drop h hg
  cases hc : get En D c with
  | none =>
    have := total_put_none (x := ⟨c, f.bytes, f.synced⟩) (D := drop En a D) (by rw [get_drop_other hne]; exact hc)
    simp only at this ⊢
    omega
  | some g =>
    have := total_put_some (srt_drop En h a) (x := ⟨c, f.bytes, f.synced⟩) (f := g) (by rw [get_drop_other hne]; exact hc)
    simp only at this ⊢
    omega

theorem rename_none {w : World} {S : Nat → Prop} {db room n : Nat} {E : List EB} (h : DiskAt w S db room n E) (a c : ByteArray) (ha : a.size ≤ maxLen) (hg : get Bn E a = none) :
    Calls Tryz.prog 31 #[.pointer (some ⟨db, 0, none⟩), .string a, .string c] w fun e w' => e = .returned (.int .i64 5) ∧ w = w' := by
  have HE := Lib.hid h
  have HG := Lib.hid hg
  clear h hg
  go_enter Tryz.func31, Tryz.ntmps31
  go_wp2_with fail
  refine (of_none HE.out ha HG.out).mono ?_
  rintro e w' ⟨rfl, rfl⟩
  go_wp2_with fail
  go_ret
  exact ⟨rfl, rfl⟩
theorem rename_bad {w : World} {S : Nat → Prop} {db room n : Nat} {E : List EB} (h : DiskAt w S db room n E) (a c : ByteArray) (ha : a.size ≤ maxLen) {f : Ent} {b : Nat} (hg : get Bn E a = some (f, b)) (hok : nameOk c = false) :
    Calls Tryz.prog 31 #[.pointer (some ⟨db, 0, none⟩), .string a, .string c] w fun e w' => e = .returned (.int .i64 2) ∧ w = w' := by
  have HE := Lib.hid h
  have HG := Lib.hid hg
  clear h hg
  go_enter Tryz.func31, Tryz.ntmps31
  go_wp2_with fail
  refine (of_some HE.out ha HG.out).mono ?_
  rintro e w' ⟨rfl, rfl⟩
  go_wp2_with fail
  refine (name_any c _).mono ?_
  rintro e w' ⟨rfl, rfl⟩
  rw [hok]
  go_wp2_with fail
  go_ret
  exact ⟨rfl, rfl⟩
theorem rename_self {w : World} {S : Nat → Prop} {db room n : Nat} {E : List EB} (h : DiskAt w S db room n E) (a : ByteArray) (ha : a.size ≤ maxLen) {f : Ent} {b : Nat} (hg : get Bn E a = some (f, b)) (hok : nameOk a = true) :
    Calls Tryz.prog 31 #[.pointer (some ⟨db, 0, none⟩), .string a, .string a] w fun e w' => e = .returned (.int .i64 0) ∧ w = w' := by
  have HE := Lib.hid h
  have HG := Lib.hid hg
  clear h hg
  have hd : (a.toList == a.toList) = true := by simp
  go_enter Tryz.func31, Tryz.ntmps31
  go_wp2_with fail
  refine (of_some HE.out ha HG.out).mono ?_
  rintro e w' ⟨rfl, rfl⟩
  go_wp2_with fail
  refine (name_any a _).mono ?_
  rintro e w' ⟨rfl, rfl⟩
  rw [hok]
  go_wp2_with fail
  go_ret
  exact ⟨rfl, rfl⟩
set_option maxHeartbeats 2000000 in
set_option maxRecDepth 100000 in
theorem rename_new {w : World} {S : Nat → Prop} {db room n : Nat} {E : List EB} (h : DiskAt w S db room n E) (a c : ByteArray) (ha : a.size ≤ maxLen) (hc : c.size ≤ maxLen) {f : Ent} {b : Nat} (hg : get Bn E a = some (f, b)) (hok : nameOk c = true) (hne : c ≠ a) (hg2 : get Bn E c = none) (hnm : n < maxLen) :
    Calls Tryz.prog 31 #[.pointer (some ⟨db, 0, none⟩), .string a, .string c] w (Op S w db room (n + 1) (put En ⟨c, f.bytes, f.synced⟩ (drop En a (plain E))) 0) := by
  obtain ⟨mb, hmbS, hr, hmap⟩ := h.root
  obtain ⟨c0, c1, c2, z1⟩ := root_cells hr
  have hl := look_none hmap hc hg2
  have hmd : mb ≠ db := by
    rintro rfl
    obtain ⟨es, clock, hb', _⟩ := hmap
    unfold rootAt at hr
    rw [hb'] at hr
    cases hr
  have hd : (a.toList == c.toList) = false := by rw [str_eql]; simp [Ne.symm hne]
  have hpg : get En (plain E) a = some f := by rw [plain_get, hg]; rfl
  have htot := total_renamed h.may.srt hne hpg
  rw [plain_get, hg2] at htot
  have HTOT : Hid (total (put En ⟨c, f.bytes, f.synced⟩ (drop En a (plain E))) = total (plain E)) := htot
  have HR := Lib.hid hr
  have HH := Lib.hid h
  have HM := Lib.hid hmap
  have HG := Lib.hid hg
  have HKA := Lib.hid (key9 ha)
  have HKC := Lib.hid (key9 hc)
  clear h hr hmap hg htot hpg hg2
  go_enter Tryz.func31, Tryz.ntmps31
  go_wp2_with fail
  refine (of_some HH.out ha HG.out).mono ?_
  rintro e w' ⟨rfl, rfl⟩
  go_wp2_with fail
  refine (name_any c _).mono ?_
  rintro e w' ⟨rfl, rfl⟩
  rw [hok]
  go_wp2_with (at_delete; refine wpList_delete_own _ rfl _ _ 58 9 rfl 62 keyed9 Tryz.underlying58 RB mb n (.map (ents E)) rfl HM.out _ _ rfl HKA.out ?_)
  intro w1 hown1 hturn1
  have hu1 : Upd (fun i => i = mb ∨ i = db) w w1 := (Upd.refl (fun i => i = mb ∨ i = db) w).of_grown hturn1.grown (fun k hk _ => by simp at hk; exact .inl hk.symm)
  have hr1 : rootAt w1 db room (total (plain E)) mb := HR.out.upd ((Upd.refl (fun i => i = mb) _).of_grown hturn1.grown (fun k hk _ => by simp at hk; exact hk.symm)) (fun e => hmd e.symm)
  obtain ⟨d0, d1, d2, _⟩ := root_cells hr1
  have HU1 := Lib.hid hu1
  have HR1 := Lib.hid hr1
  clear hu1 hr1 hturn1
  go_wp2_with (at_mapUpdate; refine wpList_mapUpdate_own _ rfl _ _ _ 58 rfl 9 62 keyed9 Tryz.underlying58 RB mb n _ rfl hown1 hnm _ _ (key c) rfl rfl HKC.out (.held b) [] rfl ?_)
  intro w2 hown2 hgrow2
  have hu2 : Upd (fun i => i = mb ∨ i = db) w w2 := HU1.out.of_grown hgrow2 (fun k hk _ => by simp at hk; exact .inl hk.symm)
  have hr2 : rootAt w2 db room (total (plain E)) mb := HR1.out.upd ((Upd.refl (fun i => i = mb) _).of_grown hgrow2 (fun k hk _ => by simp at hk; exact hk.symm)) (fun e => hmd e.symm)
  have hmv := HH.out.moved HG.out hok HR.out hmbS HM.out hu2 (by rw [HTOT.out]; exact hr2) hown2
  have hu3 : Upd S w w2 := hu2.mono (fun i _ h => by rcases h with rfl | rfl; exact hmbS; exact HH.out.sdb)
  clear hown1 hown2 hgrow2 hr2 hu2
  go_wp2_with fail
  go_ret
  exact ⟨rfl, S, ⟨_, hmv.1, hmv.2⟩, fun _ h => .inl h, hu3⟩
set_option maxHeartbeats 2000000 in
set_option maxRecDepth 100000 in
theorem rename_old {w : World} {S : Nat → Prop} {db room n : Nat} {E : List EB} (h : DiskAt w S db room n E) (a c : ByteArray) (ha : a.size ≤ maxLen) (hc : c.size ≤ maxLen) {f g : Ent} {b o : Nat} (hg : get Bn E a = some (f, b)) (hok : nameOk c = true) (hne : c ≠ a) (hg2 : get Bn E c = some (g, o)) (hnm : n < maxLen) :
    Calls Tryz.prog 31 #[.pointer (some ⟨db, 0, none⟩), .string a, .string c] w (Op S w db room (n + 1) (put En ⟨c, f.bytes, f.synced⟩ (drop En a (plain E))) 0) := by
  obtain ⟨mb, hmbS, hr, hmap⟩ := h.root
  obtain ⟨c0, c1, c2, z1⟩ := root_cells hr
  have hl := look_some hmap hc hg2
  have hmd : mb ≠ db := by
    rintro rfl
    obtain ⟨es, clock, hb', _⟩ := hmap
    unfold rootAt at hr
    rw [hb'] at hr
    cases hr
  have hd : (a.toList == c.toList) = false := by rw [str_eql]; simp [Ne.symm hne]
  have hpg : get En (plain E) a = some f := by rw [plain_get, hg]; rfl
  have hmem2 := (get_some Bn hg2).1
  obtain ⟨g0, _⟩ := file_cells (h.file _ hmem2).2
  have hsz : g.bytes.size ≤ total (plain E) := size_le_total (List.mem_map.2 ⟨_, hmem2, rfl⟩)
  have hle := h.may.fits
  have hbig := h.big
  have htot := total_renamed h.may.srt hne hpg
  rw [plain_get, hg2] at htot
  have HTOT : Hid (total (put En ⟨c, f.bytes, f.synced⟩ (drop En a (plain E))) = total (plain E) - g.bytes.size) := by
    show _ = _
    simp only [Option.map_some] at htot
    omega
  have HR := Lib.hid hr
  have HH := Lib.hid h
  have HM := Lib.hid hmap
  have HG := Lib.hid hg
  have HKA := Lib.hid (key9 ha)
  have HKC := Lib.hid (key9 hc)
  clear h hr hmap hg htot hpg hg2 hmem2
  simp only at g0
  obtain ⟨t, htt⟩ : ∃ t, t = total (plain E) := ⟨_, rfl⟩
  have HT := Lib.hid htt
  rw [← htt] at c1 hsz hle HTOT
  clear htt
  have hwr : IntKind.i64.wrap ((t : Int) - (g.bytes.size : Int)) = (t : Int) - (g.bytes.size : Int) := by rw [IntKind.wrap_i64]; omega
  have hsub : Hid ((t : Int) - (g.bytes.size : Int) = ((t - g.bytes.size : Nat) : Int)) := by show _ = _; omega
  have HUA : Hid (Upd (fun i => i = db) w (w.setCell ⟨db, 1, none⟩ (.int .i64 ((t : Int) - (g.bytes.size : Int)))).drew) := ((Upd.refl (fun i => i = db) w).setCell (p := ⟨db, 1, none⟩) (fun _ => rfl) _).drew
  have HRA : Hid (rootAt (w.setCell ⟨db, 1, none⟩ (.int .i64 ((t : Int) - (g.bytes.size : Int)))).drew db room (t - g.bytes.size) mb) := by
    show rootAt _ _ _ _ _
    rw [hsub.out]
    exact root_set HR.out
  go_enter Tryz.func31, Tryz.ntmps31
  go_wp2_with fail
  refine (of_some HH.out ha HG.out).mono ?_
  rintro e w' ⟨rfl, rfl⟩
  go_wp2_with fail
  refine (name_any c _).mono ?_
  rintro e w' ⟨rfl, rfl⟩
  rw [hok]
  go_wp2_with fail
  go_still_tail 12, (by kernel_rfl)
  go_wp2_with (at_delete; refine wpList_delete_own _ rfl _ _ 58 9 rfl 62 keyed9 Tryz.underlying58 RB mb n (.map (ents E)) rfl ?hown _ _ rfl HKA.out ?_)
  case hown => exact map_upd HM.out HUA.out hmd
  intro w1 hown1 hturn1
  have hu1 : Upd (fun i => i = mb ∨ i = db) w w1 := (HUA.out.mono (fun _ _ h => Or.inr h)).of_grown hturn1.grown (fun k hk _ => by simp at hk; exact .inl hk.symm)
  have hr1 : rootAt w1 db room (t - g.bytes.size) mb := HRA.out.upd ((Upd.refl (fun i => i = mb) _).of_grown hturn1.grown (fun k hk _ => by simp at hk; exact hk.symm)) (fun e => hmd e.symm)
  obtain ⟨d0, d1, d2, _⟩ := root_cells hr1
  have HU1 := Lib.hid hu1
  have HR1 := Lib.hid hr1
  clear hu1 hr1 hturn1
  go_wp2_with (at_mapUpdate; refine wpList_mapUpdate_own _ rfl _ _ _ 58 rfl 9 62 keyed9 Tryz.underlying58 RB mb n _ rfl hown1 hnm _ _ (key c) rfl rfl HKC.out (.held b) [] rfl ?_)
  intro w2 hown2 hgrow2
  have hu2 : Upd (fun i => i = mb ∨ i = db) w w2 := HU1.out.of_grown hgrow2 (fun k hk _ => by simp at hk; exact .inl hk.symm)
  have hr2 : rootAt w2 db room (t - g.bytes.size) mb := HR1.out.upd ((Upd.refl (fun i => i = mb) _).of_grown hgrow2 (fun k hk _ => by simp at hk; exact hk.symm)) (fun e => hmd e.symm)
  have hmv := HH.out.moved HG.out hok HR.out hmbS HM.out hu2 (by rw [HTOT.out]; exact hr2) hown2
  have hu3 : Upd S w w2 := hu2.mono (fun i _ h => by rcases h with rfl | rfl; exact hmbS; exact HH.out.sdb)
  clear hown1 hown2 hgrow2 hr2 hu2
  go_wp2_with fail
  go_ret
  exact ⟨rfl, S, ⟨_, hmv.1, hmv.2⟩, fun _ h => .inl h, hu3⟩
theorem rename_any {w : World} {S : Nat → Prop} {db room n : Nat} {D : Files} (h : Has w S db room n D) (a c : ByteArray) (ha : a.size ≤ maxLen) (hc : c.size ≤ maxLen) (hnm : n < maxLen) :
    Calls Tryz.prog 31 #[.pointer (some ⟨db, 0, none⟩), .string a, .string c] w (Op S w db room (n + 1) (renameD D a c).1 (renameD D a c).2) := by
  obtain ⟨E, hE, rfl⟩ := h
  unfold renameD
  rw [plain_get]
  cases hg : get Bn E a with
  | none =>
    refine (rename_none hE a c ha hg).mono ?_
    rintro e w' ⟨rfl, rfl⟩
    exact ⟨rfl, S, ⟨E, hE.mono (Nat.le_succ n), rfl⟩, fun _ h => .inl h, Upd.refl _ _⟩
  | some x =>
    obtain ⟨f, b⟩ := x
    simp only [Option.map_some]
    cases hok : nameOk c with
    | false =>
      refine (rename_bad hE a c ha hg hok).mono ?_
      rintro e w' ⟨rfl, rfl⟩
      exact ⟨rfl, S, ⟨E, hE.mono (Nat.le_succ n), rfl⟩, fun _ h => .inl h, Upd.refl _ _⟩
    | true =>
      simp only [if_true]
      by_cases hne : c = a
      · subst hne
        refine (rename_self hE c ha hg hok).mono ?_
        rintro e w' ⟨rfl, rfl⟩
        refine ⟨rfl, S, ⟨E, hE.mono (Nat.le_succ n), ?_⟩, fun _ h => .inl h, Upd.refl _ _⟩
        have hpg : get En (plain E) c = some f := by rw [plain_get, hg]; rfl
        obtain ⟨hm, hfn⟩ := get_some En hpg
        have hfn : f.name = c := hfn
        subst hfn
        have e1 := put_drop_self En (x := f) (l := plain E)
        have e2 := put_self En hE.may.srt hm
        rw [e2] at e1
        exact e1.symm
      · cases hg2 : get Bn E c with
        | none => exact rename_new hE a c ha hc hg hok hne hg2 hnm
        | some y =>
          obtain ⟨g, o⟩ := y
          exact rename_old hE a c ha hc hg hok hne hg2 hnm
end Go.Proofs.YtgkegfgdpekehaaGreat
