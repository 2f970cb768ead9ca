/- The walk of Append. -/
import Derived.Test.YtgkegfgdpekehaaGreatDd
namespace Go.Proofs.YtgkegfgdpekehaaGreat
open Go.RowKit Go.Acre Go.Acre.Dk Go.Maps

/-- a new file, empty as yet -/
theorem DiskAt.added {w w' : World} {S : Nat → Prop} {db room n : Nat} {E : List EB} (h : DiskAt w S db room n E) {nn : ByteArray} (hg : get Bn E nn = none) (hok : nameOk nn = true) {mb b : Nat}
    (hro : rootAt w db room (total (plain E)) mb) (hmb : S mb) (hm : w.ownsMap Tryz.prog 9 RB mb n (.map (ents E))) (hu : Upd (fun i => i = mb) w w') (hfile : fileAt w' (⟨nn, ⟨#[]⟩, 0⟩, b)) (hb : w.heap.size ≤ b)
    (hmap : w'.ownsMap Tryz.prog 9 RB mb (n + 1) ((DataW.map (ents E)).put (key nn) (.held b))) :
    DiskAt w' (fun k => S k ∨ k = b) db room (n + 1) (put Bn (⟨nn, ⟨#[]⟩, 0⟩, b) E) ∧ plain (put Bn (⟨nn, ⟨#[]⟩, 0⟩, b) E) = put En ⟨nn, ⟨#[]⟩, 0⟩ (plain E) := by
  have hpl : plain (put Bn (⟨nn, ⟨#[]⟩, 0⟩, b) E) = put En ⟨nn, ⟨#[]⟩, 0⟩ (plain E) := map_put Bn En (fun x => x.1) (fun _ => rfl) (⟨nn, ⟨#[]⟩, 0⟩, b) E
  have hgp : get En (plain E) nn = none := by rw [plain_get, hg]; rfl
  have ht : total (put En ⟨nn, ⟨#[]⟩, 0⟩ (plain E)) = total (plain E) := total_put_none (x := ⟨nn, ⟨#[]⟩, 0⟩) hgp
  have hmd : mb ≠ db := by
    rintro rfl
    obtain ⟨es, clock, hb', _⟩ := hm
    unfold rootAt at hro
    rw [hb'] at hro
    cases hro
  have hpe : put Bn (⟨nn, ⟨#[]⟩, 0⟩, b) E = ins Bn (⟨nn, ⟨#[]⟩, 0⟩, b) E := by
    have : drop Bn nn E = E := drop_none Bn hg
    show ins Bn _ (drop Bn nn E) = _
    rw [this]
  refine ⟨⟨by rw [hpl]; exact h.may.put hok (Nat.zero_le _) (by rw [ht]; exact h.may.fits), h.big, ?_, fun x hx => ?_, .inl h.sdb, ?_, mb, .inl hmb, ?_, ?_⟩, hpl⟩
  · rw [hpe, ((ins_perm Bn _ E).map _).nodup_iff, List.map_cons, List.nodup_cons]
    refine ⟨fun hmem => ?_, h.nodup⟩
    obtain ⟨x, hx, e⟩ := List.mem_map.1 hmem
    have h1 := h.below _ (h.file x hx).1
    have e : x.2 = b := e
    omega
  · rcases (mem_put Bn).1 hx with rfl | ⟨hx, _⟩
    · exact ⟨.inr rfl, hfile⟩
    · refine ⟨.inl (h.file x hx).1, (h.file x hx).2.upd hu (fun e => ?_)⟩
      obtain ⟨es, clock, hb', _⟩ := hm
      have := (h.file x hx).2
      unfold fileAt at this
      rw [e, hb'] at this
      cases this
  · rintro k (hk | rfl)
    · exact Nat.lt_of_lt_of_le (h.below k hk) hu.size
    · exact lt_of_heap hfile
  · rw [hpl, ht]
    exact hro.upd hu (fun e => hmd e.symm)
  · rw [ents_put]
    exact hmap
/-- a file has grown -/
theorem DiskAt.grown {w : World} {S : Nat → Prop} {db room n : Nat} {E : List EB} (h : DiskAt w S db room n E) {nn data : ByteArray} {f : Ent} {b : Nat} (hg : get Bn E nn = some (f, b)) (hfit : data.size ≤ room - total (plain E)) {m : Nat} (hm : m = total (plain E) + data.size) :
    DiskAt ((w.setCell ⟨b, 0, none⟩ (.string (f.bytes ++ data))).setCell ⟨db, 1, none⟩ (.int .i64 (m : Nat))) S db room n (put Bn (⟨nn, f.bytes ++ data, f.synced⟩, b) E) ∧
    plain (put Bn (⟨nn, f.bytes ++ data, f.synced⟩, b) E) = put En ⟨nn, f.bytes ++ data, f.synced⟩ (plain E) := by
  obtain ⟨hmem, hfk⟩ := get_some Bn hg
  have hfk : f.name = nn := hfk
  subst hfk
  have hpg : get En (plain E) f.name = some f := by rw [plain_get, hg]; rfl
  have ht := total_put_some h.may.srt (x := ⟨f.name, f.bytes ++ data, f.synced⟩) (f := f) hpg
  simp only [ByteArray.size_append] at ht
  have hle := h.may.fits
  have hfl := (h.file _ hmem).2
  have hsy : f.synced ≤ f.bytes.size := h.may.syn f (List.mem_map.2 ⟨_, hmem, rfl⟩)
  obtain ⟨mb0, _, hro, _⟩ := h.root
  have hne := file_ne_root hfl hro
  refine h.set hg (f' := ⟨f.name, f.bytes ++ data, f.synced⟩) rfl (h.may.put (h.may.names f (List.mem_map.2 ⟨_, hmem, rfl⟩)) (by simp only [ByteArray.size_append]; omega) (by omega))
    (((Upd.refl (fun i => i = b ∨ i = db) w).setCell (p := ⟨b, 0, none⟩) (fun _ => .inl rfl) _).setCell (p := ⟨db, 1, none⟩) (fun _ => .inr rfl) _) ?_ (fun mb hr => ?_)
  · exact (file_set0 hfl).upd ((Upd.refl (fun i => i = db) _).setCell (p := ⟨db, 1, none⟩) (fun _ => rfl) _) hne
  · have e : m = total (put En ⟨f.name, f.bytes ++ data, f.synced⟩ (plain E)) := by omega
    rw [e]
    exact root_set (hr.upd ((Upd.refl (fun i => i = b) w).setCell (p := ⟨b, 0, none⟩) (fun _ => rfl) _) (fun e => hne e.symm))

theorem DiskAt.heap {w w' : World} {S : Nat → Prop} {db room n : Nat} {E : List EB} (h : DiskAt w S db room n E) (e : w'.heap = w.heap) : DiskAt w' S db room n E := by
  obtain ⟨mb, h1, h2, h3⟩ := h.root
  refine ⟨h.may, h.big, h.nodup, fun x hx => ⟨(h.file x hx).1, by have := (h.file x hx).2; unfold fileAt at this ⊢; rw [e]; exact this⟩, h.sdb, fun k hk => by rw [e]; exact h.below k hk, mb, h1, by unfold rootAt at h2 ⊢; rw [e]; exact h2, ?_⟩
  obtain ⟨es, clock, hb, F, hs, hD⟩ := h3
  exact ⟨es, clock, by rw [e]; exact hb, F, hs, hD⟩
theorem append_bad {w : World} {S : Nat → Prop} {db room n : Nat} {E : List EB} (h : DiskAt w S db room n E) (nn data : ByteArray) (hn : nameOk nn = false) :
    Calls Tryz.prog 6 #[.pointer (some ⟨db, 0, none⟩), .string nn, .string data] w fun e w' => e = .returned (.int .i64 2) ∧ w = w' := by
  obtain ⟨mb, _, hr, _⟩ := h.root
  obtain ⟨_, _, c2, _⟩ := root_cells hr
  clear h hr
  go_enter Tryz.func6, Tryz.ntmps6
  go_wp2_with fail
  refine (none_some db mb _ c2).mono ?_
  rintro e w' ⟨rfl, rfl⟩
  go_wp2_with fail
  refine (name_any nn _).mono ?_
  rintro e w' ⟨rfl, rfl⟩
  rw [hn]
  go_wp2_with fail
  go_ret
  exact ⟨rfl, rfl⟩
set_option maxHeartbeats 1000000 in
set_option maxRecDepth 100000 in
theorem append_full {w : World} {S : Nat → Prop} {db room n : Nat} {E : List EB} (h : DiskAt w S db room n E) (nn data : ByteArray) (hn : nameOk nn = true) (hfit : ¬ data.size ≤ room - total (plain E)) (hds : data.size ≤ 9223372036854775807) :
    Calls Tryz.prog 6 #[.pointer (some ⟨db, 0, none⟩), .string nn, .string data] w fun e w' => e = .returned (.int .i64 7) ∧ Upd (fun _ => False) w w' := by
  obtain ⟨mb, _, hr, _⟩ := h.root
  obtain ⟨_, c1, c2, _⟩ := root_cells hr
  obtain ⟨c0, _⟩ := root_cells hr
  have hle := h.may.fits
  have hbig := h.big
  clear h hr
  generalize total (plain E) = t at *
  have hwr : IntKind.i64.wrap ((room : Int) - (t : Int)) = (room : Int) - (t : Int) := by rw [IntKind.wrap_i64]; omega
  have hd : decide ((room : Int) - (t : Int) < (data.size : Int)) = true := by simp; omega
  go_enter Tryz.func6, Tryz.ntmps6
  go_wp2_with fail
  refine (none_some db mb _ c2).mono ?_
  rintro e w' ⟨rfl, rfl⟩
  go_wp2_with fail
  refine (name_any nn _).mono ?_
  rintro e w' ⟨rfl, rfl⟩
  rw [hn]
  go_wp2_with fail
  go_quiet (fail)
  go_wp2_with fail
  go_ret
  exact ⟨rfl, (Upd.refl _ w).drewN _⟩
set_option maxHeartbeats 1000000 in
set_option maxRecDepth 100000 in
theorem append_old {w : World} {S : Nat → Prop} {db room n : Nat} {E : List EB} (h : DiskAt w S db room n E) (nn data : ByteArray) (hk : nn.size ≤ maxLen) (hn : nameOk nn = true) (hfit : data.size ≤ room - total (plain E)) {f : Ent} {b : Nat} (hg : get Bn E nn = some (f, b)) :
    Calls Tryz.prog 6 #[.pointer (some ⟨db, 0, none⟩), .string nn, .string data] w (Op S w db room n (put En ⟨nn, f.bytes ++ data, f.synced⟩ (plain E)) 0) := by
  obtain ⟨mb, _, hr, hmap⟩ := h.root
  obtain ⟨c0, c1, c2, z1⟩ := root_cells hr
  obtain ⟨hmem, _⟩ := get_some Bn hg
  have hfl := (h.file _ hmem).2
  obtain ⟨f0, _, y0, _⟩ := file_cells hfl
  have hle := h.may.fits
  have hbig := h.big
  have hsz : f.bytes.size ≤ total (plain E) := size_le_total (List.mem_map.2 ⟨_, hmem, rfl⟩)
  have hne := file_ne_root hfl hr
  obtain ⟨t, htt⟩ : ∃ t, t = total (plain E) := ⟨_, rfl⟩
  have hgr := h.grown hg hfit (m := t + data.size) (by rw [htt])
  rw [show ((t + data.size : Nat) : Int) = (t : Int) + (data.size : Int) from by omega] at hgr
  have HGR := Lib.hid hgr
  have hl : ∀ q, (Instr.lookup 58 (.map (some mb)) (.string nn) false).run Tryz.prog (w.drewN q) = .ok (.pointer (some ⟨b, 0, none⟩)) (w.drewN q) := fun q => look_some (map_upd hmap ((Upd.refl (fun _ => False) w).drewN q) (fun f => f)) hk hg
  clear hgr
  have HSB := Lib.hid (h.file _ hmem).1
  have HSD := Lib.hid h.sdb
  rw [← htt] at hfit hle hsz c1
  have HM := Lib.hid hmap
  have HG := Lib.hid hg
  clear h hr hfl hmap htt hmem hg
  simp only at f0 y0 hne
  have hwr : IntKind.i64.wrap ((room : Int) - (t : Int)) = (room : Int) - (t : Int) := by rw [IntKind.wrap_i64]; omega
  have hd : decide ((room : Int) - (t : Int) < (data.size : Int)) = false := by simp; omega
  go_enter Tryz.func6, Tryz.ntmps6
  go_wp2_with fail
  refine (none_some db mb _ c2).mono ?_
  rintro e w' ⟨rfl, rfl⟩
  go_wp2_with fail
  refine (name_any nn _).mono ?_
  rintro e w' ⟨rfl, rfl⟩
  rw [hn]
  go_wp2_with fail
  go_quiet (fail)
  go_wp2_with fail
  go_ret
  exact ⟨rfl, S, ⟨_, HGR.out.1.heap rfl, HGR.out.2⟩, fun _ h => .inl h, (((Upd.refl S w).drewN _).setCell (p := ⟨b, 0, none⟩) (fun _ => HSB.out) _).setCell (p := ⟨db, 1, none⟩) (fun _ => HSD.out) _⟩
set_option maxHeartbeats 2000000 in
set_option maxRecDepth 100000 in
theorem append_new {w : World} {S : Nat → Prop} {db room n : Nat} {E : List EB} (h : DiskAt w S db room n E) (nn data : ByteArray) (hk : nn.size ≤ maxLen) (hn : nameOk nn = true) (hfit : data.size ≤ room - total (plain E)) (hg : get Bn E nn = none) (hnm : n < maxLen) :
    Calls Tryz.prog 6 #[.pointer (some ⟨db, 0, none⟩), .string nn, .string data] w (Op S w db room (n + 1) (put En ⟨nn, data, 0⟩ (plain E)) 0) := by
  obtain ⟨mb, hmbS, hr, hmap⟩ := h.root
  obtain ⟨c0, c1, c2, z1⟩ := root_cells hr
  have hle := h.may.fits
  have hbig := h.big
  have hdbl := h.below _ h.sdb
  have hmd : mb ≠ db := by
    rintro rfl
    obtain ⟨es, clock, hb', _⟩ := hmap
    unfold rootAt at hr
    rw [hb'] at hr
    cases hr
  obtain ⟨t, htt⟩ : ∃ t, t = total (plain E) := ⟨_, rfl⟩
  have HH := Lib.hid h
  have HR := Lib.hid hr
  have HT := Lib.hid htt
  have HSD := Lib.hid h.sdb
  have HFIT := Lib.hid hfit
  rw [← htt] at hfit hle c1
  have hl : ∀ q, (Instr.lookup 58 (.map (some mb)) (.string nn) false).run Tryz.prog (w.drewN q) = .ok (.pointer none) (w.drewN q) := fun q => look_none (map_upd hmap ((Upd.refl (fun _ => False) w).drewN q) (fun f => f)) hk hg
  have HM := Lib.hid hmap
  have HG := Lib.hid hg
  have HKEY := Lib.hid (key9 hk)
  clear h hr hmap htt hg
  have hwr : IntKind.i64.wrap ((room : Int) - (t : Int)) = (room : Int) - (t : Int) := by rw [IntKind.wrap_i64]; omega
  have hd : decide ((room : Int) - (t : Int) < (data.size : Int)) = false := by simp; omega
  go_enter Tryz.func6, Tryz.ntmps6
  go_wp2_with fail
  refine (none_some db mb _ c2).mono ?_
  rintro e w' ⟨rfl, rfl⟩
  go_wp2_with fail
  refine (name_any nn _).mono ?_
  rintro e w' ⟨rfl, rfl⟩
  rw [hn]
  go_wp2_with fail
  go_quiet (fail)
  have HMQ : Hid ((w.drewN nq).ownsMap Tryz.prog 9 RB mb n (.map (ents E))) := map_upd HM.out ((Upd.refl (fun _ => False) w).drewN nq) (fun f => f)
  have HUQ : Hid (Upd (fun _ => False) w (w.drewN nq)) := (Upd.refl _ w).drewN nq
  have hsq : (w.drewN nq).heap.size = w.heap.size := rfl
  have hlq := hl nq
  have q1 : (w.drewN nq).cell? ⟨db, 1, none⟩ = some (.int .i64 (t : Nat)) := c1
  have q2 : (w.drewN nq).cell? ⟨db, 2, none⟩ = some (.map (some mb)) := c2
  have q3 : (w.drewN nq).frozen? ⟨db, 1, none⟩ = false := z1
  generalize w.drewN nq = wq at *
  go_wp2_with (at_mapUpdate; refine wpList_mapUpdate_own _ rfl _ _ _ 58 rfl 9 62 keyed9 Tryz.underlying58 RB mb n (.map (ents E)) rfl ?hown hnm _ _ (key nn) rfl rfl HKEY.out (.held w.heap.size) [] ?hval ?_)
  case hown => exact HMQ.out.alloc _
  case hval => rfl
  intro w1 hown1 hgrow1
  have hmbl : mb < w.heap.size := HH.out.below mb hmbS
  have hf0 : (wq.alloc (.cells #[.string ⟨#[]⟩, .int .i64 0] 64)).heap[w.heap.size]? = some (.cells #[.string ⟨#[]⟩, .int .i64 0] 64) := by
    rw [← hsq]; exact heap_alloc _
  have hug : Upd (fun i => i = mb) (wq.alloc (.cells #[.string ⟨#[]⟩, .int .i64 0] 64)) w1 := (Upd.refl _ _).of_grown hgrow1 (fun k hk _ => by simp at hk; exact hk.symm)
  have hup : Upd (fun i => i = mb) w w1 := ((HUQ.out.mono (T := fun i => i = mb) (fun _ _ f => f.elim)).alloc _).trans hug (fun _ _ h => h)
  have hfile : fileAt w1 (⟨nn, ⟨#[]⟩, 0⟩, w.heap.size) := hug.keep hf0 (fun e => by simp only at e; omega)
  have hr1 : rootAt w1 db room (total (plain E)) mb := HR.out.upd hup (fun e => hmd e.symm)
  have hadd := HH.out.added HG.out hn HR.out hmbS HM.out hup hfile (Nat.le_refl _) hown1
  obtain ⟨d0, d1, d2, z2⟩ := root_cells hr1
  obtain ⟨f0, _, y0, _⟩ := file_cells hfile
  have hgrow := hadd.1.grown (nn := nn) (data := data) (f := ⟨nn, ⟨#[]⟩, 0⟩) (b := w.heap.size) (get_put Bn ((map_srt Bn En (fun x : EB => x.1) (fun _ => rfl)).1 HH.out.may.srt)) (by rw [hadd.2, total_put_none (by rw [plain_get, HG.out]; rfl)]; exact HFIT.out) (m := t + data.size)
    (by rw [hadd.2, total_put_none (by rw [plain_get, HG.out]; rfl), HT.out]; rfl)
  rw [show ((t + data.size : Nat) : Int) = (t : Int) + (data.size : Int) from by omega] at hgrow
  have HGR := Lib.hid hgrow
  have HADD := Lib.hid hadd.2
  rw [← HT.out] at d1
  clear hadd hgrow hfile hr1 hown1 hgrow1 hug hf0
  have HUP := Lib.hid hup
  clear hup
  simp only at f0 y0
  go_wp2_with fail
  go_ret
  refine ⟨rfl, fun k => S k ∨ k = w.heap.size, ⟨_, HGR.out.1, ?_⟩, fun k h => h.elim .inl (fun e => .inr (by omega)), ?_⟩
  · rw [HGR.out.2, HADD.out]
    have e := put_put En (x := ⟨nn, (⟨#[]⟩ : ByteArray) ++ data, 0⟩) (y := ⟨nn, ⟨#[]⟩, 0⟩) (l := plain E) rfl
    rw [str_nil_append] at e
    rw [str_nil_append]
    exact e
  · exact ((HUP.out.mono (T := S) (fun i _ e => by rw [e]; exact hmbS)).setCell (p := ⟨w.heap.size, 0, none⟩) (fun h => absurd h (by simp)) _).setCell (p := ⟨db, 1, none⟩) (fun _ => HSD.out) _
theorem append_any {w : World} {S : Nat → Prop} {db room n : Nat} {D : Files} (h : Has w S db room n D) (nn data : ByteArray) (hk : nn.size ≤ maxLen) (hds : data.size ≤ 9223372036854775807) (hnm : n < maxLen) :
    Calls Tryz.prog 6 #[.pointer (some ⟨db, 0, none⟩), .string nn, .string data] w (Op S w db room (n + 1) (appendD room D nn data).1 (appendD room D nn data).2) := by
  obtain ⟨E, hE, rfl⟩ := h
  unfold appendD
  cases hn : nameOk nn with
  | false =>
    refine (append_bad hE nn data hn).mono ?_
    rintro e w' ⟨rfl, rfl⟩
    simp only [Bool.false_eq_true, if_false]
    exact ⟨rfl, S, ⟨E, hE.mono (Nat.le_succ n), rfl⟩, fun _ h => .inl h, Upd.refl _ _⟩
  | true =>
    simp only [if_true]
    by_cases hfit : data.size ≤ room - total (plain E)
    · rw [if_pos hfit]
      rw [plain_get]
      cases hg : get Bn E nn with
      | none => exact append_new hE nn data hk hn hfit hg hnm
      | some x =>
        obtain ⟨f, b⟩ := x
        refine (append_old hE nn data hk hn hfit hg).mono ?_
        rintro e w' ⟨rfl, S', h1, h2, h3⟩
        exact ⟨rfl, S', h1.mono (Nat.le_succ n), h2, h3⟩
    · rw [if_neg hfit]
      refine (append_full hE nn data hn hfit hds).mono ?_
      rintro e w' ⟨rfl, hu⟩
      exact ⟨rfl, S, ⟨E, (hE.upd hu (fun _ _ f => f)).mono (Nat.le_succ n), rfl⟩, fun _ h => .inl h, hu.mono (fun _ _ f => f.elim)⟩
end Go.Proofs.YtgkegfgdpekehaaGreat
