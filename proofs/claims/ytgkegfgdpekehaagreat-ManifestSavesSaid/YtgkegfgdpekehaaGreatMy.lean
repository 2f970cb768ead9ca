/- Save and Load: the plain law; their walks. -/
import Derived.Test.YtgkegfgdpekehaaGreatMv
import Derived.Test.YtgkegfgdpekehaaGreatDp
namespace Go.Proofs.YtgkegfgdpekehaaGreat
open Go.RowKit Go.Acre Go.Acre.Dk

/-! ### plain -/
def saveD (room : Nat) (D : Files) (nm sp b : ByteArray) : Files × Nat :=
  if (appendD room (removeD D sp).1 sp b).2 = 0 then
    if (syncD (appendD room (removeD D sp).1 sp b).1 sp).2 = 0 then renameD (syncD (appendD room (removeD D sp).1 sp b).1 sp).1 sp nm else syncD (appendD room (removeD D sp).1 sp b).1 sp
  else appendD room (removeD D sp).1 sp b
theorem get_drop_ne {D : Files} {k j : ByteArray} (h : Srt En D) (hk : j ≠ k) : get En (drop En k D) j = get En D j := by
  cases hg : get En D j with
  | none => exact get_of_none En (fun y hy => get_none En hg y ((mem_drop En).1 hy).1)
  | some y =>
    obtain ⟨hy, e⟩ := get_some En hg
    have h2 := get_of En (srt_drop En h k) ((mem_drop En).2 ⟨hy, by rw [e]; exact hk⟩)
    rw [e] at h2
    exact h2
theorem total_drop_le {D : Files} (h : Srt En D) (k : ByteArray) : total (drop En k D) ≤ total D := by
  cases hg : get En D k with
  | none => rw [drop_none En hg]; exact Nat.le_refl _
  | some f => have := total_drop h hg; omega
theorem remove_plain {room : Nat} {D : Files} (h : May room D) {sp nm : ByteArray} (hne : nm ≠ sp) : May room (removeD D sp).1 ∧ get En (removeD D sp).1 sp = none ∧ get En (removeD D sp).1 nm = get En D nm ∧ total (removeD D sp).1 ≤ total D := by
  refine ⟨may_remove h sp, ?_⟩
  unfold removeD
  cases hg : get En D sp with
  | none => exact ⟨hg, rfl, Nat.le_refl _⟩
  | some f =>
    exact ⟨get_of_none En (fun y hy => ((mem_drop En).1 hy).2), get_drop_ne h.srt hne, total_drop_le h.srt sp⟩
theorem save_plain {room : Nat} {D : Files} (h : May room D) {nm sp b : ByteArray} (hnm : nameOk nm = true) (hsp : nameOk sp = true) (hne : nm ≠ sp) :
    ((saveD room D nm sp b).2 = 0 ∧ get En (saveD room D nm sp b).1 nm = some ⟨nm, b, b.size⟩ ∨ (saveD room D nm sp b).2 = 7 ∧ get En (saveD room D nm sp b).1 nm = get En D nm) ∧ total (saveD room D nm sp b).1 ≤ total D + b.size := by
  obtain ⟨h1, h2, h3, h4⟩ := remove_plain h hne
  unfold saveD
  generalize (removeD D sp).1 = D1 at *
  by_cases hd : b.size ≤ room - total D1
  · have e1 : appendD room D1 sp b = (put En ⟨sp, b, 0⟩ D1, 0) := by
      unfold appendD
      rw [if_pos hsp, if_pos hd, h2]
    have e2 : syncD (put En ⟨sp, b, 0⟩ D1) sp = (put En ⟨sp, b, b.size⟩ D1, 0) := by
      unfold syncD
      rw [show get En (put En ⟨sp, b, 0⟩ D1) sp = some ⟨sp, b, 0⟩ from get_put En (x := ⟨sp, b, 0⟩) h1.srt]
      simp only
      rw [put_put En (x := ⟨sp, b, b.size⟩) (y := ⟨sp, b, 0⟩) rfl]
    have e3 : renameD (put En ⟨sp, b, b.size⟩ D1) sp nm = (put En ⟨nm, b, b.size⟩ (drop En sp (put En ⟨sp, b, b.size⟩ D1)), 0) := by
      unfold renameD
      rw [show get En (put En ⟨sp, b, b.size⟩ D1) sp = some ⟨sp, b, b.size⟩ from get_put En (x := ⟨sp, b, b.size⟩) h1.srt]
      simp only
      rw [if_pos hnm]
    rw [e1]
    simp only [if_true]
    rw [e2]
    simp only [if_true]
    rw [e3]
    have hs := srt_drop En (srt_put En (x := ⟨sp, b, b.size⟩) h1.srt) sp
    refine ⟨.inl ⟨by trivial, get_put En (x := ⟨nm, b, b.size⟩) hs⟩, ?_⟩
    have e4 : drop En sp (put En ⟨sp, b, b.size⟩ D1) = drop En sp D1 := by
      have h5 := drop_ins En (y := ⟨sp, b, b.size⟩) (l := drop En sp D1)
      rw [show En (⟨sp, b, b.size⟩ : Ent) = sp from rfl, drop_drop] at h5
      exact h5
    have h6 := total_put_le hs ⟨nm, b, b.size⟩
    rw [e4] at h6 ⊢
    have h7 := total_drop_le h1.srt sp
    simp only at h6
    show total (put En ⟨nm, b, b.size⟩ (drop En sp D1)) ≤ _
    omega
  · have e1 : appendD room D1 sp b = (D1, 7) := by
      unfold appendD
      rw [if_pos hsp, if_neg hd]
    rw [e1]
    have h70 : ¬ (7 : Nat) = 0 := by omega
    simp only [h70, if_false]
    exact ⟨.inr ⟨by trivial, h3⟩, by omega⟩
theorem cut_whole (z : Option Int) (nm b : ByteArray) : cutE z ⟨nm, b, b.size⟩ = ⟨nm, b, b.size⟩ := by
  unfold cutE
  cases z with
  | none => simp only [Nat.add_zero, ByteArray.extract_zero_size]
  | some z => simp only [Nat.sub_self, Nat.le_zero.1 (keepN_le z 0), Nat.add_zero, ByteArray.extract_zero_size]
theorem crash_whole {D : Files} {zs : List Int} {nm b : ByteArray} (h : Srt En D) (hg : get En D nm = some ⟨nm, b, b.size⟩) : get En (crashD D zs) nm = some ⟨nm, b, b.size⟩ := by
  obtain ⟨z, hz⟩ := crash_get (zs := zs) h hg
  rw [hz, cut_whole]
theorem crash_none {D : Files} {zs : List Int} {nm : ByteArray} (hg : get En D nm = none) : get En (crashD D zs) nm = none := by
  refine get_of_none En (fun y hy => ?_)
  unfold crashD at hy
  obtain ⟨i, hi, rfl⟩ := List.getElem_of_mem hy
  rw [List.getElem_mapIdx]
  have hi2 : i < D.length := by simpa using hi
  exact get_none En hg D[i] (List.getElem_mem hi2)
theorem crash_total {D : Files} (h : ∀ f ∈ D, f.synced ≤ f.bytes.size) (zs : List Int) : total (crashD D zs) ≤ total D := by
  unfold crashD
  exact total_mapIdx_le (fun i f hf => (cutE_synced zs[i]? (h f hf)).2.1)

/-! ### walks -/
structure Chain (S : Nat → Prop) (w : World) (S' : Nat → Prop) (w' : World) : Prop where
  new : ∀ k, S' k → S k ∨ w.heap.size ≤ k
  upd : Upd S w w'
theorem Chain.trans {S S' S'' : Nat → Prop} {a b c : World} (h : Chain S a S' b) (k : Chain S' b S'' c) : Chain S a S'' c :=
  ⟨fun i hi => (k.new i hi).elim (h.new i) (fun e => .inr (Nat.le_trans h.upd.size e)), h.upd.trans k.upd (fun i hi e => (h.new i e).elim id (fun e2 => by omega))⟩
theorem Chain.of_upd0 {S : Nat → Prop} {a b : World} (h : Upd (fun _ => False) a b) : Chain S a S b := ⟨fun _ h => .inl h, h.mono (fun _ _ f => f.elim)⟩
def nwN : ByteArray := ⟨#[46, 110, 101, 119]⟩
def SavePost (S : Nat → Prop) (w : World) (db room n : Nat) (r : Files × Nat) (e : Ending) (w' : World) : Prop := e = .returned (.int .i64 (r.2 : Nat)) ∧ ∃ S', Has w' S' db room n r.1 ∧ Chain S w S' w'
set_option maxHeartbeats 8000000 in
set_option maxRecDepth 100000 in
theorem save_any {w : World} {S : Nat → Prop} {db room n : Nat} {D : Files} (h : Has w S db room n D) {s : MSt} {a : Option Addr} {nl ca : Nat} (hn : nl = s.levels.length) (hL : LevsAt w (.slice a nl ca) s.levels) (hm : mayS s = true)
    (nm : ByteArray) (hnm : 1 ≤ nm.size ∧ nm.size ≤ 60) (hnn : n + 2 < maxLen) :
    Calls Tryz.prog 11 #[.pointer (some ⟨db, 0, none⟩), .string nm, .agg #[.int .u64 (s.next : Nat), .int .u64 (s.log : Nat), .slice a nl ca]] w (SavePost S w db room (n + 2) (saveD room D nm (nm ++ nwN) (frameB (stateB s)))) := by
  have hE := enc_yes hm
  have hsz := stateB_le hm
  have hfb : (frameB (stateB s)).size ≤ 9223372036854775807 := by rw [frameB_size]; omega
  have hu1 : Upd (fun _ => False) w (w.alloc (.cells #[.int .u64 (s.next : Nat), .int .u64 (s.log : Nat), .slice a nl ca] 28)) := (Upd.refl _ w).alloc _
  have hx1 := heap_alloc (w := w) (.cells #[.int .u64 (s.next : Nat), .int .u64 (s.log : Nat), .slice a nl ca] 28)
  have HEN : Hid (∀ {w' : World}, LevsAt w' (.slice a nl ca) s.levels → Calls Tryz.prog 28 #[.agg #[.int .u64 (s.next : Nat), .int .u64 (s.log : Nat), .slice a nl ca]] w' (fun e w2 => e = .returned (.tuple #[.string (frameB (stateB s)), .int .i64 0]) ∧ Upd (fun _ => False) w' w2)) := fun hl => by
    have h2 := encode_any (s := s) hn hl (flat_ids hm)
    unfold EncPost at h2
    rw [hE.1, hE.2] at h2
    exact h2
  generalize frameB (stateB s) = fb at *
  have hw4 : nwN.size = 4 := rfl
  have hsp : (nm ++ nwN).size ≤ maxLen := by rw [ByteArray.size_append, hw4]; unfold maxLen; omega
  have hnm2 : nm.size ≤ maxLen := by unfold maxLen; omega
  have hadd : ∀ u : World, (Op.stringOp .add nm (⟨#[46, 110, 101, 119]⟩ : ByteArray)).run Tryz.prog u = .ok (.string (nm ++ nwN)) u := fun u => run_string_add_sum u _ _ (by show nm.size + nwN.size ≤ _; rw [hw4]; omega)
  have hnot : ¬ (nm.size + (⟨#[46, 110, 101, 119]⟩ : ByteArray).size > 9223372036854775807) := by show ¬ (nm.size + nwN.size > _); rw [hw4]; omega
  have hne : (nm.toList == (⟨#[]⟩ : ByteArray).toList) = false := by
    rw [str_eql]
    refine decide_eq_false (fun e => ?_)
    rw [e] at hnm
    exact absurd hnm.1 (by decide)
  have hne2 : ¬ nm = (⟨#[]⟩ : ByteArray) := fun e => by
    rw [e] at hnm
    exact absurd hnm.1 (by decide)
  have hle : (nm.size : Int) ≤ 60 := by omega
  have hne3 : ¬ nm.toList = [] := fun e => by
    rw [ByteArray.toList_eq] at e
    have h2 : nm.data.size = 0 := by rw [← Array.length_toList, e]; rfl
    have h3 : nm.size = nm.data.size := rfl
    omega
  have hne4 : nm.toList.isEmpty = false := by
    cases hl : nm.toList with
    | nil => exact absurd hl hne3
    | cons _ _ => rfl
  have HL := Lib.hid (hL.upd0 hu1)
  have HX := Lib.hid hx1
  have HC := Lib.hid (Chain.of_upd0 (S := S) hu1)
  have HH := Lib.hid (h.upd hu1 (fun _ _ f => f))
  clear hE hsz hn hL hm hu1 hx1 h
  go_enter Tryz.func11, Tryz.ntmps11
  go_upto_region 1 with fail
  generalize w.alloc (.cells #[.int .u64 (s.next : Nat), .int .u64 (s.log : Nat), .slice a nl ca] 28) = wb at *
  generalize w.heap.size = xb at *
  obtain ⟨p0, p1, p2⟩ := box_cells HX.out
  go_wp2_with fail
  refine (HEN.out HL.out).mono ?_
  rintro e w1 ⟨rfl, hu⟩
  have HC1 := Lib.hid (HC.out.trans (Chain.of_upd0 hu))
  have HH1 := Lib.hid (HH.out.upd hu (fun _ _ f => f))
  clear p0 p1 p2 hu
  go_wp2_with fail
  have hw : nm ++ (⟨#[46, 110, 101, 119]⟩ : ByteArray) = nm ++ nwN := rfl
  try rw [hw]
  clear hw hadd hnot
  generalize nm ++ nwN = sp at *
  obtain ⟨⟨D2, c2⟩, hp2⟩ : ∃ p, appendD room (removeD D sp).1 sp fb = p := ⟨_, rfl⟩
  obtain ⟨⟨D3, c3⟩, hp3⟩ : ∃ p, syncD D2 sp = p := ⟨_, rfl⟩
  obtain ⟨⟨D4, c4⟩, hp4⟩ : ∃ p, renameD D3 sp nm = p := ⟨_, rfl⟩
  have HSV : Hid (saveD room D nm sp fb = if c2 = 0 then (if c3 = 0 then (D4, c4) else (D3, c3)) else (D2, c2)) := by
    show _ = _
    unfold saveD
    rw [hp2]
    simp only
    rw [hp3]
    simp only
    rw [hp4]
  have HP2 := Lib.hid hp2
  have HP3 := Lib.hid hp3
  have HP4 := Lib.hid hp4
  clear hp2 hp3 hp4
  refine (remove_any HH1.out sp hsp).mono ?_
  rintro e w2 ⟨rfl, S2, h2, n2, u2⟩
  have HC2 := Lib.hid (HC1.out.trans ⟨n2, u2⟩)
  have HH2 := Lib.hid h2
  clear h2 n2 u2
  have HAP : Hid (Calls Tryz.prog 6 #[.pointer (some ⟨db, 0, none⟩), .string sp, .string fb] w2 (Op S2 w2 db room (n + 1) D2 c2)) := by
    have h3 := append_any HH2.out sp fb hsp hfb (by omega)
    rw [HP2.out] at h3
    exact h3
  go_wp2_with fail
  refine HAP.out.mono ?_
  rintro e w3 ⟨rfl, S3, h3, n3, u3⟩
  have HC3 := Lib.hid (HC2.out.trans ⟨n3, u3⟩)
  have HH3 := Lib.hid h3
  clear h3 n3 u3 HAP
  by_cases h0 : c2 = 0
  · subst h0
    have HSY : Hid (Calls Tryz.prog 30 #[.pointer (some ⟨db, 0, none⟩), .string sp] w3 (Op S3 w3 db room (n + 1) D3 c3)) := by
      have h4 := sync_any HH3.out sp hsp
      rw [HP3.out] at h4
      exact h4
    go_wp2_with fail
    refine HSY.out.mono ?_
    rintro e w4 ⟨rfl, S4, h4, n4, u4⟩
    have HC4 := Lib.hid (HC3.out.trans ⟨n4, u4⟩)
    have HH4 := Lib.hid h4
    clear h4 n4 u4 HSY
    by_cases h0 : c3 = 0
    · subst h0
      have HRN : Hid (Calls Tryz.prog 31 #[.pointer (some ⟨db, 0, none⟩), .string sp, .string nm] w4 (Op S4 w4 db room (n + 2) D4 c4)) := by
        have h5 := rename_any HH4.out sp nm hsp hnm2 (by omega)
        rw [HP4.out] at h5
        exact h5
      go_wp2_with fail
      refine HRN.out.mono ?_
      rintro e w5 ⟨rfl, S5, h5, n5, u5⟩
      have HC5 := Lib.hid (HC4.out.trans ⟨n5, u5⟩)
      have HH5 := Lib.hid h5
      clear h5 n5 u5 HRN
      go_wp2_with fail
      go_ret
      rw [HSV.out]
      simp only [if_true]
      exact ⟨rfl, S5, HH5.out, HC5.out⟩
    · have hq : ((c3 : Int) != 0) = true := by rw [bne_iff_ne]; omega
      have hq2 : ¬ (c3 : Int) = 0 := by omega
      have H0 := Lib.hid h0
      clear h0
      go_wp2_with fail
      go_ret
      have h00 := H0.out
      rw [HSV.out]
      simp only [if_true, h00, if_false]
      exact ⟨rfl, S4, HH4.out.mono (by omega), HC4.out⟩
  · have hq : ((c2 : Int) != 0) = true := by rw [bne_iff_ne]; omega
    have hq2 : ¬ (c2 : Int) = 0 := by omega
    have H0 := Lib.hid h0
    clear h0
    go_wp2_with fail
    go_ret
    rw [HSV.out, if_neg H0.out]
    exact ⟨rfl, S3, HH3.out.mono (by omega), HC3.out⟩
def LoadPost (o : Option Ent) (w : World) (e : Ending) (w' : World) : Prop :=
  match o with
  | none => e = .returned (.tuple #[.agg #[.int .u64 0, .int .u64 0, .slice none 0 0], .int .i64 5]) ∧ Upd (fun _ => False) w w'
  | some f => ∃ x, decodeS f.bytes = some x ∧ ∃ a cap, e = .returned (.tuple #[.agg #[.int .u64 (x.next : Nat), .int .u64 (x.log : Nat), .slice a x.levels.length cap], .int .i64 0]) ∧ LevsAt w' (.slice a x.levels.length cap) x.levels ∧ Upd (fun _ => False) w w'
set_option maxHeartbeats 8000000 in
set_option maxRecDepth 100000 in
theorem load_any {w : World} {S : Nat → Prop} {db room n : Nat} {D : Files} (h : Has w S db room n D) (nm : ByteArray) (hnm : nm.size ≤ maxLen) (hf : ∀ f, get En D nm = some f → ∃ x, decodeS f.bytes = some x ∧ f.bytes.size ≤ 9223372036854775807) :
    Calls Tryz.prog 8 #[.pointer (some ⟨db, 0, none⟩), .string nm] w (LoadPost (get En D nm) w) := by
  have hu1 : Upd (fun _ => False) w (w.alloc (.cells #[.int .u64 0, .int .u64 0, .slice none 0 0] 28)) := (Upd.refl _ w).alloc _
  have hx1 := heap_alloc (w := w) (.cells #[.int .u64 0, .int .u64 0, .slice none 0 0] 28)
  have hrd := read_any (h.upd hu1 (fun _ _ f => f)) nm hnm
  have HU := Lib.hid hu1
  have HX := Lib.hid hx1
  cases hg : get En D nm with
  | none =>
    have hr : readD D nm = (⟨#[]⟩, 5) := by unfold readD; rw [hg]
    rw [hr] at hrd
    have HR := Lib.hid hrd
    clear hrd hr hf hg hu1 hx1
    go_enter Tryz.func8, Tryz.ntmps8
    go_upto_region 1 with fail
    generalize w.alloc (.cells #[.int .u64 0, .int .u64 0, .slice none 0 0] 28) = wb at *
    generalize hxb : w.heap.size = xb at *
    obtain ⟨p0, p1, p2⟩ := box_cells HX.out
    have z0 := frozen_of_heap HX.out 0 none
    have z1 := frozen_of_heap HX.out 1 none
    have z2 := frozen_of_heap HX.out 2 none
    go_wp2_with (go_at_call 17; refine HR.out.mono ?_; clear HR; rintro e w1 ⟨rfl, rfl⟩)
    try simp only [Exit.inBlock, Exit.then]
    refine bodyPost_ret (results_row2 rfl _ _ xb 28 _ (0, 0) _ rfl (cells3 HX.out) Tryz.underlying28 rfl (by kernel_rfl)) rfl ?_
    exact ⟨rfl, HU.out.trans upd3 (fun i hi e => by omega)⟩
  | some f =>
    have hr : readD D nm = (f.bytes, 0) := by unfold readD; rw [hg]
    rw [hr] at hrd
    obtain ⟨x, hx, hsz⟩ := hf f hg
    have HR := Lib.hid hrd
    have HXD := Lib.hid hx
    have HD : Hid (∀ w', Calls Tryz.prog 25 #[.string f.bytes] w' (fun e w2 => ∃ a cap, e = .returned (.tuple #[.agg #[.int .u64 (x.next : Nat), .int .u64 (x.log : Nat), .slice a x.levels.length cap], .int .i64 0]) ∧ OutAt w2 w'.heap.size (.slice a x.levels.length cap) x.levels ∧ Upd (fun _ => False) w' w2)) := fun w' => by
      have h2 := decode_out (w := w') f.bytes hsz
      rw [hx] at h2
      exact h2
    clear hrd hr hf hg hu1 hx1 hx
    go_enter Tryz.func8, Tryz.ntmps8
    go_upto_region 1 with fail
    generalize w.alloc (.cells #[.int .u64 0, .int .u64 0, .slice none 0 0] 28) = wb at *
    generalize hxb : w.heap.size = xb at *
    go_wp2_with (go_at_call 17; refine HR.out.mono ?_; clear HR; rintro e w1 ⟨rfl, rfl⟩)
    refine (HD.out _).mono ?_
    rintro e w2 ⟨da, dc, rfl, ho, hu⟩
    have hx2 := hu.keep HX.out (fun f => f)
    have hbl := lt_of_heap HX.out
    obtain ⟨p0, p1, p2⟩ := box_cells hx2
    have z0 := frozen_of_heap hx2 0 none
    have z1 := frozen_of_heap hx2 1 none
    have z2 := frozen_of_heap hx2 2 none
    have HX2 := Lib.hid hx2
    have HO := Lib.hid ho
    have HU2 := Lib.hid (HU.out.trans hu (fun _ _ f => f))
    clear hx2 ho hu
    go_wp2_with fail
    try simp only [Exit.inBlock, Exit.then]
    refine bodyPost_ret (results_row2 rfl _ _ xb 28 _ (0, 0) _ rfl (cells3 HX2.out) Tryz.underlying28 rfl (by kernel_rfl)) rfl ?_
    exact ⟨x, HXD.out, da, dc, rfl, (HO.out.upd (S := fun i => i = xb) upd3 (fun k e => by omega)).levs, HU2.out.trans upd3 (fun i hi e => by omega)⟩
end Go.Proofs.YtgkegfgdpekehaaGreat
