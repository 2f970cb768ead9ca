/- The walk of Crash. -/
import Derived.Test.YtgkegfgdpekehaaDg
namespace Go.Proofs.Ytgkegfgdpekehaa
open Go.RowKit Go.Acre Go.Acre.Dk Go.Maps

/-- so many files cut, the others as they were -/
structure Cutting (zs : List Int) (E A B : List EB) : Prop where
  left : B = E.drop A.length
  done : plain A = crashD (plain (E.take A.length)) zs
  len : A.length ≤ E.length
theorem Cutting.start (zs : List Int) (E : List EB) : Cutting zs E [] E := ⟨rfl, rfl, Nat.zero_le _⟩
theorem crashD_snoc (D : Files) (f : Ent) (zs : List Int) : crashD (D ++ [f]) zs = crashD D zs ++ [cutE zs[D.length]? f] := by
  unfold crashD
  rw [List.mapIdx_append]
  simp
theorem Cutting.next {zs : List Int} {E A B : List EB} {f : Ent} {b : Nat} (h : Cutting zs E A ((f, b) :: B)) : Cutting zs E (A ++ [(cutE zs[A.length]? f, b)]) B ∧ A.length < E.length := by
  have hl : A.length < E.length := by
    have := congrArg List.length h.left
    simp at this
    omega
  have he : E[A.length] = (f, b) := by
    have := h.left
    rw [List.drop_eq_getElem_cons hl] at this
    simp only [List.cons.injEq] at this
    exact this.1.symm
  refine ⟨⟨?_, ?_, by simp; omega⟩, hl⟩
  · have := h.left
    rw [List.drop_eq_getElem_cons hl] at this
    simp only [List.cons.injEq] at this
    simpa using this.2
  · simp only [List.length_append, List.length_singleton]
    rw [List.take_succ_eq_append_getElem hl, he]
    simp only [List.map_append, List.map_cons, List.map_nil]
    rw [crashD_snoc, ← h.done]
    simp [List.length_take, Nat.min_eq_left h.len]
theorem Cutting.last {zs : List Int} {E A : List EB} (h : Cutting zs E A []) : plain A = crashD (plain E) zs := by
  have hl : E.length ≤ A.length := by
    have := congrArg List.length h.left
    simp at this
    omega
  rw [h.done, List.take_of_length_le hl]
theorem Cutting.name {zs : List Int} {E A B : List EB} {f : Ent} {b : Nat} (h : Cutting zs E A ((f, b) :: B)) (hl : A.length < (listD (plain E) ⟨#[]⟩).length) : (listD (plain E) ⟨#[]⟩)[A.length] = f.name := by
  have hle := (h.next).2
  have he : E[A.length] = (f, b) := by
    have := h.left
    rw [List.drop_eq_getElem_cons hle] at this
    simp only [List.cons.injEq] at this
    exact this.1.symm
  have hall : listD (plain E) ⟨#[]⟩ = (plain E).map (·.name) := by
    unfold listD
    rw [List.filter_eq_self]
    intro s _
    rfl
  simp [hall, he]
theorem list_all_length (D : Files) : (listD D ⟨#[]⟩).length = D.length := by
  have hall : listD D ⟨#[]⟩ = D.map (·.name) := by
    unfold listD
    rw [List.filter_eq_self]
    intro s _
    rfl
  rw [hall, List.length_map]

/-- the middle file is written anew -/
theorem DiskAt.cutOne {w w' : World} {S : Nat → Prop} {db room n : Nat} {A B : List EB} {f : Ent} {b : Nat} (h : DiskAt w S db room n (A ++ (f, b) :: B)) {nn : Nat} (hnn : nn ≤ f.bytes.size - f.synced) {t' : Nat} (ht' : t' = total (plain (A ++ (f, b) :: B)) - (f.bytes.size - f.synced - nn))
    (hu : Upd (fun i => i = b ∨ i = db) w w') (hfile : fileAt w' (⟨f.name, f.bytes.extract 0 (f.synced + nn), f.synced + nn⟩, b)) (hroot : ∀ mb, rootAt w db room (total (plain (A ++ (f, b) :: B))) mb → rootAt w' db room t' mb) :
    DiskAt w' S db room n (A ++ (⟨f.name, f.bytes.extract 0 (f.synced + nn), f.synced + nn⟩, b) :: B) := by
  have hsrt : Srt Bn (A ++ (f, b) :: B) := (map_srt Bn En (fun x : EB => x.1) (fun _ => rfl)).1 h.may.srt
  have hmem : (f, b) ∈ A ++ (f, b) :: B := by simp
  have hpm : f ∈ plain (A ++ (f, b) :: B) := List.mem_map.2 ⟨_, hmem, rfl⟩
  have hsy : f.synced ≤ f.bytes.size := h.may.syn f hpm
  have hg : get Bn (A ++ (f, b) :: B) f.name = some (f, b) := get_of Bn hsrt hmem
  have hsz : (f.bytes.extract 0 (f.synced + nn)).size = f.synced + nn := by rw [ByteArray.size_extract]; omega
  have hgp : get En (plain (A ++ (f, b) :: B)) f.name = some f := get_of En h.may.srt hpm
  have ht := total_put_some h.may.srt (x := ⟨f.name, f.bytes.extract 0 (f.synced + nn), f.synced + nn⟩) (f := f) hgp
  simp only [hsz] at ht
  have hle := h.may.fits
  have hst := size_le_total hpm
  have hs := h.set hg (f' := ⟨f.name, f.bytes.extract 0 (f.synced + nn), f.synced + nn⟩) rfl (h.may.put (h.may.names f hpm) (by simp only [hsz]; exact Nat.le_refl _) (by omega)) hu hfile (fun mb hr => by
    have := hroot mb hr
    have e : total (put En ⟨f.name, f.bytes.extract 0 (f.synced + nn), f.synced + nn⟩ (plain (A ++ (f, b) :: B))) = t' := by omega
    rw [e]
    exact this)
  have hpe : put Bn (⟨f.name, f.bytes.extract 0 (f.synced + nn), f.synced + nn⟩, b) (A ++ (f, b) :: B) = A ++ (⟨f.name, f.bytes.extract 0 (f.synced + nn), f.synced + nn⟩, b) :: B := put_mid Bn hsrt rfl
  rw [hpe] at hs
  exact hs.1

theorem ints_bound {k : IntKind} {w : World} {v : Value} {zs : List Int} (h : IntsAt k w v zs) : zs.length ≤ 9223372036854775807 := by
  obtain ⟨_, _, _, _, h1, h2, _⟩ := h
  unfold maxLen at h2
  omega
theorem nameOk_max {s : ByteArray} (h : nameOk s = true) : s.size ≤ maxLen := by
  unfold nameOk at h
  simp only [decide_eq_true_eq] at h
  unfold maxLen
  omega
theorem at_place2 (a m : Int) (hm : 0 < m) : (0 ≤ a.tmod m ∧ a.tmod m < m) ∨ (a.tmod m < 0 ∧ 0 ≤ a.tmod m + m) := by
  have h1 := Int.tmod_lt_of_pos a hm
  have h2 := Int.lt_tmod_of_pos a hm
  omega
/-- how many bytes are kept -/
def keptN (zs : List Int) (k u : Nat) : Nat := match zs[k]? with | some z => keepN z u | none => 0
theorem keptN_le (zs : List Int) (k u : Nat) : keptN zs k u ≤ u := by
  unfold keptN
  split
  · exact keepN_le _ _
  · exact Nat.zero_le _
theorem cutE_kept (zs : List Int) (k : Nat) (f : Ent) : cutE zs[k]? f = ⟨f.name, f.bytes.extract 0 (f.synced + keptN zs k (f.bytes.size - f.synced)), f.synced + keptN zs k (f.bytes.size - f.synced)⟩ := by
  unfold cutE keptN
  cases zs[k]? <;> rfl
def CrashPost (S : Nat → Prop) (w : World) (db room n : Nat) (D' : Files) (e : Ending) (w' : World) : Prop :=
  e = .returned (.tuple #[]) ∧ Has w' S db room n D' ∧ Upd S w w'

set_option maxHeartbeats 4000000 in
set_option maxRecDepth 100000 in
theorem crash_any {w : World} {S : Nat → Prop} {db room n : Nat} {D : Files} (h : Has w S db room n D) (a : Option Addr) (kcap : Nat) (zs : List Int) (kl : Nat) (hkl : kl = zs.length) (hz : IntsAt .i64 w (.slice a kl kcap) zs) (hzw : ∀ z ∈ zs, -9223372036854775808 ≤ z ∧ z ≤ 9223372036854775807)
    (hza : ∀ g o, zs ≠ [] → a = some ⟨g, o, none⟩ → ¬ S g) (hn : n ≤ 1000000) (htot : total D ≤ 4611686018427387904) :
    Calls Try.prog 46 #[.pointer (some ⟨db, 0, none⟩), .slice a kl kcap] w (CrashPost S w db room n (crashD D zs)) := by
  obtain ⟨E, hE, rfl⟩ := h
  have hlst := list_any ⟨E, hE, rfl⟩ ⟨#[]⟩ hn
  have hbel := hE.below
  have HE := Lib.hid hE
  have HZ := Lib.hid hz
  have HKL := Lib.hid hkl
  have HZW := Lib.hid hzw
  have HZA := Lib.hid hza
  have hklb : kl ≤ 9223372036854775807 := by rw [hkl]; exact ints_bound hz
  clear hE hz hkl hzw hza
  go_enter Try.func46, Try.ntmps46
  go_wp2_with fail
  refine hlst.mono ?_
  rintro e w1 ⟨v, rfl, ho, hu1⟩
  have hrow := StrsAt.of_own ho
  have hE1 := HE.out.upd hu1 (fun _ _ f => f)
  have hob : Hid (∀ g, v.ownBlock = some g → ¬ S g) := fun g hg hs => by
    have h1 := (ho.lt g hg).1
    have h2 := hbel g hs
    omega
  obtain ⟨la, lcap, rfl⟩ := hrow.slice
  have hll : (listD (plain E) ⟨#[]⟩).length = E.length := by rw [list_all_length, List.length_map]
  obtain ⟨m, hm⟩ : ∃ m, m = E.length := ⟨_, rfl⟩
  have hmb : m ≤ maxLen := by rw [hm, ← hll]; exact hrow.bound
  unfold maxLen at hmb
  rw [hll, ← hm]
  have HM := Lib.hid hm
  have HROW := Lib.hid hrow
  have HU1 := Lib.hid hu1
  clear ho hrow hll hm hlst hu1
  go_wp2_with fail
  go_loopw [12] (fun i wr => ∃ A B, i = .int .i64 (A.length : Nat) ∧ Hid (Cutting zs E A B) ∧ Hid (DiskAt wr S db room n (A ++ B)) ∧ Hid (Upd S w1 wr)) (fun i _ => m - (intOf i).toNat)
  case atStart => exact ⟨[], E, rfl, Cutting.start zs E, hE1, Upd.refl _ _⟩
  case round =>
    obtain ⟨A, B, rfl, HC, HD, HU⟩ := hrel
    have hAl := HC.out.len
    rw [← HM.out] at hAl
    cases B with
    | nil =>
      have hA : A.length = m := by
        have := congrArg List.length HC.out.left
        simp at this
        rw [HM.out]
        have := HC.out.len
        omega
      have HL := Lib.hid HC.out.last
      have hd : decide ((A.length : Int) < (m : Int)) = false := by simp; omega
      clear hAl
      go_wp2_with fail
      go_end0
      have hda := HD.out
      rw [List.append_nil] at hda
      exact ⟨rfl, ⟨A, hda, HL.out⟩, (HU1.out.mono (fun _ _ f => f.elim)).trans HU.out (fun _ _ h => h)⟩
    | cons x B =>
      obtain ⟨f, b⟩ := x
      have hAlt : A.length < m := by rw [HM.out]; exact HC.out.next.2
      have hlk : A.length < (listD (plain E) ⟨#[]⟩).length := by rw [list_all_length, List.length_map, ← HM.out]; exact hAlt
      obtain ⟨lg, lo, rfl, hlc⟩ := HROW.out.cell hlk
      rw [HC.out.name hlk] at hlc
      have hlc1 := cell_upd HU.out hlc (hob.out lg rfl)
      have hmem : (f, b) ∈ A ++ (f, b) :: B := by simp
      have hpm : f ∈ plain (A ++ (f, b) :: B) := List.mem_map.2 ⟨_, hmem, rfl⟩
      have hsrt : Srt Bn (A ++ (f, b) :: B) := (map_srt Bn En (fun x : EB => x.1) (fun _ => rfl)).1 HD.out.may.srt
      have hg : get Bn (A ++ (f, b) :: B) f.name = some (f, b) := get_of Bn hsrt hmem
      have hsy : f.synced ≤ f.bytes.size := HD.out.may.syn f hpm
      have hst := size_le_total hpm
      have hle := HD.out.may.fits
      have hbig := HD.out.big
      have hnk := nameOk_max (HD.out.may.names f hpm)
      obtain ⟨mb, _, hr, hmap⟩ := HD.out.root
      obtain ⟨_, c1, c2, z1⟩ := root_cells hr
      have hlook := look_some hmap hnk hg
      have hfl := (HD.out.file _ hmem).2
      have hne := file_ne_root hfl hr
      obtain ⟨f0, f1, y0, y1⟩ := file_cells hfl
      have HSB := Lib.hid (HD.out.file _ hmem).1
      have HSD := Lib.hid HD.out.sdb
      have HFL := Lib.hid hfl
      simp only at f0 f1 y0 y1 hne
      have HNE := Lib.hid hne
      obtain ⟨t, htt⟩ : ∃ t, t = total (plain (A ++ (f, b) :: B)) := ⟨_, rfl⟩
      have HT := Lib.hid htt
      rw [← htt] at hst hle c1
      have hlt2 : (A.length : Int) < (m : Int) := by omega
      clear htt hr hmap hg hsrt hpm hmem hlk hlc hfl hnk hne
      have hw1 : IntKind.i64.wrap ((f.bytes.size : Int) - (f.synced : Int)) = (f.bytes.size : Int) - (f.synced : Int) := by rw [IntKind.wrap_i64]; omega
      obtain ⟨u, hu⟩ : ∃ u, u = f.bytes.size - f.synced := ⟨_, rfl⟩
      have hsub : (f.bytes.size : Int) - (f.synced : Int) = (u : Int) := by omega
      have hw2 : IntKind.i64.wrap (u : Int) = (u : Int) := by rw [IntKind.wrap_i64]; omega
      have hut : u ≤ t := by omega
      have hfs : f.bytes.size ≤ 4611686018427387904 := by
        have h1 : (f, b) ∈ E := by
          have := HC.out.left
          exact List.mem_of_mem_drop (by rw [← this]; simp)
        exact Nat.le_trans (size_le_total (List.mem_map.2 ⟨_, h1, rfl⟩)) htot
      have hub : u ≤ 4611686018427387904 := by omega
      clear hfs
      have HUE := Lib.hid hu
      clear hu
      go_wp2_with fail
      go_quiet (fail)
      have HUQ : Hid (Upd (fun _ => False) wr (wr.drewN nq)) := (Upd.refl _ wr).drewN nq
      have q1 : (wr.drewN nq).cell? ⟨db, 1, none⟩ = some (.int .i64 (t : Nat)) := c1
      have q2 : (wr.drewN nq).frozen? ⟨db, 1, none⟩ = false := z1
      have q3 : (wr.drewN nq).cell? ⟨b, 0, none⟩ = some (.string f.bytes) := f0
      have q4 : (wr.drewN nq).cell? ⟨b, 1, none⟩ = some (.int .i64 (f.synced : Nat)) := f1
      have q5 : (wr.drewN nq).frozen? ⟨b, 0, none⟩ = false := y0
      have q6 : (wr.drewN nq).frozen? ⟨b, 1, none⟩ = false := y1
      have HFQ : Hid (fileAt (wr.drewN nq) (f, b)) := HFL.out.upd HUQ.out (fun f => f)
      generalize wr.drewN nq = wq at *
      clear c1 z1 f0 f1 y0 y1 hlook c2 hw1 hsub
      go_upto_if 36 with fail
      go_cut [8] (fun x wx => x = .int .i64 (keptN zs A.length u : Nat) ∧ wq = wx)
      case first =>
        by_cases hk : A.length < kl
        · have hk2 : A.length < zs.length := by rw [← HKL.out]; exact hk
          obtain ⟨g, o, rfl, hc⟩ := HZ.out.cell hk2
          have hc1 := cell_upd HUQ.out (cell_upd HU.out (cell_upd HU1.out hc (fun f => f)) (HZA.out g o (fun e => by rw [e] at hk2; simp at hk2) rfl)) (fun f => f)
          have hzb := HZW.out zs[A.length] (List.getElem_mem hk2)
          have HK : Hid (keptN zs A.length u = keepN zs[A.length] u) := by show _ = _; unfold keptN; rw [List.getElem?_eq_getElem hk2]
          clear hc
          generalize zs[A.length] = z at *
          have hat := at_place2 z ((u : Int) + 1) (by omega)
          have hlti : (A.length : Int) < (kl : Int) := by omega
          have hnz2 : ¬ ((u : Int) + 1 = 0) := by omega
          have hpos : (0 : Int) < (u : Int) + 1 := by omega
          rcases hat with hat | hat
          · obtain ⟨P, hP⟩ : ∃ P : Nat, z.tmod ((u : Int) + 1) = (P : Int) := ⟨_, (Int.toNat_of_nonneg hat.1).symm⟩
            have hP0 : decide ((P : Int) < 0) = false := by simp
            have HP : Hid (keepN z u = P) := by
              show _ = _
              unfold keepN
              rw [if_neg (by omega), hP]
              rfl
            clear hat
            go_wp2_with fail
            go_meet
            case rel => exact ⟨by rw [HK.out, HP.out], rfl⟩
          · obtain ⟨q, hq⟩ : ∃ q, q = z.tmod ((u : Int) + 1) := ⟨_, rfl⟩
            obtain ⟨P, hP⟩ : ∃ P : Nat, z.tmod ((u : Int) + 1) + ((u : Int) + 1) = (P : Int) := ⟨_, (Int.toNat_of_nonneg hat.2).symm⟩
            have HP : Hid (keepN z u = P) := by
              show _ = _
              unfold keepN
              rw [if_pos hat.1, hP]
              rfl
            rw [← hq] at hat hP
            have hq0 : decide (q < 0) = true := by simp; exact hat.1
            have hq1 : q < 0 := hat.1
            have hq2 : -(u : Int) - 1 ≤ q := by omega
            have hQ := hq.symm
            clear hat hq
            go_wp2_with fail
            go_meet
            case rel => exact ⟨by rw [HK.out, HP.out], rfl⟩
        · have hK : keptN zs A.length u = 0 := by unfold keptN; rw [List.getElem?_eq_none (by rw [← HKL.out]; omega)]
          have HK := Lib.hid hK
          have hlti : decide ((A.length : Int) < (kl : Int)) = false := by simp; omega
          clear hK
          go_wp2_with fail
          go_meet
          case rel => exact ⟨by rw [HK.out]; rfl, rfl⟩
      case rest =>
        obtain ⟨rfl, rfl⟩ := hcut
        have hnn := keptN_le zs A.length u
        obtain ⟨nn, hnd⟩ : ∃ nn, nn = keptN zs A.length u := ⟨_, rfl⟩
        have HND := Lib.hid hnd
        rw [← hnd] at hnn ⊢
        clear hnd
        have hu := HUE.out
        have hwa : IntKind.i64.wrap ((f.synced : Int) + (nn : Int)) = (f.synced : Int) + (nn : Int) := by rw [IntKind.wrap_i64]; omega
        have hb0 : (0 : Int) ≤ (f.synced : Int) + (nn : Int) := by omega
        have hb1 : (f.synced : Int) + (nn : Int) ≤ (f.bytes.size : Int) := by omega
        have htn : ((f.synced : Int) + (nn : Int)).toNat = f.synced + nn := by omega
        have hsz : (f.bytes.extract 0 (f.synced + nn)).size = f.synced + nn := by rw [ByteArray.size_extract]; omega
        have HT2 : Hid ((t : Int) - ((u : Int) - (nn : Int)) = ((t - (u - nn) : Nat) : Int)) := by show _ = _; omega
        clear hu
        go_upto_region 11 with fail
        have hne2 : b ≠ db := HNE.out
        have HUA : Hid (Upd (fun i => i = db) wq (wq.setCell ⟨db, 1, none⟩ (.int .i64 ((t : Int) - ((u : Int) - (nn : Int)))))) := (Upd.refl (fun i => i = db) wq).setCell (p := ⟨db, 1, none⟩) (fun _ => rfl) _
        have HRA : Hid (∀ mb, rootAt wq db room t mb → rootAt (wq.setCell ⟨db, 1, none⟩ (.int .i64 ((t : Int) - ((u : Int) - (nn : Int))))) db room (t - (u - nn)) mb) := fun mb h => by
          rw [HT2.out]; exact root_set h
        generalize wq.setCell ⟨db, 1, none⟩ (.int .i64 ((t : Int) - ((u : Int) - (nn : Int)))) = wa at *
        have HFA : Hid (fileAt wa (f, b)) := HFQ.out.upd HUA.out hne2
        obtain ⟨g0, g1, x0, x1⟩ := file_cells HFA.out
        simp only at g0 g1 x0 x1
        clear q1 q2 q3 q4 q5 q6
        go_still_tail 14, (by kernel_rfl)
        go_wp2_with fail
        have HUF : Hid (Upd (fun i => i = b ∨ i = db) wr ((wa.setCell ⟨b, 0, none⟩ (.string (f.bytes.extract 0 (f.synced + nn)))).setCell ⟨b, 1, none⟩ (.int .i64 ((f.synced : Int) + (nn : Int)))).drew) :=
          ((((HUQ.out.mono (T := fun i => i = b ∨ i = db) (fun _ _ f => f.elim)).trans (HUA.out.mono (T := fun i => i = b ∨ i = db) (fun _ _ h => .inr h)) (fun _ _ h => h)).setCell (p := ⟨b, 0, none⟩) (fun _ => .inl rfl) _).setCell (p := ⟨b, 1, none⟩) (fun _ => .inl rfl) _).drew
        have hcast : (f.synced : Int) + (nn : Int) = ((f.synced + nn : Nat) : Int) := by omega
        have hone := HD.out.cutOne (nn := nn) (by rw [← HUE.out]; exact hnn) (t' := t - (u - nn)) (by rw [HT.out, HUE.out]) HUF.out (by rw [hcast]; exact file_set1 (file_set0 HFA.out)) (fun mb h => by
          rw [← HT.out] at h
          have h1 := HRA.out mb (h.upd HUQ.out (fun f => f))
          exact h1.upd (((Upd.refl (fun i => i = b) wa).setCell (p := ⟨b, 0, none⟩) (fun _ => rfl) _).setCell (p := ⟨b, 1, none⟩) (fun _ => rfl) _).drew (fun e => hne2 e.symm))
        have hcut := cutE_kept zs A.length f
        rw [← HUE.out, ← HND.out] at hcut
        refine ⟨⟨A ++ [(cutE zs[A.length]? f, b)], B, by simp, HC.out.next.1, ?_, ?_⟩, by simp [intOf]; omega⟩
        · show DiskAt _ _ _ _ _ _
          rw [hcut, List.append_assoc]
          exact hone
        · exact HU.out.trans (HUF.out.mono (T := S) (fun i _ h => by rcases h with rfl | rfl; exact HSB.out; exact HSD.out)) (fun _ _ h => h)
end Go.Proofs.Ytgkegfgdpekehaa
